/- The contracts of a hash's sum and of a text's. -/
import Derived.Test.YtnjkpoljcekjcaaDoorShaHash
import Derived.Test.YtnjkpoljcekjcaaDoorShaPad
import Derived.Deep.RegionHeld3
namespace Go.Proofs.YtnjkpoljcekjcaaDoor
open Go.RowKit
section
variable {P : Program} (w : World)
/-- bytes appended to nothing, in a region that draws its order -/
theorem wstep_append_nil {ops : Array Oper} {o : Oper} {a : Act} {K : Act → World → Prop} {Q : Exit → Act → World → Prop} {E : Prop} (hgd : o.guard = none) (s x : Operand) (t : TypeId)
    (ho : o.op = .call { callee := .builtin .append, args := #[s, x], argTypes := #[t, t] })
    (e : TypeId) (i : TypeInfo) (z : Value) (ht : P.underlying t = some (.slice e)) (hi : P.info? e = some i) (hz : i.zero = some z)
    (hsize : i.size = 1) (hby : i.bytes = 1) (hzs : z.cells.size = 1) (hs : a.eval s = .slice none 0 0)
    (A : Option Addr) (c n : Nat) (l : List UInt8) (hn : n = l.length) (hx : a.eval x = .slice A n c) (hr : Bs w A l) (hbytes : l.length ≤ 140737488355328)
    (h : ∀ v' w', w'.ownsRow w.heap.size e 1 v' l.length (bvs l) → Below w.heap.size w w' → K (a.put o.dst v') w') :
    if Region.wanted o (yielded ops a.tmps) = true then Oper.wp P o a w K Q else E := by
  have hw : Region.wanted o (yielded ops a.tmps) = true := by simp [Region.wanted, hgd]
  rw [if_pos hw]
  exact wp_append_bs w s x t ho w.heap.size e i z ht hi hz hsize hby hzs (.slice none 0 0) [] hs (World.ownsRow_nil _ _ _ _) A c n l hn hx hr (by simpa using hbytes) (Nat.le_refl _)
    (fun v' w' h2 h3 _ => h v' w' (by simpa using h2) ((Below.refl _ _).grown h3 (Nat.le_refl _) (by simp [Value.ownBlock])))
end
def outTo (ws : List Nat) (k : Nat) : List UInt8 := (ws.take k).flatMap ShaMath.wordOut ++ List.replicate (32 - 4 * k) 0
theorem flat_length (ws : List Nat) : (ws.flatMap ShaMath.wordOut).length = 4 * ws.length := by
  induction ws with
  | nil => rfl
  | cons x ws ih => simp [List.flatMap_cons, ShaMath.wordOut, ih]; omega
theorem outTo_length (ws : List Nat) (k : Nat) (hk : k ≤ 8) (hw : ws.length = 8) : (outTo ws k).length = 32 := by
  unfold outTo
  rw [List.length_append, flat_length, List.length_replicate, List.length_take]
  omega
theorem outTo_set (ws : List Nat) (k : Nat) (hk : k < 8) (hw : ws.length = 8) (x : Nat) (hx : ws.getD k 0 = x) :
    ((((outTo ws k).set (4 * k) (UInt8.ofNat (x / 16777216))).set (4 * k + 1) (UInt8.ofNat (x / 65536))).set (4 * k + 2) (UInt8.ofNat (x / 256))).set (4 * k + 3) (UInt8.ofNat x) = outTo ws (k + 1) := by
  have hl : ((ws.take k).flatMap ShaMath.wordOut).length = 4 * k := by rw [flat_length, List.length_take]; omega
  have ht : ws.take (k + 1) = ws.take k ++ [x] := by
    rw [List.take_succ_eq_append_getElem (by omega)]
    rw [List.getD_eq_getElem?_getD, List.getElem?_eq_getElem (by omega)] at hx
    have hx' : ws[k] = x := by simpa using hx
    rw [hx']
  unfold outTo
  rw [ht, List.flatMap_append, show 32 - 4 * k = (32 - 4 * (k + 1)) + 1 + 1 + 1 + 1 by omega]
  generalize (ws.take k).flatMap ShaMath.wordOut = H at *
  rw [List.set_append_right _ _ (by omega), List.set_append_right _ _ (by omega), List.set_append_right _ _ (by omega), List.set_append_right _ _ (by omega)]
  rw [show 4 * k - H.length = 0 by omega, show 4 * k + 1 - H.length = 1 by omega, show 4 * k + 2 - H.length = 2 by omega, show 4 * k + 3 - H.length = 3 by omega]
  simp [List.replicate_succ, ShaMath.wordOut]
theorem outTo_all (s : ShaMath.St) : outTo (stl s) 8 = ShaMath.out s := by simp [outTo, stl, ShaMath.out]
def zero32 : List UInt8 := List.replicate 32 0
theorem info_sum : (Tryd.prog.info? 26).map (·.size) = some 32 := by kernel_rfl
def SumRel (ws : List Nat) (w : World) (i : Value) (wr : World) : Prop :=
  ∃ k : Nat, k ≤ 8 ∧ i = .int .i64 (k : Nat) ∧ Row8 wr (w.heap.size + 1) 26 (outTo ws k) ∧ Row8 wr w.heap.size 26 zero32 ∧ Below w.heap.size w wr
theorem stl_lt (s : ShaMath.St) (h : s.lt) (k : Nat) : (stl s).getD k 0 < 4294967296 := by
  obtain ⟨h1, h2, h3, h4, h5, h6, h7, h8⟩ := h
  match k with
  | 0 => exact h1
  | 1 => exact h2
  | 2 => exact h3
  | 3 => exact h4
  | 4 => exact h5
  | 5 => exact h6
  | 6 => exact h7
  | 7 => exact h8
  | k + 8 => simp [stl]
set_option maxRecDepth 100000 in
set_option maxHeartbeats 1000000 in
theorem sum_any (w : World) (F : Nat → Prop) (p : Nat) (l : List UInt8) (hh : HashAt w F p l) (hlen : l.length ≤ 900000) (hw : Words w) :
    Calls Tryd.prog 19 #[.pointer (some ⟨p, 0, none⟩)] w fun e w' => e = .returned (.agg (bvs (ShaMath.sha l)).toArray) ∧ Below w.heap.size w w' := by
  obtain ⟨s, made, v, hB, hR, hFp, hFv, hs⟩ := hh
  obtain ⟨i0, hi0, hz0, hz1, hz2⟩ := info_parts info_u8
  obtain ⟨A1, c1, rfl, hc1, hcm1⟩ := hR.shape
  obtain ⟨R, hRe⟩ : ∃ R, l.drop (64 * (l.length / 64)) = R := ⟨_, rfl⟩
  rw [hRe] at hR hc1 hB hFv
  obtain ⟨n1, hn1⟩ : ∃ n1, R.length = n1 := ⟨_, rfl⟩
  obtain ⟨n, hn⟩ : ∃ n, l.length = n := ⟨_, rfl⟩
  have hn1b : n1 ≤ 900000 := by rw [← hn1, ← hRe]; simp; omega
  rw [hn1] at hR hc1 hB hFv
  rw [hn] at hB
  have hplt := heap_lt hB
  have HN1 := Lib.hid hn1
  have HN := Lib.hid hn
  have HRE := Lib.hid hRe
  have HBS0 := Lib.hid hR.bs
  have HB0 := Lib.hid hB
  have HR0 := Lib.hid hR
  clear hn1 hn hRe hB hR
  go_enter Tryd.func19, Tryd.ntmps19
  go_upto_region 4 with (fail)
  have hb0 : Below w.heap.size w ((w.alloc (.cells (bvs zero32).toArray 26)).alloc (.cells (bvs zero32).toArray 26)) := ((Below.refl _ _).alloc (Nat.le_refl _) _).alloc (by simp) _
  have hz0' : Row8 ((w.alloc (.cells (bvs zero32).toArray 26)).alloc (.cells (bvs zero32).toArray 26)) w.heap.size 26 zero32 := (below_alloc _ _).block w.heap.size (by simp) |>.trans (heap_alloc_new w _)
  have hz1' : Row8 ((w.alloc (.cells (bvs zero32).toArray 26)).alloc (.cells (bvs zero32).toArray 26)) (w.heap.size + 1) 26 zero32 := by
    have := heap_alloc_new (w.alloc (.cells (bvs zero32).toArray 26)) (.cells (bvs zero32).toArray 26)
    rw [show (w.alloc (.cells (bvs zero32).toArray 26)).heap.size = w.heap.size + 1 by simp] at this
    exact this
  have hsz0 : ((w.alloc (.cells (bvs zero32).toArray 26)).alloc (.cells (bvs zero32).toArray 26)).heap.size = w.heap.size + 2 := by simp
  have hW0 := hw.keep (Kept.of_below (F := fun _ => False) hb0) (fun h => h)
  have hB1 : HashB ((w.alloc (.cells (bvs zero32).toArray 26)).alloc (.cells (bvs zero32).toArray 26)) p s made _ n := (hb0.block p hplt).trans HB0.out
  have hS1 := HBS0.out.below hb0
  obtain ⟨wa, hwa⟩ : ∃ x : World, x = (w.alloc (.cells (bvs zero32).toArray 26)).alloc (.cells (bvs zero32).toArray 26) := ⟨_, rfl⟩
  rw [← hwa] at hb0 hz0' hz1' hsz0 hW0 hB1 hS1
  have hwa' : (w.alloc (.cells #[.int .u8 0, .int .u8 0, .int .u8 0, .int .u8 0, .int .u8 0, .int .u8 0, .int .u8 0, .int .u8 0, .int .u8 0, .int .u8 0, .int .u8 0, .int .u8 0, .int .u8 0, .int .u8 0, .int .u8 0, .int .u8 0, .int .u8 0, .int .u8 0, .int .u8 0, .int .u8 0, .int .u8 0, .int .u8 0, .int .u8 0, .int .u8 0, .int .u8 0, .int .u8 0, .int .u8 0, .int .u8 0, .int .u8 0, .int .u8 0, .int .u8 0, .int .u8 0] 26)).alloc (.cells #[.int .u8 0, .int .u8 0, .int .u8 0, .int .u8 0, .int .u8 0, .int .u8 0, .int .u8 0, .int .u8 0, .int .u8 0, .int .u8 0, .int .u8 0, .int .u8 0, .int .u8 0, .int .u8 0, .int .u8 0, .int .u8 0, .int .u8 0, .int .u8 0, .int .u8 0, .int .u8 0, .int .u8 0, .int .u8 0, .int .u8 0, .int .u8 0, .int .u8 0, .int .u8 0, .int .u8 0, .int .u8 0, .int .u8 0, .int .u8 0, .int .u8 0, .int .u8 0] 26) = wa := hwa.symm
  rw [hwa']
  have hks : ∀ w' : World, Below wa.heap.size wa w' → w'.cell? ⟨p, 0, none⟩ = some (.int .u32 (s.a : Nat)) ∧ w'.cell? ⟨p, 1, none⟩ = some (.int .u32 (s.b : Nat)) ∧ w'.cell? ⟨p, 2, none⟩ = some (.int .u32 (s.c : Nat)) ∧ w'.cell? ⟨p, 3, none⟩ = some (.int .u32 (s.d : Nat)) ∧ w'.cell? ⟨p, 4, none⟩ = some (.int .u32 (s.e : Nat)) ∧ w'.cell? ⟨p, 5, none⟩ = some (.int .u32 (s.f : Nat)) ∧ w'.cell? ⟨p, 6, none⟩ = some (.int .u32 (s.g : Nat)) ∧ w'.cell? ⟨p, 7, none⟩ = some (.int .u32 (s.h : Nat)) ∧ w'.cell? ⟨p, 8, none⟩ = some (.bool made) ∧ w'.cell? ⟨p, 9, none⟩ = some (.slice A1 n1 c1) ∧ w'.cell? ⟨p, 10, none⟩ = some (.int .i64 (n : Nat)) := by
    intro w' hb
    have hB : HashB w' p s made (.slice A1 n1 c1) n := (hb.block p (heap_lt hB1)).trans hB1
    exact ⟨block_cell hB, block_cell hB, block_cell hB, block_cell hB, block_cell hB, block_cell hB, block_cell hB, block_cell hB, block_cell hB, block_cell hB, block_cell hB⟩
  have HKS := Lib.hid hks
  have HB : Hid (Below wa.heap.size wa wa) := Lib.hid (Below.refl _ _)
  have HB1 := Lib.hid hB1
  have HS1 := Lib.hid hS1
  have HZ0 := Lib.hid hz0'
  have HZ1 := Lib.hid hz1'
  have HW0 := Lib.hid hW0
  have HSZ := Lib.hid hsz0
  have HBL := Lib.hid hb0
  clear hwa hwa' hB1 hS1 hz0' hz1' hW0 hsz0 hb0 HB0 HBS0 hks
  go_region_held3 (fun w' => w'.cell? ⟨p, 0, none⟩ = some (.int .u32 (s.a : Nat)) ∧ w'.cell? ⟨p, 1, none⟩ = some (.int .u32 (s.b : Nat)) ∧ w'.cell? ⟨p, 2, none⟩ = some (.int .u32 (s.c : Nat)) ∧ w'.cell? ⟨p, 3, none⟩ = some (.int .u32 (s.d : Nat)) ∧ w'.cell? ⟨p, 4, none⟩ = some (.int .u32 (s.e : Nat)) ∧ w'.cell? ⟨p, 5, none⟩ = some (.int .u32 (s.f : Nat)) ∧ w'.cell? ⟨p, 6, none⟩ = some (.int .u32 (s.g : Nat)) ∧ w'.cell? ⟨p, 7, none⟩ = some (.int .u32 (s.h : Nat)) ∧ w'.cell? ⟨p, 8, none⟩ = some (.bool made) ∧ w'.cell? ⟨p, 9, none⟩ = some (.slice A1 n1 c1) ∧ w'.cell? ⟨p, 10, none⟩ = some (.int .i64 (n : Nat)))
    (first | exact HKS.out _ HB.out | exact HKS.out _ HB.out.drew | exact HKS.out _ (HB.out.alloc HB.out.size _))
    ((refine wstep_append_nil _ (by rfl) _ _ 22 (by rfl) 5 i0 (.int .u8 0) Tryd.underlying22 hi0 hz0 hz1 hz2 rfl (by rfl) A1 c1 n1 R HN1.out.symm (by rfl) HS1.out.drew ?_ ?_; (rw [HN1.out]; omega); intro v6 w6 hown6 hb6; obtain ⟨A6, c6', rfl, _⟩ := own_shape hown6; have HB : Hid (Below wa.heap.size wa w6) := Lib.hid (((Below.refl _ _).drew).trans hb6); have HO6 := Lib.hid hown6; clear hown6 hb6))
  obtain ⟨wb, hwb⟩ : ∃ x : World, x = w6.alloc (.cells (hashCells s made (.slice A6 R.length c6') n) 46) := ⟨_, rfl⟩
  rw [← hwb]
  have hB6 := HB.out
  have hbb : Below wa.heap.size wa wb := by rw [hwb]; exact hB6.alloc hB6.size _
  have hsb : wb.heap.size = w6.heap.size + 1 := by rw [hwb]; simp
  have hH : HashAt wb (fun k => wa.heap.size ≤ k ∧ k < wb.heap.size) w6.heap.size l := by
    refine ⟨s, made, .slice A6 R.length c6', ?_, ?_, ⟨hB6.size, by omega⟩, fun g hg => ?_, hs⟩
    · rw [hwb, HN.out]; exact heap_alloc_new w6 _
    · rw [HRE.out, hwb]; exact RestAt.of_own (own_base (HO6.out.alloc _) (Nat.zero_le _))
    · have h1 := HO6.out.lt g hg
      exact ⟨h1.1, by rw [hsb]; exact Nat.lt_succ_of_lt h1.2⟩
  have hsz := HSZ.out
  have c10 : wb.cell? ⟨p, 10, none⟩ = some (.int .i64 (n : Nat)) := (HKS.out _ hbb).2.2.2.2.2.2.2.2.2.2
  have HH := Lib.hid hH
  have HBB := Lib.hid hbb
  have HSB := Lib.hid hsb
  have HWB := Lib.hid (HW0.out.below hbb)
  have HZ0 := Lib.hid (HZ0.out.below hbb)
  have HZ1 := Lib.hid (HZ1.out.below hbb)
  have HS := Lib.hid hs
  have HSZ' := Lib.hid hsz
  have hn9 : n ≤ 900000 := by have := HN.out; omega
  clear hwb hbb hsb hH hsz hs hB6 HO6 HKS
  go_wp2_with fail
  refine (pad_any n wb (by omega)).mono ?_
  rintro e w7 ⟨m, rfl, rfl, hrow, hb7⟩
  have HROW := Lib.hid hrow
  have HB7 := Lib.hid hb7
  clear hrow hb7 c10
  go_wp2_with fail
  refine (write_any w7 (fun k => wa.heap.size ≤ k ∧ k < wb.heap.size) w6.heap.size _ _ l (ShaMath.pad n) (HH.out.below HB7.out) HROW.out.bs ?_ (HWB.out.below HB7.out) ?_ ?_).mono ?_
  · have := ShaMath.pad_length n; omega
  · have h1 := hw.1
    have := HSZ'.out
    intro h; omega
  · intro ad had _ h
    injection had with had
    rw [← had] at h
    simp at h
  rintro e w8 ⟨rfl, hk8, F8, hH8, hF8⟩
  obtain ⟨s8, made8, v8, hB8, hR8, _, _, hs8⟩ := hH8
  have hs9 : s8 = ShaMath.bk (l ++ ShaMath.pad n) ((l ++ ShaMath.pad n).length / 64) := by
    rcases hs8 with ⟨_, h⟩ | ⟨_, h, _⟩
    · exact h
    · have := congrArg List.length h
      have h2 := ShaMath.pad_length n
      rw [List.length_append, h2, List.length_nil] at this
      omega
  have hl8 : s8.lt := by rw [hs9]; exact ShaMath.bk_lt _ _
  have hout : ShaMath.out s8 = ShaMath.sha l := by rw [hs9, ← HN.out]; rfl
  have hz0 : Row8 w8 w.heap.size 26 zero32 := (HZ0.out.below HB7.out).keep hk8 (by have := HSZ'.out; omega)
  have hz1 : Row8 w8 (w.heap.size + 1) 26 zero32 := (HZ1.out.below HB7.out).keep hk8 (by have := HSZ'.out; omega)
  have hb8 : Below w.heap.size w w8 := by
    have h1 := below_then (HBL.out.trans (HBB.out.mono (by have := HSZ'.out; omega))) HB7.out
    refine h1.trans (hk8.below (B := w.heap.size) (fun k _ hk => by have := HSZ'.out; omega) h1.size)
  have H8 := Lib.hid hB8
  have HS9 := Lib.hid hs9
  have HOUT := Lib.hid hout
  have HZ0 := Lib.hid hz0
  have HZ1 := Lib.hid hz1
  have HB8 := Lib.hid hb8
  clear hB8 hR8 hs8 hs9 hout hz0 hz1 hb8 hk8 hF8
  go_wp2_with (refine wpList_load_hash rfl (.tmp 38) rfl w6.heap.size _ s8 made8 v8 rfl H8.out ?_)
  have hx8 := stl_lt s8 hl8
  have hlen8 : (stl s8).length = 8 := rfl
  have hout' : outTo (stl s8) 8 = ShaMath.out s8 := outTo_all s8
  have HX8 := Lib.hid hx8
  have HOUT2 := Lib.hid (hout'.trans HOUT.out)
  have HL8 := Lib.hid hlen8
  generalize stl s8 = ws at *
  clear hx8 hlen8 hout' hl8
  go_loopw [40] (fun i wr => SumRel ws w i wr) (fun i _ => 8 - (intOf i).toNat)
  case atStart => exact ⟨0, by decide, rfl, by simpa [outTo, zero32] using HZ1.out, HZ0.out, HB8.out⟩
  case round =>
    clear HZ0 HZ1 HB8
    obtain ⟨k, hk, rfl, q1, q0, qb⟩ := hrel
    by_cases hlt : k < 8
    · have hidx : ∀ w : World, (Instr.index 44 (.agg (uvs ws).toArray) (.int .i64 (k : Int))).run Tryd.prog w = .ok (.int .u32 (ws.getD k 0 : Nat)) w := fun w => run_index_words _ 8 Tryd.underlying44 _ HL8.out k hlt w
      have hxl := HX8.out k
      have hset := outTo_set ws k hlt HL8.out _ rfl
      obtain ⟨x, hx⟩ : ∃ x, ws.getD k 0 = x := ⟨_, rfl⟩
      rw [hx] at hidx hxl hset
      have hlen := outTo_length ws k hk HL8.out
      obtain ⟨p0, hp0⟩ : ∃ p0, 4 * k = p0 := ⟨_, rfl⟩
      have hi0 : (4 : Int) * (k : Int) = (p0 : Int) := by omega
      rw [hp0] at hset
      have hp32 : p0 + 3 < 32 := by omega
      have HP0 := Lib.hid hp0
      have HQ0 := Lib.hid q0
      have HQB := Lib.hid qb
      have HSET := Lib.hid hset
      have HLEN := Lib.hid hlen
      have HQ1 := Lib.hid q1
      have hkl : (k : Int) < 8 := by omega
      clear hx hp0 q0 q1 qb hset hlen
      have hl1 : (p0 : Int) + 1 < 32 := by omega
      have hl2 : (p0 : Int) + 2 < 32 := by omega
      have hl3 : (p0 : Int) + 3 < 32 := by omega
      have hl0 : (p0 : Int) < 32 := by omega
      obtain ⟨wz, hwz⟩ : ∃ x : World, x = wr := ⟨_, rfl⟩
      go_wp2_with (first
        | (refine wpList_store_byte rfl (.tmp 66) (.tmp 57) rfl (w.heap.size + 1) _ 26 (outTo ws k) _ (UInt8.ofNat (x / 16777216)) rfl rfl ?_ HQ1.out ?_ ?_; (rw [UInt8.toNat_ofNat']; omega); (rw [HLEN.out]; omega); intro w1 r1 k1 s1; have HR1 := Lib.hid r1; have HK1 := Lib.hid k1; have HS1 := Lib.hid s1; clear r1 k1 s1)
        | (refine wpList_store_byte rfl (.tmp 67) (.tmp 60) rfl (w.heap.size + 1) _ 26 _ _ (UInt8.ofNat (x / 65536)) rfl rfl ?_ HR1.out ?_ ?_; (rw [UInt8.toNat_ofNat']; omega); (simp only [List.length_set]; rw [HLEN.out]; omega); intro w2 r1 k1 s1; have HR2 := Lib.hid r1; have HK2 := Lib.hid k1; have HS2 := Lib.hid s1; clear r1 k1 s1)
        | (refine wpList_store_byte rfl (.tmp 68) (.tmp 63) rfl (w.heap.size + 1) _ 26 _ _ (UInt8.ofNat (x / 256)) rfl rfl ?_ HR2.out ?_ ?_; (rw [UInt8.toNat_ofNat']; omega); (simp only [List.length_set]; rw [HLEN.out]; omega); intro w3 r1 k1 s1; have HR3 := Lib.hid r1; have HK3 := Lib.hid k1; have HS3 := Lib.hid s1; clear r1 k1 s1)
        | (refine wpList_store_byte rfl (.tmp 69) (.tmp 65) rfl (w.heap.size + 1) _ 26 _ _ (UInt8.ofNat x) rfl rfl ?_ HR3.out ?_ ?_; (rw [UInt8.toNat_ofNat']; omega); (simp only [List.length_set]; rw [HLEN.out]; omega); intro w4 r1 k1 s1; have HR4 := Lib.hid r1; have HK4 := Lib.hid k1; have HS4 := Lib.hid s1; clear r1 k1 s1))
      go_roundw
      case rel =>
        have hk := ((HK1.out.trans HK2.out (fun k hk => .inl hk)).trans HK3.out (fun k hk => .inl hk)).trans HK4.out (fun k hk => .inl hk)
        refine ⟨k + 1, by omega, by go_num, ?_, HQ0.out.keep hk (by omega), HQB.out.trans (hk.below (B := w.heap.size) (fun k _ hk => by omega) HQB.out.size)⟩
        have h := HR4.out
        rw [HSET.out] at h
        exact h
      case measure => simp [intOf]; omega
    · obtain rfl : k = 8 := by omega
      rw [HOUT2.out] at q1
      obtain ⟨m, hm⟩ : ∃ m, ShaMath.sha l = m := ⟨_, rfl⟩
      rw [hm] at q1
      have hml : m.length = 32 := by rw [← hm]; exact ShaMath.sha_length l
      have hfin := q0.store (m := m) (by rw [hml]; rfl)
      have hsz : (bvs m).toArray.size = 32 := by rw [List.size_toArray, bvs_length, hml]
      have hi32 := info_sum
      rw [← hsz] at hi32
      have hth : wr.there w.heap.size 0 (bvs m).toArray.size := by
        rw [hsz]
        exact q0.there
      have HM := Lib.hid hm
      have HF := Lib.hid hfin
      have HT := Lib.hid hth
      have HI := Lib.hid hi32
      have Q1 := Lib.hid q1
      have QB := Lib.hid qb
      have HO := Lib.hid (all_oneCell_toArray (bvs_one m))
      clear hm q1 q0 qb hfin hml hsz hi32 hth hlt hk HX8 HOUT2 HL8
      go_wp2_with (first
        | refine wpList_load_row rfl 26 (.tmp 3) rfl (w.heap.size + 1) rfl 26 (bvs m).toArray (0, 0) _ Q1.out Tryd.underlying26 rfl HI.out ?_
        | refine wpList_store_mid rfl 26 (.tmp 2) (.tmp 71) rfl w.heap.size 0 (bvs m).toArray rfl rfl HT.out HI.out HO.out ?_)
      refine bodyPost_ret (v := .agg (bvs m).toArray) (results_cell_row rfl _ _ w.heap.size 26 (bvs m).toArray (0, 0) _ rfl HF.out Tryd.underlying26 rfl HI.out) rfl ⟨by rw [HM.out], Below.setCells (Nat.le_refl _) _ _ _ QB.out⟩
end Go.Proofs.YtnjkpoljcekjcaaDoor
