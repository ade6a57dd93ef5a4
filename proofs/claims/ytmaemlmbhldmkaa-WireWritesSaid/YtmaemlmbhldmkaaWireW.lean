/- The contracts of a writer: U, Bytes, Text, Bool, Done, New; the document's Bytes. -/
import Derived.Test.YtmaemlmbhldmkaaWire
import Derived.Test.YtmaemlmbhldmkaaClone
import Derived.Deep.RegionHeld3
import Derived.Deep.RegionLaw
import Derived.Lib.ConvBytes
namespace Go.Proofs.Ytmaemlmbhldmkaa
open Go.RowKit
section
variable {P : Program} (w : World)
theorem wstep_append_bs {ops : Array Oper} {o : Oper} {a : Act} {K : Act → World → Prop} {Q : Exit → Act → World → Prop} {E : Prop} (hgd : o.guard = none) (s x : Operand) (t : TypeId)
    (ho : o.op = .call { callee := .builtin .append, args := #[s, x], argTypes := #[t, t] })
    (base : Nat) (e : TypeId) (i : TypeInfo) (z : Value) (ht : P.underlying t = some (.slice e)) (hi : P.info? e = some i) (hz : i.zero = some z)
    (hsize : i.size = 1) (hby : i.bytes = 1) (hzs : z.cells.size = 1)
    (v : Value) (xs : List Value) (hs : a.eval s = v) (hown : w.ownsRow base e 1 v xs.length xs)
    (A : Option Addr) (c n : Nat) (l : List UInt8) (hn : n = l.length) (hx : a.eval x = .slice A n c) (hr : Bs w A l)
    (hbytes : xs.length + l.length ≤ 140737488355328) (hbase : base ≤ w.heap.size)
    (h : ∀ v' w', w'.ownsRow base e 1 v' (xs.length + l.length) (xs ++ bvs l) → w.grownBy w' v.ownBlock → (v'.ownBlock = v.ownBlock ∨ v'.ownBlock = some w.heap.size) → K (a.put o.dst v') w') :
    if Region.wanted o (yielded ops a.tmps) = true then Oper.wp P o a w K Q else E := by
  have hw : Region.wanted o (yielded ops a.tmps) = true := by simp [Region.wanted, hgd]
  rw [if_pos hw]
  exact wp_append_bs w s x t ho base e i z ht hi hz hsize hby hzs v xs hs hown A c n l hn hx hr hbytes hbase h
end
theorem own_len' {w : World} {base : Nat} {e : TypeId} {v : Value} {n : Nat} {xs : List Value} (h : w.ownsRow base e 1 v n xs) : w.ownsRow base e 1 v xs.length xs := by
  have := h.1
  rw [Nat.mul_one] at this
  rw [this]; exact h
/-- a writer lies in block g, its bytes in a row of its own -/
structure WrAt (w : World) (g base : Nat) (v : Value) (l : List UInt8) : Prop where
  blk : w.heap[g]? = some (.cells #[v] 48 (0, 0))
  own : w.ownsRow base 5 1 v l.length (bvs l)
/-- the blocks of a writer -/
def wrF (g : Nat) (v : Value) (k : Nat) : Prop := k = g ∨ v.ownBlock = some k
theorem WrAt.ne {w : World} {g base : Nat} {v : Value} {l : List UInt8} (h : WrAt w g base v l) : v.ownBlock ≠ some g := own_ne h.own h.blk (by decide)
theorem WrAt.kept {w w' : World} {g base : Nat} {v : Value} {l : List UInt8} {F : Nat → Prop} (h : WrAt w g base v l) (hk : Kept F w w') (hn : ∀ k, wrF g v k → ¬ F k) : WrAt w' g base v l :=
  ⟨hk.heap h.blk (hn g (.inl rfl)), hk.own h.own (fun k e => hn k (.inr e))⟩
theorem WrAt.below {w w' : World} {g base : Nat} {v : Value} {l : List UInt8} (h : WrAt w g base v l) (hb : Below w.heap.size w w') : WrAt w' g base v l := h.kept (Kept.of_below (F := fun _ => False) hb) (fun _ _ => id)
theorem WrAt.lt {w : World} {g base : Nat} {v : Value} {l : List UInt8} (h : WrAt w g base v l) (k : Nat) (hk : wrF g v k) : k < w.heap.size := by
  rcases hk with rfl | hk
  · exact heap_lt h.blk
  · exact (h.own.lt k hk).2
/-- behind a call of a writer's: it has more bytes, and nothing else has turned -/
def WrPost (w : World) (g base : Nat) (v : Value) (m : List UInt8) (e : Ending) (w' : World) : Prop :=
  e = .returned (.pointer (some ⟨g, 0, none⟩)) ∧ ∃ v', WrAt w' g base v' m ∧ Kept (wrF g v) w w' ∧ (∀ k, wrF g v' k → wrF g v k ∨ w.heap.size ≤ k)
theorem wr_after {w w5 w6 w7 : World} {g base : Nat} {v v' : Value} {l m : List UInt8} (h : WrAt w g base v l) (hb : Below w.heap.size w w5)
    (ho : w6.ownsRow base 5 1 v' ((bvs l).length + m.length) (bvs l ++ bvs m)) (hg : w5.grownBy w6 v.ownBlock) (hat : v'.ownBlock = v.ownBlock ∨ v'.ownBlock = some w5.heap.size) (h7 : w7 = w6.setCell ⟨g, 0, none⟩ v') :
    WrPost w g base v (l ++ m) (.returned (.pointer (some ⟨g, 0, none⟩))) w7 := by
  subst h7
  have hs := hb.size
  have hk6 : Kept (wrF g v) w w6 := (Kept.of_below hb).grown hg (fun k e => .inl (.inr e))
  have hne : v'.ownBlock ≠ some g := by
    rcases hat with e | e
    · rw [e]; exact h.ne
    · rw [e]
      intro e2
      injection e2 with e2
      have := heap_lt h.blk
      omega
  have hblk6 : w6.heap[g]? = some (.cells #[v] 48 (0, 0)) := by
    have h5 : w5.heap[g]? = some (.cells #[v] 48 (0, 0)) := (hb.block g (heap_lt h.blk)).trans h.blk
    exact (hg.block g (heap_lt h5) (fun e => h.ne e.symm)).trans h5
  refine ⟨rfl, v', ⟨?_, ?_⟩, hk6.setCell (.inl (.inl rfl)) _, ?_⟩
  · have := set_block hblk6 0 v'
    simpa using this
  · rw [← bvs_append, bvs_length, ← List.length_append] at ho
    refine ho.kept (grown_set (w := w6) ⟨rfl, rfl, rfl, Nat.le_refl _, fun _ _ _ => rfl⟩ 0 v') (.inr hne)
  · rintro k (rfl | e)
    · exact .inl (.inl rfl)
    · rcases hat with e2 | e2
      · exact .inl (.inr (e2 ▸ e))
      · rw [e2] at e
        injection e with e
        exact .inr (by omega)
set_option maxHeartbeats 1000000 in
set_option maxRecDepth 100000 in
theorem wrU_any (g base x : Nat) (v : Value) (l : List UInt8) (w : World) (h : WrAt w g base v l) (hx : x < 18446744073709551616) (hl : l.length ≤ 1000000) (hbase : base ≤ w.heap.size) :
    Calls Try.prog 10 #[.pointer (some ⟨g, 0, none⟩), .int .u64 (x : Nat)] w (WrPost w g base v (l ++ WireMath.put x)) := by
  obtain ⟨i0, hi0, hz0, hz1, hz2⟩ := info_parts info_u8
  obtain ⟨A, c, rfl, hc⟩ := own_shape h.own
  have hput := fun w' => wirePut_any x w' hx
  have hp10 := WireMath.put_le 9 x (by omega)
  obtain ⟨m, hm⟩ : ∃ m, WireMath.put x = m := ⟨_, rfl⟩
  simp only [hm] at hput hp10 ⊢
  have HPUT := Lib.hid hput
  have HW := Lib.hid h
  have hcell : w.cell? ⟨g, 0, none⟩ = some (.slice A l.length c) := block_cell h.blk
  have HC := Lib.hid hcell
  clear hput hm h hx hcell
  go_enter Try.func10, Try.ntmps10
  go_wp2_with fail
  have hcell := HC.out
  go_region_law (first
      | (refine wstep_append_bs _ (by rfl) _ _ _ (by rfl) base 5 i0 (.int .u8 0) Try.underlying25 hi0 hz0 hz1 hz2 rfl (.slice A l.length c) (bvs l) (by rfl) ?_ A5 c5 m.length m rfl (by rfl) HS5.out ?_ ?_ ?_; (exact own_len' HW5.out.own); (rw [bvs_length]; omega); (have := hb5.size; omega); intro v6 w6 hown6 hg6 hat6; obtain ⟨A6, c6, rfl, _⟩ := own_shape hown6; have hc6 : w6.cell? ⟨g, 0, none⟩ = some (.slice A l.length c) := hg6.cell HC5 (fun e => HW.out.ne e.symm); have hf6 : w6.frozen? ⟨g, 0, none⟩ = false := block_free ((hg6.block g (heap_lt HW5.out.blk) (fun e => HW.out.ne e.symm)).trans HW5.out.blk))
      | (go_simp; go_at_call 22; refine (HPUT.out _).mono ?_; rintro e w5 ⟨v5, rfl, hown5, hbd⟩; obtain ⟨A5, c5, rfl, _⟩ := own_shape hown5; have hb5 : Below w.heap.size w w5 := ((Below.refl _ _).drew).trans hbd; have HC5 := ((hb5.cell (p := ⟨g, 0, none⟩) (cell_lt' HC.out)).trans HC.out); have HW5 := Lib.hid (HW.out.below hb5); have HS5 := Lib.hid (Bs.of_own hown5); clear hown5 hbd))
  all_goals
    go_wp2_with fail
    go_ret
    exact wr_after HW.out hb5 hown6 hg6 hat6 rfl
theorem WrPost.then {w w1 w2 : World} {g base : Nat} {v v1 : Value} {m : List UInt8} {e : Ending} (hk : Kept (wrF g v) w w1) (hf : ∀ k, wrF g v1 k → wrF g v k ∨ w.heap.size ≤ k) (h : WrPost w1 g base v1 m e w2) : WrPost w g base v m e w2 := by
  obtain ⟨rfl, v2, h2, hk2, hf2⟩ := h
  refine ⟨rfl, v2, h2, hk.trans hk2 hf, fun k hk' => ?_⟩
  rcases hf2 k hk' with h' | h'
  · exact hf k h'
  · exact .inr (Nat.le_trans hk.size h')
/-- bytes with their length ahead -/
def bytesOf (b : List UInt8) : List UInt8 := WireMath.put b.length ++ b
set_option maxHeartbeats 1000000 in
set_option maxRecDepth 100000 in
theorem wrBytes_any (g base : Nat) (v : Value) (l : List UInt8) (B : Option Addr) (cb : Nat) (lb : List UInt8) (w : World) (h : WrAt w g base v l) (hl : l.length ≤ 900000) (hb : lb.length ≤ 65536) (hbase : base ≤ w.heap.size)
    (hr : Bs w B lb) (hd : ∀ ad, B = some ad → lb ≠ [] → ¬ wrF g v ad.block) :
    Calls Try.prog 12 #[.pointer (some ⟨g, 0, none⟩), .slice B lb.length cb] w (WrPost w g base v (l ++ bytesOf lb)) := by
  obtain ⟨i0, hi0, hz0, hz1, hz2⟩ := info_parts info_u8
  have HW := Lib.hid h
  have hu := wrU_any g base lb.length v l w h (by omega) (by omega) hbase
  have HU := Lib.hid hu
  have hput := WireMath.put_le 9 lb.length (by omega)
  clear hu h
  have HR := Lib.hid hr
  have HD := Lib.hid hd
  clear hr hd
  go_enter Try.func12, Try.ntmps12
  go_wp2_with fail
  refine HU.out.mono ?_
  rintro e w1 ⟨rfl, v1, h1, hk1, hf1⟩
  have hr1 := hk1.bs HR.out HD.out
  obtain ⟨A1, c1, rfl, hc1⟩ := own_shape h1.own
  obtain ⟨L, hL⟩ : ∃ L, l ++ WireMath.put lb.length = L := ⟨_, rfl⟩
  have hLl : L.length ≤ 900010 := by rw [← hL, List.length_append]; omega
  rw [hL] at h1 hf1 hc1
  have hcell : w1.cell? ⟨g, 0, none⟩ = some (.slice A1 L.length c1) := block_cell h1.blk
  have hbase1 : base ≤ w1.heap.size := Nat.le_trans hbase hk1.size
  have HL := Lib.hid hL
  have H1 := Lib.hid h1
  have HK1 := Lib.hid hk1
  have HF1 := Lib.hid hf1
  have hown' := own_len' h1.own
  have HO := Lib.hid hown'
  clear hL h1 hk1 hf1 HU HR HD hown'
  go_wp2_with (at_builtin; refine wpList_append_bs _ rfl _ _ 25 rfl base 5 i0 (.int .u8 0) Try.underlying25 hi0 hz0 hz1 hz2 rfl (.slice A1 L.length c1) (bvs L) rfl HO.out B cb lb.length lb rfl rfl hr1 ?c2 hbase1 ?_)
  case c2 => rw [bvs_length]; omega
  intro v2 w2 hown2 hg2 hat2
  obtain ⟨A2, c2, rfl, _⟩ := own_shape hown2
  have hc2 : w2.cell? ⟨g, 0, none⟩ = some (.slice A1 L.length c1) := hg2.cell hcell (fun e => H1.out.ne e.symm)
  have hf2 : w2.frozen? ⟨g, 0, none⟩ = false := block_free ((hg2.block g (heap_lt H1.out.blk) (fun e => H1.out.ne e.symm)).trans H1.out.blk)
  have HX := Lib.hid (wr_after H1.out (Below.refl _ _) hown2 hg2 hat2 rfl)
  clear hown2 hg2 hat2 hcell hr1
  go_wp2_with fail
  go_ret
  have hfin := WrPost.then HK1.out HF1.out HX.out
  have e : l ++ bytesOf lb = L ++ lb := by rw [← HL.out]; unfold bytesOf; rw [List.append_assoc]
  rw [e]
  exact hfin
set_option maxHeartbeats 400000 in
theorem wrDone_any (g base : Nat) (v : Value) (l : List UInt8) (w : World) (h : WrAt w g base v l) (hl : l.length ≤ 1000000) :
    Calls Try.prog 16 #[.pointer (some ⟨g, 0, none⟩)] w fun e w' => ∃ u, e = .returned u ∧ w'.ownsRow w.heap.size 5 1 u l.length (bvs l) ∧ Below w.heap.size w w' := by
  obtain ⟨A, c, rfl, hc⟩ := own_shape h.own
  have hcell : w.cell? ⟨g, 0, none⟩ = some (.slice A l.length c) := block_cell h.blk
  have hcl := clone_any A c l w (by omega) (Bs.of_own h.own)
  have HCL := Lib.hid hcl
  clear hcl h
  go_enter Try.func16, Try.ntmps16
  go_wp2_with fail
  refine HCL.out.mono ?_
  rintro e w1 ⟨u, rfl, hown, hb⟩
  go_wp2_with fail
  go_ret
  exact ⟨u, rfl, hown, hb⟩
set_option maxHeartbeats 400000 in
theorem wrNew_any (w : World) : Calls Try.prog 7 #[] w fun e w' => e = .returned (.pointer (some ⟨w.heap.size, 0, none⟩)) ∧ WrAt w' w.heap.size w.heap.size (.slice none 0 0) [] ∧ Below w.heap.size w w' := by
  go_enter Try.func7, Try.ntmps7
  go_wp2_with fail
  go_ret
  exact ⟨rfl, ⟨heap_alloc_new w _, World.ownsRow_nil _ _ _ _⟩, below_alloc _ _⟩
set_option maxHeartbeats 400000 in
set_option maxRecDepth 100000 in
theorem refBytes_any (B : Option Addr) (cb : Nat) (lb : List UInt8) (w : World) (hb : lb.length ≤ 65536) (hr : Bs w B lb) :
    Calls Try.prog 13 #[.slice B lb.length cb] w fun e w' => ∃ u, e = .returned u ∧ w'.ownsRow w.heap.size 5 1 u (bytesOf lb).length (bvs (bytesOf lb)) ∧ Below w.heap.size w w' := by
  obtain ⟨i0, hi0, hz0, hz1, hz2⟩ := info_parts info_u8
  have hput := WireMath.put_le 9 lb.length (by omega)
  have hp := refPut_any lb.length w (by omega)
  have HP := Lib.hid hp
  clear hp
  go_enter Try.func13, Try.ntmps13
  go_wp2_with fail
  refine HP.out.mono ?_
  rintro e w1 ⟨v1, rfl, hown, hb1⟩
  have hr1 := hr.below hb1
  have hs := hb1.size
  have HO := Lib.hid (own_len' hown)
  obtain ⟨L, hL⟩ : ∃ L, WireMath.put lb.length = L := ⟨_, rfl⟩
  rw [hL] at HO hput
  have HL := Lib.hid hL
  clear hL hown hr
  go_wp2_with (at_builtin; refine wpList_append_bs _ rfl _ _ 25 rfl w.heap.size 5 i0 (.int .u8 0) Try.underlying25 hi0 hz0 hz1 hz2 rfl v1 (bvs L) rfl HO.out B cb lb.length lb rfl rfl hr1 ?c2 hs ?_)
  case c2 => rw [bvs_length]; omega
  intro v2 w2 hown2 hg2 hat2
  have HO2 := Lib.hid hown2
  have hb2 : Below w.heap.size w w2 := hb1.grown hg2 hs (fun g hg => (HO.out.lt g hg).1)
  clear hown2 hg2 hat2 hr1
  go_wp2_with fail
  go_ret
  refine ⟨v2, rfl, ?_, hb2⟩
  have h := HO2.out
  unfold bytesOf
  rw [HL.out, bvs_append, List.length_append]
  rw [bvs_length] at h
  exact h
theorem bytesWorld_below (w : World) (s : ByteArray) : Below w.heap.size w (Lib.bytesWorld w 5 s) :=
  ⟨rfl, rfl, rfl, by rw [Lib.bytesWorld_size]; omega, fun k hk => Lib.bytesWorld_at_old w _ s k hk⟩
theorem bytesWorld_bs (w : World) (l : List UInt8) : Bs (Lib.bytesWorld w 5 ⟨l.toArray⟩) (some ⟨w.heap.size, 0, none⟩) l := fun j c hj => by
  refine ⟨_, rfl, by rw [Lib.bytesWorld_size]; simp, ?_⟩
  have e2 : (⟨w.heap.size, 0, none⟩ : Addr).add j = ⟨w.heap.size, j, none⟩ := by unfold Addr.add; split <;> simp_all
  have hlt : j < l.length := (List.getElem?_eq_some_iff.1 hj).1
  rw [e2, Lib.bytesWorld_cell w _ ⟨l.toArray⟩ j (by show j < l.toArray.size; simpa using hlt)]
  simp [hj]
set_option maxHeartbeats 400000 in
theorem wrText_any (g base : Nat) (v : Value) (l lb : List UInt8) (w : World) (h : WrAt w g base v l) (hl : l.length ≤ 900000) (hb : lb.length ≤ 65536) (hbase : base ≤ w.heap.size) :
    Calls Try.prog 14 #[.pointer (some ⟨g, 0, none⟩), .string ⟨lb.toArray⟩] w (WrPost w g base v (l ++ bytesOf lb)) := by
  have hcv := Lib.run_convert_string_bytes (P := Try.prog) w 9 25 5 ⟨lb.toArray⟩ Try.underlying9 Try.underlying25 Try.underlying5
  have hb1 := bytesWorld_below w ⟨lb.toArray⟩
  have hs1 := bytesWorld_bs w lb
  have hsz : (⟨lb.toArray⟩ : ByteArray).size = lb.length := by show lb.toArray.size = lb.length; simp
  rw [hsz] at hcv
  obtain ⟨w1, hw1⟩ : ∃ w1, Lib.bytesWorld w 5 ⟨lb.toArray⟩ = w1 := ⟨_, rfl⟩
  rw [hw1] at hcv hb1 hs1
  obtain ⟨cc, hcc⟩ : ∃ cc, grownCap w lb.length 0 5 = cc := ⟨_, rfl⟩
  rw [hcc] at hcv
  have HX := Lib.hid (wrBytes_any g base v l (some ⟨w.heap.size, 0, none⟩) cc lb w1 (h.below hb1) hl hb (Nat.le_trans hbase hb1.size) hs1 (fun ad e _ hf => by
    injection e with e
    subst e
    have := h.lt _ hf
    simp at this))
  have HB := Lib.hid hb1
  clear hw1 hcc hsz hs1 hb1 h
  go_enter Try.func14, Try.ntmps14
  go_wp2_with fail
  clear hcv
  refine HX.out.mono ?_
  intro en w2 hp
  obtain ⟨rfl, v2, h2⟩ := hp
  go_wp2_with fail
  go_ret
  exact WrPost.then (Kept.of_below HB.out) (fun k hk => .inl hk) ⟨rfl, v2, h2⟩
set_option maxHeartbeats 400000 in
theorem wrBool_any (g base : Nat) (v : Value) (l : List UInt8) (b : Bool) (w : World) (h : WrAt w g base v l) (hl : l.length ≤ 900000) (hbase : base ≤ w.heap.size) :
    Calls Try.prog 15 #[.pointer (some ⟨g, 0, none⟩), .bool b] w (WrPost w g base v (l ++ WireMath.put (if b then 1 else 0))) := by
  have HU := Lib.hid (fun x hx => wrU_any g base x v l w h hx (by omega) hbase)
  clear h
  cases b
  · have HX := Lib.hid (HU.out 0 (by decide))
    clear HU
    go_enter Try.func15, Try.ntmps15
    go_wp2_with fail
    refine HX.out.mono ?_
    intro en w2 hp
    obtain ⟨rfl, v2, h2⟩ := hp
    go_wp2_with fail
    go_ret
    exact ⟨rfl, v2, h2⟩
  · have HX := Lib.hid (HU.out 1 (by decide))
    clear HU
    go_enter Try.func15, Try.ntmps15
    go_wp2_with fail
    refine HX.out.mono ?_
    intro en w2 hp
    obtain ⟨rfl, v2, h2⟩ := hp
    go_wp2_with fail
    go_ret
    exact ⟨rfl, v2, h2⟩
end Go.Proofs.Ytmaemlmbhldmkaa
