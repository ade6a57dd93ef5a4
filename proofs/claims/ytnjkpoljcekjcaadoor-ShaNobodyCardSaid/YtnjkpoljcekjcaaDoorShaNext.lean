/- The contract of a state behind a block. -/
import Derived.Test.YtnjkpoljcekjcaaDoorShaSpread
import Derived.Laws.CopyOwn
namespace Go.Proofs.YtnjkpoljcekjcaaDoor
open Go.RowKit
def stl (s : ShaMath.St) : List Nat := [s.a, s.b, s.c, s.d, s.e, s.f, s.g, s.h]
/-- the table of 64 words stands in its variable -/
def Words (w : World) : Prop := 0 < w.heap.size ∧ w.rangeAt 0 0 (uvs ShaMath.kk)
theorem Words.keep {w w' : World} {F : Nat → Prop} (h : Words w) (hk : Kept F w w') (hn : ¬ F 0) : Words w' :=
  ⟨Nat.lt_of_lt_of_le h.1 hk.size, fun j v hj => (hk.cell (p := ⟨0, 0 + j, none⟩) h.1 hn).trans (h.2 j v hj)⟩
theorem Words.below {w w' : World} (h : Words w) (hb : Below w.heap.size w w') : Words w' := h.keep (Kept.of_below (F := fun _ => False) hb) (fun h => h)
def NxRel (s : ShaMath.St) (W : List Nat) (w : World) (g5 g6 : Nat) (i : Value) (wr : World) : Prop :=
  ∃ k : Nat, k ≤ 64 ∧ i = .int .i64 (k : Nat) ∧ Row32 wr g6 44 (stl (ShaMath.rnds s W k)) ∧ Row32 wr w.heap.size 44 (stl s) ∧
    Row32 wr (w.heap.size + 1) 44 (List.replicate 8 0) ∧ Row32 wr g5 65 W ∧ Below w.heap.size w wr
/-- a whole row of words is stored over another: a fresh name for the world behind it -/
theorem wpList_store_row32 {P : Program} {ops : Array Oper} {rest : List Oper} {op : Oper} {a : Act} {w : World} {Q : Exit → Act → World → Prop} (hgd : op.guard = none) (T : TypeId) (x y : Operand) (ho : op.op = .store T x y)
    (g : Nat) (m l : List Nat) (T' : TypeId) (hx : a.eval x = .pointer (some ⟨g, 0, none⟩)) (hy : a.eval y = .agg (uvs m).toArray) (hg : Row32 w g T' l) (hlen : m.length = l.length) (hi : (P.info? T).map (·.size) = some m.length)
    (h : ∀ w', Row32 w' g T' m → Kept (fun k => k = g) w w' → wpList P ops Q rest (a.put op.dst undef) w') : wpList P ops Q (op :: rest) a w := by
  have hsz : (uvs m).toArray.size = m.length := by rw [List.size_toArray, uvs_length]
  refine wpList_store_mid hgd T x y ho g 0 (uvs m).toArray hx hy ?_ (by rw [hsz]; exact hi) (all_oneCell_toArray (uvs_one m)) ?_
  · rw [hsz, hlen]; exact hg.there
  · exact h _ (hg.store hlen) (setCells_kept g _ _ _ _ _ (Kept.refl _ _) (.inl rfl))
/-- a word out of an array that is a value -/
theorem run_index_words (T : TypeId) (n : Nat) (hT : Tryd.prog.underlying T = some (.array n 42)) (l : List Nat) (hl : l.length = n) (k : Nat) (hk : k < n) (w : World) :
    (Instr.index T (.agg (uvs l).toArray) (.int .i64 (k : Int))).run Tryd.prog w = .ok (.int .u32 (l.getD k 0 : Nat)) w := by
  have h1 : (uvs l)[k]? = some (.int .u32 (l[k]?.getD 0 : Nat)) := by
    simp [uvs, List.getElem?_eq_getElem (show k < l.length by omega)]
  have h2 : (0 : Int) ≤ (k : Int) ∧ (k : Int) < (n : Int) := by omega
  simp [Instr.index, asIntOf, run_underlying hT, h2, part, h1, hk]
theorem rotQ (x n : Nat) (z : Int) (w : World) (hx : x < 4294967296) (hz : z = -(n : Int)) (h0 : 0 < n) (h1 : n < 32) :
    Calls Tryd.prog 42 #[.int .u32 (x : Nat), .int .i64 z] w fun e w' => e = .returned (.int .u32 (ShaMath.rot x n : Nat)) ∧ w' = w :=
  (rotL_any x n z w hx hz h0 h1).mono fun _ _ ⟨h, h'⟩ => ⟨h, h'.symm⟩
theorem rot6Q (x : Nat) (w : World) (hx : x < 4294967296) : Calls Tryd.prog 42 #[.int .u32 (x : Int), .int .i64 (-6)] w fun e w' => e = .returned (.int .u32 (ShaMath.rot x 6 : Nat)) ∧ w' = w := rotQ x 6 (-6) w hx rfl (by decide) (by decide)
theorem rot11Q (x : Nat) (w : World) (hx : x < 4294967296) : Calls Tryd.prog 42 #[.int .u32 (x : Int), .int .i64 (-11)] w fun e w' => e = .returned (.int .u32 (ShaMath.rot x 11 : Nat)) ∧ w' = w := rotQ x 11 (-11) w hx rfl (by decide) (by decide)
theorem rot25Q (x : Nat) (w : World) (hx : x < 4294967296) : Calls Tryd.prog 42 #[.int .u32 (x : Int), .int .i64 (-25)] w fun e w' => e = .returned (.int .u32 (ShaMath.rot x 25 : Nat)) ∧ w' = w := rotQ x 25 (-25) w hx rfl (by decide) (by decide)
theorem rot2Q (x : Nat) (w : World) (hx : x < 4294967296) : Calls Tryd.prog 42 #[.int .u32 (x : Int), .int .i64 (-2)] w fun e w' => e = .returned (.int .u32 (ShaMath.rot x 2 : Nat)) ∧ w' = w := rotQ x 2 (-2) w hx rfl (by decide) (by decide)
theorem rot13Q (x : Nat) (w : World) (hx : x < 4294967296) : Calls Tryd.prog 42 #[.int .u32 (x : Int), .int .i64 (-13)] w fun e w' => e = .returned (.int .u32 (ShaMath.rot x 13 : Nat)) ∧ w' = w := rotQ x 13 (-13) w hx rfl (by decide) (by decide)
theorem rot22Q (x : Nat) (w : World) (hx : x < 4294967296) : Calls Tryd.prog 42 #[.int .u32 (x : Int), .int .i64 (-22)] w fun e w' => e = .returned (.int .u32 (ShaMath.rot x 22 : Nat)) ∧ w' = w := rotQ x 22 (-22) w hx rfl (by decide) (by decide)
theorem bg1_spell (v : Nat) (h : v < 4294967296) : bits .xor .u32 (bits .xor .u32 (ShaMath.rot v 6 : Nat) (ShaMath.rot v 11 : Nat)) (ShaMath.rot v 25 : Nat) = (ShaMath.bg1 v : Nat) :=
  xor3 _ _ _ (ShaMath.rot_lt _ h) (ShaMath.rot_lt _ h) (ShaMath.rot_lt _ h)
theorem bg0_spell (v : Nat) (h : v < 4294967296) : bits .xor .u32 (bits .xor .u32 (ShaMath.rot v 2 : Nat) (ShaMath.rot v 13 : Nat)) (ShaMath.rot v 22 : Nat) = (ShaMath.bg0 v : Nat) :=
  xor3 _ _ _ (ShaMath.rot_lt _ h) (ShaMath.rot_lt _ h) (ShaMath.rot_lt _ h)
theorem ch_spell (e f g : Nat) (he : e < 4294967296) (hf : f < 4294967296) (hg : g < 4294967296) : bits .xor .u32 (bits .and .u32 (e : Int) (f : Int)) (bits .and .u32 (bits .xor .u32 (if IntKind.u32.signed = true then -1 else IntKind.u32.max) (e : Int)) (g : Int)) = (ShaMath.ch e f g : Nat) := by
  have e1 : bits .xor .u32 (if IntKind.u32.signed = true then -1 else IntKind.u32.max) (e : Int) = ((4294967295 ^^^ e : Nat) : Int) := u32_xor_nat 4294967295 e (by decide) he
  have e2 : 4294967295 ^^^ e < 4294967296 := Nat.xor_lt_two_pow (n := 32) (by decide) he
  rw [e1, u32_and_nat _ _ he hf, u32_and_nat _ _ e2 hg, u32_xor_nat _ _ (Nat.and_lt_two_pow (n := 32) _ hf) (Nat.and_lt_two_pow (n := 32) _ hg)]
  rfl
theorem maj_spell (a b c : Nat) (ha : a < 4294967296) (hb : b < 4294967296) (hc : c < 4294967296) : bits .xor .u32 (bits .xor .u32 (bits .and .u32 (a : Int) (b : Int)) (bits .and .u32 (a : Int) (c : Int))) (bits .and .u32 (b : Int) (c : Int)) = (ShaMath.maj a b c : Nat) := by
  rw [u32_and_nat _ _ ha hb, u32_and_nat _ _ ha hc, u32_and_nat _ _ hb hc]
  exact xor3 _ _ _ (Nat.and_lt_two_pow (n := 32) _ hb) (Nat.and_lt_two_pow (n := 32) _ hc) (Nat.and_lt_two_pow (n := 32) _ hc)
def addL (l m : List Nat) (k : Nat) : List Nat := (List.range 8).map fun j => if j < k then (l.getD j 0 + m.getD j 0) % 4294967296 else l.getD j 0
theorem addL_length (l m : List Nat) (k : Nat) : (addL l m k).length = 8 := by simp [addL]
theorem addL_zero (s : ShaMath.St) (m : List Nat) : addL (stl s) m 0 = stl s := rfl
theorem addL_eight (s x : ShaMath.St) : addL (stl s) (stl x) 8 = stl (ShaMath.addSt s x) := rfl
theorem addL_getD (l m : List Nat) (k : Nat) (hk : k < 8) : (addL l m k).getD k 0 = l.getD k 0 := by
  unfold addL
  rw [List.getD_eq_getElem?_getD, List.getElem?_map, List.getElem?_range hk]
  simp
theorem addL_set (l m : List Nat) (k : Nat) (_ : k < 8) : (addL l m k).set k ((l.getD k 0 + m.getD k 0) % 4294967296) = addL l m (k + 1) := by
  apply List.ext_getElem
  · simp [addL]
  · intro j h1 h2
    simp only [addL, List.length_set, List.length_map, List.length_range] at h1
    rw [List.getElem_set]
    unfold addL
    simp only [List.getElem_map, List.getElem_range]
    by_cases e : k = j
    · subst e
      simp
    · rw [if_neg e]
      by_cases h3 : j < k
      · simp [h3, show j < k + 1 by omega]
      · simp [h3, show ¬ j < k + 1 by omega]
def AddRel (s x : ShaMath.St) (w : World) (g6 : Nat) (i : Value) (wr : World) : Prop :=
  ∃ k : Nat, k ≤ 8 ∧ i = .int .i64 (k : Nat) ∧ Row32 wr g6 44 (stl x) ∧ Row32 wr w.heap.size 44 (addL (stl s) (stl x) k) ∧
    Row32 wr (w.heap.size + 1) 44 (List.replicate 8 0) ∧ Below w.heap.size w wr
set_option maxRecDepth 100000 in
set_option maxHeartbeats 1000000 in
theorem next_any (s : ShaMath.St) (A : Option Addr) (n c : Nat) (l : List UInt8) (w : World) (hs : s.lt) (hn : l.length = n) (hl : 64 ≤ n) (hm : n ≤ 1000000) (hr : Bs w A l) (hw : Words w) :
    Calls Tryd.prog 33 #[.agg (uvs (stl s)).toArray, .slice A n c] w fun e w' => e = .returned (.agg (uvs (stl (ShaMath.next s l))).toArray) ∧ Below w.heap.size w w' := by
  go_enter Tryd.func33, Tryd.ntmps33
  go_wp2_with fail
  have hb0 : Below w.heap.size w ((w.alloc (.cells (uvs (stl s)).toArray 44)).alloc (.cells (uvs (List.replicate 8 0)).toArray 44)) := ((Below.refl _ _).alloc (Nat.le_refl _) _).alloc (by simp) _
  have r2 : Row32 ((w.alloc (.cells (uvs (stl s)).toArray 44)).alloc (.cells (uvs (List.replicate 8 0)).toArray 44)) w.heap.size 44 (stl s) := (alloc2 w _ _).2
  have r4 : Row32 ((w.alloc (.cells (uvs (stl s)).toArray 44)).alloc (.cells (uvs (List.replicate 8 0)).toArray 44)) (w.heap.size + 1) 44 (List.replicate 8 0) := (alloc2 w _ _).1
  refine (spread_any A n c l _ hn hl hm (hr.below hb0)).mono ?_
  rintro e w1 ⟨rfl, hb1⟩
  have hb01 := below_then hb0 hb1
  have hsz1 : w.heap.size + 2 ≤ w1.heap.size := by simpa using hb1.size
  have r2 := Lib.hid (r2.below hb1)
  have r4 := Lib.hid (r4.below hb1)
  have rw1 := Lib.hid (hw.below hb01)
  have HB1 := Lib.hid hb01
  have h64 : (ShaMath.wTo l 64).length = 64 := ShaMath.wTo_length _ _
  have hnx : ShaMath.next s l = ShaMath.addSt s (ShaMath.rnds s (ShaMath.wTo l 64) 64) := rfl
  have hWlt : ∀ i, (ShaMath.wTo l 64).getD i 0 < 4294967296 := fun i => ShaMath.wTo_lt l 64 i
  obtain ⟨W, hW⟩ : ∃ W, ShaMath.wTo l 64 = W := ⟨_, rfl⟩
  rw [hW] at h64 hnx hWlt ⊢
  have HNX := Lib.hid hnx
  have HWL := Lib.hid hWlt
  have H64 := Lib.hid h64
  clear hb0 hb1 hb01 hW hnx hWlt h64 hr
  have hi65 : (Tryd.prog.info? 65).map (·.size) = some W.length := by rw [H64.out]; kernel_rfl
  have hi44 : (Tryd.prog.info? 44).map (·.size) = some 8 := by kernel_rfl
  have I65 := Lib.hid hi65
  have I44 := Lib.hid hi44
  clear hi65 hi44
  have hw1 : w.heap.size + 2 ≤ w1.heap.size := hsz1
  go_wp2_with (first
    | (refine wpList_store_row32 rfl 65 (.tmp 5) (.tmp 15) rfl w1.heap.size W (List.replicate 64 0) 65 rfl rfl (heap_alloc_new w1 _) (by rw [H64.out]; rfl) I65.out ?_
       intro w2 h2 k2
       have r2 := Lib.hid (((r2.out).below (below_alloc w1 _)).keep k2 (by omega))
       have r4 := Lib.hid (((r4.out).below (below_alloc w1 _)).keep k2 (by omega))
       have rw1 := Lib.hid (((rw1.out).below (below_alloc w1 _)).keep k2 (by have := rw1.out.1; have := hw.1; omega))
       have h2 := Lib.hid h2
       have hs2 : w1.heap.size + 1 ≤ w2.heap.size := by simpa using k2.size
       have HB2 := Lib.hid ((HB1.out.alloc (by omega) _).trans (k2.below (B := w.heap.size) (by intro k _ hk; omega) (by simp; omega)))
       clear k2)
    | (refine wpList_load_row rfl 44 (.tmp 2) rfl w.heap.size rfl 44 (uvs (stl s)).toArray (0, 0) _ r2.out Tryd.underlying44 rfl I44.out ?_)
    | (refine wpList_store_row32 rfl 44 (.tmp 6) (.tmp 16) rfl w2.heap.size (stl s) (List.replicate 8 0) 44 rfl rfl (heap_alloc_new w2 _) rfl I44.out ?_
       intro w3 h6 k3
       have r2 := Lib.hid (((r2.out).below (below_alloc w2 _)).keep k3 (by omega))
       have r4 := Lib.hid (((r4.out).below (below_alloc w2 _)).keep k3 (by omega))
       have rw1 := Lib.hid (((rw1.out).below (below_alloc w2 _)).keep k3 (by have := rw1.out.1; omega))
       have h2 := Lib.hid (((h2.out).below (below_alloc w2 _)).keep k3 (by omega))
       have h6 := Lib.hid h6
       have HB3 := Lib.hid ((HB2.out.alloc (by omega) _).trans (k3.below (B := w.heap.size) (by intro k _ hk; omega) (by simp; omega)))
       clear k3)
    | (refine wpList_load_mid rfl 65 (.global 0) rfl 0 0 rfl (uvs ShaMath.kk) _ rw1.out.2 Tryd.underlying65 rfl (by kernel_rfl) ?_))
  go_loopw [18] (fun i wr => NxRel s W w w1.heap.size w2.heap.size i wr) (fun i _ => 64 - (intOf i).toNat)
  case atStart => exact ⟨0, by decide, rfl, h6.out, r2.out, r4.out, h2.out, HB3.out⟩
  case round =>
    have HB3 : True := trivial
    have rw1 : True := trivial
    clear rw1 HB3
    obtain ⟨k, hk, rfl, q6, q2, q4, q5, qb⟩ := hrel
    have Q6 := Lib.hid q6
    have Q2 := Lib.hid q2
    have Q4 := Lib.hid q4
    have Q5 := Lib.hid q5
    have QB := Lib.hid qb
    have hst := ShaMath.rnds_lt W k hs
    have hnx : ShaMath.rnds s W (k + 1) = ShaMath.rnd (ShaMath.rnds s W k) (ShaMath.kk.getD k 0) (W.getD k 0) := rfl
    have HNX2 := Lib.hid hnx
    clear hnx q2 q4 qb
    by_cases hlt : k < 64
    · have hkk := ShaMath.kk_lt k hlt
      have hww := HWL.out k
      have hidx : ∀ w : World, (Instr.index 65 (.agg (uvs ShaMath.kk).toArray) (.int .i64 (k : Int))).run Tryd.prog w = .ok (.int .u32 (ShaMath.kk.getD k 0 : Nat)) w := fun w => run_index_words _ 64 Tryd.underlying65 _ rfl k hlt w
      have cw := q5.cell k (by rw [H64.out]; exact hlt)
      generalize hR : ShaMath.rnds s W k = R at *
      obtain ⟨a, b, c', d, e, f, g, x7⟩ := R
      obtain ⟨la, lb, lc, ld, le, lf, lg, lh⟩ := hst
      simp only at la lb lc ld le lf lg lh
      have c0 := q6.cell 0 (by simp [stl])
      have c1 := q6.cell 1 (by simp [stl])
      have c2 := q6.cell 2 (by simp [stl])
      have c3 := q6.cell 3 (by simp [stl])
      have c4 := q6.cell 4 (by simp [stl])
      have c5 := q6.cell 5 (by simp [stl])
      have c6 := q6.cell 6 (by simp [stl])
      have c7 := q6.cell 7 (by simp [stl])
      simp only [stl, List.getD_cons_zero, List.getD_cons_succ] at c0 c1 c2 c3 c4 c5 c6 c7
      have HR := Lib.hid hR
      clear hR q5 q6
      generalize hKK : ShaMath.kk.getD k 0 = kv at *
      generalize hWW : W.getD k 0 = wv at *
      have hkl : (k : Int) < 64 := by omega
      go_wp2_with fail
      go_quiet (fail)
      obtain ⟨wm, hwm⟩ : ∃ x : World, x = wr.drewN nq := ⟨_, rfl⟩
      have Q6 : Hid (Row32 wm w2.heap.size 44 (stl ⟨a, b, c', d, e, f, g, x7⟩)) := by rw [hwm]; exact Lib.hid Q6.out
      have Q2 : Hid (Row32 wm w.heap.size 44 (stl s)) := by rw [hwm]; exact Lib.hid Q2.out
      have Q4 : Hid (Row32 wm (w.heap.size + 1) 44 (List.replicate 8 0)) := by rw [hwm]; exact Lib.hid Q4.out
      have Q5 : Hid (Row32 wm w1.heap.size 65 W) := by rw [hwm]; exact Lib.hid Q5.out
      have QB : Hid (Below w.heap.size w wm) := by rw [hwm]; exact Lib.hid (below_drewN QB.out nq)
      have d1 : wm.cell? ⟨w2.heap.size, 1, none⟩ = some (.int .u32 (b : Int)) := by rw [hwm]; exact c1
      have d2 : wm.cell? ⟨w2.heap.size, 2, none⟩ = some (.int .u32 (c' : Int)) := by rw [hwm]; exact c2
      have d3 : wm.cell? ⟨w2.heap.size, 3, none⟩ = some (.int .u32 (d : Int)) := by rw [hwm]; exact c3
      have d5 : wm.cell? ⟨w2.heap.size, 5, none⟩ = some (.int .u32 (f : Int)) := by rw [hwm]; exact c5
      have d6 : wm.cell? ⟨w2.heap.size, 6, none⟩ = some (.int .u32 (g : Int)) := by rw [hwm]; exact c6
      have d7 : wm.cell? ⟨w2.heap.size, 7, none⟩ = some (.int .u32 (x7 : Int)) := by rw [hwm]; exact c7
      have dw : wm.cell? ⟨w1.heap.size, k, none⟩ = some (.int .u32 (wv : Int)) := by rw [hwm]; exact cw
      rw [← hwm]
      have C3 := Lib.hid d3
      clear hwm c0 c1 c2 c3 c4 c5 c6 c7 cw d3 hidx
      have hb1 := bg1_spell e le
      have hch := ch_spell e f g le lf lg
      obtain ⟨y0, gy0⟩ := named (ShaMath.bg1 e)
      obtain ⟨y1, gy1⟩ := named (ShaMath.ch e f g)
      rw [gy0] at hb1; rw [gy1] at hch
      have Y0 := Lib.hid gy0
      have Y1 := Lib.hid gy1
      clear gy0 gy1
      go_wp2_with fail
      go_quiet ((go_at_call 42; first | (with_reducible exact Calls.quiet_of_same (rot6Q e _ le)) | (with_reducible exact Calls.quiet_of_same (rot11Q e _ le)) | (with_reducible exact Calls.quiet_of_same (rot25Q e _ le))))
      obtain ⟨wn, hwm⟩ : ∃ x : World, x = wm.drewN nq := ⟨_, rfl⟩
      have Q6 : Hid (Row32 wn w2.heap.size 44 (stl ⟨a, b, c', d, e, f, g, x7⟩)) := by rw [hwm]; exact Lib.hid Q6.out
      have Q2 : Hid (Row32 wn w.heap.size 44 (stl s)) := by rw [hwm]; exact Lib.hid Q2.out
      have Q4 : Hid (Row32 wn (w.heap.size + 1) 44 (List.replicate 8 0)) := by rw [hwm]; exact Lib.hid Q4.out
      have Q5 : Hid (Row32 wn w1.heap.size 65 W) := by rw [hwm]; exact Lib.hid Q5.out
      have QB : Hid (Below w.heap.size w wn) := by rw [hwm]; exact Lib.hid (below_drewN QB.out nq)
      have e1 : wn.cell? ⟨w2.heap.size, 1, none⟩ = some (.int .u32 (b : Int)) := by rw [hwm]; exact d1
      have e2 : wn.cell? ⟨w2.heap.size, 2, none⟩ = some (.int .u32 (c' : Int)) := by rw [hwm]; exact d2
      rw [← hwm]
      clear hwm d1 d2 d5 d6 d7 dw C3 hb1 hch
      have hb0 := bg0_spell a la
      have hmj := maj_spell a b c' la lb lc
      obtain ⟨z0, gz0⟩ := named (ShaMath.bg0 a)
      obtain ⟨z1, gz1⟩ := named (ShaMath.maj a b c')
      rw [gz0] at hb0; rw [gz1] at hmj
      have Z0 := Lib.hid gz0
      have Z1 := Lib.hid gz1
      clear gz0 gz1
      go_wp2_with fail
      go_quiet ((go_at_call 42; first | (with_reducible exact Calls.quiet_of_same (rot2Q a _ la)) | (with_reducible exact Calls.quiet_of_same (rot13Q a _ la)) | (with_reducible exact Calls.quiet_of_same (rot22Q a _ la))))
      clear hb0 hmj e1 e2
      obtain ⟨wo, hwm⟩ : ∃ x : World, x = wn.drewN nq := ⟨_, rfl⟩
      have Q6 : Hid (Row32 wo w2.heap.size 44 (stl ⟨a, b, c', d, e, f, g, x7⟩)) := by rw [hwm]; exact Lib.hid Q6.out
      have Q2 : Hid (Row32 wo w.heap.size 44 (stl s)) := by rw [hwm]; exact Lib.hid Q2.out
      have Q4 : Hid (Row32 wo (w.heap.size + 1) 44 (List.replicate 8 0)) := by rw [hwm]; exact Lib.hid Q4.out
      have Q5 : Hid (Row32 wo w1.heap.size 65 W) := by rw [hwm]; exact Lib.hid Q5.out
      have QB : Hid (Below w.heap.size w wo) := by rw [hwm]; exact Lib.hid (below_drewN QB.out nq)
      rw [← hwm]
      clear hwm
      go_wp2_with fail
      go_still_tail 2, (by kernel_rfl)
      refine wpList_copy_splice rfl (.tmp 78) (.tmp 79) 51 51 rfl 42 Tryd.underlying51 (by kernel_rfl) (some ⟨w2.heap.size, 1, none⟩) (some ⟨w2.heap.size, 0, none⟩) 7 7 7 8 rfl rfl w2.heap.size 1 (uvs (stl ⟨a, b, c', d, e, f, g, x7⟩)) 44 Q6.out.drew (uvs [a, b, c', d, e, f, g]) rfl ?_ (by simp [uvs, stl]) (uvs_one _) w2.heap.size wo.drew (Below.refl _ _) (Nat.le_refl _) ?_
      · intro _
        refine ⟨rfl, _, rfl, fun j v hj => ?_⟩
        rw [Addr.add_lit, Nat.zero_add]
        show wo.cell? _ = _
        rw [block_cell Q6.out]
        match j, hj with
        | 0, hj => simpa [uvs, stl] using hj
        | 1, hj => simpa [uvs, stl] using hj
        | 2, hj => simpa [uvs, stl] using hj
        | 3, hj => simpa [uvs, stl] using hj
        | 4, hj => simpa [uvs, stl] using hj
        | 5, hj => simpa [uvs, stl] using hj
        | 6, hj => simpa [uvs, stl] using hj
        | j + 7, hj => simp [uvs] at hj
      intro wp hp hbp
      have q6 : Row32 wp w2.heap.size 44 [a, a, b, c', d, e, f, g] := hp.out
      have Q6 := Lib.hid q6
      have Q2 : Hid (Row32 wp w.heap.size 44 (stl s)) := Lib.hid ((hbp.block w.heap.size (by omega)).trans Q2.out : Row32 wp w.heap.size 44 (stl s))
      have Q4 : Hid (Row32 wp (w.heap.size + 1) 44 (List.replicate 8 0)) := Lib.hid ((hbp.block (w.heap.size + 1) (by omega)).trans Q4.out : Row32 wp (w.heap.size + 1) 44 (List.replicate 8 0))
      have Q5 : Hid (Row32 wp w1.heap.size 65 W) := Lib.hid ((hbp.block w1.heap.size (by omega)).trans Q5.out : Row32 wp w1.heap.size 65 W)
      have QB := Lib.hid ((QB.out.drew).trans (hbp.mono (by omega)))
      have f4 := q6.cell 4 (by simp)
      have f0 := q6.cell 0 (by simp)
      simp only [List.getD_cons_zero, List.getD_cons_succ] at f0 f4
      have g4 : wp.frozen? ⟨w2.heap.size, 4, none⟩ = false := block_free q6
      have g0 : wp.frozen? ⟨w2.heap.size, 0, none⟩ = false := block_free q6
      clear q6 hp hbp
      go_wp2_with fail
      go_roundw
      case rel =>
        have hv4 : ((d : Int) + ((x7 : Int) + (y0 : Int) + (y1 : Int) + (kv : Int) + (wv : Int))) % 4294967296 = (((d + ShaMath.tt ⟨a, b, c', d, e, f, g, x7⟩ kv wv) % 4294967296 : Nat) : Int) := by
          unfold ShaMath.tt
          simp only
          rw [Y0.out, Y1.out]
          omega
        have hv0 : ((x7 : Int) + (y0 : Int) + (y1 : Int) + (kv : Int) + (wv : Int) + ((z0 : Int) + (z1 : Int))) % 4294967296 = (((ShaMath.tt ⟨a, b, c', d, e, f, g, x7⟩ kv wv + ShaMath.uu ⟨a, b, c', d, e, f, g, x7⟩) % 4294967296 : Nat) : Int) := by
          unfold ShaMath.tt ShaMath.uu
          simp only
          rw [Y0.out, Y1.out, Z0.out, Z1.out]
          omega
        refine ⟨k + 1, by omega, by go_num, ?_, (Q2.out.far (by omega) _ _).far (by omega) _ _, (Q4.out.far (by omega) _ _).far (by omega) _ _, (Q5.out.far (by omega) _ _).far (by omega) _ _, (QB.out.setCell (by simp; omega) _).setCell (by simp; omega) _⟩
        have := (Q6.out.set 4 _ _ hv4).set 0 _ _ hv0
        rw [HNX2.out]
        exact this
      case measure => simp [intOf]; omega
    · have hk64 : k = 64 := by omega
      obtain ⟨X, hX⟩ : ∃ X, ShaMath.rnds s W 64 = X := ⟨_, rfl⟩
      rw [hk64, hX] at q6
      have hfin : ShaMath.next s l = ShaMath.addSt s X := by rw [HNX.out, hX]
      have HFIN := Lib.hid hfin
      have Q6 := Lib.hid q6
      clear hX q5 q6 hst HNX2 hfin HNX hk64
      go_wp2_with fail
      go_loopw [91] (fun i wr => AddRel s X w w2.heap.size i wr) (fun i _ => 8 - (intOf i).toNat)
      case atStart => exact ⟨0, by decide, rfl, Q6.out, Q2.out, Q4.out, QB.out⟩
      case round =>
        clear Q6 Q2 Q4 Q5 QB hlt hk
        obtain ⟨k, hk, rfl, q6, q2, q4, qb⟩ := hrel
        have Q6 := Lib.hid q6
        have Q2 := Lib.hid q2
        have Q4 := Lib.hid q4
        have QB := Lib.hid qb
        clear q4 qb
        by_cases hlt : k < 8
        · have c2 := q2.cell k (by rw [addL_length]; exact hlt)
          rw [addL_getD _ _ _ hlt] at c2
          have c6 := q6.cell k (by simpa [stl] using hlt)
          have hset := addL_set (stl s) (stl X) k hlt
          have hf : ∀ wz : World, Row32 wz w.heap.size 44 (addL (stl s) (stl X) k) → wz.frozen? ⟨w.heap.size, k, none⟩ = false := fun wz h => block_free h
          have g2 := hf wr q2
          generalize (stl s).getD k 0 = sv at *
          generalize (stl X).getD k 0 = xv at *
          have HSET := Lib.hid hset
          clear hset hf q2 q6
          have hkl : (k : Int) < 8 := by omega
          go_wp2_with fail
          go_still_tail 7, (by kernel_rfl)
          clear c6
          go_wp2_with fail
          go_roundw
          case rel =>
            refine ⟨k + 1, by omega, by go_num, Q6.out.drew.far (by omega) _ _, ?_, Q4.out.drew.far (by omega) _ _, QB.out.drew.setCell (by simp) _⟩
            have := Q2.out.drew.set k (((sv : Int) + (xv : Int)) % 4294967296) ((sv + xv) % 4294967296) (by omega)
            rw [HSET.out] at this
            exact this
          case measure => simp [intOf]; omega
        · obtain rfl : k = 8 := by omega
          rw [addL_eight] at q2
          generalize hM : stl (ShaMath.addSt s X) = M at *
          have hml : M.length = 8 := by rw [← hM]; rfl
          have HM := Lib.hid hM
          have hfin := Q4.out.store (m := M) (by rw [hml]; rfl)
          have hsz : (uvs M).toArray.size = 8 := by rw [List.size_toArray, uvs_length, hml]
          have hi44 := I44.out
          rw [← hsz] at hi44
          have hth : wr.there (w.heap.size + 1) 0 (uvs M).toArray.size := by rw [hsz]; exact Q4.out.there
          have HF := Lib.hid hfin
          have HT := Lib.hid hth
          have HI := Lib.hid hi44
          have Q2 := Lib.hid q2
          have HO := Lib.hid (all_oneCell_toArray (uvs_one M))
          clear hM q2 q6 hfin hml hsz hi44 hth hlt hk
          go_wp2_with (first
            | refine wpList_load_row rfl 44 (.tmp 2) rfl w.heap.size rfl 44 (uvs M).toArray (0, 0) _ Q2.out Tryd.underlying44 rfl HI.out ?_
            | refine wpList_store_mid rfl 44 (.tmp 4) (.tmp 103) rfl (w.heap.size + 1) 0 (uvs M).toArray rfl rfl HT.out HI.out HO.out ?_)
          refine bodyPost_ret (v := .agg (uvs M).toArray) (results_cell_row rfl _ _ (w.heap.size + 1) 44 (uvs M).toArray (0, 0) _ rfl HF.out Tryd.underlying44 rfl HI.out) rfl ⟨by rw [HFIN.out, HM.out], Below.setCells (by omega) _ _ _ QB.out⟩
end Go.Proofs.YtnjkpoljcekjcaaDoor
