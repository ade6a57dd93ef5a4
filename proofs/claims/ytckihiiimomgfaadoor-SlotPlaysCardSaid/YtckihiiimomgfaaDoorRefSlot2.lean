/- The contract of the document's Open of slots. -/
import Derived.Test.YtckihiiimomgfaaDoorRefSlot1
import Derived.Test.YtckihiiimomgfaaDoorSlot4
namespace Go.Proofs.YtckihiiimomgfaaDoor
open Go.RowKit DiskMath
/-- the document's slots lie in block sp, their disk in p -/
structure RSlotB (w : World) (sp p fr : Nat) (s : SlotMath.Sl) : Prop where
  blk : w.heap[sp]? = some (.cells #[.pointer (some ⟨p, 0, none⟩), .int .i64 (fr : Nat), .int .i64 (s.size : Nat), .int .i64 (s.epoch : Nat), .int .i64 (s.seq : Nat), .int .i64 (s.number : Nat), .int .i64 (s.last : Nat), .int .i64 (s.err : Nat)] 57 (0, 0))
section
variable {w w' : World} {sp p fr : Nat} {s : SlotMath.Sl}
theorem RSlotB.cells (h : RSlotB w sp p fr s) : w.cell? ⟨sp, 0, none⟩ = some (.pointer (some ⟨p, 0, none⟩)) ∧ w.cell? ⟨sp, 1, none⟩ = some (.int .i64 (fr : Nat)) ∧ w.cell? ⟨sp, 2, none⟩ = some (.int .i64 (s.size : Nat)) ∧ w.cell? ⟨sp, 3, none⟩ = some (.int .i64 (s.epoch : Nat)) ∧ w.cell? ⟨sp, 4, none⟩ = some (.int .i64 (s.seq : Nat)) ∧ w.cell? ⟨sp, 5, none⟩ = some (.int .i64 (s.number : Nat)) ∧ w.cell? ⟨sp, 6, none⟩ = some (.int .i64 (s.last : Nat)) ∧ w.cell? ⟨sp, 7, none⟩ = some (.int .i64 (s.err : Nat)) ∧ ∀ i, w.frozen? ⟨sp, i, none⟩ = false :=
  ⟨block_cell h.blk, block_cell h.blk, block_cell h.blk, block_cell h.blk, block_cell h.blk, block_cell h.blk, block_cell h.blk, block_cell h.blk, fun _ => block_free h.blk⟩
theorem RSlotB.lt (h : RSlotB w sp p fr s) : sp < w.heap.size := heap_lt h.blk
theorem RSlotB.kept {F : Nat → Prop} (h : RSlotB w sp p fr s) (hk : Kept F w w') (hp : ¬ F sp) : RSlotB w' sp p fr s := ⟨hk.heap h.blk hp⟩
theorem RSlotB.below (h : RSlotB w sp p fr s) (hb : Below w.heap.size w w') : RSlotB w' sp p fr s := ⟨(hb.block sp h.lt).trans h.blk⟩
theorem RSlotB.drew (h : RSlotB w sp p fr s) : RSlotB w.drew sp p fr s := ⟨h.blk⟩
theorem RSlotB.setSeq (h : RSlotB w sp p fr s) (x : Int) (k : Nat) (hx : x = (k : Int)) : RSlotB (w.setCell ⟨sp, 4, none⟩ (.int .i64 x)) sp p fr { s with seq := k } := by subst hx; exact ⟨set_block h.blk 4 _⟩
theorem RSlotB.setNumber (h : RSlotB w sp p fr s) (x : Int) (k : Nat) (hx : x = (k : Int)) : RSlotB (w.setCell ⟨sp, 5, none⟩ (.int .i64 x)) sp p fr { s with number := k } := by subst hx; exact ⟨set_block h.blk 5 _⟩
theorem RSlotB.setLast (h : RSlotB w sp p fr s) (x : Int) (k : Nat) (hx : x = (k : Int)) : RSlotB (w.setCell ⟨sp, 6, none⟩ (.int .i64 x)) sp p fr { s with last := k } := by subst hx; exact ⟨set_block h.blk 6 _⟩
theorem RSlotB.setErr (h : RSlotB w sp p fr s) (x : Int) (k : Nat) (hx : x = (k : Int)) : RSlotB (w.setCell ⟨sp, 7, none⟩ (.int .i64 x)) sp p fr { s with err := k } := by subst hx; exact ⟨set_block h.blk 7 _⟩
end
/-- what the document's Open answers -/
def ROpsPost (p fr size ep : Nat) (r : Nat × Nat × List UInt8) (w : World) (e : Ending) (w' : World) : Prop :=
  ∃ sp v, e = .returned (.tuple #[.pointer (some ⟨sp, 0, none⟩), v, .int .i64 0]) ∧ w.heap.size ≤ sp ∧ RSlotB w' sp p fr ⟨size, ep, 0, r.1, r.2.1, 0⟩ ∧ Own8 w' w.heap.size v r.2.2 ∧ Below w.heap.size w w'
set_option maxRecDepth 100000 in
set_option maxHeartbeats 4000000 in
theorem refOpen10_yes (w : World) (G : Nat → Prop) (p : Nat) (d : Dk) (c fr size ep : Nat) (h : RDiskAt w G p d c) (h1 : 1 ≤ size) (hf : fr + 2 * size ≤ d.fast.length) (hd : d.fast.length ≤ 1000) (hep : ep ≤ 4294967295) :
    Calls Tryd.prog 23 #[.pointer (some ⟨p, 0, none⟩), .int .i64 fr, .int .i64 size, .int .i64 ep] w (ROpsPost p fr size ep (SlotMath.opens slDec (view d) fr size) w) := by
  have hh1 := refHas_any w G p d c fr size h (by omega) hd h1
  have hh2 := fun w' (hb : Below w.heap.size w w') => refHas_any w' G p d c (fr + size) size (h.below hb) (by omega) hd h1
  have hop : SlotMath.opens slDec (view d) fr size = if (SlotMath.has slDec (view d) fr size).1 < (SlotMath.has slDec (view d) (fr + size) size).1 then ((SlotMath.has slDec (view d) (fr + size) size).1, 1, (SlotMath.has slDec (view d) (fr + size) size).2)
      else if 0 < (SlotMath.has slDec (view d) fr size).1 then ((SlotMath.has slDec (view d) fr size).1, 0, (SlotMath.has slDec (view d) fr size).2) else (0, 1, []) := rfl
  obtain ⟨⟨na, xa⟩, hxa⟩ : ∃ x, SlotMath.has slDec (view d) fr size = x := ⟨_, rfl⟩
  obtain ⟨⟨nb, xb⟩, hxb⟩ : ∃ x, SlotMath.has slDec (view d) (fr + size) size = x := ⟨_, rfl⟩
  rw [hxa] at hh1 hop
  simp only [hxb, Int.natCast_add] at hh2
  rw [hxb] at hop
  simp only at hop
  obtain ⟨_, vf, vw, ar, lf, hB⟩ := h
  have c0 := hB.cells.1
  obtain ⟨Af, cf, rfl, _⟩ := hB.fast.shape
  obtain ⟨n, hn⟩ : ∃ n, d.fast.length = n := ⟨_, rfl⟩
  rw [hn] at c0 hf hd
  have d1 : decide ((fr : Int) < 0) = false := decide_eq_false (by omega)
  have d2 : decide ((size : Int) < 1) = false := decide_eq_false (by omega)
  have d3 : decide ((n : Int) < (size : Int)) = false := decide_eq_false (by omega)
  have s1 : IntKind.i64.wrap (2 * (size : Int)) = 2 * (size : Int) := by rw [IntKind.wrap_i64]; omega
  have s2 : IntKind.i64.wrap ((n : Int) - (fr : Int)) = (n : Int) - (fr : Int) := by rw [IntKind.wrap_i64]; omega
  have s3 : IntKind.i64.wrap ((fr : Int) + (size : Int)) = (fr : Int) + (size : Int) := by rw [IntKind.wrap_i64]; omega
  have d4 : decide ((n : Int) - (fr : Int) < 2 * (size : Int)) = false := decide_eq_false (by omega)
  have d5 : decide ((ep : Int) < 0) = false := decide_eq_false (by omega)
  have d6 : decide (4294967295 < (ep : Int)) = false := decide_eq_false (by omega)
  have HH1 := Lib.hid hh1
  have HH2 := Lib.hid hh2
  have HOP := Lib.hid hop
  clear hh1 hh2 hop hxa hxb hB hn
  go_enter Tryd.func23, Tryd.ntmps23
  go_wp2_with fail
  refine HH1.out.mono ?_
  rintro e w1 ⟨v1, rfl, ho1, hb1⟩
  simp only at ho1
  obtain ⟨A1, n1, e1, rfl, hn1, _, _⟩ := ho1.shape'
  have HO1 := Lib.hid ho1
  have HB1 := Lib.hid hb1
  have hs1 := hb1.size
  clear ho1 hb1 hn1 HH1 c0 d1 d2 d3 s1 s2 d4 d5 d6
  go_wp2_with fail
  refine (HH2.out _ HB1.out).mono ?_
  rintro e w2 ⟨v2, rfl, ho2, hb2⟩
  simp only at ho2
  obtain ⟨A2, n2, e2, rfl, hn2, _, _⟩ := ho2.shape'
  have HO2 := Lib.hid (ho2.base hs1)
  have HO1' := Lib.hid (HO1.out.below hb2)
  have HB2 := Lib.hid (below_then HB1.out hb2)
  have hs2 := HB2.out.size
  clear ho2 hb2 hn2 HH2 HO1 HB1 s3
  by_cases hab : na < nb
  · rw [if_pos hab] at HOP
    have t1 : decide ((na : Int) < (nb : Int)) = true := decide_eq_true (by omega)
    have t1' : decide (na < nb) = true := decide_eq_true hab
    go_wp2_with fail
    go_ret3
    rw [HOP.out]
    exact ⟨w2.heap.size, _, rfl, hs2, ⟨heap_alloc_new w2 _⟩, HO2.out.below (below_alloc _ _), below_then HB2.out (below_alloc _ _)⟩
  · rw [if_neg hab] at HOP
    have t1 : decide ((na : Int) < (nb : Int)) = false := decide_eq_false (by omega)
    have t1' : decide (na < nb) = false := decide_eq_false hab
    by_cases ha : 0 < na
    · rw [if_pos ha] at HOP
      have t2 : ((na : Int) == 0) = false := by rw [beq_eq_false_iff_ne]; omega
      go_wp2_with fail
      go_ret3
      rw [HOP.out]
      exact ⟨w2.heap.size, _, rfl, hs2, ⟨heap_alloc_new w2 _⟩, HO1'.out.below (below_alloc _ _), below_then HB2.out (below_alloc _ _)⟩
    · rw [if_neg ha] at HOP
      obtain rfl : na = 0 := by omega
      go_wp2_with fail
      go_ret3
      rw [HOP.out]
      exact ⟨w2.heap.size, _, rfl, hs2, ⟨heap_alloc_new w2 _⟩, Own8.nil _ _, below_then HB2.out (below_alloc _ _)⟩
/-- slots that can't be opened -/
theorem refOpen10_no (w : World) (G : Nat → Prop) (p : Nat) (d : Dk) (c : Nat) (a sz ep : Int) (h : RDiskAt w G p d c) (hd : d.fast.length ≤ 1000) (hno : ¬ (SlotsOk d.fast.length a sz ∧ 0 ≤ ep ∧ ep ≤ 4294967295)) (ha1 : a ≤ 9223372036854775807) :
    Calls Tryd.prog 23 #[.pointer (some ⟨p, 0, none⟩), .int .i64 a, .int .i64 sz, .int .i64 ep] w fun e w' => e = .returned (.tuple #[.pointer none, .slice none 0 0, .int .i64 2]) ∧ w = w' := by
  obtain ⟨_, vf, vw, ar, lf, hB⟩ := h
  have c0 := hB.cells.1
  obtain ⟨Af, cf, rfl, _⟩ := hB.fast.shape
  obtain ⟨n, hn⟩ : ∃ n, d.fast.length = n := ⟨_, rfl⟩
  rw [hn] at c0 hno hd
  clear hB hn
  have hx : (decide (a < 0) = true) ∨ (decide (a < 0) = false ∧ decide (sz < 1) = true) ∨ (decide (a < 0) = false ∧ decide (sz < 1) = false ∧ decide ((n : Int) < sz) = true) ∨
      (decide (a < 0) = false ∧ decide (sz < 1) = false ∧ decide ((n : Int) < sz) = false ∧ IntKind.i64.wrap (2 * sz) = 2 * sz ∧ IntKind.i64.wrap ((n : Int) - a) = (n : Int) - a ∧ decide ((n : Int) - a < 2 * sz) = true) ∨
      (decide (a < 0) = false ∧ decide (sz < 1) = false ∧ decide ((n : Int) < sz) = false ∧ IntKind.i64.wrap (2 * sz) = 2 * sz ∧ IntKind.i64.wrap ((n : Int) - a) = (n : Int) - a ∧ decide ((n : Int) - a < 2 * sz) = false ∧ decide (ep < 0) = true) ∨
      (decide (a < 0) = false ∧ decide (sz < 1) = false ∧ decide ((n : Int) < sz) = false ∧ IntKind.i64.wrap (2 * sz) = 2 * sz ∧ IntKind.i64.wrap ((n : Int) - a) = (n : Int) - a ∧ decide ((n : Int) - a < 2 * sz) = false ∧ decide (ep < 0) = false ∧ decide (4294967295 < ep) = true) := by
    by_cases q1 : a < 0
    · exact .inl (decide_eq_true q1)
    · refine .inr ?_
      by_cases q2 : sz < 1
      · exact .inl ⟨decide_eq_false q1, decide_eq_true q2⟩
      · refine .inr ?_
        by_cases q3 : (n : Int) < sz
        · exact .inl ⟨decide_eq_false q1, decide_eq_false q2, decide_eq_true q3⟩
        · refine .inr ?_
          have w1 : IntKind.i64.wrap (2 * sz) = 2 * sz := by rw [IntKind.wrap_i64]; omega
          have w2 : IntKind.i64.wrap ((n : Int) - a) = (n : Int) - a := by rw [IntKind.wrap_i64]; omega
          by_cases q4 : (n : Int) - a < 2 * sz
          · exact .inl ⟨decide_eq_false q1, decide_eq_false q2, decide_eq_false q3, w1, w2, decide_eq_true q4⟩
          · refine .inr ?_
            by_cases q5 : ep < 0
            · exact .inl ⟨decide_eq_false q1, decide_eq_false q2, decide_eq_false q3, w1, w2, decide_eq_false q4, decide_eq_true q5⟩
            · exact .inr ⟨decide_eq_false q1, decide_eq_false q2, decide_eq_false q3, w1, w2, decide_eq_false q4, decide_eq_false q5, decide_eq_true (Int.not_le.1 fun q6 => hno ⟨⟨by omega, by omega, by omega, by omega⟩, by omega, q6⟩)⟩
  clear hno hd ha1
  rcases hx with q1 | ⟨q1, q2⟩ | ⟨q1, q2, q3⟩ | ⟨q1, q2, q3, w1, w2, q4⟩ | ⟨q1, q2, q3, w1, w2, q4, q5⟩ | ⟨q1, q2, q3, w1, w2, q4, q5, q6⟩
  all_goals
    go_enter Tryd.func23, Tryd.ntmps23
    go_wp2_with fail
    go_ret3
    exact ⟨rfl, rfl⟩
end Go.Proofs.YtckihiiimomgfaaDoor
