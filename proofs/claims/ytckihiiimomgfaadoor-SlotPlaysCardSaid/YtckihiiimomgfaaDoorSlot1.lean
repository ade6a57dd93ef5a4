/- Slots in memory; the contracts of right, ok, Number, begin, parts. -/
import Derived.Test.YtckihiiimomgfaaDoorWal5
import Derived.Test.YtckihiiimomgfaaDoorGMath
namespace Go.Proofs.YtckihiiimomgfaaDoor
open Go.RowKit DiskMath
/-- slots lie in block sp, their disk in p -/
structure SlotB (w : World) (sp p fr : Nat) (s : SlotMath.Sl) : Prop where
  blk : w.heap[sp]? = some (.cells #[.pointer (some ⟨p, 0, none⟩), .int .i64 (fr : Nat), .int .i64 (s.size : Nat), .int .i64 (s.epoch : Nat), .int .i64 (s.seq : Nat), .int .i64 (s.number : Nat), .int .i64 (s.last : Nat), .int .i64 (s.err : Nat)] 84 (0, 0))
section
variable {w w' : World} {sp p fr : Nat} {s : SlotMath.Sl}
theorem SlotB.cells (h : SlotB w sp p fr s) : w.cell? ⟨sp, 0, none⟩ = some (.pointer (some ⟨p, 0, none⟩)) ∧ w.cell? ⟨sp, 1, none⟩ = some (.int .i64 (fr : Nat)) ∧ w.cell? ⟨sp, 2, none⟩ = some (.int .i64 (s.size : Nat)) ∧ w.cell? ⟨sp, 3, none⟩ = some (.int .i64 (s.epoch : Nat)) ∧ w.cell? ⟨sp, 4, none⟩ = some (.int .i64 (s.seq : Nat)) ∧ w.cell? ⟨sp, 5, none⟩ = some (.int .i64 (s.number : Nat)) ∧ w.cell? ⟨sp, 6, none⟩ = some (.int .i64 (s.last : Nat)) ∧ w.cell? ⟨sp, 7, none⟩ = some (.int .i64 (s.err : Nat)) ∧ ∀ i, w.frozen? ⟨sp, i, none⟩ = false :=
  ⟨block_cell h.blk, block_cell h.blk, block_cell h.blk, block_cell h.blk, block_cell h.blk, block_cell h.blk, block_cell h.blk, block_cell h.blk, fun _ => block_free h.blk⟩
theorem SlotB.lt (h : SlotB w sp p fr s) : sp < w.heap.size := heap_lt h.blk
theorem SlotB.kept {F : Nat → Prop} (h : SlotB w sp p fr s) (hk : Kept F w w') (hp : ¬ F sp) : SlotB w' sp p fr s := ⟨hk.heap h.blk hp⟩
theorem SlotB.below (h : SlotB w sp p fr s) (hb : Below w.heap.size w w') : SlotB w' sp p fr s := ⟨(hb.block sp h.lt).trans h.blk⟩
theorem SlotB.setSeq (h : SlotB w sp p fr s) (x : Int) (k : Nat) (hx : x = (k : Int)) : SlotB (w.setCell ⟨sp, 4, none⟩ (.int .i64 x)) sp p fr { s with seq := k } := by subst hx; exact ⟨set_block h.blk 4 _⟩
theorem SlotB.setNumber (h : SlotB w sp p fr s) (x : Int) (k : Nat) (hx : x = (k : Int)) : SlotB (w.setCell ⟨sp, 5, none⟩ (.int .i64 x)) sp p fr { s with number := k } := by subst hx; exact ⟨set_block h.blk 5 _⟩
theorem SlotB.setLast (h : SlotB w sp p fr s) (x : Int) (k : Nat) (hx : x = (k : Int)) : SlotB (w.setCell ⟨sp, 6, none⟩ (.int .i64 x)) sp p fr { s with last := k } := by subst hx; exact ⟨set_block h.blk 6 _⟩
theorem SlotB.setErr (h : SlotB w sp p fr s) (x : Int) (k : Nat) (hx : x = (k : Int)) : SlotB (w.setCell ⟨sp, 7, none⟩ (.int .i64 x)) sp p fr { s with err := k } := by subst hx; exact ⟨set_block h.blk 7 _⟩
end
theorem slotOk_any (w : World) (sp p fr : Nat) (s : SlotMath.Sl) (h : SlotB w sp p fr s) : Calls Tryd.prog 45 #[.pointer (some ⟨sp, 0, none⟩)] w fun e w' => e = .returned (.bool true) ∧ w = w' := by
  obtain ⟨c0, _⟩ := h.cells
  clear h
  go_enter Tryd.func45, Tryd.ntmps45
  go_wp2_with fail
  go_ret
  exact ⟨rfl, rfl⟩
theorem slotNumber_any (w : World) (sp p fr : Nat) (s : SlotMath.Sl) (h : SlotB w sp p fr s) : Calls Tryd.prog 28 #[.pointer (some ⟨sp, 0, none⟩)] w fun e w' => e = .returned (.int .i64 (s.number : Nat)) ∧ w = w' := by
  obtain ⟨_, _, _, _, _, c5, _⟩ := h.cells
  have HH := Lib.hid h
  clear h
  go_enter Tryd.func28, Tryd.ntmps28
  go_wp2_with fail
  refine (slotOk_any w sp p fr s HH.out).mono ?_
  rintro e w' ⟨rfl, rfl⟩
  go_wp2_with fail
  go_ret
  exact ⟨rfl, rfl⟩
theorem slotBegin_any (w : World) (sp p fr i : Nat) (s : SlotMath.Sl) (h : SlotB w sp p fr s) (hi : i ≤ 1) (hf : fr ≤ 65536) (hs : s.size ≤ 65536) : Calls Tryd.prog 79 #[.pointer (some ⟨sp, 0, none⟩), .int .i64 i] w fun e w' => e = .returned (.int .i64 ((fr + i * s.size : Nat) : Int)) ∧ Below w.heap.size w w' := by
  obtain ⟨_, c1, c2, _⟩ := h.cells
  obtain ⟨size, ep, sq, nu, la, er⟩ := s
  simp only at *
  have e1 : (i : Int) * (size : Int) = ((i * size : Nat) : Int) := by rw [Int.natCast_mul]
  have hm : i * size ≤ 65536 := by
    have : i * size ≤ 1 * size := Nat.mul_le_mul_right _ hi
    omega
  obtain ⟨m, hm'⟩ : ∃ m, i * size = m := ⟨_, rfl⟩
  rw [hm'] at e1 hm ⊢
  have s1 : IntKind.i64.wrap ((i : Int) * (size : Int)) = (m : Int) := by rw [e1, IntKind.wrap_i64]; omega
  have s2 : IntKind.i64.wrap ((fr : Int) + (m : Int)) = (fr : Int) + (m : Int) := by rw [IntKind.wrap_i64]; omega
  clear h hm'
  go_enter Tryd.func79, Tryd.ntmps79
  go_upto_region 1 with (fail)
  go_quiet (fail)
  go_wp2_with fail
  go_ret
  exact ⟨ret_int' (by omega), below_refl_drewN _ _ _⟩
/-- whether slots may lie so -/
def SlotsOk (n : Nat) (a sz : Int) : Prop := 0 ≤ a ∧ 1 ≤ sz ∧ sz ≤ n ∧ a ≤ n - 2 * sz
theorem slotRight_yes (w : World) (F : Nat → Prop) (p : Nat) (d : Dk) (a sz : Int) (h : DiskAt w F p d) (hd : d.fast.length ≤ 65536) (hr : SlotsOk d.fast.length a sz) :
    Calls Tryd.prog 42 #[.pointer (some ⟨p, 0, none⟩), .int .i64 a, .int .i64 sz] w fun e w' => e = .returned (.int .i64 0) ∧ w = w' := by
  obtain ⟨gf, gm, n, vw, hb, _⟩ := h
  obtain ⟨h1, h2, h3, h4⟩ := hr
  rw [hb.len] at h3 h4 hd
  have hpos := hb.pos
  have HH := Lib.hid hb
  clear hb
  have hne : ((n : Int) == 0) = false := by rw [beq_eq_false_iff_ne]; omega
  have d1 : decide (a < 0) = false := decide_eq_false (by omega)
  have d2 : decide (sz < 1) = false := decide_eq_false (by omega)
  have d3 : decide ((n : Int) < sz) = false := decide_eq_false (by omega)
  have d4 : decide ((n : Int) - 2 * sz < a) = false := decide_eq_false (by omega)
  go_enter Tryd.func42, Tryd.ntmps42
  go_wp2_with fail
  refine (diskLen_any w p gf gm n vw d HH.out).mono ?_
  rintro e w' ⟨rfl, rfl⟩
  go_wp2_with fail
  refine (diskLen_any w p gf gm n vw d HH.out).mono ?_
  rintro e w' ⟨rfl, rfl⟩
  go_wp2_with fail
  refine (diskLen_any w p gf gm n vw d HH.out).mono ?_
  rintro e w' ⟨rfl, rfl⟩
  go_wp2_with fail
  go_ret
  exact ⟨rfl, rfl⟩
theorem slotRight_no (w : World) (F : Nat → Prop) (p : Nat) (d : Dk) (a sz : Int) (h : DiskAt w F p d) (hd : d.fast.length ≤ 65536) (hr : ¬ SlotsOk d.fast.length a sz) (_hsz : -9223372036854775808 ≤ sz ∧ sz ≤ 9223372036854775807) :
    Calls Tryd.prog 42 #[.pointer (some ⟨p, 0, none⟩), .int .i64 a, .int .i64 sz] w fun e w' => e = .returned (.int .i64 2) ∧ w = w' := by
  obtain ⟨gf, gm, n, vw, hb, _⟩ := h
  unfold SlotsOk at hr
  rw [hb.len] at hr hd
  have hpos := hb.pos
  have HH := Lib.hid hb
  clear hb
  have hne : ((n : Int) == 0) = false := by rw [beq_eq_false_iff_ne]; omega
  by_cases h1 : a < 0
  · have d1 : decide (a < 0) = true := decide_eq_true h1
    go_enter Tryd.func42, Tryd.ntmps42
    go_wp2_with fail
    refine (diskLen_any w p gf gm n vw d HH.out).mono ?_
    rintro e w' ⟨rfl, rfl⟩
    go_wp2_with fail
    go_ret
    exact ⟨rfl, rfl⟩
  · have d1 : decide (a < 0) = false := decide_eq_false h1
    by_cases h2 : sz < 1
    · have d2 : decide (sz < 1) = true := decide_eq_true h2
      go_enter Tryd.func42, Tryd.ntmps42
      go_wp2_with fail
      refine (diskLen_any w p gf gm n vw d HH.out).mono ?_
      rintro e w' ⟨rfl, rfl⟩
      go_wp2_with fail
      go_ret
      exact ⟨rfl, rfl⟩
    · have d2 : decide (sz < 1) = false := decide_eq_false h2
      by_cases h3 : (n : Int) < sz
      · have d3 : decide ((n : Int) < sz) = true := decide_eq_true h3
        go_enter Tryd.func42, Tryd.ntmps42
        go_wp2_with fail
        refine (diskLen_any w p gf gm n vw d HH.out).mono ?_
        rintro e w' ⟨rfl, rfl⟩
        go_wp2_with fail
        refine (diskLen_any w p gf gm n vw d HH.out).mono ?_
        rintro e w' ⟨rfl, rfl⟩
        go_wp2_with fail
        go_ret
        exact ⟨rfl, rfl⟩
      · have d3 : decide ((n : Int) < sz) = false := decide_eq_false h3
        have d4 : decide ((n : Int) - 2 * sz < a) = true := decide_eq_true (by omega)
        go_enter Tryd.func42, Tryd.ntmps42
        go_wp2_with fail
        refine (diskLen_any w p gf gm n vw d HH.out).mono ?_
        rintro e w' ⟨rfl, rfl⟩
        go_wp2_with fail
        refine (diskLen_any w p gf gm n vw d HH.out).mono ?_
        rintro e w' ⟨rfl, rfl⟩
        go_wp2_with fail
        refine (diskLen_any w p gf gm n vw d HH.out).mono ?_
        rintro e w' ⟨rfl, rfl⟩
        go_wp2_with fail
        go_ret
        exact ⟨rfl, rfl⟩
namespace SlotMath
theorem readAll_snoc {S : List Sector} {a k : Nat} {l : List StampMath.Part} {q : StampMath.Part} (h : readAll S a k = some l) (hq : StampMath.read (S.getD (a + k) []) = some q) : readAll S a (k + 1) = some (l ++ [q]) := by
  obtain ⟨hl, hp⟩ := readAll_some h
  refine readAll_mk (by simp [hl]) (fun j p hj => ?_)
  by_cases hjl : j < l.length
  · rw [List.getElem?_append_left hjl] at hj; exact hp j p hj
  · have := (List.getElem?_eq_some_iff.1 hj).1
    simp at this
    obtain rfl : j = k := by omega
    rw [List.getElem?_append_right (by omega), hl, Nat.sub_self] at hj
    injection hj with hj
    subst hj
    exact hq
theorem readAll_none {S : List Sector} {a k n : Nat} (hn : k < n) (hq : StampMath.read (S.getD (a + k) []) = none) : readAll S a n = none := by
  cases h : readAll S a n with
  | none => rfl
  | some l =>
    obtain ⟨hl, hp⟩ := readAll_some h
    have := hp k l[k] (List.getElem?_eq_getElem (by omega))
    rw [hq] at this
    cases this
theorem slotParts_eq {S : List Sector} {a size T : Nat} {p : StampMath.Part} (h : StampMath.read (S.getD a []) = some p) (ht : p.total = (T : Int)) (hT : 1 ≤ T) (hs : T ≤ size) : slotParts S a size = readAll S a T := by
  obtain ⟨t, rfl⟩ : ∃ t, T = t + 1 := ⟨T - 1, by omega⟩
  unfold slotParts
  rw [h]
  simp only
  rw [if_neg (by omega), ht]
  simp only [readAll, h]
  rw [show ((t + 1 : Nat) : Int).toNat - 1 = t by omega]
theorem slotParts_big {S : List Sector} {a size T : Nat} {p : StampMath.Part} (h : StampMath.read (S.getD a []) = some p) (ht : p.total = (T : Int)) (hs : size < T) : slotParts S a size = none := by
  unfold slotParts
  rw [h]
  simp only
  rw [if_pos (by omega)]
theorem slotParts_none {S : List Sector} {a size : Nat} (h : StampMath.read (S.getD a []) = none) : slotParts S a size = none := by unfold slotParts; rw [h]
end SlotMath
def SpPost (r : Option (List StampMath.Part)) (w : World) (e : Ending) (w' : World) : Prop :=
  match r with
  | none => e = .returned (.slice none 0 0) ∧ Below w.heap.size w w'
  | some l => ∃ A n c, l.length = n ∧ n ≤ c ∧ e = .returned (.slice A n c) ∧ PRow w' 130 (fun x => w.heap.size ≤ x) (.slice A n c) l ∧ Below w.heap.size w w'
def SrRel (w : World) (S : List Sector) (a size : Nat) (v i : Value) (wr : World) : Prop :=
  ∃ (k : Nat) (l : List StampMath.Part), k ≤ size ∧ i = .int .i64 (k : Int) ∧ SlotMath.readAll S a k = some l ∧ (∀ p, l[0]? = some p → (k : Int) < p.total ∧ p.total ≤ (size : Int)) ∧ PRow wr 130 (fun x => w.heap.size ≤ x) v l ∧ Below w.heap.size w wr
end Go.Proofs.YtckihiiimomgfaaDoor
