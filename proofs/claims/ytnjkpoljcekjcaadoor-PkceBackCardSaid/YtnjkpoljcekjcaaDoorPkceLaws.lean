/- The walks of the statements on verifiers and challenges: PkceMatches, PkceTells, PkceBack. -/
import Derived.Test.YtnjkpoljcekjcaaDoorPkceRef2
namespace Go.Proofs.YtnjkpoljcekjcaaDoor
open Go.RowKit
theorem match_as (a b : List UInt8) (w : World) (hl : a.length ≤ 200) (hw : Words w) (r : Bool) (h : matchB a b = r) :
    Calls Tryd.prog 22 #[.string ⟨a.toArray⟩, .string ⟨b.toArray⟩] w fun e w' => e = .returned (.bool r) ∧ Below w.heap.size w w' := by
  subst h
  exact match_any a b w hl hw
theorem ver_as (l : List UInt8) (w : World) (hl : l.length ≤ 65536) (r : Bool) (h : verB l = r) : Calls Tryd.prog 26 #[.string ⟨l.toArray⟩] w fun e w' => e = .returned (.bool r) ∧ w = w' := by
  subst h
  exact ver_any l w hl
theorem refVer_as (l : List UInt8) (w : World) (hl : l.length ≤ 65536) (r : Bool) (h : verB l = r) : Calls Tryd.prog 23 #[.string ⟨l.toArray⟩] w fun e w' => e = .returned (.bool r) ∧ w = w' := by
  subst h
  exact refVer_any l w hl
theorem isIt_as (l : List UInt8) (w : World) (hl : l.length ≤ 65536) (r : Bool) (h : isC l = r) : Calls Tryd.prog 27 #[.string ⟨l.toArray⟩] w fun e w' => e = .returned (.bool r) ∧ Below w.heap.size w w' := by
  subst h
  exact isIt_any l w hl
theorem refIs_as (l : List UInt8) (w : World) (hl : l.length ≤ 65536) (r : Bool) (h : isC l = r) : Calls Tryd.prog 28 #[.string ⟨l.toArray⟩] w fun e w' => e = .returned (.bool r) ∧ Below w.heap.size w w' := by
  subst h
  exact refIs_any l w hl
set_option maxHeartbeats 1000000 in
theorem pkceMatches_walk (s t : ByteArray) (w : World) (hs : s.size ≤ maxLen) (ht : t.size ≤ maxLen) (hw : Words w) :
    Calls Tryd.prog 7 #[.string s, .string t] w fun e w' => e = .returned (.bool true) ∧ Below w.heap.size w w' := by
  have HSA := Lib.hid (short_any s 140 w hs (by decide))
  have HSB := Lib.hid (short_any t 140 w ht (by decide))
  have hla : (s.data.toList.take 140).length ≤ 140 := List.length_take_le _ _
  generalize s.data.toList.take 140 = a at HSA hla
  generalize t.data.toList.take 140 = b at HSB
  go_enter Tryd.func7, Tryd.ntmps7
  go_wp2_with fail
  refine HSA.out.mono ?_
  rintro e w' ⟨rfl, rfl⟩
  go_wp2_with fail
  refine HSB.out.mono ?_
  rintro e w' ⟨rfl, rfl⟩
  clear HSA HSB
  cases hv : verB a with
  | false =>
    have HV := Lib.hid hv
    clear hv
    go_wp2_with fail
    refine (match_as a b w (by omega) hw false (by unfold matchB; rw [HV.out]; rfl)).mono ?_
    rintro e w1 ⟨rfl, hb1⟩
    have HB1 := Lib.hid hb1
    clear hb1
    go_wp2_with fail
    refine (refVer_as a w1 (by omega) false HV.out).mono ?_
    rintro e w' ⟨rfl, rfl⟩
    go_wp2_with fail
    refine (pkceLives_any w1 (hw.below HB1.out)).mono ?_
    rintro e w2 ⟨rfl, hb2⟩
    have HB2 := Lib.hid (below_then HB1.out hb2)
    clear hb2
    go_wp2_with fail
    go_ret
    exact ⟨rfl, HB2.out⟩
  | true =>
    have HV := Lib.hid hv
    clear hv
    by_cases hc : chal a = b
    · have HC := Lib.hid hc
      clear hc
      go_wp2_with fail
      refine (match_as a b w (by omega) hw true (by unfold matchB; rw [HV.out, HC.out]; simp)).mono ?_
      rintro e w1 ⟨rfl, hb1⟩
      have HB1 := Lib.hid hb1
      clear hb1
      go_wp2_with fail
      refine (refVer_as a w1 (by omega) true HV.out).mono ?_
      rintro e w' ⟨rfl, rfl⟩
      go_wp2_with fail
      refine (refChal_any a w1 (by omega)).mono ?_
      rintro e w2 ⟨rfl, hb2⟩
      rw [HC.out]
      have HB2 := Lib.hid (below_then HB1.out hb2)
      clear hb2
      go_wp2_with fail
      refine (pkceLives_any w2 (hw.below HB2.out)).mono ?_
      rintro e w3 ⟨rfl, hb3⟩
      have HB3 := Lib.hid (below_then HB2.out hb3)
      clear hb3
      go_wp2_with fail
      go_ret
      exact ⟨rfl, HB3.out⟩
    · have hne := str_no hc
      have hne2 : (chal a == b) = false := by rw [beq_eq_false_iff_ne]; exact hc
      have HC := Lib.hid hc
      clear hc
      go_wp2_with fail
      refine (match_as a b w (by omega) hw false (by unfold matchB; rw [HV.out]; simp [HC.out])).mono ?_
      rintro e w1 ⟨rfl, hb1⟩
      have HB1 := Lib.hid hb1
      clear hb1
      go_wp2_with fail
      refine (refVer_as a w1 (by omega) true HV.out).mono ?_
      rintro e w' ⟨rfl, rfl⟩
      go_wp2_with fail
      refine (refChal_any a w1 (by omega)).mono ?_
      rintro e w2 ⟨rfl, hb2⟩
      have HB2 := Lib.hid (below_then HB1.out hb2)
      clear hb2
      go_wp2_with fail
      refine (pkceLives_any w2 (hw.below HB2.out)).mono ?_
      rintro e w3 ⟨rfl, hb3⟩
      have HB3 := Lib.hid (below_then HB2.out hb3)
      clear hb3
      go_wp2_with fail
      go_ret
      exact ⟨rfl, HB3.out⟩
set_option maxHeartbeats 1000000 in
theorem pkceTells_walk (s : ByteArray) (w : World) (hs : s.size ≤ maxLen) (hw : Words w) :
    Calls Tryd.prog 8 #[.string s] w fun e w' => e = .returned (.bool true) ∧ Below w.heap.size w w' := by
  have HSA := Lib.hid (short_any s 140 w hs (by decide))
  have hla : (s.data.toList.take 140).length ≤ 140 := List.length_take_le _ _
  generalize s.data.toList.take 140 = a at HSA hla
  obtain ⟨r, hr⟩ : ∃ r, isC a = r := ⟨_, rfl⟩
  have HR := Lib.hid hr
  clear hr
  have hrr : (r == r) = true := by simp
  go_enter Tryd.func8, Tryd.ntmps8
  go_wp2_with fail
  refine HSA.out.mono ?_
  rintro e w' ⟨rfl, rfl⟩
  clear HSA
  cases hv : verB a with
  | false =>
    have HV := Lib.hid hv
    clear hv
    go_wp2_with fail
    refine (refVer_as a w (by omega) false HV.out).mono ?_
    rintro e w' ⟨rfl, rfl⟩
    go_wp2_with fail
    refine (ver_as a w (by omega) false HV.out).mono ?_
    rintro e w' ⟨rfl, rfl⟩
    go_wp2_with fail
    refine (refVer_as a w (by omega) false HV.out).mono ?_
    rintro e w' ⟨rfl, rfl⟩
    go_wp2_with fail
    refine (isIt_as a w (by omega) r HR.out).mono ?_
    rintro e w1 ⟨rfl, hb1⟩
    have HB1 := Lib.hid hb1
    clear hb1
    go_wp2_with fail
    refine (refIs_as a w1 (by omega) r HR.out).mono ?_
    rintro e w2 ⟨rfl, hb2⟩
    have HB2 := Lib.hid (below_then HB1.out hb2)
    clear hb2
    go_wp2_with fail
    refine (chal_no a w2 HV.out (by omega)).mono ?_
    rintro e w' ⟨rfl, rfl⟩
    go_wp2_with fail
    refine (pkceLives_any w2 (hw.below HB2.out)).mono ?_
    rintro e w3 ⟨rfl, hb3⟩
    have HB3 := Lib.hid (below_then HB2.out hb3)
    clear hb3
    go_wp2_with fail
    go_ret
    exact ⟨rfl, HB3.out⟩
  | true =>
    have HV := Lib.hid hv
    clear hv
    go_wp2_with fail
    refine (refVer_as a w (by omega) true HV.out).mono ?_
    rintro e w' ⟨rfl, rfl⟩
    go_wp2_with fail
    refine (refChal_any a w (by omega)).mono ?_
    rintro e w0 ⟨rfl, hb0⟩
    have HB0 := Lib.hid hb0
    clear hb0
    go_wp2_with fail
    refine (ver_as a w0 (by omega) true HV.out).mono ?_
    rintro e w' ⟨rfl, rfl⟩
    go_wp2_with fail
    refine (refVer_as a w0 (by omega) true HV.out).mono ?_
    rintro e w' ⟨rfl, rfl⟩
    go_wp2_with fail
    refine (isIt_as a w0 (by omega) r HR.out).mono ?_
    rintro e w1 ⟨rfl, hb1⟩
    have HB1 := Lib.hid (below_then HB0.out hb1)
    clear hb1
    go_wp2_with fail
    refine (refIs_as a w1 (by omega) r HR.out).mono ?_
    rintro e w2 ⟨rfl, hb2⟩
    have HB2 := Lib.hid (below_then HB1.out hb2)
    clear hb2
    go_wp2_with fail
    refine (chal_yes a w2 HV.out (by omega) (hw.below HB2.out)).mono ?_
    rintro e w4 ⟨rfl, hb4⟩
    have HB4 := Lib.hid (below_then HB2.out hb4)
    clear hb4
    go_wp2_with fail
    refine (pkceLives_any w4 (hw.below HB4.out)).mono ?_
    rintro e w3 ⟨rfl, hb3⟩
    have HB3 := Lib.hid (below_then HB4.out hb3)
    clear hb3
    go_wp2_with fail
    go_ret
    exact ⟨rfl, HB3.out⟩
end Go.Proofs.YtnjkpoljcekjcaaDoor
