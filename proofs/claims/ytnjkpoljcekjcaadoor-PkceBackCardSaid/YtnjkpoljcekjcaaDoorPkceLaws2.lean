/- The walk of the statement on each verifier and its challenge: PkceBack. -/
import Derived.Test.YtnjkpoljcekjcaaDoorPkceLaws
namespace Go.Proofs.YtnjkpoljcekjcaaDoor
open Go.RowKit
set_option maxHeartbeats 1000000 in
theorem pkceBack_walk (s t : ByteArray) (w : World) (hs : s.size ≤ maxLen) (ht : t.size ≤ maxLen) (hw : Words w) :
    Calls Tryd.prog 9 #[.string s, .string t] w fun e w' => e = .returned (.bool true) ∧ Below w.heap.size w w' := by
  have HSA := Lib.hid (short_any s 140 w hs (by decide))
  have HSB := Lib.hid (short_any t 140 w ht (by decide))
  have hla : (s.data.toList.take 140).length ≤ 140 := List.length_take_le _ _
  generalize s.data.toList.take 140 = a at HSA hla
  generalize t.data.toList.take 140 = b at HSB
  go_enter Tryd.func9, Tryd.ntmps9
  go_wp2_with fail
  refine HSA.out.mono ?_
  rintro e w' ⟨rfl, rfl⟩
  go_wp2_with fail
  refine HSB.out.mono ?_
  rintro e w' ⟨rfl, rfl⟩
  clear HSA HSB
  cases hv : verB a with
  | false =>
    have HV := Lib.hid hv
    clear hv
    go_wp2_with fail
    refine (chal_no a w HV.out (by omega)).mono ?_
    rintro e w' ⟨rfl, rfl⟩
    go_wp2_with fail
    refine (ver_as a w (by omega) false HV.out).mono ?_
    rintro e w' ⟨rfl, rfl⟩
    go_wp2_with fail
    refine (match_as a b w (by omega) hw false (by unfold matchB; rw [HV.out]; rfl)).mono ?_
    rintro e w1 ⟨rfl, hb1⟩
    have HB1 := Lib.hid hb1
    clear hb1
    go_wp2_with fail
    refine (match_as a [] w1 (by omega) (hw.below HB1.out) false (by unfold matchB; rw [HV.out]; rfl)).mono ?_
    rintro e w2 ⟨rfl, hb2⟩
    have HB2 := Lib.hid (below_then HB1.out hb2)
    clear hb2
    go_wp2_with fail
    refine (pkceLives_any w2 (hw.below HB2.out)).mono ?_
    rintro e w3 ⟨rfl, hb3⟩
    have HB3 := Lib.hid (below_then HB2.out hb3)
    clear hb3
    go_wp2_with fail
    go_ret
    exact ⟨rfl, HB3.out⟩
  | true =>
    have HV := Lib.hid hv
    have HCH := Lib.hid (chal_yes a w hv (by omega) hw)
    have hlen := chal_length a
    have hisc := isC_chal a
    have hmat : matchB a (chal a) = true := by unfold matchB; rw [hv]; simp
    have hmb : matchB a b = decide (b = chal a) := by
      unfold matchB
      rw [hv, Bool.true_and]
      by_cases h : chal a = b
      · simp [h]
      · simp [h, Ne.symm h]
    generalize chal a = c at HCH hlen hisc hmat hmb
    have hsz : ({ data := c.toArray } : ByteArray).size = 43 := by rw [str_size, hlen]
    have HL := Lib.hid hlen
    have HI := Lib.hid hisc
    have HM := Lib.hid hmat
    have HMB := Lib.hid hmb
    clear hv hlen hisc hmat hmb
    by_cases hbc : b = c
    · subst hbc
      go_wp2_with fail
      refine HCH.out.mono ?_
      rintro e w1 ⟨rfl, hb1⟩
      have HB1 := Lib.hid hb1
      clear hb1
      go_wp2_with fail
      refine (ver_as a w1 (by omega) true HV.out).mono ?_
      rintro e w' ⟨rfl, rfl⟩
      go_wp2_with fail
      refine (isIt_as b w1 (by rw [HL.out]; decide) true HI.out).mono ?_
      rintro e w2 ⟨rfl, hb2⟩
      have HB2 := Lib.hid (below_then HB1.out hb2)
      clear hb2
      go_wp2_with fail
      refine (match_as a b w2 (by omega) (hw.below HB2.out) true HM.out).mono ?_
      rintro e w3 ⟨rfl, hb3⟩
      have HB3 := Lib.hid (below_then HB2.out hb3)
      clear hb3
      go_wp2_with fail
      refine (match_as a b w3 (by omega) (hw.below HB3.out) true HM.out).mono ?_
      rintro e w4 ⟨rfl, hb4⟩
      have HB4 := Lib.hid (below_then HB3.out hb4)
      clear hb4
      go_wp2_with fail
      refine (pkceLives_any w4 (hw.below HB4.out)).mono ?_
      rintro e w5 ⟨rfl, hb5⟩
      have HB5 := Lib.hid (below_then HB4.out hb5)
      clear hb5
      go_wp2_with fail
      go_ret
      exact ⟨rfl, HB5.out⟩
    · have hne := str_no hbc
      have hne2 : (b == c) = false := by rw [beq_eq_false_iff_ne]; exact hbc
      have HBC := Lib.hid hbc
      clear hbc
      go_wp2_with fail
      refine HCH.out.mono ?_
      rintro e w1 ⟨rfl, hb1⟩
      have HB1 := Lib.hid hb1
      clear hb1
      go_wp2_with fail
      refine (ver_as a w1 (by omega) true HV.out).mono ?_
      rintro e w' ⟨rfl, rfl⟩
      go_wp2_with fail
      refine (isIt_as c w1 (by rw [HL.out]; decide) true HI.out).mono ?_
      rintro e w2 ⟨rfl, hb2⟩
      have HB2 := Lib.hid (below_then HB1.out hb2)
      clear hb2
      go_wp2_with fail
      refine (match_as a c w2 (by omega) (hw.below HB2.out) true HM.out).mono ?_
      rintro e w3 ⟨rfl, hb3⟩
      have HB3 := Lib.hid (below_then HB2.out hb3)
      clear hb3
      go_wp2_with fail
      refine (match_as a b w3 (by omega) (hw.below HB3.out) false (by rw [HMB.out]; simp [HBC.out])).mono ?_
      rintro e w4 ⟨rfl, hb4⟩
      have HB4 := Lib.hid (below_then HB3.out hb4)
      clear hb4
      go_wp2_with fail
      refine (pkceLives_any w4 (hw.below HB4.out)).mono ?_
      rintro e w5 ⟨rfl, hb5⟩
      have HB5 := Lib.hid (below_then HB4.out hb5)
      clear hb5
      go_wp2_with fail
      go_ret
      exact ⟨rfl, HB5.out⟩
end Go.Proofs.YtnjkpoljcekjcaaDoor
