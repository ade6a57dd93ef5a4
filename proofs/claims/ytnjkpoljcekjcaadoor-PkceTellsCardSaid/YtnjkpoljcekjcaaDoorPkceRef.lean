/- The contracts of the document's verifier and challenge. -/
import Derived.Test.YtnjkpoljcekjcaaDoorPkce2
import Derived.Test.YtnjkpoljcekjcaaDoorPush
namespace Go.Proofs.YtnjkpoljcekjcaaDoor
open Go.RowKit
theorem classes (x : Nat) (h : x < 256) : (0 ≤ x ∧ x ≤ 44) ∨ (45 ≤ x ∧ x ≤ 45) ∨ (46 ≤ x ∧ x ≤ 46) ∨ (47 ≤ x ∧ x ≤ 47) ∨ (48 ≤ x ∧ x ≤ 57) ∨ (58 ≤ x ∧ x ≤ 64) ∨ (65 ≤ x ∧ x ≤ 90) ∨ (91 ≤ x ∧ x ≤ 94) ∨ (95 ≤ x ∧ x ≤ 95) ∨ (96 ≤ x ∧ x ≤ 96) ∨ (97 ≤ x ∧ x ≤ 122) ∨ (123 ≤ x ∧ x ≤ 125) ∨ (126 ≤ x ∧ x ≤ 126) ∨ (127 ≤ x ∧ x ≤ 255) := by omega
set_option maxHeartbeats 4000000 in
theorem refVer_any (l : List UInt8) (w : World) (hl : l.length ≤ 65536) : Calls Tryd.prog 23 #[.string ⟨l.toArray⟩] w fun e w' => e = .returned (.bool (verB l)) ∧ w = w' := by
  have hsz : ({ data := l.toArray } : ByteArray).size = l.length := str_size l
  obtain ⟨n, hn⟩ : ∃ n, l.length = n := ⟨_, rfl⟩
  rw [hn] at hsz hl
  have HN := Lib.hid hn
  clear hn
  go_enter Tryd.func23, Tryd.ntmps23
  go_wp2_with fail
  go_loopw [3] (fun i wr => VerRel l w i wr) (fun i _ => n - (intOf i).toNat)
  case atStart => exact ⟨0, Nat.zero_le _, rfl, by simp, rfl⟩
  case round =>
    obtain ⟨k, hk, rfl, hall, rfl⟩ := hrel
    rw [HN.out] at hk
    have HA := Lib.hid hall
    clear hall
    by_cases hlt : k < n
    · have hkl : k < l.length := by rw [HN.out]; exact hlt
      have hget : ({ data := l.toArray } : ByteArray)[k]'(by rw [str_size]; exact hkl) = l[k] := str_get l k hkl
      obtain ⟨c, hc⟩ : ∃ c, l[k] = c := ⟨_, rfl⟩
      have hat := all_take l k hkl
      have hno := all_no l k hkl
      rw [hc] at hat hno hget
      have HAT := Lib.hid hat
      have HNO := Lib.hid hno
      have hiv : isV c = isV c := rfl
      unfold isV at hiv
      have hc256 := c.toNat_lt
      have hcl := classes c.toNat (by omega)
      clear hc hat hno hiv hc256
      rcases hcl with ⟨ha, hb⟩ | ⟨ha, hb⟩ | ⟨ha, hb⟩ | ⟨ha, hb⟩ | ⟨ha, hb⟩ | ⟨ha, hb⟩ | ⟨ha, hb⟩ | ⟨ha, hb⟩ | ⟨ha, hb⟩ | ⟨ha, hb⟩ | ⟨ha, hb⟩ | ⟨ha, hb⟩ | ⟨ha, hb⟩ | ⟨ha, hb⟩
      · have hv : isV c = false := by unfold isV; simp; omega
        have HV := Lib.hid hv
        clear hv
        have g97 : ¬ (97 : Int) ≤ (c.toNat : Int) := by omega
        have g65 : ¬ (65 : Int) ≤ (c.toNat : Int) := by omega
        have g48 : ¬ (48 : Int) ≤ (c.toNat : Int) := by omega
        have g122 : (c.toNat : Int) ≤ 122 := by omega
        have g90 : (c.toNat : Int) ≤ 90 := by omega
        have g57 : (c.toNat : Int) ≤ 57 := by omega
        have g45 : ((c.toNat : Int) == 45) = false := by rw [beq_eq_false_iff_ne]; omega
        have g46 : ((c.toNat : Int) == 46) = false := by rw [beq_eq_false_iff_ne]; omega
        have g95 : ((c.toNat : Int) == 95) = false := by rw [beq_eq_false_iff_ne]; omega
        have g126 : ((c.toNat : Int) == 126) = false := by rw [beq_eq_false_iff_ne]; omega
        clear ha hb
        go_wp2_with fail
        go_ret
        refine ⟨ret_bool (b := verB l) ?_, rfl⟩
        show false = _
        unfold verB
        rw [HNO.out HV.out]; rfl
      · have hv : isV c = true := by unfold isV; simp; omega
        have HV := Lib.hid hv
        clear hv
        have g97 : ¬ (97 : Int) ≤ (c.toNat : Int) := by omega
        have g65 : ¬ (65 : Int) ≤ (c.toNat : Int) := by omega
        have g48 : ¬ (48 : Int) ≤ (c.toNat : Int) := by omega
        have g122 : (c.toNat : Int) ≤ 122 := by omega
        have g90 : (c.toNat : Int) ≤ 90 := by omega
        have g57 : (c.toNat : Int) ≤ 57 := by omega
        have g45 : ((c.toNat : Int) == 45) = true := by rw [beq_iff_eq]; omega
        have g46 : ((c.toNat : Int) == 46) = false := by rw [beq_eq_false_iff_ne]; omega
        have g95 : ((c.toNat : Int) == 95) = false := by rw [beq_eq_false_iff_ne]; omega
        have g126 : ((c.toNat : Int) == 126) = false := by rw [beq_eq_false_iff_ne]; omega
        clear ha hb
        go_wp2_with fail
        go_roundw
        case rel => exact ⟨k + 1, by rw [HN.out]; omega, by go_num, by rw [HAT.out, HA.out, HV.out]; rfl, rfl⟩
        case measure => simp [intOf]; omega
      · have hv : isV c = true := by unfold isV; simp; omega
        have HV := Lib.hid hv
        clear hv
        have g97 : ¬ (97 : Int) ≤ (c.toNat : Int) := by omega
        have g65 : ¬ (65 : Int) ≤ (c.toNat : Int) := by omega
        have g48 : ¬ (48 : Int) ≤ (c.toNat : Int) := by omega
        have g122 : (c.toNat : Int) ≤ 122 := by omega
        have g90 : (c.toNat : Int) ≤ 90 := by omega
        have g57 : (c.toNat : Int) ≤ 57 := by omega
        have g45 : ((c.toNat : Int) == 45) = false := by rw [beq_eq_false_iff_ne]; omega
        have g46 : ((c.toNat : Int) == 46) = true := by rw [beq_iff_eq]; omega
        have g95 : ((c.toNat : Int) == 95) = false := by rw [beq_eq_false_iff_ne]; omega
        have g126 : ((c.toNat : Int) == 126) = false := by rw [beq_eq_false_iff_ne]; omega
        clear ha hb
        go_wp2_with fail
        go_roundw
        case rel => exact ⟨k + 1, by rw [HN.out]; omega, by go_num, by rw [HAT.out, HA.out, HV.out]; rfl, rfl⟩
        case measure => simp [intOf]; omega
      · have hv : isV c = false := by unfold isV; simp; omega
        have HV := Lib.hid hv
        clear hv
        have g97 : ¬ (97 : Int) ≤ (c.toNat : Int) := by omega
        have g65 : ¬ (65 : Int) ≤ (c.toNat : Int) := by omega
        have g48 : ¬ (48 : Int) ≤ (c.toNat : Int) := by omega
        have g122 : (c.toNat : Int) ≤ 122 := by omega
        have g90 : (c.toNat : Int) ≤ 90 := by omega
        have g57 : (c.toNat : Int) ≤ 57 := by omega
        have g45 : ((c.toNat : Int) == 45) = false := by rw [beq_eq_false_iff_ne]; omega
        have g46 : ((c.toNat : Int) == 46) = false := by rw [beq_eq_false_iff_ne]; omega
        have g95 : ((c.toNat : Int) == 95) = false := by rw [beq_eq_false_iff_ne]; omega
        have g126 : ((c.toNat : Int) == 126) = false := by rw [beq_eq_false_iff_ne]; omega
        clear ha hb
        go_wp2_with fail
        go_ret
        refine ⟨ret_bool (b := verB l) ?_, rfl⟩
        show false = _
        unfold verB
        rw [HNO.out HV.out]; rfl
      · have hv : isV c = true := by unfold isV; simp; omega
        have HV := Lib.hid hv
        clear hv
        have g97 : ¬ (97 : Int) ≤ (c.toNat : Int) := by omega
        have g65 : ¬ (65 : Int) ≤ (c.toNat : Int) := by omega
        have g48 : (48 : Int) ≤ (c.toNat : Int) := by omega
        have g122 : (c.toNat : Int) ≤ 122 := by omega
        have g90 : (c.toNat : Int) ≤ 90 := by omega
        have g57 : (c.toNat : Int) ≤ 57 := by omega
        have g45 : ((c.toNat : Int) == 45) = false := by rw [beq_eq_false_iff_ne]; omega
        have g46 : ((c.toNat : Int) == 46) = false := by rw [beq_eq_false_iff_ne]; omega
        have g95 : ((c.toNat : Int) == 95) = false := by rw [beq_eq_false_iff_ne]; omega
        have g126 : ((c.toNat : Int) == 126) = false := by rw [beq_eq_false_iff_ne]; omega
        clear ha hb
        go_wp2_with fail
        go_roundw
        case rel => exact ⟨k + 1, by rw [HN.out]; omega, by go_num, by rw [HAT.out, HA.out, HV.out]; rfl, rfl⟩
        case measure => simp [intOf]; omega
      · have hv : isV c = false := by unfold isV; simp; omega
        have HV := Lib.hid hv
        clear hv
        have g97 : ¬ (97 : Int) ≤ (c.toNat : Int) := by omega
        have g65 : ¬ (65 : Int) ≤ (c.toNat : Int) := by omega
        have g48 : (48 : Int) ≤ (c.toNat : Int) := by omega
        have g122 : (c.toNat : Int) ≤ 122 := by omega
        have g90 : (c.toNat : Int) ≤ 90 := by omega
        have g57 : ¬ (c.toNat : Int) ≤ 57 := by omega
        have g45 : ((c.toNat : Int) == 45) = false := by rw [beq_eq_false_iff_ne]; omega
        have g46 : ((c.toNat : Int) == 46) = false := by rw [beq_eq_false_iff_ne]; omega
        have g95 : ((c.toNat : Int) == 95) = false := by rw [beq_eq_false_iff_ne]; omega
        have g126 : ((c.toNat : Int) == 126) = false := by rw [beq_eq_false_iff_ne]; omega
        clear ha hb
        go_wp2_with fail
        go_ret
        refine ⟨ret_bool (b := verB l) ?_, rfl⟩
        show false = _
        unfold verB
        rw [HNO.out HV.out]; rfl
      · have hv : isV c = true := by unfold isV; simp; omega
        have HV := Lib.hid hv
        clear hv
        have g97 : ¬ (97 : Int) ≤ (c.toNat : Int) := by omega
        have g65 : (65 : Int) ≤ (c.toNat : Int) := by omega
        have g48 : (48 : Int) ≤ (c.toNat : Int) := by omega
        have g122 : (c.toNat : Int) ≤ 122 := by omega
        have g90 : (c.toNat : Int) ≤ 90 := by omega
        have g57 : ¬ (c.toNat : Int) ≤ 57 := by omega
        have g45 : ((c.toNat : Int) == 45) = false := by rw [beq_eq_false_iff_ne]; omega
        have g46 : ((c.toNat : Int) == 46) = false := by rw [beq_eq_false_iff_ne]; omega
        have g95 : ((c.toNat : Int) == 95) = false := by rw [beq_eq_false_iff_ne]; omega
        have g126 : ((c.toNat : Int) == 126) = false := by rw [beq_eq_false_iff_ne]; omega
        clear ha hb
        go_wp2_with fail
        go_roundw
        case rel => exact ⟨k + 1, by rw [HN.out]; omega, by go_num, by rw [HAT.out, HA.out, HV.out]; rfl, rfl⟩
        case measure => simp [intOf]; omega
      · have hv : isV c = false := by unfold isV; simp; omega
        have HV := Lib.hid hv
        clear hv
        have g97 : ¬ (97 : Int) ≤ (c.toNat : Int) := by omega
        have g65 : (65 : Int) ≤ (c.toNat : Int) := by omega
        have g48 : (48 : Int) ≤ (c.toNat : Int) := by omega
        have g122 : (c.toNat : Int) ≤ 122 := by omega
        have g90 : ¬ (c.toNat : Int) ≤ 90 := by omega
        have g57 : ¬ (c.toNat : Int) ≤ 57 := by omega
        have g45 : ((c.toNat : Int) == 45) = false := by rw [beq_eq_false_iff_ne]; omega
        have g46 : ((c.toNat : Int) == 46) = false := by rw [beq_eq_false_iff_ne]; omega
        have g95 : ((c.toNat : Int) == 95) = false := by rw [beq_eq_false_iff_ne]; omega
        have g126 : ((c.toNat : Int) == 126) = false := by rw [beq_eq_false_iff_ne]; omega
        clear ha hb
        go_wp2_with fail
        go_ret
        refine ⟨ret_bool (b := verB l) ?_, rfl⟩
        show false = _
        unfold verB
        rw [HNO.out HV.out]; rfl
      · have hv : isV c = true := by unfold isV; simp; omega
        have HV := Lib.hid hv
        clear hv
        have g97 : ¬ (97 : Int) ≤ (c.toNat : Int) := by omega
        have g65 : (65 : Int) ≤ (c.toNat : Int) := by omega
        have g48 : (48 : Int) ≤ (c.toNat : Int) := by omega
        have g122 : (c.toNat : Int) ≤ 122 := by omega
        have g90 : ¬ (c.toNat : Int) ≤ 90 := by omega
        have g57 : ¬ (c.toNat : Int) ≤ 57 := by omega
        have g45 : ((c.toNat : Int) == 45) = false := by rw [beq_eq_false_iff_ne]; omega
        have g46 : ((c.toNat : Int) == 46) = false := by rw [beq_eq_false_iff_ne]; omega
        have g95 : ((c.toNat : Int) == 95) = true := by rw [beq_iff_eq]; omega
        have g126 : ((c.toNat : Int) == 126) = false := by rw [beq_eq_false_iff_ne]; omega
        clear ha hb
        go_wp2_with fail
        go_roundw
        case rel => exact ⟨k + 1, by rw [HN.out]; omega, by go_num, by rw [HAT.out, HA.out, HV.out]; rfl, rfl⟩
        case measure => simp [intOf]; omega
      · have hv : isV c = false := by unfold isV; simp; omega
        have HV := Lib.hid hv
        clear hv
        have g97 : ¬ (97 : Int) ≤ (c.toNat : Int) := by omega
        have g65 : (65 : Int) ≤ (c.toNat : Int) := by omega
        have g48 : (48 : Int) ≤ (c.toNat : Int) := by omega
        have g122 : (c.toNat : Int) ≤ 122 := by omega
        have g90 : ¬ (c.toNat : Int) ≤ 90 := by omega
        have g57 : ¬ (c.toNat : Int) ≤ 57 := by omega
        have g45 : ((c.toNat : Int) == 45) = false := by rw [beq_eq_false_iff_ne]; omega
        have g46 : ((c.toNat : Int) == 46) = false := by rw [beq_eq_false_iff_ne]; omega
        have g95 : ((c.toNat : Int) == 95) = false := by rw [beq_eq_false_iff_ne]; omega
        have g126 : ((c.toNat : Int) == 126) = false := by rw [beq_eq_false_iff_ne]; omega
        clear ha hb
        go_wp2_with fail
        go_ret
        refine ⟨ret_bool (b := verB l) ?_, rfl⟩
        show false = _
        unfold verB
        rw [HNO.out HV.out]; rfl
      · have hv : isV c = true := by unfold isV; simp; omega
        have HV := Lib.hid hv
        clear hv
        have g97 : (97 : Int) ≤ (c.toNat : Int) := by omega
        have g65 : (65 : Int) ≤ (c.toNat : Int) := by omega
        have g48 : (48 : Int) ≤ (c.toNat : Int) := by omega
        have g122 : (c.toNat : Int) ≤ 122 := by omega
        have g90 : ¬ (c.toNat : Int) ≤ 90 := by omega
        have g57 : ¬ (c.toNat : Int) ≤ 57 := by omega
        have g45 : ((c.toNat : Int) == 45) = false := by rw [beq_eq_false_iff_ne]; omega
        have g46 : ((c.toNat : Int) == 46) = false := by rw [beq_eq_false_iff_ne]; omega
        have g95 : ((c.toNat : Int) == 95) = false := by rw [beq_eq_false_iff_ne]; omega
        have g126 : ((c.toNat : Int) == 126) = false := by rw [beq_eq_false_iff_ne]; omega
        clear ha hb
        go_wp2_with fail
        go_roundw
        case rel => exact ⟨k + 1, by rw [HN.out]; omega, by go_num, by rw [HAT.out, HA.out, HV.out]; rfl, rfl⟩
        case measure => simp [intOf]; omega
      · have hv : isV c = false := by unfold isV; simp; omega
        have HV := Lib.hid hv
        clear hv
        have g97 : (97 : Int) ≤ (c.toNat : Int) := by omega
        have g65 : (65 : Int) ≤ (c.toNat : Int) := by omega
        have g48 : (48 : Int) ≤ (c.toNat : Int) := by omega
        have g122 : ¬ (c.toNat : Int) ≤ 122 := by omega
        have g90 : ¬ (c.toNat : Int) ≤ 90 := by omega
        have g57 : ¬ (c.toNat : Int) ≤ 57 := by omega
        have g45 : ((c.toNat : Int) == 45) = false := by rw [beq_eq_false_iff_ne]; omega
        have g46 : ((c.toNat : Int) == 46) = false := by rw [beq_eq_false_iff_ne]; omega
        have g95 : ((c.toNat : Int) == 95) = false := by rw [beq_eq_false_iff_ne]; omega
        have g126 : ((c.toNat : Int) == 126) = false := by rw [beq_eq_false_iff_ne]; omega
        clear ha hb
        go_wp2_with fail
        go_ret
        refine ⟨ret_bool (b := verB l) ?_, rfl⟩
        show false = _
        unfold verB
        rw [HNO.out HV.out]; rfl
      · have hv : isV c = true := by unfold isV; simp; omega
        have HV := Lib.hid hv
        clear hv
        have g97 : (97 : Int) ≤ (c.toNat : Int) := by omega
        have g65 : (65 : Int) ≤ (c.toNat : Int) := by omega
        have g48 : (48 : Int) ≤ (c.toNat : Int) := by omega
        have g122 : ¬ (c.toNat : Int) ≤ 122 := by omega
        have g90 : ¬ (c.toNat : Int) ≤ 90 := by omega
        have g57 : ¬ (c.toNat : Int) ≤ 57 := by omega
        have g45 : ((c.toNat : Int) == 45) = false := by rw [beq_eq_false_iff_ne]; omega
        have g46 : ((c.toNat : Int) == 46) = false := by rw [beq_eq_false_iff_ne]; omega
        have g95 : ((c.toNat : Int) == 95) = false := by rw [beq_eq_false_iff_ne]; omega
        have g126 : ((c.toNat : Int) == 126) = true := by rw [beq_iff_eq]; omega
        clear ha hb
        go_wp2_with fail
        go_roundw
        case rel => exact ⟨k + 1, by rw [HN.out]; omega, by go_num, by rw [HAT.out, HA.out, HV.out]; rfl, rfl⟩
        case measure => simp [intOf]; omega
      · have hv : isV c = false := by unfold isV; simp; omega
        have HV := Lib.hid hv
        clear hv
        have g97 : (97 : Int) ≤ (c.toNat : Int) := by omega
        have g65 : (65 : Int) ≤ (c.toNat : Int) := by omega
        have g48 : (48 : Int) ≤ (c.toNat : Int) := by omega
        have g122 : ¬ (c.toNat : Int) ≤ 122 := by omega
        have g90 : ¬ (c.toNat : Int) ≤ 90 := by omega
        have g57 : ¬ (c.toNat : Int) ≤ 57 := by omega
        have g45 : ((c.toNat : Int) == 45) = false := by rw [beq_eq_false_iff_ne]; omega
        have g46 : ((c.toNat : Int) == 46) = false := by rw [beq_eq_false_iff_ne]; omega
        have g95 : ((c.toNat : Int) == 95) = false := by rw [beq_eq_false_iff_ne]; omega
        have g126 : ((c.toNat : Int) == 126) = false := by rw [beq_eq_false_iff_ne]; omega
        clear ha hb
        go_wp2_with fail
        go_ret
        refine ⟨ret_bool (b := verB l) ?_, rfl⟩
        show false = _
        unfold verB
        rw [HNO.out HV.out]; rfl
    · have hall : l.all isV = true := by
        have := HA.out
        rwa [List.take_of_length_le (by rw [HN.out]; omega)] at this
      have hfin : verB l = (decide (43 ≤ n) && decide (n ≤ 128)) := by unfold verB; rw [hall, HN.out]; rfl
      have HF := Lib.hid hfin
      clear hall hfin
      by_cases h1 : 43 ≤ n
      · have d1 : decide ((42 : Int) < (n : Int)) = true := by simp; omega
        by_cases h2 : n ≤ 128
        · have d2 : decide ((n : Int) < 129) = true := by simp; omega
          go_wp2_with fail
          all_goals
            go_ret
            refine ⟨ret_bool (b := verB l) ?_, rfl⟩
            rw [HF.out]
            simp only [h1, h2, decide_true, Bool.and_true]
        · have d2 : decide ((n : Int) < 129) = false := by simp; omega
          go_wp2_with fail
          all_goals
            go_ret
            refine ⟨ret_bool (b := verB l) ?_, rfl⟩
            rw [HF.out]
            simp only [h1, h2, decide_true, decide_false, Bool.and_false]
      · have d1 : decide ((42 : Int) < (n : Int)) = false := by simp; omega
        go_wp2_with fail
        all_goals
          go_ret
          refine ⟨ret_bool (b := verB l) ?_, rfl⟩
          rw [HF.out]
          simp only [h1, decide_false, Bool.false_and]
end Go.Proofs.YtnjkpoljcekjcaaDoor
