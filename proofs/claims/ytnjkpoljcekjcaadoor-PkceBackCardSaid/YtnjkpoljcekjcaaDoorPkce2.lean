/- The contracts of challenges: the program's Challenge, Is, Match. -/
import Derived.Test.YtnjkpoljcekjcaaDoorPkce
namespace Go.Proofs.YtnjkpoljcekjcaaDoor
open Go.RowKit
theorem bytesW_below (w : World) (s : ByteArray) : Below w.heap.size w (Lib.bytesWorld w 5 s) :=
  ⟨rfl, rfl, rfl, by rw [Lib.bytesWorld_size]; omega, fun k hk => Lib.bytesWorld_at_old w _ s k hk⟩
theorem bytesW_bs (w : World) (l : List UInt8) : Bs (Lib.bytesWorld w 5 ⟨l.toArray⟩) (some ⟨w.heap.size, 0, none⟩) l := fun j c hj => by
  refine ⟨_, rfl, by rw [Lib.bytesWorld_size]; simp, ?_⟩
  have e2 : (⟨w.heap.size, 0, none⟩ : Addr).add j = ⟨w.heap.size, j, none⟩ := by unfold Addr.add; split <;> simp_all
  have hlt : j < l.length := (List.getElem?_eq_some_iff.1 hj).1
  rw [e2, Lib.bytesWorld_cell w _ ⟨l.toArray⟩ j (by show j < l.toArray.size; simpa using hlt)]
  simp [hj]
set_option maxRecDepth 100000 in
set_option maxHeartbeats 1000000 in
theorem chal_yes (l : List UInt8) (w : World) (hv : verB l = true) (hl : l.length ≤ 200) (hw : Words w) :
    Calls Tryd.prog 29 #[.string ⟨l.toArray⟩] w fun e w' => e = .returned (.string ⟨(chal l).toArray⟩) ∧ Below w.heap.size w w' := by
  have hcv := Lib.run_convert_string_bytes (P := Tryd.prog) w 9 22 5 ⟨l.toArray⟩ Tryd.underlying9 Tryd.underlying22 Tryd.underlying5
  have hb1 := bytesW_below w ⟨l.toArray⟩
  have hs1 := bytesW_bs w l
  have hsz : (⟨l.toArray⟩ : ByteArray).size = l.length := by show l.toArray.size = l.length; simp
  rw [hsz] at hcv
  obtain ⟨n, hn⟩ : ∃ n, l.length = n := ⟨_, rfl⟩
  rw [hn] at hcv hl
  obtain ⟨w1, hw1⟩ : ∃ w1, Lib.bytesWorld w 5 ⟨l.toArray⟩ = w1 := ⟨_, rfl⟩
  rw [hw1] at hcv hb1 hs1
  obtain ⟨cc, hcc⟩ : ∃ cc, grownCap w n 0 5 = cc := ⟨_, rfl⟩
  rw [hcc] at hcv
  have HCV := Lib.hid hcv
  have HB := Lib.hid hb1
  have HS := Lib.hid hs1
  have HN := Lib.hid hn
  have HVER := Lib.hid (ver_any l w (by omega))
  have HV := Lib.hid hv
  clear hw1 hcc hsz hs1 hb1 hcv hn hv
  go_enter Tryd.func29, Tryd.ntmps29
  go_wp2_with fail
  refine HVER.out.mono ?_
  rintro e w' ⟨rfl, rfl⟩
  rw [HV.out]
  have hcv := HCV.out
  go_wp2_with fail
  clear hcv
  refine (shaOf_any _ n cc l w1 HN.out (by omega) HS.out (hw.below HB.out)).mono ?_
  rintro e w2 ⟨rfl, hb2⟩
  obtain ⟨S0, hS0⟩ : ∃ S0, ShaMath.sha l = S0 := ⟨_, rfl⟩
  have hS0l : S0.length = 32 := by rw [← hS0]; exact ShaMath.sha_length _
  rw [hS0]
  have hi32 : (Tryd.prog.info? 26).map (·.size) = some (bvs S0).length := by rw [bvs_length, hS0l]; exact info_sum
  have HB2 := Lib.hid (below_then HB.out hb2)
  have HI := Lib.hid hi32
  have HS0 := Lib.hid hS0
  have HS0L := Lib.hid hS0l
  clear hS0 hS0l hi32 hb2
  go_wp2_with (refine wpList_store_new rfl 26 (.tmp 3) (.tmp 9) rfl rfl (bvs S0) rfl rfl (by rw [bvs_length, HS0L.out]; rfl) HI.out (bvs_one S0) ?_; intro w3 hr3 hb3 hs3; have HR3 := Lib.hid hr3; have HB3 := Lib.hid hb3; clear hr3 hb3 hs3)
  have hbs3 : Bs w3 (some ⟨w2.heap.size, 0, none⟩) S0 := by
    have hr : Row8 w3 w2.heap.size 26 S0 := HR3.out
    exact hr.bs
  have hen := encode_any (some ⟨w2.heap.size, 0, none⟩) 32 S0 w3 (by rw [HS0L.out]; decide) hbs3
  rw [HS0L.out] at hen
  refine hen.mono ?_
  rintro e w4 ⟨rfl, hb4⟩
  have HB4 := Lib.hid hb4
  clear hb4 hen hbs3
  go_wp2_with fail
  go_ret
  refine ⟨?_, below_then (below_then HB2.out HB3.out) HB4.out⟩
  unfold chal
  rw [HS0.out]
  rfl
set_option maxHeartbeats 400000 in
theorem chal_no (l : List UInt8) (w : World) (hv : verB l = false) (hl : l.length ≤ 200) :
    Calls Tryd.prog 29 #[.string ⟨l.toArray⟩] w fun e w' => e = .returned (.string ⟨#[]⟩) ∧ w = w' := by
  have HVER := Lib.hid (ver_any l w (by omega))
  have HV := Lib.hid hv
  clear hv
  go_enter Tryd.func29, Tryd.ntmps29
  go_wp2_with fail
  refine HVER.out.mono ?_
  rintro e w' ⟨rfl, rfl⟩
  rw [HV.out]
  go_wp2_with fail
  go_ret
  exact ⟨rfl, rfl⟩
set_option maxHeartbeats 400000 in
theorem isIt_any (l : List UInt8) (w : World) (hl : l.length ≤ 65536) : Calls Tryd.prog 27 #[.string ⟨l.toArray⟩] w fun e w' => e = .returned (.bool (isC l)) ∧ Below w.heap.size w w' := by
  have HD := Lib.hid (decode_any l w hl)
  cases hdec : B64Math.dec l with
  | none =>
    have hc : isC l = false := by unfold isC; rw [hdec]
    have HC := Lib.hid hc
    have HDEC := Lib.hid hdec
    clear hc hdec
    go_enter Tryd.func27, Tryd.ntmps27
    go_wp2_with fail
    refine HD.out.mono ?_
    rintro e w1 ⟨hb1, hp⟩
    rw [HDEC.out] at hp
    simp only at hp
    subst hp
    have HB := Lib.hid hb1
    clear hb1
    go_wp2_with fail
    go_ret
    exact ⟨ret_bool HC.out.symm, HB.out⟩
  | some m =>
    have hc : isC l = decide (m.length = 32) := by unfold isC; rw [hdec]
    have HC := Lib.hid hc
    have HDEC := Lib.hid hdec
    clear hc hdec
    go_enter Tryd.func27, Tryd.ntmps27
    go_wp2_with fail
    refine HD.out.mono ?_
    rintro e w1 ⟨hb1, hp⟩
    rw [HDEC.out] at hp
    simp only at hp
    obtain ⟨v, rfl, ho⟩ := hp
    obtain ⟨A, c, rfl, _⟩ := own_shape ho
    have HB := Lib.hid hb1
    clear hb1 ho
    obtain ⟨n, hn⟩ : ∃ n, m.length = n := ⟨_, rfl⟩
    rw [hn]
    have HN := Lib.hid hn
    clear hn
    by_cases h32 : n = 32
    · have hq : ((n : Int) == 32) = true := by rw [beq_iff_eq]; omega
      go_wp2_with fail
      go_ret
      refine ⟨ret_bool (b := isC l) ?_, HB.out⟩
      rw [HC.out, HN.out]
      simp [h32]
    · have hq : ((n : Int) == 32) = false := by rw [beq_eq_false_iff_ne]; omega
      go_wp2_with fail
      go_ret
      refine ⟨ret_bool (b := isC l) ?_, HB.out⟩
      rw [HC.out, HN.out]
      simp [h32]
set_option maxHeartbeats 400000 in
theorem refIs_any (l : List UInt8) (w : World) (hl : l.length ≤ 65536) : Calls Tryd.prog 28 #[.string ⟨l.toArray⟩] w fun e w' => e = .returned (.bool (isC l)) ∧ Below w.heap.size w w' := by
  have HD := Lib.hid (refDecode_any l w hl)
  cases hdec : B64Math.dec l with
  | none =>
    have hc : isC l = false := by unfold isC; rw [hdec]
    have HC := Lib.hid hc
    have HDEC := Lib.hid hdec
    clear hc hdec
    go_enter Tryd.func28, Tryd.ntmps28
    go_wp2_with fail
    refine HD.out.mono ?_
    rintro e w1 ⟨hb1, hp⟩
    rw [HDEC.out] at hp
    simp only at hp
    subst hp
    have HB := Lib.hid hb1
    clear hb1
    go_wp2_with fail
    go_ret
    exact ⟨ret_bool HC.out.symm, HB.out⟩
  | some m =>
    have hc : isC l = decide (m.length = 32) := by unfold isC; rw [hdec]
    have HC := Lib.hid hc
    have HDEC := Lib.hid hdec
    clear hc hdec
    go_enter Tryd.func28, Tryd.ntmps28
    go_wp2_with fail
    refine HD.out.mono ?_
    rintro e w1 ⟨hb1, hp⟩
    rw [HDEC.out] at hp
    simp only at hp
    obtain ⟨v, rfl, ho⟩ := hp
    obtain ⟨A, c, rfl, _⟩ := own_shape ho
    have HB := Lib.hid hb1
    clear hb1 ho
    obtain ⟨n, hn⟩ : ∃ n, m.length = n := ⟨_, rfl⟩
    rw [hn]
    have HN := Lib.hid hn
    clear hn
    by_cases h32 : n = 32
    · have hq : ((n : Int) == 32) = true := by rw [beq_iff_eq]; omega
      go_wp2_with fail
      go_ret
      refine ⟨ret_bool (b := isC l) ?_, HB.out⟩
      rw [HC.out, HN.out]
      simp [h32]
    · have hq : ((n : Int) == 32) = false := by rw [beq_eq_false_iff_ne]; omega
      go_wp2_with fail
      go_ret
      refine ⟨ret_bool (b := isC l) ?_, HB.out⟩
      rw [HC.out, HN.out]
      simp [h32]
def matchB (a b : List UInt8) : Bool := verB a && decide (chal a = b)
theorem str_no {a b : List UInt8} (h : a ≠ b) : (({ data := a.toArray } : ByteArray).toList == ({ data := b.toArray } : ByteArray).toList) = false := by
  rw [ByteArray.toList_mk, ByteArray.toList_mk, beq_eq_false_iff_ne]
  exact h
set_option maxHeartbeats 400000 in
theorem match_any (a b : List UInt8) (w : World) (hl : a.length ≤ 200) (hw : Words w) :
    Calls Tryd.prog 22 #[.string ⟨a.toArray⟩, .string ⟨b.toArray⟩] w fun e w' => e = .returned (.bool (matchB a b)) ∧ Below w.heap.size w w' := by
  have HVER := Lib.hid (ver_any a w (by omega))
  cases hv : verB a with
  | false =>
    have HM := Lib.hid (show matchB a b = false by unfold matchB; rw [hv]; rfl)
    have HV := Lib.hid hv
    clear hv
    go_enter Tryd.func22, Tryd.ntmps22
    go_wp2_with fail
    refine HVER.out.mono ?_
    rintro e w' ⟨rfl, rfl⟩
    rw [HV.out]
    go_wp2_with fail
    go_ret
    exact ⟨ret_bool HM.out.symm, Below.refl _ _⟩
  | true =>
    have HM := Lib.hid (show matchB a b = decide (chal a = b) by unfold matchB; rw [hv]; rfl)
    have HCH := Lib.hid (chal_yes a w hv hl hw)
    have HV := Lib.hid hv
    clear hv
    go_enter Tryd.func22, Tryd.ntmps22
    go_wp2_with fail
    refine HVER.out.mono ?_
    rintro e w' ⟨rfl, rfl⟩
    rw [HV.out]
    go_wp2_with fail
    refine HCH.out.mono ?_
    rintro e w1 ⟨rfl, hb1⟩
    have HB := Lib.hid hb1
    clear hb1
    obtain ⟨c, hc⟩ : ∃ c, chal a = c := ⟨_, rfl⟩
    rw [hc]
    have HC := Lib.hid hc
    clear hc
    by_cases hcb : c = b
    · subst hcb
      go_wp2_with fail
      go_ret
      refine ⟨ret_bool (b := matchB a c) ?_, HB.out⟩
      rw [HM.out, HC.out]
      simp
    · have hne := str_no hcb
      have HNE := Lib.hid hcb
      clear hcb
      go_wp2_with fail
      go_ret
      refine ⟨ret_bool (b := matchB a b) ?_, HB.out⟩
      rw [HM.out, HC.out]
      have := HNE.out
      simp [this]
def lifeV : List UInt8 := [100, 66, 106, 102, 116, 74, 101, 90, 52, 67, 86, 80, 45, 109, 66, 57, 50, 75, 50, 55, 117, 104, 98, 85, 74, 85, 49, 112, 49, 114, 95, 119, 87, 49, 103, 70, 87, 70, 79, 69, 106, 88, 107]
def lifeC : List UInt8 := [69, 57, 77, 101, 108, 104, 111, 97, 50, 79, 119, 118, 70, 114, 69, 77, 84, 74, 103, 117, 67, 72, 97, 111, 101, 75, 49, 116, 56, 85, 82, 87, 98, 117, 71, 74, 83, 115, 116, 119, 45, 99, 77]
theorem life_match : matchB lifeV lifeC = true := by decide +kernel
set_option maxHeartbeats 400000 in
theorem pkceLives_any (w : World) (hw : Words w) : Calls Tryd.prog 25 #[] w fun e w' => e = .returned (.bool true) ∧ Below w.heap.size w w' := by
  have HM := Lib.hid (match_any lifeV lifeC w (by decide) hw)
  go_enter Tryd.func25, Tryd.ntmps25
  go_wp2_with fail
  refine HM.out.mono ?_
  rintro e w1 ⟨rfl, hb1⟩
  rw [life_match]
  go_wp2_with fail
  go_ret
  exact ⟨rfl, hb1⟩
end Go.Proofs.YtnjkpoljcekjcaaDoor
