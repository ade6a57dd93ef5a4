/- The walk of the statement what every row of calls to slots answers: SlotPlays, where there are no slots; and whole. -/
import Derived.Test.YtckihiiimomgfaaDoorSlotPlay2
namespace Go.Proofs.YtckihiiimomgfaaDoor
open Go.RowKit DiskMath
def SnRel (W : World) (s18 s21 : Value) (wr : World) : Prop := s21 = .int .i64 0 ∧ s18 = .pointer none ∧ Below W.heap.size W wr
set_option maxRecDepth 100000 in
set_option maxHeartbeats 8000000 in
theorem slotPlays_no (x fr size ep0 : Int) (n : Nat) (A : Option Addr) (N c0 : Nat) (w : World) (hx : max 1 (min x 20) = (n : Int)) (hn1 : 1 ≤ n) (hn20 : n ≤ 20) (hno : ¬ (SlotsOk n fr size ∧ 0 ≤ ep0 ∧ ep0 ≤ 4294967295)) (hfr : fr ≤ 9223372036854775807) (hsz : -9223372036854775808 ≤ size ∧ size ≤ 9223372036854775807) (ht : Halves w) :
    Calls Tryd.prog 4 #[.int .i64 x, .int .i64 fr, .int .i64 size, .int .i64 ep0, .slice A N c0] w fun e w' => e = .returned (.bool true) ∧ Below w.heap.size w w' := by
  have HT := Lib.hid ht
  have HX := Lib.hid hx
  have hth := ht.1
  have HNO := Lib.hid (show _ ∧ _ ∧ _ from ⟨hno, hfr, hsz⟩)
  clear ht hx hno hfr hsz
  go_enter Tryd.func4, Tryd.ntmps4
  go_wp2_with fail
  refine (within_any x 1 20 w (by decide)).mono ?_
  rintro e w' ⟨rfl, rfl⟩
  rw [HX.out]
  clear HX
  go_wp2_with fail
  refine (diskNew_yes n w (by omega) (by omega)).mono ?_
  rintro e w1 ⟨rfl, hd1, hb1⟩
  have HD1 := Lib.hid hd1.lt
  have HB1 := Lib.hid hb1
  clear hd1 hb1
  go_wp2_with fail
  refine (refNew_yes n w1 (by omega) (by omega)).mono ?_
  rintro e w2 ⟨rfl, hd2, hb2⟩
  have hdl : (DiskMath.new n).fast.length = n := by simp [DiskMath.new]
  have ho1 := slotOpen_no w2 _ (w.heap.size + 2) fr size ep0 (DiskMath.new n) (HD1.out.below hb2) (by omega) (by rw [hdl]; exact HNO.out.1) HNO.out.2.2
  have ho2 := refOpen10_no w2 _ w1.heap.size (DiskMath.new n) 0 fr size ep0 hd2 (by omega) (by rw [hdl]; exact HNO.out.1) HNO.out.2.1
  have hsm := same_at none none 0 0 0 0 [] [] w2 rfl rfl (by decide) (by decide) (Bs.nil _ _) (Bs.nil _ _)
  rw [sameB_self] at hsm
  have HO1 := Lib.hid ho1
  have HO2 := Lib.hid ho2
  have HSM := Lib.hid hsm
  have HB2 := Lib.hid (below_then HB1.out hb2)
  clear hd2 hb2 HD1 HB1 hdl ho1 ho2 hsm
  go_wp2_with fail
  refine HO1.out.mono ?_
  rintro e w' ⟨rfl, rfl⟩
  go_wp2_with fail
  refine HO2.out.mono ?_
  rintro e w' ⟨rfl, rfl⟩
  go_wp2_with fail
  refine HSM.out.mono ?_
  rintro e w3 ⟨rfl, hb3⟩
  have HB3 := Lib.hid (below_then HB2.out hb3)
  clear hb3 HO1 HO2 HSM
  go_wp2_with fail
  go_loopw [15, 16, 17, 18, 19, 20, 21] (fun _ _ _ s18 _ _ s21 wr => SnRel w s18 s21 wr) (fun _ _ _ _ _ _ _ _ => 0)
  case atStart => exact ⟨rfl, rfl, HB3.out⟩
  case round =>
    obtain ⟨rfl, rfl, hb⟩ := hrel
    obtain ⟨wo, rfl⟩ : ∃ wo : World, wo = wr := ⟨_, rfl⟩
    have HB := Lib.hid hb
    clear hb HB3 HB2
    by_cases hN : 0 < N
    all_goals
      go_wp2_with fail
      refine (slotLives_any _ (HT.out.below HB.out)).mono ?_
      rintro e w8 ⟨rfl, hb8⟩
      have HB8 := Lib.hid (below_then HB.out hb8)
      clear hb8
      go_wp2_with fail
      go_ret
      exact ⟨rfl, HB8.out⟩
theorem slotPlays_walk (x fr size ep : Int) (A : Option Addr) (c : Nat) (ds : List D10) (w : World) (hfr : fr ≤ 9223372036854775807) (hsz : -9223372036854775808 ≤ size ∧ size ≤ 9223372036854775807) (hc : ds.length ≤ c) (hm : c ≤ maxLen) (hr : D10s w A ds) (ht : Halves w) :
    Calls Tryd.prog 4 #[.int .i64 x, .int .i64 fr, .int .i64 size, .int .i64 ep, .slice A ds.length c] w fun e w' => e = .returned (.bool true) ∧ Below w.heap.size w w' := by
  obtain ⟨n, hn, hn1, hn20⟩ : ∃ n : Nat, max 1 (min x 20) = (n : Int) ∧ 1 ≤ n ∧ n ≤ 20 := ⟨(max 1 (min x 20)).toNat, by omega, by omega, by omega⟩
  by_cases h : SlotsOk n fr size ∧ 0 ≤ ep ∧ ep ≤ 4294967295
  · obtain ⟨⟨h1, h2, h3, h4⟩, h5, h6⟩ := h
    obtain ⟨fr', rfl⟩ := Int.eq_ofNat_of_zero_le h1
    obtain ⟨sz', rfl⟩ := Int.eq_ofNat_of_zero_le (show 0 ≤ size by omega)
    obtain ⟨ep', rfl⟩ := Int.eq_ofNat_of_zero_le h5
    exact slotPlays_yes x n fr' sz' ep' A c ds w hn hn20 (by omega) (by omega) (by omega) hc hm hr ht
  · exact slotPlays_no x fr size ep n A ds.length c w hn hn1 hn20 h hfr hsz ht
end Go.Proofs.YtckihiiimomgfaaDoor
