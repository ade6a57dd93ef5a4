/- The walk of the statement what every row of calls to a log answers: WalPlays, where there is no log; and whole. -/
import Derived.Test.YtckihiiimomgfaaDoorWalPlay2
namespace Go.Proofs.YtckihiiimomgfaaDoor
open Go.RowKit DiskMath
def WnRel (W : World) (s20 s23 : Value) (wr : World) : Prop := s23 = .int .i64 0 ∧ s20 = .pointer none ∧ Below W.heap.size W wr
set_option maxRecDepth 100000 in
set_option maxHeartbeats 8000000 in
theorem walPlays_no (x fr tt ep0 sq0 : Int) (n : Nat) (A : Option Addr) (N c0 : Nat) (w : World) (hx : max 1 (min x 24) = (n : Int)) (hn1 : 1 ≤ n) (hn24 : n ≤ 24) (hno : ¬ (RegionOk n fr tt ∧ 0 ≤ ep0 ∧ ep0 ≤ 4294967295 ∧ 0 ≤ sq0 ∧ sq0 ≤ 4294967295)) (ht : Halves w) :
    Calls Tryd.prog 8 #[.int .i64 x, .int .i64 fr, .int .i64 tt, .int .i64 ep0, .int .i64 sq0, .slice A N c0] w fun e w' => e = .returned (.bool true) ∧ Below w.heap.size w w' := by
  have HT := Lib.hid ht
  have HX := Lib.hid hx
  have hth := ht.1
  have HNO := Lib.hid hno
  clear ht hx hno
  go_enter Tryd.func8, Tryd.ntmps8
  go_wp2_with fail
  refine (within_any x 1 24 w (by decide)).mono ?_
  rintro e w' ⟨rfl, rfl⟩
  rw [HX.out]
  clear HX
  go_wp2_with fail
  refine (diskNew_yes n w (by omega) (by omega)).mono ?_
  rintro e w1 ⟨rfl, hd1, hb1⟩
  have HD1 := Lib.hid hd1.lt
  have HB1 := Lib.hid hb1
  clear hd1 hb1
  go_wp2_with fail
  refine (refNew_yes n w1 (by omega) (by omega)).mono ?_
  rintro e w2 ⟨rfl, hd2, hb2⟩
  have hdl : (DiskMath.new n).fast.length = n := by simp [DiskMath.new]
  have ho1 := walOpen_no w2 _ (w.heap.size + 2) fr tt ep0 sq0 (DiskMath.new n) (HD1.out.below hb2) (by rw [hdl]; exact HNO.out)
  have ho2 := refOpen9_no w2 _ w1.heap.size (DiskMath.new n) 0 fr tt ep0 sq0 hd2 (by rw [hdl]; exact HNO.out)
  have hsm := sameRows_any w2 (fun _ => False) (fun _ => False) none none 0 0 0 [] rfl (by decide) (Rows8.nil _ _) (Rows8.nil _ _) (fun l hl => by simp at hl)
  have HO1 := Lib.hid ho1
  have HO2 := Lib.hid ho2
  have HSM := Lib.hid hsm
  have HB2 := Lib.hid (below_then HB1.out hb2)
  clear hd2 hb2 HD1 HB1 hdl ho1 ho2 hsm
  go_wp2_with fail
  refine HO1.out.mono ?_
  rintro e w' ⟨rfl, rfl⟩
  go_wp2_with fail
  refine HO2.out.mono ?_
  rintro e w' ⟨rfl, rfl⟩
  go_wp2_with fail
  refine HSM.out.mono ?_
  rintro e w3 ⟨rfl, hb3⟩
  have HB3 := Lib.hid (below_then HB2.out hb3)
  clear hb3 HO1 HO2 HSM
  go_wp2_with fail
  go_loopw [4, 17, 18, 20, 21, 23] (fun _ _ _ s20 _ s23 wr => WnRel w s20 s23 wr) (fun _ _ _ _ _ _ _ => 0)
  case atStart => exact ⟨rfl, rfl, HB3.out⟩
  case round =>
    obtain ⟨rfl, rfl, hb⟩ := hrel
    obtain ⟨wo, rfl⟩ : ∃ wo : World, wo = wr := ⟨_, rfl⟩
    have HB := Lib.hid hb
    clear hb HB3 HB2
    by_cases hN : 0 < N
    all_goals
      go_wp2_with fail
      refine (walLives_any _ (HT.out.below HB.out)).mono ?_
      rintro e w8 ⟨rfl, hb8⟩
      have HB8 := Lib.hid (below_then HB.out hb8)
      clear hb8
      go_wp2_with fail
      go_ret
      exact ⟨rfl, HB8.out⟩
theorem walPlays_walk (x fr tt ep sq : Int) (A : Option Addr) (c : Nat) (ds : List D9) (w : World) (hc : ds.length ≤ c) (hm : c ≤ maxLen) (hr : D9s w A ds) (ht : Halves w) :
    Calls Tryd.prog 8 #[.int .i64 x, .int .i64 fr, .int .i64 tt, .int .i64 ep, .int .i64 sq, .slice A ds.length c] w fun e w' => e = .returned (.bool true) ∧ Below w.heap.size w w' := by
  obtain ⟨n, hn, hn1, hn24⟩ : ∃ n : Nat, max 1 (min x 24) = (n : Int) ∧ 1 ≤ n ∧ n ≤ 24 := ⟨(max 1 (min x 24)).toNat, by omega, by omega, by omega⟩
  by_cases h : RegionOk n fr tt ∧ 0 ≤ ep ∧ ep ≤ 4294967295 ∧ 0 ≤ sq ∧ sq ≤ 4294967295
  · obtain ⟨⟨h1, h2, h3⟩, h4, h5, h6, h7⟩ := h
    obtain ⟨fr', rfl⟩ := Int.eq_ofNat_of_zero_le h1
    obtain ⟨tt', rfl⟩ := Int.eq_ofNat_of_zero_le (show 0 ≤ tt by omega)
    obtain ⟨ep', rfl⟩ := Int.eq_ofNat_of_zero_le h4
    obtain ⟨sq', rfl⟩ := Int.eq_ofNat_of_zero_le h6
    exact walPlays_yes x n fr' tt' ep' sq' A c ds w hn hn24 (by omega) (by omega) (by omega) (by omega) hc hm hr ht
  · exact walPlays_no x fr tt ep sq n A ds.length c w hn hn1 hn24 h ht
end Go.Proofs.YtckihiiimomgfaaDoor
