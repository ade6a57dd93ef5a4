/- The walks of the laws on turned bits: each returns true and turns nothing that was there. -/
import Derived.Test.YtpejfngkdkkfnaaDoorCrcLaws
import Derived.Test.YtpejfngkdkkfnaaDoorTurned
namespace Go.Proofs.YtpejfngkdkkfnaaDoor
open Go.RowKit
theorem turned_length (l : List UInt8) (at_ n : Int) : (turned l at_ n).length = l.length := by
  unfold turned; split
  · rfl
  · rw [CrcMath.turnTo_length]

set_option maxHeartbeats 400000 in
theorem crcTurns_walk (A : Option Addr) (c : Nat) (l : List UInt8) (at_ n : Int) (w : World) (hc : l.length ≤ c) (hm : c ≤ maxLen) (ht : Halves w) (hr : Bs w A l)
    (ha : at_ ≤ 9223372036854775807) (ha' : -9223372036854775808 ≤ at_) (hn : -9223372036854775808 ≤ n) :
    Calls Tryd.prog 5 #[.slice A l.length c, .int .i64 at_, .int .i64 n] w fun e w' => e = .returned (.bool true) ∧ Below w.heap.size w w' := by
  go_enter Tryd.func5, Tryd.ntmps5
  go_wp2_with fail
  refine (cut_bs A c 300 l w hc hm (by decide)).mono ?_
  rintro e w' ⟨rfl, rfl⟩
  have hrb := hr.take 300
  have hbl : (l.take 300).length ≤ 300 := List.length_take_le _ _
  generalize l.take 300 = b at *
  clear hr hc hm
  go_wp2_with fail
  refine (copy_any A c b w (by omega) hrb).mono ?_
  rintro e w1 ⟨v, rfl, hown, hb1⟩
  obtain ⟨A1, c1, rfl, _⟩ := own_shape hown
  have hr1 := Bs.of_own hown
  have hrb1 := hrb.below hb1
  clear hown hrb
  go_wp2_with fail
  refine (turned_any A1 c1 b at_ n w1 (by omega) hr1 ha hn).mono ?_
  rintro e w2 ⟨v, rfl, hown, hb2⟩
  obtain ⟨A2, c2, rfl, _⟩ := own_shape hown
  have hr2 := Bs.of_own hown
  have hr12 := hr1.below hb2
  have hrb2 := hrb1.below hb2
  clear hown hr1 hrb1
  go_wp2_with fail
  refine (refTurned_any A c b at_ n w2 (by omega) hrb2 ha ha' hn).mono ?_
  rintro e w3 ⟨v, rfl, hown, hb3⟩
  obtain ⟨A3, c3, rfl, _⟩ := own_shape hown
  have hr3 := Bs.of_own hown
  have hr23 := hr2.below hb3
  have hr13 := hr12.below hb3
  have hrb3 := hrb2.below hb3
  have hb03 := below_then (below_then hb1 hb2) hb3
  clear hown hr2 hr12 hrb2
  have hT := turned_length b at_ n
  generalize turned b at_ n = t at *
  have hs := same_bel A2 A3 c2 c3 t t w3 (by omega) (by omega) hr23 hr3
  rw [hT] at hs
  have HS := Lib.hid hs
  clear hs
  clear hT
  go_wp2_with fail
  refine HS.out.mono ?_
  rintro e w4 ⟨rfl, hb4⟩
  rw [sameB_self]
  go_wp2_with fail
  refine (same_bel A1 A c1 c b b w4 (by omega) (by omega) (hr13.below hb4) (hrb3.below hb4)).mono ?_
  rintro e w5 ⟨rfl, hb5⟩
  rw [sameB_self]
  have hb05 := below_then (below_then hb03 hb4) hb5
  go_wp2_with fail
  refine (crcLives_any w5 (ht.below hb05)).mono ?_
  rintro e w6 ⟨rfl, hb6⟩
  go_wp2_with fail
  go_ret
  exact ⟨rfl, below_then hb05 hb6⟩

set_option maxHeartbeats 400000 in
theorem crcSeen_walk (A : Option Addr) (c : Nat) (l : List UInt8) (at_ n : Int) (w : World) (hc : l.length ≤ c) (hm : c ≤ maxLen) (ht : Halves w) (hr : Bs w A l)  :
    Calls Tryd.prog 6 #[.slice A l.length c, .int .i64 at_, .int .i64 n] w fun e w' => e = .returned (.bool true) ∧ Below w.heap.size w w' := by
  go_enter Tryd.func6, Tryd.ntmps6
  go_wp2_with fail
  refine (cut_bs A c 300 l w hc hm (by decide)).mono ?_
  rintro e w' ⟨rfl, rfl⟩
  have hrb := hr.take 300
  have hbl : (l.take 300).length ≤ 300 := List.length_take_le _ _
  generalize l.take 300 = b at *
  clear hr hc hm
  by_cases h0 : b.length = 0
  · have hq : ((b.length : Int) == 0) = true := by simp [h0]
    clear h0
    go_wp2_with fail
    refine (crcLives_any w ht).mono ?_
    rintro e w4 ⟨rfl, hb4⟩
    go_wp2_with fail
    go_ret
    exact ⟨rfl, hb4⟩
  · have hq : ((b.length : Int) == 0) = false := by simpa using h0
    have hpos : 0 < b.length := by omega
    clear h0
    go_wp2_with fail
    refine (within_any at_ 0 (8 * (b.length : Int) - 1) w (by omega)).mono ?_
    rintro e w' ⟨rfl, rfl⟩
    go_wp2_with fail
    refine (within_any n 1 32 w (by omega)).mono ?_
    rintro e w' ⟨rfl, rfl⟩
    obtain ⟨a, hae, hal⟩ : ∃ a : Nat, max 0 (min at_ (8 * (b.length : Int) - 1)) = (a : Int) ∧ a < 8 * b.length := ⟨(max 0 (min at_ (8 * (b.length : Int) - 1))).toNat, by omega, by omega⟩
    obtain ⟨m, hme, hm1, hm2⟩ : ∃ m : Int, max 1 (min n 32) = m ∧ 1 ≤ m ∧ m ≤ 32 := ⟨_, rfl, by omega, by omega⟩
    rw [hae, hme]
    clear hae hme
    have htw : turned b a m = CrcMath.turnTo b a (turns a m b.length) := by unfold turned; rw [if_neg (by omega), Int.toNat_natCast]
    have hk : 0 < turns a m b.length ∧ turns a m b.length < 33 ∧ a + turns a m b.length ≤ 8 * b.length := by unfold turns; omega
    have hseen := CrcMath.seen 0 b a _ hk.1 hk.2.1 hk.2.2
    rw [← htw] at hseen
    have hback : turned (turned b a m) a m = b := by
      have e : turned (turned b a m) a m = CrcMath.turnTo (turned b a m) a (turns a m (turned b a m).length) := by unfold turned; rw [if_neg (by omega), if_neg (by omega), Int.toNat_natCast]
      rw [e, turned_length, htw, CrcMath.turn_twice _ _ _ hk.2.2]
    have HSeen : Hid (CrcMath.add 0 (turned b a m) ≠ CrcMath.add 0 b) := hseen
    have HBack : Hid (turned (turned b a m) a m = b) := hback
    clear htw hk hseen hback
    go_wp2_with fail
    refine (turned_any A c b a m w (by omega) hrb (by omega) (by omega)).mono ?_
    rintro e w1 ⟨v, rfl, hown, hb1⟩
    obtain ⟨A1, c1, rfl, _⟩ := own_shape hown
    have hr1 := Bs.of_own hown
    have hrb1 := hrb.below hb1
    have ht1 := ht.below hb1
    clear hown hrb ht
    have hT := turned_length b a m
    have HT := Lib.hid hT
    generalize hTT : turned b a m = t at *
    have HTT := Lib.hid hTT
    clear hTT
    have hs := crcSum_any A1 c1 t w1 (by omega) ht1 hr1
    rw [hT] at hs
    have HS := Lib.hid hs
    clear hs hT
    go_wp2_with fail
    refine HS.out.mono ?_
    rintro e w' ⟨rfl, rfl⟩
    clear HS
    go_wp2_with fail
    refine (crcSum_any A c b w1 (by omega) ht1 hrb1).mono ?_
    rintro e w' ⟨rfl, rfl⟩
    have hne : ((CrcMath.add 0 t : Int) != (CrcMath.add 0 b : Int)) = true := by
      rw [bne_iff_ne]; intro h; exact HSeen.out (by omega)
    go_wp2_with fail
    refine (turned_any A c b a m w1 (by omega) hrb1 (by omega) (by omega)).mono ?_
    rintro e w2 ⟨v, rfl, hown, hb2⟩
    obtain ⟨A2, c2, rfl, _⟩ := own_shape hown
    have hr2 := Bs.of_own hown
    have hrb2 := hrb1.below hb2
    have ht2 := ht1.below hb2
    have h3 := turned_any A2 c2 t a m w2 (by have := HT.out; omega) (by rw [← HTT.out]; exact hr2) (by omega) (by omega)
    rw [HT.out, HBack.out] at h3
    have H3 := Lib.hid h3
    clear h3 hown hrb1 ht1 hr1 hr2
    go_wp2_with fail
    refine H3.out.mono ?_
    clear H3
    rintro e w3 ⟨v, rfl, hown, hb3⟩
    obtain ⟨A3, c3, rfl, _⟩ := own_shape hown
    have hr3 := Bs.of_own hown
    have hrb3 := hrb2.below hb3
    have ht3 := ht2.below hb3
    clear hown hrb2 ht2
    go_wp2_with fail
    refine (same_bel A3 A c3 c b b w3 (by omega) (by omega) hr3 hrb3).mono ?_
    rintro e w4 ⟨rfl, hb4⟩
    rw [sameB_self]
    go_wp2_with fail
    refine (crcLives_any w4 (ht3.below hb4)).mono ?_
    rintro e w5 ⟨rfl, hb5⟩
    go_wp2_with fail
    go_ret
    exact ⟨rfl, below_then (below_then (below_then (below_then hb1 hb2) hb3) hb4) hb5⟩
end Go.Proofs.YtpejfngkdkkfnaaDoor
