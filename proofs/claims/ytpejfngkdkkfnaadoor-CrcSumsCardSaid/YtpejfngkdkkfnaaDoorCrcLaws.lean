/- The walks of the laws on sums: each returns true and turns nothing that was there. -/
import Derived.Test.YtpejfngkdkkfnaaDoorCrc
import Derived.Lib.SlBytesConst
namespace Go.Proofs.YtpejfngkdkkfnaaDoor
open Go.RowKit

def nine : List UInt8 := [49, 50, 51, 52, 53, 54, 55, 56, 57]
set_option maxHeartbeats 400000 in
theorem crcLives_any (w : World) (ht : Halves w) : Calls Tryd.prog 19 #[] w fun e w' => e = .returned (.bool true) ∧ Below w.heap.size w w' := by
  have kc := fun (w : World) (C : Array Value) (n c : Nat) => Lib.run_convert_bytes_const (P := Tryd.prog) w 23 5 C n c Tryd.underlying23 Tryd.underlying5
  go_enter Tryd.func19, Tryd.ntmps19
  go_wp2_with fail
  refine (crcSum_any _ 9 nine _ (by decide) ?_ ?_).mono ?_
  · exact ht.below ((Below.refl _ _).alloc (Nat.le_refl _) _)
  · exact Bs.lit w nine _ _ _ rfl
  rintro e w' ⟨rfl, rfl⟩
  have e0 : CrcMath.add 0 nine = 3421780262 := by decide +kernel
  rw [e0]
  go_wp2
  go_ret
  exact ⟨rfl, (Below.refl _ _).alloc (Nat.le_refl _) _⟩

set_option maxHeartbeats 400000 in
theorem crcSums_walk (s : Nat) (A : Option Addr) (c : Nat) (l : List UInt8) (w : World) (hs : s < 4294967296) (hc : l.length ≤ c) (hm : c ≤ maxLen) (ht : Halves w) (hr : Bs w A l) :
    Calls Tryd.prog 3 #[.int .u32 s, .slice A l.length c] w fun e w' => e = .returned (.bool true) ∧ Below w.heap.size w w' := by
  go_enter Tryd.func3, Tryd.ntmps3
  go_wp2_with fail
  refine (cut_bs A c 300 l w hc hm (by decide)).mono ?_
  rintro e w' ⟨rfl, rfl⟩
  have hrb := hr.take 300
  have hbl : (l.take 300).length ≤ 300 := List.length_take_le _ _
  generalize l.take 300 = b at *
  clear hr hc hm
  go_wp2_with fail
  refine (copy_any A c b w (by omega) hrb).mono ?_
  rintro e w1 ⟨v, rfl, hown, hb1⟩
  obtain ⟨A1, c1, rfl, _⟩ := own_shape hown
  have hr1 := Bs.of_own hown
  have hrb1 := hrb.below hb1
  have ht1 := ht.below hb1
  have HO := Lib.hid hown
  clear hown hrb ht
  go_wp2_with fail
  refine (crcSum_any A1 c1 b w1 (by omega) ht1 hr1).mono ?_
  rintro e w' ⟨rfl, rfl⟩
  go_wp2_with fail
  refine (refAdd_any 0 A c b w1 (by decide) (by omega) hrb1).mono ?_
  rintro e w' ⟨rfl, rfl⟩
  go_wp2_with fail
  refine (crcAdd_any s A1 c1 b w1 hs (by omega) ht1 hr1).mono ?_
  rintro e w' ⟨rfl, rfl⟩
  go_wp2_with fail
  refine (refAdd_any s A c b w1 hs (by omega) hrb1).mono ?_
  rintro e w' ⟨rfl, rfl⟩
  go_wp2_with fail
  refine (same_any A1 A c1 c b b w1 (by omega) (by omega) hr1 hrb1).mono ?_
  rintro e w' ⟨rfl, n, rfl⟩
  rw [sameB_self]
  go_wp2_with fail
  refine (crcLives_any _ (ht1.drewN n)).mono ?_
  rintro e w2 ⟨rfl, hb2⟩
  go_wp2_with fail
  go_ret
  exact ⟨rfl, (below_drewN hb1 n).trans (hb2.mono (by have := hb1.size; simpa using this))⟩
end Go.Proofs.YtpejfngkdkkfnaaDoor
