/- The walks of the laws on sums: each returns true and turns nothing that was there. -/
import Derived.Test.YtpejfngkdkkfnaaDoorCrc
import Derived.Lib.SlBytesConst
namespace Go.Proofs.YtpejfngkdkkfnaaDoor
open Go.RowKit

def nine : List UInt8 := [49, 50, 51, 52, 53, 54, 55, 56, 57]
set_option maxHeartbeats 400000 in
theorem crcLives_any (w : World) (ht : Halves w) : Calls Tryd.prog 19 #[] w fun e w' => e = .returned (.bool true) ∧ Below w.heap.size w w' := by
  have kc := fun (w : World) (C : Array Value) (n c : Nat) => Lib.run_convert_bytes_const (P := Tryd.prog) w 23 5 C n c Tryd.underlying23 Tryd.underlying5
  go_enter Tryd.func19, Tryd.ntmps19
  go_wp2_with fail
  refine (crcSum_any _ 9 nine _ (by decide) ?_ ?_).mono ?_
  · exact ht.below ((Below.refl _ _).alloc (Nat.le_refl _) _)
  · exact Bs.lit w nine _ _ _ rfl
  rintro e w' ⟨rfl, rfl⟩
  have e0 : CrcMath.add 0 nine = 3421780262 := by decide +kernel
  rw [e0]
  go_wp2
  go_ret
  exact ⟨rfl, (Below.refl _ _).alloc (Nat.le_refl _) _⟩

set_option maxHeartbeats 400000 in
theorem crcSums_walk (s : Nat) (A : Option Addr) (c : Nat) (l : List UInt8) (w : World) (hs : s < 4294967296) (hc : l.length ≤ c) (hm : c ≤ maxLen) (ht : Halves w) (hr : Bs w A l) :
    Calls Tryd.prog 3 #[.int .u32 s, .slice A l.length c] w fun e w' => e = .returned (.bool true) ∧ Below w.heap.size w w' := by
  go_enter Tryd.func3, Tryd.ntmps3
  go_wp2_with fail
  refine (cut_bs A c 300 l w hc hm (by decide)).mono ?_
  rintro e w' ⟨rfl, rfl⟩
  have hrb := hr.take 300
  have hbl : (l.take 300).length ≤ 300 := List.length_take_le _ _
  generalize l.take 300 = b at *
  clear hr hc hm
  go_wp2_with fail
  refine (copy_any A c b w (by omega) hrb).mono ?_
  rintro e w1 ⟨v, rfl, hown, hb1⟩
  obtain ⟨A1, c1, rfl, _⟩ := own_shape hown
  have hr1 := Bs.of_own hown
  have hrb1 := hrb.below hb1
  have ht1 := ht.below hb1
  have HO := Lib.hid hown
  clear hown hrb ht
  go_wp2_with fail
  refine (crcSum_any A1 c1 b w1 (by omega) ht1 hr1).mono ?_
  rintro e w' ⟨rfl, rfl⟩
  go_wp2_with fail
  refine (refAdd_any 0 A c b w1 (by decide) (by omega) hrb1).mono ?_
  rintro e w' ⟨rfl, rfl⟩
  go_wp2_with fail
  refine (crcAdd_any s A1 c1 b w1 hs (by omega) ht1 hr1).mono ?_
  rintro e w' ⟨rfl, rfl⟩
  go_wp2_with fail
  refine (refAdd_any s A c b w1 hs (by omega) hrb1).mono ?_
  rintro e w' ⟨rfl, rfl⟩
  go_wp2_with fail
  refine (same_any A1 A c1 c b b w1 (by omega) (by omega) hr1 hrb1).mono ?_
  rintro e w' ⟨rfl, n, rfl⟩
  rw [sameB_self]
  go_wp2_with fail
  refine (crcLives_any _ (ht1.drewN n)).mono ?_
  rintro e w2 ⟨rfl, hb2⟩
  go_wp2_with fail
  go_ret
  exact ⟨rfl, (below_drewN hb1 n).trans (hb2.mono (by have := hb1.size; simpa using this))⟩

def PiecesRel (b : List UInt8) (w : World) (s r i : Value) : Prop := ∃ (j k : Nat) (A : Option Addr) (c : Nat), i = .int .i64 (j : Nat) ∧ j ≤ 40 ∧ k ≤ b.length ∧ s = .int .u32 (CrcMath.add 0 (b.take k) : Nat) ∧ r = .slice A (b.drop k).length c ∧ (b.drop k).length ≤ c ∧ Bs w A (b.drop k)
set_option maxHeartbeats 400000 in
theorem crcPieces_walk (A : Option Addr) (c : Nat) (l : List UInt8) (B : Option Addr) (d : Nat) (zs : List Int) (w : World) (hc : l.length ≤ c) (hm : c ≤ maxLen) (_hd : zs.length ≤ d) (hdm : d ≤ maxLen) (ht : Halves w) (hr : Bs w A l) (hz : Ns w B zs) :
    Calls Tryd.prog 4 #[.slice A l.length c, .slice B zs.length d] w fun e w' => e = .returned (.bool true) ∧ Below w.heap.size w w' := by
  have hcm : c ≤ 9223372036854775807 := by unfold maxLen at hm; omega
  have hdm' : d ≤ 9223372036854775807 := by unfold maxLen at hdm; omega
  go_enter Tryd.func4, Tryd.ntmps4
  go_wp2_with fail
  refine (cut_bs A c 1000 l w hc hm (by decide)).mono ?_
  rintro e w' ⟨rfl, rfl⟩
  have hrb := hr.take 1000
  have hbl : (l.take 1000).length ≤ 1000 := List.length_take_le _ _
  have hbc : (l.take 1000).length ≤ c := by rw [List.length_take]; omega
  generalize l.take 1000 = b at *
  clear hr hc hm
  go_wp2_with fail
  go_loop [5, 6, 7] (fun s r i => PiecesRel b w s r i) (fun _ _ i => 40 - (intOf i).toNat)
  case atStart => exact ⟨0, 0, A, c, rfl, by decide, Nat.zero_le _, by simp [CrcMath.add_nil], by simp, by simpa using hbc, by simpa using hrb⟩
  case round =>
    obtain ⟨j, k, A', c', rfl, hj, hk, rfl, rfl, hc', hr'⟩ := hrel
    have hdl : (b.drop k).length = b.length - k := List.length_drop
    have hs := CrcMath.add_lt (b.take k) (s := 0) (by decide)
    generalize hS : CrcMath.add 0 (b.take k) = s at hs
    generalize hR : b.drop k = r at *
    have HS := Lib.hid hS
    have HR := Lib.hid hR
    have HD := Lib.hid hdl
    have hrl : r.length ≤ 1000 := by omega
    clear hS hR hdl
    by_cases hlt : j < zs.length
    · by_cases h40 : j < 40
      · obtain ⟨bd, rfl, _, hcz⟩ := hz.at_ hlt
        have HZ := Lib.hid hz
        clear hz
        generalize zs[j] = z at hcz
        go_wp2_with fail
        refine (within_any z 0 (r.length : Nat) w (by omega)).mono ?_
        rintro e w' ⟨rfl, rfl⟩
        obtain ⟨m, hme, hml⟩ : ∃ m : Nat, max 0 (min z ((r.length : Nat) : Int)) = (m : Int) ∧ m ≤ r.length := ⟨(max 0 (min z ((r.length : Nat) : Int))).toNat, by omega, by omega⟩
        rw [hme]
        have HM := Lib.hid hme
        clear hme
        go_wp2_with fail
        have hadd := crcAdd_any s A' c' (r.take m) w hs (by rw [List.length_take]; omega) ht (hr'.take m)
        rw [List.length_take, Nat.min_eq_left hml] at hadd
        refine hadd.mono ?_
        clear hadd
        rintro e w' ⟨rfl, rfl⟩
        have hdrop := Lib.hid (hr'.drop (k := m) hc')
        go_wp2_with fail
        go_round
        case rel =>
          have e1 : r.length - m = (b.drop (k + m)).length := by rw [← HR.out, List.length_drop, List.length_drop]; omega
          have e2 : b.drop (k + m) = r.drop m := by rw [← HR.out, List.drop_drop]
          refine ⟨j + 1, k + m, _, c' - m, by go_num, by omega, by have := HD.out; omega, ?_, by rw [e1], by rw [← e1]; omega, by rw [e2]; exact hdrop.out⟩
          rw [← HS.out, CrcMath.add_append, ← HR.out, List.take_add]
        case measure => simp [intOf]; omega
      · go_wp2_with fail
        refine (crcAdd_any s A' c' r w hs (by omega) ht hr').mono ?_
        rintro e w' ⟨rfl, rfl⟩
        go_wp2_with fail
        refine (crcSum_any A c b w (by omega) ht hrb).mono ?_
        rintro e w' ⟨rfl, rfl⟩
        have efin : CrcMath.add s r = CrcMath.add 0 b := by rw [← HS.out, ← HR.out, CrcMath.add_append, List.take_append_drop]
        rw [efin]
        clear efin
        go_wp2_with fail
        refine (crcLives_any w ht).mono ?_
        rintro e w2 ⟨rfl, hb2⟩
        go_wp2_with fail
        go_ret
        exact ⟨rfl, hb2⟩
    · go_wp2_with fail
      refine (crcAdd_any s A' c' r w hs (by omega) ht hr').mono ?_
      rintro e w' ⟨rfl, rfl⟩
      go_wp2_with fail
      refine (crcSum_any A c b w (by omega) ht hrb).mono ?_
      rintro e w' ⟨rfl, rfl⟩
      have efin : CrcMath.add s r = CrcMath.add 0 b := by rw [← HS.out, ← HR.out, CrcMath.add_append, List.take_append_drop]
      rw [efin]
      clear efin
      go_wp2_with fail
      refine (crcLives_any w ht).mono ?_
      rintro e w2 ⟨rfl, hb2⟩
      go_wp2_with fail
      go_ret
      exact ⟨rfl, hb2⟩
end Go.Proofs.YtpejfngkdkkfnaaDoor
