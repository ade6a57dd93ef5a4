/- The contracts of the turned bits: the program's and the document's. -/
import Derived.Test.YtpejfngkdkkfnaaDoorClone
import Derived.Test.YtpejfngkdkkfnaaDoorCrcMath
import Derived.RegionTactic
import Derived.BigRegion
namespace Go.Proofs.YtpejfngkdkkfnaaDoor
open Go.RowKit

/-- how many bits are turned -/
def turns (at_ n : Int) (len : Nat) : Nat := (min (min n 32) (8 * (len : Int) - at_)).toNat
def turned (l : List UInt8) (at_ n : Int) : List UInt8 := if at_ < 0 then l else CrcMath.turnTo l at_.toNat (turns at_ n l.length)
theorem bvs_set (l : List UInt8) (j : Nat) (c : UInt8) : (bvs l).set j (.int .u8 (c.toNat : Int)) = bvs (l.set j c) := by simp [bvs, List.map_set]

def TurnRel (l : List UInt8) (a K : Nat) (v : Value) (w : World) (i : Value) (wr : World) : Prop :=
  ∃ k : Nat, k ≤ K ∧ i = .int .i64 (k : Nat) ∧ wr.ownsRow w.heap.size 5 1 v l.length (bvs (CrcMath.turnTo l a k)) ∧ Below w.heap.size w wr

theorem turn_byte (x : UInt8) (r : Nat) (hr : r < 8) : bits .xor .u8 (x.toNat : Int) ((2 : Int) ^ r % 256) = ((UInt8.ofNat (x.toNat ^^^ 2 ^ r)).toNat : Int) := by
  have hp : 2 ^ r < 256 := Nat.pow_lt_pow_right (n := 8) (by decide) hr
  have e : (2 : Int) ^ r % 256 = ((2 ^ r : Nat) : Int) := by
    have h2 : (2 : Int) ^ r = ((2 ^ r : Nat) : Int) := by simp
    rw [h2]
    generalize 2 ^ r = q at *
    omega
  rw [e, u8_xor_nat _ _ x.toNat_lt hp, UInt8.toNat_ofNat', Nat.mod_eq_of_lt (Nat.xor_lt_two_pow (n := 8) x.toNat_lt hp)]
theorem turn_step {wr : World} {base g cap : Nat} {l : List UInt8} {a k : Nat} {x : UInt8}
    (hown : wr.ownsRow base 5 1 (.slice (some ⟨g, 0, none⟩) l.length cap) l.length (bvs (CrcMath.turnTo l a k))) (hx : (CrcMath.turnTo l a k).getD ((a + k) / 8) 0 = x) :
    (wr.setCell ⟨g, (a + k) / 8, none⟩ (.int .u8 (bits .xor .u8 (x.toNat : Int) ((2 : Int) ^ ((a + k) % 8) % 256)))).ownsRow base 5 1 (.slice (some ⟨g, 0, none⟩) l.length cap) l.length (bvs (CrcMath.turnTo l a (k + 1))) := by
  have h := (hown.stored ((a + k) / 8) (.int .u8 (bits .xor .u8 (x.toNat : Int) ((2 : Int) ^ ((a + k) % 8) % 256)))).1
  rw [turn_byte x _ (Nat.mod_lt _ (by decide)), bvs_set] at h
  rw [turn_byte x _ (Nat.mod_lt _ (by decide))]
  simp only [CrcMath.turnTo, CrcMath.flip1, hx]
  exact h

set_option maxHeartbeats 1000000 in
theorem turned_any (A : Option Addr) (c : Nat) (l : List UInt8) (at_ n : Int) (w : World) (hl : l.length ≤ 65536) (hr : Bs w A l) (ha : at_ ≤ 9223372036854775807) (hn : -9223372036854775808 ≤ n) :
    Calls Tryd.prog 21 #[.slice A l.length c, .int .i64 at_, .int .i64 n] w fun e w' => ∃ v, e = .returned v ∧ w'.ownsRow w.heap.size 5 1 v l.length (bvs (turned l at_ n)) ∧ Below w.heap.size w w' := by
  by_cases hneg : at_ < 0
  · go_enter Tryd.func21, Tryd.ntmps21
    go_wp2_with (go_at_call 34; refine (clone_any A c l w (by omega) hr).mono ?_; rintro e w1 ⟨v, rfl, hown, hb1⟩)
    go_ret
    exact ⟨v, rfl, by unfold turned; rw [if_pos hneg]; exact hown, hb1⟩
  · obtain ⟨a, rfl⟩ := Int.eq_ofNat_of_zero_le (show 0 ≤ at_ by omega)
    go_enter Tryd.func21, Tryd.ntmps21
    go_wp2_with (go_at_call 34; refine (clone_any A c l w (by omega) hr).mono ?_; rintro e w1 ⟨v, rfl, hown, hb1⟩; obtain ⟨A1, c1, rfl, _⟩ := own_shape hown)
    have HO := Lib.hid hown
    clear hown hr
    go_loopw [8] (fun i wr => TurnRel l a (turns a n l.length) (.slice A1 l.length c1) w i wr) (fun i _ => 32 - (intOf i).toNat)
    case atStart => exact ⟨0, Nat.zero_le _, rfl, HO.out, hb1⟩
    case round =>
      obtain ⟨k, hk, rfl, hown, hbr⟩ := hrel
      clear HO hb1
      by_cases hin : k < turns a n l.length
      · have h1 : (k : Int) < n ∧ (k : Int) < 32 ∧ (a : Int) < 8 * (l.length : Int) - k := by unfold turns at hin; omega
        obtain ⟨h1, h2, h3⟩ := h1
        have hlen : 0 < l.length := by omega
        obtain ⟨g, cap, hv, hbg, hgl⟩ := hown.form hlen
        injection hv with hA _ hc1
        subst hA hc1
        have hj : (a + k) / 8 < l.length := by omega
        have hcell : wr.cell? ⟨g, (a + k) / 8, none⟩ = some (.int .u8 (((CrcMath.turnTo l a k).getD ((a + k) / 8) 0).toNat : Int)) := by
          rw [hown.cellAt _ (by omega)]
          exact bvs_get _ _ _ (by rw [List.getD_eq_getElem?_getD, List.getElem?_eq_getElem (by rw [CrcMath.turnTo_length]; exact hj)]; rfl)
        have hfro := hown.frozenAt ((a + k) / 8)
        have HO := Lib.hid hown
        clear hown
        generalize hX : (CrcMath.turnTo l a k).getD ((a + k) / 8) 0 = x at hcell
        have HX := Lib.hid hX
        clear hX
        go_wp2
        all_goals
          go_region
          go_wp2
          go_roundw
          case rel => exact ⟨k + 1, by omega, by go_num, (turn_step HO.out HX.out).drew, (hbr.setCell (p := ⟨g, _, none⟩) hbg _).drew⟩
          case measure => simp [intOf]; omega
      · have h1 : n ≤ (k : Int) ∨ 32 ≤ (k : Int) ∨ 8 * (l.length : Int) - k ≤ (a : Int) := by unfold turns at hin; omega
        have HO := Lib.hid hown
        have hfin : turned l (a : Int) n = CrcMath.turnTo l a k := by
          unfold turned
          rw [if_neg (by omega), Int.toNat_natCast]
          congr 1
          omega
        have HF := Lib.hid hfin
        clear hown hfin
        rcases h1 with h1 | h1 | h1 <;> go_wp2
        all_goals
          go_ret
          exact ⟨_, rfl, by rw [HF.out]; exact HO.out, hbr⟩

set_option maxHeartbeats 1000000 in
theorem refTurned_any (A : Option Addr) (c : Nat) (l : List UInt8) (at_ n : Int) (w : World) (hl : l.length ≤ 65536) (hr : Bs w A l) (ha : at_ ≤ 9223372036854775807) (ha' : -9223372036854775808 ≤ at_) (hn : -9223372036854775808 ≤ n) :
    Calls Tryd.prog 22 #[.slice A l.length c, .int .i64 at_, .int .i64 n] w fun e w' => ∃ v, e = .returned v ∧ w'.ownsRow w.heap.size 5 1 v l.length (bvs (turned l at_ n)) ∧ Below w.heap.size w w' := by
  by_cases hneg : at_ < 0
  · go_enter Tryd.func22, Tryd.ntmps22
    go_wp2_with (go_at_call 14; refine (copy_any A c l w (by omega) hr).mono ?_; rintro e w1 ⟨v, rfl, hown, hb1⟩)
    refine wp_loop_rounds 1 ?_
    rw [rounds_succ]
    by_cases hn0 : 0 < n
    all_goals
      go_wp2
      go_ret
      exact ⟨v, rfl, by unfold turned; rw [if_pos hneg]; exact hown, hb1⟩
  · obtain ⟨a, rfl⟩ := Int.eq_ofNat_of_zero_le (show 0 ≤ at_ by omega)
    go_enter Tryd.func22, Tryd.ntmps22
    go_wp2_with (go_at_call 14; refine (copy_any A c l w (by omega) hr).mono ?_; rintro e w1 ⟨v, rfl, hown, hb1⟩; obtain ⟨A1, c1, rfl, _⟩ := own_shape hown)
    have HO := Lib.hid hown
    clear hown hr
    go_loopw [8] (fun i wr => TurnRel l a (turns a n l.length) (.slice A1 l.length c1) w i wr) (fun i _ => 32 - (intOf i).toNat)
    case atStart => exact ⟨0, Nat.zero_le _, rfl, HO.out, hb1⟩
    case round =>
      obtain ⟨k, hk, rfl, hown, hbr⟩ := hrel
      clear HO hb1
      by_cases hin : k < turns a n l.length
      · have h1 : (k : Int) < n ∧ (k : Int) < 32 ∧ (a : Int) < 8 * (l.length : Int) - k := by unfold turns at hin; omega
        obtain ⟨h1, h2, h3⟩ := h1
        have hlen : 0 < l.length := by omega
        obtain ⟨g, cap, hv, hbg, hgl⟩ := hown.form hlen
        injection hv with hA _ hc1
        subst hA hc1
        have hj : (a + k) / 8 < l.length := by omega
        have hcell : wr.cell? ⟨g, (a + k) / 8, none⟩ = some (.int .u8 (((CrcMath.turnTo l a k).getD ((a + k) / 8) 0).toNat : Int)) := by
          rw [hown.cellAt _ (by omega)]
          exact bvs_get _ _ _ (by rw [List.getD_eq_getElem?_getD, List.getElem?_eq_getElem (by rw [CrcMath.turnTo_length]; exact hj)]; rfl)
        have hfro := hown.frozenAt ((a + k) / 8)
        have HO := Lib.hid hown
        clear hown
        generalize hX : (CrcMath.turnTo l a k).getD ((a + k) / 8) 0 = x at hcell
        have HX := Lib.hid hX
        clear hX
        go_wp2
        go_roundw
        case rel => exact ⟨k + 1, by omega, by go_num, turn_step HO.out HX.out, hbr.setCell (p := ⟨g, _, none⟩) hbg _⟩
        case measure => simp [intOf]; omega
      · have h1 : n ≤ (k : Int) ∨ 32 ≤ (k : Int) ∨ 8 * (l.length : Int) - k ≤ (a : Int) := by unfold turns at hin; omega
        have HO := Lib.hid hown
        have hfin : turned l (a : Int) n = CrcMath.turnTo l a k := by
          unfold turned
          rw [if_neg (by omega), Int.toNat_natCast]
          congr 1
          omega
        have HF := Lib.hid hfin
        clear hown hfin
        rcases h1 with h1 | h1 | h1 <;> go_wp2
        all_goals
          go_ret
          exact ⟨_, rfl, by rw [HF.out]; exact HO.out, hbr⟩
end Go.Proofs.YtpejfngkdkkfnaaDoor
