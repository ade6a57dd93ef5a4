/- The contracts of the document's small helpers on bytes: Cut, Copy, Same, Within. -/
import Derived.Test.YtpejfngkdkkfnaaDoorProg
import Derived.Test.YtpejfngkdkkfnaaDoorWords
import Derived.Deep.QuietTactic
import Derived.BigQuiet
import Derived.Outline
namespace Go.Proofs.YtpejfngkdkkfnaaDoor
open Go.RowKit

theorem info_u8 : (Tryd.prog.info? 5).map (fun i => (i.zero, i.size, i.bytes)) = some (some (.int .u8 0), 1, 1) := by kernel_rfl

theorem ret_bool {a b : Bool} (h : a = b) : Ending.returned (.bool a) = .returned (.bool b) := by rw [h]
theorem ret_int' {k : IntKind} {a b : Int} (h : a = b) : Ending.returned (.int k a) = .returned (.int k b) := by rw [h]

set_option maxHeartbeats 400000 in
theorem cut_any (A : Option Addr) (n c k : Nat) (w : World) (hc : n ≤ c) (_hm : c ≤ 9223372036854775807) (_hk : k ≤ 65536) :
    Calls Tryd.prog 13 #[.slice A n c, .int .i64 k] w fun e w' => e = .returned (.slice A (min n k) c) ∧ w = w' := by
  go_enter Tryd.func13, Tryd.ntmps13
  by_cases h : k < n
  · go_wp2
    go_ret
    exact ⟨by rw [Nat.min_eq_right (by omega)]; rfl, rfl⟩
  · go_wp2
    go_ret
    exact ⟨by rw [Nat.min_eq_left (by omega)]; rfl, rfl⟩
theorem cut_bs (A : Option Addr) (c k : Nat) (l : List UInt8) (w : World) (hc : l.length ≤ c) (hm : c ≤ maxLen) (hk : k ≤ 65536) :
    Calls Tryd.prog 13 #[.slice A l.length c, .int .i64 k] w fun e w' => e = .returned (.slice A (l.take k).length c) ∧ w = w' := by
  unfold maxLen at hm
  refine (cut_any A l.length c k w hc (by omega) hk).mono ?_
  rintro e w' ⟨rfl, rfl⟩
  exact ⟨by rw [List.length_take, Nat.min_comm], rfl⟩

set_option maxHeartbeats 400000 in
theorem within_any (x lo hi : Int) (w : World) (h : lo ≤ hi) :
    Calls Tryd.prog 20 #[.int .i64 x, .int .i64 lo, .int .i64 hi] w fun e w' => e = .returned (.int .i64 (max lo (min x hi))) ∧ w = w' := by
  go_enter Tryd.func20, Tryd.ntmps20
  by_cases h1 : x < lo
  · go_wp2
    go_ret
    exact ⟨ret_int' (by show lo = _; omega), rfl⟩
  · by_cases h2 : hi < x
    · go_wp2
      go_ret
      exact ⟨ret_int' (by show hi = _; omega), rfl⟩
    · go_wp2
      go_ret
      exact ⟨ret_int' (by show x = _; omega), rfl⟩

set_option maxHeartbeats 400000 in
/-- bytes in memory of their own -/
theorem copy_any (A : Option Addr) (c : Nat) (l : List UInt8) (w : World) (hl : l.length ≤ 65536) (hr : Bs w A l) :
    Calls Tryd.prog 14 #[.slice A l.length c] w fun e w' => ∃ v, e = .returned v ∧ w'.ownsRow w.heap.size 5 1 v l.length (bvs l) ∧ Below w.heap.size w w' := by
  obtain ⟨i0, hi0, hz0, hz1, hz2⟩ := info_parts info_u8
  go_enter Tryd.func14, Tryd.ntmps14
  go_wp2_with (at_builtin; refine wpList_append_bs _ rfl _ _ 23 rfl w.heap.size 5 i0 (.int .u8 0) Tryd.underlying23 hi0 hz0 hz1 hz2 rfl (.slice none 0 0) [] rfl (World.ownsRow_nil _ _ _ _) A c l.length l rfl rfl hr (by simp; omega) (Nat.le_refl _) ?_; intro v1 w1 hown1 hg1 _)
  go_ret
  exact ⟨v1, rfl, by simpa using hown1, (Below.refl _ _).grown hg1 (Nat.le_refl _) (by simp [Value.ownBlock])⟩

def sameB (l m : List UInt8) : Bool := decide (l = m)
theorem sameB_true {l m : List UInt8} (h : sameB l m = true) : l = m := of_decide_eq_true h
theorem sameB_self (l : List UInt8) : sameB l l = true := decide_eq_true rfl
def SameRel (l m : List UInt8) (w : World) (i : Value) (wr : World) : Prop := ∃ k : Nat, k ≤ l.length ∧ i = .int .i64 k ∧ l.take k = m.take k ∧ ∃ n, wr = w.drewN n
set_option maxHeartbeats 400000 in
/-- whether two rows of bytes are the same -/
theorem same_any (A B : Option Addr) (c d : Nat) (l m : List UInt8) (w : World) (hl : l.length ≤ 9223372036854775806) (hm : m.length ≤ 9223372036854775806) (ha : Bs w A l) (hb : Bs w B m) :
    Calls Tryd.prog 18 #[.slice A l.length c, .slice B m.length d] w fun e w' => e = .returned (.bool (sameB l m)) ∧ ∃ n, w' = w.drewN n := by
  by_cases hlen : l.length = m.length
  · have hne : ((l.length : Int) != (m.length : Int)) = false := by simp [hlen]
    have hll := Lib.hid hlen
    clear hlen
    go_enter Tryd.func18, Tryd.ntmps18
    go_wp2
    go_loopw [5] (fun i wr => SameRel l m w i wr) (fun i _ => l.length - (intOf i).toNat)
    case atStart => exact ⟨0, Nat.zero_le _, rfl, by simp, 0, rfl⟩
    case round =>
      obtain ⟨k, hk, rfl, hpre, n, rfl⟩ := hrel
      have HP := Lib.hid hpre
      clear hpre
      by_cases hlt : k < l.length
      · obtain ⟨ad, rfl, _, hca⟩ := ha.at_ hlt
        have hltm : k < m.length := by have := hll.out; omega
        obtain ⟨bd, rfl, _, hcb⟩ := hb.at_ hltm
        have HA := Lib.hid ha
        have HB := Lib.hid hb
        clear ha hb
        generalize hx : l[k] = x at hca
        generalize hy : m[k] = y at hcb
        have HX := Lib.hid hx
        have HY := Lib.hid hy
        clear hx hy
        by_cases hxy : x = y
        · have hq : (((x.toNat : Nat) : Int) != ((y.toNat : Nat) : Int)) = false := by simp [hxy]
          have HQ := Lib.hid hxy
          clear hxy
          go_wp2
          go_quiet (fail)
          go_wp2
          go_roundw
          case rel =>
            refine ⟨k + 1, by omega, by go_num, ?_, _, rfl⟩
            have e := HP.out
            rw [List.take_succ_eq_append_getElem hlt, List.take_succ_eq_append_getElem hltm, e, HX.out, HY.out, HQ.out]
          case measure => simp [intOf]; omega
        · have hq : (((x.toNat : Nat) : Int) != ((y.toNat : Nat) : Int)) = true := by
            rw [bne_iff_ne]
            intro h
            exact hxy (UInt8.toNat_inj.1 (by omega))
          have HQ := Lib.hid hxy
          clear hxy
          go_wp2
          go_quiet (fail)
          go_wp2
          go_ret
          refine ⟨ret_bool (b := sameB l m) ?_, _, World.drewN_drewN _ _ _⟩
          show false = sameB l m
          unfold sameB
          symm
          refine decide_eq_false fun h => HQ.out ?_
          subst h
          rw [← HX.out, ← HY.out]
      · go_wp2
        go_ret
        refine ⟨ret_bool (b := sameB l m) ?_, _, rfl⟩
        show true = sameB l m
        unfold sameB
        symm
        refine decide_eq_true ?_
        have e := HP.out
        have e2 := hll.out
        rwa [List.take_of_length_le (by omega), List.take_of_length_le (by omega)] at e
  · have hne : ((l.length : Int) != (m.length : Int)) = true := by rw [bne_iff_ne]; omega
    have hll := Lib.hid hlen
    clear hlen
    go_enter Tryd.func18, Tryd.ntmps18
    go_wp2
    go_ret
    refine ⟨ret_bool (b := sameB l m) ?_, 0, rfl⟩
    show false = sameB l m
    unfold sameB
    symm
    exact decide_eq_false fun h => hll.out (by rw [h])
theorem same_bel (A B : Option Addr) (c d : Nat) (l m : List UInt8) (w : World) (hl : l.length ≤ 9223372036854775806) (hm : m.length ≤ 9223372036854775806) (ha : Bs w A l) (hb : Bs w B m) :
    Calls Tryd.prog 18 #[.slice A l.length c, .slice B m.length d] w fun e w' => e = .returned (.bool (sameB l m)) ∧ Below w.heap.size w w' :=
  (same_any A B c d l m w hl hm ha hb).mono fun _ _ ⟨he, n, hw⟩ => ⟨he, by rw [hw]; exact below_refl_drewN _ _ _⟩
end Go.Proofs.YtpejfngkdkkfnaaDoor
