/- The contracts of the document's log: number (of four bytes). -/
import Derived.Test.YtckihiiimomgfaaDoorGWal
namespace Go.Proofs.YtckihiiimomgfaaDoor
open Go.RowKit DiskMath
def Num9Rel (l : List UInt8) (x i : Value) : Prop := ∃ k : Nat, k ≤ 4 ∧ i = .int .i64 (k : Nat) ∧ x = .int .i64 (StampMath.ofBe (l.take k) : Nat)
set_option maxHeartbeats 400000 in
theorem refNumber9_any (A : Option Addr) (c n : Nat) (l : List UInt8) (w : World) (hn : l.length = n) (hl : 4 ≤ n) (hm : n ≤ 65536) (hr : Bs w A l) :
    Calls Tryd.prog 63 #[.slice A n c] w fun e w' => e = .returned (.int .i64 (StampMath.ofBe (l.take 4) : Nat)) ∧ w = w' := by
  go_enter Tryd.func63, Tryd.ntmps63
  go_wp2_with fail
  go_loop [3, 4] (fun x i => Num9Rel l x i) (fun _ i => 4 - (intOf i).toNat)
  case atStart => exact ⟨0, Nat.zero_le _, rfl, rfl⟩
  case round =>
    obtain ⟨k, hk, rfl, rfl⟩ := hrel
    by_cases hlt : k < 4
    · have hkl : k < l.length := by omega
      have hkn : k < n := by omega
      have hki : (k : Int) < (n : Int) := by omega
      have hx : StampMath.ofBe (l.take k) < 16777216 := by
        have h1 := StampMath.ofBe_lt (l.take k)
        have h2 : (l.take k).length ≤ 3 := by rw [List.length_take]; omega
        have h3 : 256 ^ (l.take k).length ≤ 256 ^ 3 := Nat.pow_le_pow_right (by decide) h2
        omega
      generalize hX : StampMath.ofBe (l.take k) = x at hx
      have HX := Lib.hid hX
      clear hX
      obtain ⟨ad, rfl, _, hca⟩ := hr.at_ hkl
      have HR := Lib.hid hr
      clear hr
      generalize hC : l[k] = b at hca
      have HC := Lib.hid hC
      clear hC
      have hb := b.toNat_lt
      have HN := Lib.hid hn
      clear hn
      go_wp2_with fail
      go_round
      case rel =>
        refine ⟨k + 1, by omega, by go_num, ?_⟩
        rw [List.take_succ_eq_append_getElem hkl, StampMath.ofBe_snoc, HX.out, HC.out]
        go_num
      case measure => simp [intOf]; omega
    · obtain rfl : k = 4 := by omega
      go_wp2_with fail
      go_ret
      exact ⟨rfl, rfl⟩
end Go.Proofs.YtckihiiimomgfaaDoor
