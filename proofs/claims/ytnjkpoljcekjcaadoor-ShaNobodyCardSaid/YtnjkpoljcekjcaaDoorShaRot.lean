/- The contracts of turning 32 bits: the library's and the document's. -/
import Derived.Test.YtnjkpoljcekjcaaDoorBase
import Derived.Test.YtnjkpoljcekjcaaDoorShaMath
namespace Go.Proofs.YtnjkpoljcekjcaaDoor
open Go.RowKit
theorem rot_or (x n : Nat) (hx : x < 4294967296) : bits .or .u32 (IntKind.u32.wrap ((x : Int) * 2 ^ (32 - n))) ((x : Int) / 2 ^ n) = (ShaMath.rot x n : Nat) := by
  have e1 : IntKind.u32.wrap ((x : Int) * 2 ^ (32 - n)) = ((x * 2 ^ (32 - n) % 4294967296 : Nat) : Int) := by
    rw [show (x : Int) * 2 ^ (32 - n) = ((x * 2 ^ (32 - n) : Nat) : Int) by simp, IntKind.wrap_u32]
    generalize x * 2 ^ (32 - n) = q
    omega
  have e2 : (x : Int) / 2 ^ n = ((x / 2 ^ n : Nat) : Int) := by simp
  rw [e1, e2, u32_or_nat _ _ (Nat.mod_lt _ (by decide)) (Nat.lt_of_le_of_lt (Nat.div_le_self _ _) hx), Nat.or_comm]
  rfl
theorem rot_or' (x n : Nat) (hx : x < 4294967296) : bits .or .u32 ((x : Int) / 2 ^ n) (IntKind.u32.wrap ((x : Int) * 2 ^ (32 - n))) = (ShaMath.rot x n : Nat) := by
  have e1 : IntKind.u32.wrap ((x : Int) * 2 ^ (32 - n)) = ((x * 2 ^ (32 - n) % 4294967296 : Nat) : Int) := by
    rw [show (x : Int) * 2 ^ (32 - n) = ((x * 2 ^ (32 - n) : Nat) : Int) by simp, IntKind.wrap_u32]
    generalize x * 2 ^ (32 - n) = q
    omega
  have e2 : (x : Int) / 2 ^ n = ((x / 2 ^ n : Nat) : Int) := by simp
  rw [e1, e2, u32_or_nat _ _ (Nat.lt_of_le_of_lt (Nat.div_le_self _ _) hx) (Nat.mod_lt _ (by decide))]
  rfl
theorem rot_and (n : Nat) (h0 : 0 < n) (h1 : n < 32) : bits .and .u64 (IntKind.u64.wrap (-(n : Int))) 31 = ((32 - n : Nat) : Int) := by
  have : ∀ n : Nat, n < 32 → 0 < n → bits .and .u64 (IntKind.u64.wrap (-(n : Int))) 31 = ((32 - n : Nat) : Int) := by decide +kernel
  exact this n h1 h0
set_option maxHeartbeats 400000 in
theorem rotL_any (x n : Nat) (z : Int) (w : World) (hx : x < 4294967296) (hz : z = -(n : Int)) (h0 : 0 < n) (h1 : n < 32) :
    Calls Tryd.prog 42 #[.int .u32 (x : Nat), .int .i64 z] w fun e w' => e = .returned (.int .u32 (ShaMath.rot x n : Nat)) ∧ w = w' := by
  have ha := rot_and n h0 h1
  have ho := rot_or x n hx
  have hd : (32 : Int) - ((32 - n : Nat) : Int) = (n : Int) := by omega
  rw [← hz] at ha
  clear hz
  obtain ⟨q, hq⟩ : ∃ q, 32 - n = q := ⟨_, rfl⟩
  rw [hq] at ha ho hd
  have HO := Lib.hid ho
  clear ho
  go_enter Tryd.func42, Tryd.ntmps42
  go_wp2_with fail
  go_ret
  exact ⟨ret_int' HO.out, rfl⟩
set_option maxHeartbeats 400000 in
theorem turn_any (x n : Nat) (w : World) (hx : x < 4294967296) (h1 : n < 32) :
    Calls Tryd.prog 40 #[.int .u32 (x : Nat), .int .u64 (n : Nat)] w fun e w' => e = .returned (.int .u32 (ShaMath.rot x n : Nat)) ∧ w = w' := by
  have ho := rot_or' x n hx
  have hd : (32 : Int) - (n : Int) = ((32 - n : Nat) : Int) := by omega
  obtain ⟨q, hq⟩ : ∃ q, 32 - n = q := ⟨_, rfl⟩
  rw [hq] at ho hd
  have HO := Lib.hid ho
  clear ho
  go_enter Tryd.func40, Tryd.ntmps40
  go_wp2_with fail
  go_ret
  exact ⟨ret_int' HO.out, rfl⟩
end Go.Proofs.YtnjkpoljcekjcaaDoor
