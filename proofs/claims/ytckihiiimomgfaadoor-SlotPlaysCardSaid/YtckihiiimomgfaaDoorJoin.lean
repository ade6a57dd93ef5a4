/- The contracts of stamp.full and stamp.Join. Printed by gen_join.py. -/
import Derived.Test.YtckihiiimomgfaaDoorPRow
import Derived.Test.YtckihiiimomgfaaDoorGStamp
import Derived.Test.YtckihiiimomgfaaDoorGReg
namespace Go.Proofs.YtckihiiimomgfaaDoor
open Go.RowKit
def fullN (i t : Int) (n : Nat) : Bool := if i < t - 1 then n == 38 else if 1 < t then 0 < n else true
theorem fullN_eq (p : StampMath.Part) : fullN p.index p.total p.data.length = decide (StampMath.full p) := by
  unfold fullN StampMath.full
  split
  · by_cases h : p.data.length = 38 <;> simp [h]
  · split
    · rfl
    · rfl
set_option maxHeartbeats 1000000 in
theorem full_any (a b i t : Int) (A : Option Addr) (n c : Nat) (w : World) (_ht : -9223372036854775807 ≤ t ∧ t ≤ 9223372036854775807 := by omega) :
    Calls Tryd.prog 93 #[.agg #[.int .i64 a, .int .i64 b, .int .i64 i, .int .i64 t, .slice A n c]] w fun e w' => e = .returned (.bool (fullN i t n)) ∧ Below w.heap.size w w' := by
  have hb := below_alloc w (.cells #[.int .i64 a, .int .i64 b, .int .i64 i, .int .i64 t, .slice A n c] 130)
  have HB := Lib.hid hb
  obtain ⟨ht1, ht2⟩ := _ht
  clear hb
  by_cases h1 : i < t - 1
  · have hf : fullN i t n = (n == 38) := by unfold fullN; rw [if_pos h1]
    rw [hf]
    by_cases h38 : n = 38
    · subst h38
      go_enter Tryd.func93, Tryd.ntmps93
      go_wp2_with fail
      go_ret
      exact ⟨rfl, HB.out⟩
    · have hn : ((n : Int) == 38) = false := by rw [beq_eq_false_iff_ne]; omega
      have hn2 : (n == 38) = false := by rw [beq_eq_false_iff_ne]; exact h38
      rw [hn2]
      clear h38 hf
      go_enter Tryd.func93, Tryd.ntmps93
      go_wp2_with fail
      go_ret
      exact ⟨rfl, HB.out⟩
  · by_cases h2 : 1 < t
    · have hf : fullN i t n = decide (0 < n) := by unfold fullN; rw [if_neg h1, if_pos h2]
      rw [hf]
      by_cases h0 : 0 < n
      · have hd : decide (0 < n) = true := decide_eq_true h0
        rw [hd]
        clear hd hf
        go_enter Tryd.func93, Tryd.ntmps93
        go_wp2_with fail
        go_ret
        exact ⟨rfl, HB.out⟩
      · obtain rfl : n = 0 := by omega
        go_enter Tryd.func93, Tryd.ntmps93
        go_wp2_with fail
        go_ret
        exact ⟨rfl, HB.out⟩
    · have hf : fullN i t n = true := by unfold fullN; rw [if_neg h1, if_neg h2]
      rw [hf]
      clear hf
      go_enter Tryd.func93, Tryd.ntmps93
      go_wp2_with fail
      go_ret
      exact ⟨rfl, HB.out⟩
end Go.Proofs.YtckihiiimomgfaaDoor
