/- The walks that the disk's statements share: lives, played. -/
import Derived.Test.YtckihiiimomgfaaDoorSec
import Derived.Test.YtckihiiimomgfaaDoorOpenDo7
import Derived.Test.YtckihiiimomgfaaDoorGReg
namespace Go.Proofs.YtckihiiimomgfaaDoor
open Go.RowKit DiskMath
theorem write_ok {d : Dk} {i : Nat} {b : Sector} (hi : i < d.fast.length) (hb : b.length = 64) (ha : d.armed = 0) (hd : d.dead = false) : write d i b = ({ d with waits := d.waits ++ [(i, b)] }, 0) := by
  have hs : DiskMath.step d = (d, true) := by unfold DiskMath.step; rw [if_neg (by omega), hd]; rfl
  unfold write
  rw [if_pos ⟨by omega, by omega, hb⟩, hs]
  simp
theorem flush_ok {d : Dk} (ha : d.armed = 0) (hd : d.dead = false) : flush d = ({ d with fast := view d, waits := [] }, 0) := by
  have hs : DiskMath.step d = (d, true) := by unfold DiskMath.step; rw [if_neg (by omega), hd]; rfl
  unfold flush
  rw [hs]
  rfl
theorem write_wf {d : Dk} {i : Nat} {b : Sector} : (write d i b).1.fast.length = d.fast.length ∧ (write d i b).1.waits.length ≤ d.waits.length + 1 := by
  unfold write
  split
  · split
    · exact ⟨congrArg List.length (step_fst d).1, by simp⟩
    · exact ⟨congrArg List.length (step_fst d).1, by rw [(step_fst d).2.1]; omega⟩
  · exact ⟨rfl, Nat.le_succ _⟩
theorem flush_len (d : Dk) : (flush d).1.fast.length = d.fast.length ∧ (flush d).1.waits.length ≤ d.waits.length := by
  unfold flush
  split
  · exact ⟨view_length d, by simp⟩
  · exact ⟨congrArg List.length (step_fst d).1, by rw [(step_fst d).2.1]; exact Nat.le_refl _⟩
theorem crash_len (d : Dk) (l : List Int) : (crash d l).fast.length = d.fast.length ∧ (crash d l).waits = [] ∧ (crash d l).armed = 0 ∧ (crash d l).dead = false := ⟨torn_length _ _ _, rfl, rfl, rfl⟩
end Go.Proofs.YtckihiiimomgfaaDoor
