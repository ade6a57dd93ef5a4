/- The walk of the statement on what every row of calls to a disk answers: DiskPlays, whole. -/
import Derived.Test.YtckihiiimomgfaaDiskPlay2
namespace Go.Proofs.Ytckihiiimomgfaa
open Go.RowKit DiskMath
theorem diskPlays_walk (x : Int) (A : Option Addr) (c : Nat) (ds : List D7) (w : World) (hc : ds.length ≤ c) (hm : c ≤ maxLen) (hr : D7s w A ds) :
    Calls Try.prog 5 #[.int .i64 x, .slice A ds.length c] w fun e w' => e = .returned (.bool true) ∧ Below w.heap.size w w' := by
  by_cases h1 : x < 1 ∨ 65536 < x
  · exact diskPlays_no x A c ds.length w h1
  · by_cases h8 : x ≤ 8
    · obtain ⟨n, rfl⟩ := Int.eq_ofNat_of_zero_le (show 0 ≤ x by omega)
      exact diskPlays_yes n n A c ds w (.inl ⟨rfl, by omega, by omega⟩) hc hm hr
    · exact diskPlays_yes x 8 A c ds w (.inr ⟨by omega, by omega, rfl⟩) hc hm hr
end Go.Proofs.Ytckihiiimomgfaa
