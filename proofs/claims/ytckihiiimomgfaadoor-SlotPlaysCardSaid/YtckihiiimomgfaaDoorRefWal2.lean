/- The contracts of the document's log: Right. -/
import Derived.Test.YtckihiiimomgfaaDoorRefWal
import Derived.Test.YtckihiiimomgfaaDoorRefDisk2
namespace Go.Proofs.YtckihiiimomgfaaDoor
open Go.RowKit DiskMath
instance (n : Nat) (a b : Int) : Decidable (RegionOk n a b) := inferInstanceAs (Decidable (_ ∧ _ ∧ _))
theorem refRight9_any (w : World) (G : Nat → Prop) (p : Nat) (d : Dk) (c : Nat) (a b : Int) (h : RDiskAt w G p d c) :
    Calls Tryd.prog 62 #[.pointer (some ⟨p, 0, none⟩), .int .i64 a, .int .i64 b] w fun e w' => e = .returned (.bool (decide (RegionOk d.fast.length a b))) ∧ w = w' := by
  obtain ⟨hp, vf, vw, ar, lf, h⟩ := h
  obtain ⟨c0, _, _, _, _, _⟩ := h.cells
  obtain ⟨Af, cf, rfl, hcf⟩ := h.fast.shape
  obtain ⟨n, hn⟩ : ∃ n, d.fast.length = n := ⟨_, rfl⟩
  rw [hn] at c0 ⊢
  clear h hcf hn
  by_cases h1 : 0 ≤ a
  · have d1 : decide (0 ≤ a) = true := decide_eq_true h1
    by_cases h2 : a < b
    · have d2 : decide (a < b) = true := decide_eq_true h2
      by_cases h3 : b ≤ (n : Int)
      · have d3 : decide (b ≤ (n : Int)) = true := decide_eq_true h3
        have hd : decide (RegionOk n a b) = true := decide_eq_true ⟨h1, h2, h3⟩
        rw [hd]
        clear hd h1 h2 h3
        go_enter Tryd.func62, Tryd.ntmps62
        go_wp2_with fail
        go_ret
        exact ⟨rfl, rfl⟩
      · have d3 : decide (b ≤ (n : Int)) = false := decide_eq_false h3
        have hd : decide (RegionOk n a b) = false := decide_eq_false (fun h => h3 h.2.2)
        rw [hd]
        clear hd h1 h2 h3
        go_enter Tryd.func62, Tryd.ntmps62
        go_wp2_with fail
        go_ret
        exact ⟨rfl, rfl⟩
    · have d2 : decide (a < b) = false := decide_eq_false h2
      have hd : decide (RegionOk n a b) = false := decide_eq_false (fun h => h2 h.2.1)
      rw [hd]
      clear hd h1 h2
      go_enter Tryd.func62, Tryd.ntmps62
      go_wp2_with fail
      go_ret
      exact ⟨rfl, rfl⟩
  · have d1 : decide (0 ≤ a) = false := decide_eq_false h1
    have hd : decide (RegionOk n a b) = false := decide_eq_false (fun h => h1 h.1)
    rw [hd]
    clear hd h1
    go_enter Tryd.func62, Tryd.ntmps62
    go_wp2_with fail
    go_ret
    exact ⟨rfl, rfl⟩
end Go.Proofs.YtckihiiimomgfaaDoor
