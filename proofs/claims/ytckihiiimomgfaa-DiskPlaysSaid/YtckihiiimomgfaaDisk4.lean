/- The contracts of a disk: Write. -/
import Derived.Test.YtckihiiimomgfaaDisk3
import Derived.Test.YtckihiiimomgfaaTakeH
import Derived.Test.YtckihiiimomgfaaPush
namespace Go.Proofs.Ytckihiiimomgfaa
open Go.RowKit DiskMath
set_option maxHeartbeats 400000 in
theorem diskWrite_no (w : World) (F : Nat → Prop) (p : Nat) (d : Dk) (i : Int) (A : Option Addr) (m c : Nat) (h : DiskAt w F p d) (hi : i < 0 ∨ (d.fast.length : Int) ≤ i ∨ m ≠ 64) :
    Calls Try.prog 13 #[.pointer (some ⟨p, 0, none⟩), .int .i64 i, .slice A m c] w fun e w' => e = .returned (.int .i64 2) ∧ w = w' := by
  obtain ⟨gf, gm, n, vw, hb, _⟩ := h
  obtain ⟨c0, _⟩ := hb.cells
  rw [hb.len] at hi
  have HH := Lib.hid hb
  clear hb
  go_enter Try.func13, Try.ntmps13
  go_wp2_with fail
  refine (diskOk_any w p gf gm n _ d HH.out).mono ?_
  rintro e w' ⟨rfl, rfl⟩
  by_cases h1 : i < 0
  · clear hi
    go_wp2_with fail
    go_ret
    exact ⟨rfl, rfl⟩
  · by_cases h2 : (n : Int) ≤ i
    · clear hi
      go_wp2_with fail
      go_ret
      exact ⟨rfl, rfl⟩
    · have h3 : ((m : Int) == 64) = false := by rw [beq_eq_false_iff_ne]; omega
      have h4 : ((m : Int) != 64) = true := by rw [bne, h3]; rfl
      have h5 : ¬ ((m : Int) = 64) := by omega
      have h6 : i < (n : Int) := by omega
      have h7 : 0 ≤ i := by omega
      clear hi h1 h2
      go_wp2_with fail
      go_ret
      exact ⟨rfl, rfl⟩
end Go.Proofs.Ytckihiiimomgfaa
