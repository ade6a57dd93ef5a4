/- The walk of the statement on what every row of calls to a disk answers: DiskPlays. -/
import Derived.Test.YtckihiiimomgfaaTwo
namespace Go.Proofs.Ytckihiiimomgfaa
open Go.RowKit DiskMath
def DpRel (W : World) (n p q : Nat) (i : Value) (wr : World) : Prop := ∃ (j c : Nat) (F G : Nat → Prop) (d : Dk), i = .int .i64 (j : Int) ∧ j ≤ 40 ∧ c ≤ j ∧ d.waits.length ≤ j ∧ d.fast.length = n ∧ Two W wr F G p q d d c
set_option maxRecDepth 100000 in
set_option maxHeartbeats 4000000 in
theorem diskPlays_no (x : Int) (A : Option Addr) (c N : Nat) (w : World) (hx : x < 1 ∨ 65536 < x) :
    Calls Try.prog 5 #[.int .i64 x, .slice A N c] w fun e w' => e = .returned (.bool true) ∧ Below w.heap.size w w' := by
  have HN1 := Lib.hid (diskNew_no x w hx)
  have HN2 := Lib.hid (refNew_no x w hx)
  by_cases h8 : 8 < x
  · have h6 : ¬ x ≤ 65536 := by omega
    have h6' : 65536 < x := by omega
    clear hx
    go_enter Try.func5, Try.ntmps5
    go_wp2_with fail
    refine HN1.out.mono ?_
    rintro e w' ⟨rfl, rfl⟩
    go_wp2_with fail
    refine HN2.out.mono ?_
    rintro e w' ⟨rfl, rfl⟩
    clear HN1 HN2
    go_wp2_with fail
    go_loopw [9] (fun i wr => i = .int .i64 0 ∧ wr = w) (fun _ _ => 0)
    case atStart => exact ⟨rfl, rfl⟩
    case round =>
      obtain ⟨rfl, rfl⟩ := hrel
      by_cases hn : 0 < N
      all_goals
        go_wp2_with fail
        refine (diskLives_any _).mono ?_
        rintro e w8 ⟨rfl, hb8⟩
        have HB8 := Lib.hid hb8
        clear hb8
        go_wp2_with fail
        go_ret
        exact ⟨rfl, HB8.out⟩
  · have hx1 : x < 1 := by omega
    clear hx
    go_enter Try.func5, Try.ntmps5
    go_wp2_with fail
    refine HN1.out.mono ?_
    rintro e w' ⟨rfl, rfl⟩
    go_wp2_with fail
    refine HN2.out.mono ?_
    rintro e w' ⟨rfl, rfl⟩
    clear HN1 HN2
    go_wp2_with fail
    go_loopw [9] (fun i wr => i = .int .i64 0 ∧ wr = w) (fun _ _ => 0)
    case atStart => exact ⟨rfl, rfl⟩
    case round =>
      obtain ⟨rfl, rfl⟩ := hrel
      by_cases hn : 0 < N
      all_goals
        go_wp2_with fail
        refine (diskLives_any _).mono ?_
        rintro e w8 ⟨rfl, hb8⟩
        have HB8 := Lib.hid hb8
        clear hb8
        go_wp2_with fail
        go_ret
        exact ⟨rfl, HB8.out⟩
end Go.Proofs.Ytckihiiimomgfaa
