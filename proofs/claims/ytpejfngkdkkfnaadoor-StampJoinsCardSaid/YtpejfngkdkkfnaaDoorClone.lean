/- The contract of bytes.Clone: bytes in memory of their own, nil of nil. -/
import Derived.Test.YtpejfngkdkkfnaaDoorBase
import Derived.Lib.SliceRun
namespace Go.Proofs.YtpejfngkdkkfnaaDoor
open Go.RowKit
set_option maxHeartbeats 400000 in
theorem clone_any (A : Option Addr) (c : Nat) (l : List UInt8) (w : World) (hl : l.length ≤ 140737488355328) (hr : Bs w A l) :
    Calls Tryd.prog 34 #[.slice A l.length c] w fun e w' => ∃ v, e = .returned v ∧ w'.ownsRow w.heap.size 5 1 v l.length (bvs l) ∧ Below w.heap.size w w' := by
  obtain ⟨i0, hi0, hz0, hz1, hz2⟩ := info_parts info_u8
  have heq := fun W n c => Lib.run_eql_slice_nil (P := Tryd.prog) W 23 5 A n c 0 0 Tryd.underlying23
  cases A with
  | none =>
    obtain rfl : l = [] := by
      cases l with
      | nil => rfl
      | cons a l => obtain ⟨ad, h, _⟩ := hr 0 a rfl; cases h
    go_enter Tryd.func34, Tryd.ntmps34
    go_wp2
    go_ret
    exact ⟨_, rfl, World.ownsRow_nil _ _ _ _, Below.refl _ _⟩
  | some ad =>
    go_enter Tryd.func34, Tryd.ntmps34
    go_wp2_with (at_builtin; refine wpList_append_bs _ rfl _ _ 23 rfl w.heap.size 5 i0 (.int .u8 0) Tryd.underlying23 hi0 hz0 hz1 hz2 rfl (.slice (some ⟨w.heap.size, 0, none⟩) 0 0) [] rfl ?_ (some ad) c l.length l rfl rfl (hr.alloc _) ?_ ?_ ?_)
    · exact ⟨rfl, .inr ⟨w.heap.size, 0, #[], rfl, Nat.le_refl _, heap_alloc_new w _, Nat.le_refl _, Nat.zero_le _, rfl, rfl⟩⟩
    · simpa using hl
    · simp
    · intro v1 w1 hown1 hg1 _
      go_wp2
      go_ret
      refine ⟨v1, rfl, by simpa using hown1, ((Below.refl _ _).alloc (Nat.le_refl _) _).grown hg1 (by simp) ?_⟩
      intro k hk
      simp [Value.ownBlock] at hk
      omega
end Go.Proofs.YtpejfngkdkkfnaaDoor
