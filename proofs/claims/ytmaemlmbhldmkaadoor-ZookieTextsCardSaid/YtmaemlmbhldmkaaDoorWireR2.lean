/- The contracts of a reader, further: N, Bytes, End, Open. -/
import Derived.Test.YtmaemlmbhldmkaaDoorWireR
namespace Go.Proofs.YtmaemlmbhldmkaaDoor
open Go.RowKit
theorem rdU_len (l : List UInt8) (e : Nat) : (rdU l e).2.1.length ≤ l.length := by
  unfold rdU
  split
  · exact Nat.le_refl _
  · split <;> simp
theorem rdU_x (l : List UInt8) (e : Nat) : (rdU l e).1 < 18446744073709551616 := by
  have h0 : 0 < 18446744073709551616 := by decide
  unfold rdU
  split
  · exact h0
  · split
    · next h =>
      rcases hg : WireMath.get l with ⟨x, n, f⟩
      rw [hg] at h
      simp only at h
      subst h
      exact (WireMath.get_one hg).2.2.2.1
    · exact h0
set_option maxHeartbeats 400000 in
theorem rdOpen_any (B : Option Addr) (d : Nat) (l : List UInt8) (w : World) (hl : l.length ≤ 1000000) (hr : Bs w B l) :
    Calls Tryd.prog 13 #[.slice B l.length d] w fun en w' => ∃ g A c, en = .returned (.pointer (some ⟨g, 0, none⟩)) ∧ w.heap.size ≤ g ∧ RdAt w' g A c l 0 ∧ Below w.heap.size w w' := by
  go_enter Tryd.func13, Tryd.ntmps13
  go_wp2_with fail
  refine (clone_any B d l w (by omega) hr).mono ?_
  rintro en w1 ⟨v, rfl, hown, hb⟩
  obtain ⟨A, c, rfl, hc⟩ := own_shape hown
  have hm := own_capm hown
  have HO := Lib.hid hown
  clear hown
  go_wp2_with fail
  go_ret
  have hs := Bs.of_own HO.out
  refine ⟨w1.heap.size, A, c, rfl, hb.size, ⟨heap_alloc_new w1 _, hc, hm, hs.alloc _, fun ad e hne => ?_⟩, below_then hb (below_alloc _ _)⟩
  obtain ⟨ad', e', hlt, _⟩ := hs.at_ (k := 0) (List.length_pos_iff.2 hne)
  rw [e] at e'
  injection e' with e'
  subst e'
  omega
end Go.Proofs.YtmaemlmbhldmkaaDoor
