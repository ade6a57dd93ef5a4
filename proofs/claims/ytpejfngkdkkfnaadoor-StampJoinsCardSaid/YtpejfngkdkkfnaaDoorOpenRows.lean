/- An argument that is a row of rows of bytes, opened, over any program. -/
import Derived.Test.YtpejfngkdkkfnaaDoorLaw
import Derived.Deep.Slices
namespace Go.Proofs.YtpejfngkdkkfnaaDoor
open Go.ChangeShapes Go.WideShapes Go.ChangeAt Go.RowKit
/-- the slice at A is the row of rows of bytes ls -/
def Rws (w : World) (A : Option Addr) (ls : List (List UInt8)) : Prop := ∀ (j : Nat) (l : List UInt8), ls[j]? = some l → ∃ ad B c, A = some ad ∧ ad.block < w.heap.size ∧ w.cell? (ad.add j) = some (.slice B l.length c) ∧ l.length ≤ c ∧ c ≤ maxLen ∧ Bs w B l
theorem Rws.below {w w' : World} {A : Option Addr} {ls : List (List UInt8)} (h : Rws w A ls) (hb : Below w.heap.size w w') : Rws w' A ls := fun j l hj => by
  obtain ⟨ad, B, c, e, hlt, hc, h1, h2, h3⟩ := h j l hj
  exact ⟨ad, B, c, e, Nat.lt_of_lt_of_le hlt hb.size, (hb.cell (by rw [addr_block]; exact hlt)).trans hc, h1, h2, h3.below hb⟩
theorem list_of {α : Type} {p : Nat → α → Prop} : ∀ (n : Nat), (∀ i, i < n → ∃ d, p i d) → ∃ ds : List α, ds.length = n ∧ ∀ j d, ds[j]? = some d → p j d
  | 0, _ => ⟨[], rfl, fun j d hj => by simp at hj⟩
  | n + 1, h => by
    obtain ⟨ds, hl, hd⟩ := list_of n (fun i hi => h i (by omega))
    obtain ⟨d, hp⟩ := h n (by omega)
    refine ⟨ds ++ [d], by simp [hl], fun j e hj => ?_⟩
    by_cases hjn : j < n
    · rw [List.getElem?_append_left (by omega)] at hj
      exact hd j e hj
    · have : j = n := by
        have := (List.getElem?_eq_some_iff.1 hj).1
        simp [hl] at this
        omega
      subst this
      rw [List.getElem?_append_right (by omega), hl] at hj
      simp at hj
      subst hj
      exact hp
theorem open_rows {H : Type} {enc : TypeId × Value → H} {P : Program} {W : World} {sp : Nat → Bool} {t e u : TypeId} {fuel : Nat} {v : Value} {x : DataW H × List MemPlace} (ht : P.underlying t = some (.slice e)) (hce : P.cellsOf e = 1) (he : P.underlying e = some (.slice u)) (hu : P.underlying u = some (.int .u8)) (hcu : P.cellsOf u = 1)
    (h : DataW.trod enc P W 0 sp true fuel t [v] = some x) : ∃ (A : Option Addr) (ls : List (List UInt8)) (c : Nat), v = .slice A ls.length c ∧ ls.length ≤ c ∧ c ≤ maxLen ∧ Rws W A ls := by
  rcases Go.Deep.open_slice1 ht hce h with ⟨hcs, _⟩ | ⟨a, len, cap, m, n, V, D, Pl, hcs, _, hl, hm, hmm, _, hi⟩
  · simp at hcs
    exact ⟨none, [], 0, by simpa using hcs, Nat.le_refl _, Nat.zero_le _, fun j l hj => by simp at hj⟩
  · simp at hcs
    obtain ⟨ls, hls, hp⟩ := list_of (p := fun j (l : List UInt8) => ∃ ad B c, some a = some ad ∧ ad.block < W.heap.size ∧ W.cell? (ad.add j) = some (.slice B l.length c) ∧ l.length ≤ c ∧ c ≤ maxLen ∧ Bs W B l) len (fun i hlt => by
      have him : i < m := by rw [hmm]; split <;> omega
      obtain ⟨hc, ht'⟩ := hi i him
      obtain ⟨B, b, c, e1, h1, h2, h3⟩ := open_bytes he hu hcu ht'
      rw [e1] at hc
      have hlt' := cell_lt hc
      rw [addr_block] at hlt'
      exact ⟨b, a, B, c, rfl, hlt', hc, h1, h2, h3⟩)
    exact ⟨some a, ls, cap, by rw [hls]; exact hcs, by omega, hm, hp⟩
end Go.Proofs.YtpejfngkdkkfnaaDoor
