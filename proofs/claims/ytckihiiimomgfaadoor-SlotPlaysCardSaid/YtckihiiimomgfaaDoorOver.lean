/- The bytes of a row of one's own, overwritten one by one. -/
import Derived.Test.YtckihiiimomgfaaDoorGMem
namespace Go.Proofs.YtckihiiimomgfaaDoor
open Go.RowKit
/-- the bytes of a row of the call's own are overwritten -/
structure Over (w wr : World) (A : Option Addr) (n : Nat) : Prop where
  kept : Kept (fun g => 0 < n ∧ ∃ ad, A = some ad ∧ g = ad.block) w wr
  size : wr.heap.size = w.heap.size
  cell : ∀ i, i < n → ∃ g z, A = some ⟨g, 0, none⟩ ∧ wr.cell? ⟨g, i, none⟩ = some (.int .u8 z) ∧ 0 ≤ z ∧ z ≤ 255 ∧ wr.frozen? ⟨g, i, none⟩ = false
theorem Over.start {w : World} {base n c : Nat} {A : Option Addr} {l : List UInt8} (h : Own8 w base (.slice A n c) l) : Over w w A n := by
  refine ⟨Kept.refl _ _, rfl, fun i hi => ?_⟩
  have hln : l.length = n := by
    rcases h.2 with ⟨e, h0⟩ | ⟨g, cap, cur, e, hb, hg, hn, hm, hs, ht⟩
    · injection e with _ e; omega
    · injection e with _ e; omega
  have hce : ∀ g, _ := fun g => World.ownsRow.cells (g := g) h
  have hv : (bvs l)[i]? = some (.int .u8 ((l[i]'(by omega)).toNat : Int)) := bvs_get l i _ (List.getElem?_eq_getElem (by omega))
  rcases h.2 with ⟨e, h0⟩ | ⟨g, cap, cur, e, hb, hg, hn, hm, hs, ht⟩
  · omega
  · injection e with e1 e2 e3
    subst e1
    have := hce g rfl i _ hv
    rw [Addr.add_lit, Nat.zero_add] at this
    have hlt := (l[i]'(by omega)).toNat_lt
    exact ⟨g, _, rfl, this, by omega, by omega, block_free hg⟩
theorem Over.set {w wr : World} {A : Option Addr} {n g i : Nat} (h : Over w wr A n) (hn : 0 < n) (hA : A = some ⟨g, 0, none⟩) (z : Int) (hz0 : 0 ≤ z) (hz1 : z ≤ 255) : Over w (wr.setCell ⟨g, i, none⟩ (.int .u8 z)) A n := by
  refine ⟨h.kept.setCell (p := ⟨g, i, none⟩) (.inl ⟨hn, _, hA, rfl⟩) _, by simpa using h.size, fun j hj => ?_⟩
  obtain ⟨g', x, e, hc, hx0, hx1, hf⟩ := h.cell j hj
  rw [hA] at e
  injection e with e
  injection e with e
  subst e
  have hb : ∃ cs T fr, wr.heap[g]? = some (.cells cs T fr) ∧ cs[j]? = some (.int .u8 x) := by
    simp only [World.cell?] at hc
    cases hq : wr.heap[g]? with
    | none => rw [hq] at hc; simp at hc
    | some o =>
      rw [hq] at hc
      cases o with
      | cells cs T fr => exact ⟨cs, T, fr, rfl, by simpa using hc⟩
      | _ => simp at hc
  obtain ⟨cs, T, fr, hb, hx⟩ := hb
  have hlt : j < cs.size := (Array.getElem?_eq_some_iff.1 hx).1
  have hfz : (wr.setCell ⟨g, i, none⟩ (.int .u8 z)).frozen? ⟨g, j, none⟩ = false := by
    rw [← hf]
    unfold World.frozen?
    simp only [World.setCell, Array.getElem?_modify]
    cases hq : wr.heap[g]? with
    | none => simp
    | some o => cases o <;> simp
  by_cases hij : i = j
  · subst hij
    refine ⟨g, z, hA, ?_, hz0, hz1, hfz⟩
    rw [cell_of_row _ _ _ _ _ _ (set_block hb i _)]
    simp [hlt]
  · refine ⟨g, x, hA, ?_, hx0, hx1, hfz⟩
    rw [cell_of_row _ _ _ _ _ _ (set_block hb i _), Array.getElem?_setIfInBounds, if_neg hij]
    exact hx
def OvRel (w : World) (A : Option Addr) (n : Nat) (i : Value) (wr : World) : Prop := ∃ k : Nat, k ≤ n ∧ i = .int .i64 (k : Nat) ∧ Over w wr A n
end Go.Proofs.YtckihiiimomgfaaDoor
