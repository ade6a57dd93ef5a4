/- An argument that is a row of calls, opened to its cells. -/
import Derived.Test.YtpejfngkdkkfnaaDoorOpen
import Derived.Test.YtpejfngkdkkfnaaDoorFoot
namespace Go.Proofs.YtpejfngkdkkfnaaDoor
open Go.ChangeShapes Go.WideShapes Go.ChangeAt Go.RowKit
theorem addr_fld (ad : Addr) (o k : Nat) (hk : 0 < k) : ad.add (o + k) = ⟨(ad.add o).block, (ad.add o).off + k, none⟩ := by
  rw [← addr_add]
  generalize ad.add o = b
  unfold Addr.add
  rw [if_neg (by omega)]
section
variable {H : Type} {enc : TypeId × Value → H} {P : Program} {W : World} {base : Nat} {sp : Nat → Bool} {held : Bool}
/-- the cells of a struct's elements, field by field -/
theorem row_fields {t e : TypeId} {fs : Array Field} {fuel : Nat} {v : Value} {x : DataW H × List MemPlace} (ht : P.underlying t = some (.slice e)) (he : P.underlying e = some (.struct fs)) (hC : P.cellsOf e = fs.size) (hpos : 0 < fs.size)
    (hone : ∀ (j : Nat) (f : Field), fs[j]? = some f → P.cellsOf f.type = 1 ∧ f.offset = j) (h : DataW.trod enc P W base sp held fuel t [v] = some x) :
    ∃ (A : Option Addr) (len cap : Nat), v = .slice A len cap ∧ len ≤ cap ∧ cap ≤ maxLen ∧ ∀ i, i < len → ∃ ad, A = some ad ∧ ad.block < W.heap.size ∧
      ∀ (j : Nat) (f : Field), fs[j]? = some f → ∃ (u : Value) (n : Nat) (y : DataW H × List MemPlace), W.cell? (ad.add (i * fs.size + j)) = some u ∧ DataW.trod enc P W base sp held n f.type [u] = some y := by
  rcases Go.Deep.open_slice ht h with ⟨hcs, _⟩ | ⟨a, len, cap, m, n, D, Pl, hcs, _, hl, hm, hmm, _, hi⟩
  · simp at hcs
    exact ⟨none, 0, 0, hcs, Nat.le_refl _, Nat.zero_le _, fun i hi => by omega⟩
  · simp at hcs
    refine ⟨some a, len, cap, hcs, hl, hm, fun i hlt => ?_⟩
    have him : i < m := by rw [hmm]; split <;> omega
    obtain ⟨cs', hc, ht'⟩ := hi i him
    rw [hC] at hc
    obtain ⟨_, hcl, hat⟩ := World.cells?_some hc
    have hcell : ∀ (j : Nat) (f : Field), fs[j]? = some f → ∃ u, W.cell? (a.add (i * fs.size + j)) = some u ∧ cs'[f.offset]? = some u := by
      intro j f hj
      obtain ⟨_, ho⟩ := hone j f hj
      have hjl : j < fs.size := (Array.getElem?_eq_some_iff.1 hj).1
      have h1 := hat j hjl
      have hv : cs'[j]? = some (cs'[j]'(by omega)) := List.getElem?_eq_getElem (by omega)
      rw [addr_add] at h1
      exact ⟨_, h1.trans hv, by rw [ho]; exact hv⟩
    refine ⟨a, rfl, ?_, fun j f hj => ?_⟩
    · obtain ⟨u, hu, _⟩ := hcell 0 fs[0] (Array.getElem?_eq_getElem hpos)
      have := cell_lt hu
      rwa [addr_block] at this
    · obtain ⟨u, hu, hcs'⟩ := hcell j f hj
      obtain ⟨k, y, hr⟩ := field_read he ht' hj (hone j f hj).1 hcs'
      exact ⟨u, k, y, hu, hr⟩
end
section
variable {H : Type} {enc : TypeId × Value → H} {P : Program} {W : World} {sp : Nat → Bool}
theorem read_u64 {t : TypeId} {n : Nat} {v : Value} {y : DataW H × List MemPlace} (ht : P.underlying t = some (.int .u64)) (h : DataW.trod enc P W 0 sp true n t [v] = some y) : ∃ z : Nat, v = .int .u64 (z : Int) ∧ z < 18446744073709551616 := by
  obtain ⟨z, e, _, hw⟩ := DataW.trod_int ht h
  simp at e
  have := bounds_u64 hw
  obtain ⟨m, rfl⟩ := Int.eq_ofNat_of_zero_le this.1
  exact ⟨m, e, by omega⟩
theorem read_bool {t : TypeId} {n : Nat} {v : Value} {y : DataW H × List MemPlace} (ht : P.underlying t = some .bool) (h : DataW.trod enc P W 0 sp true n t [v] = some y) : ∃ b : Bool, v = .bool b := by
  obtain ⟨b, e, _⟩ := DataW.trod_bool ht h
  simp at e
  exact ⟨b, e⟩
end
end Go.Proofs.YtpejfngkdkkfnaaDoor
