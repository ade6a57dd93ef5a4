/- An argument that is a row of calls, opened to its cells. -/
import Derived.Test.YtmaemlmbhldmkaaOpen
import Derived.Test.YtmaemlmbhldmkaaFoot
namespace Go.Proofs.Ytmaemlmbhldmkaa
open Go.ChangeShapes Go.WideShapes Go.ChangeAt Go.RowKit
section
variable {H : Type} {enc : TypeId × Value → H} {P : Program} {W : World} {base : Nat} {sp : Nat → Bool} {held : Bool}
/-- the cells of a struct's elements, field by field -/
theorem row_fields {t e : TypeId} {fs : Array Field} {fuel : Nat} {v : Value} {x : DataW H × List MemPlace} (ht : P.underlying t = some (.slice e)) (he : P.underlying e = some (.struct fs)) (hC : P.cellsOf e = fs.size) (hpos : 0 < fs.size)
    (hone : ∀ (j : Nat) (f : Field), fs[j]? = some f → P.cellsOf f.type = 1 ∧ f.offset = j) (h : DataW.trod enc P W base sp held fuel t [v] = some x) :
    ∃ (A : Option Addr) (len cap : Nat), v = .slice A len cap ∧ len ≤ cap ∧ cap ≤ maxLen ∧ ∀ i, i < len → ∃ ad, A = some ad ∧ ad.block < W.heap.size ∧
      ∀ (j : Nat) (f : Field), fs[j]? = some f → ∃ (u : Value) (n : Nat) (y : DataW H × List MemPlace), W.cell? (ad.add (i * fs.size + j)) = some u ∧ DataW.trod enc P W base sp held n f.type [u] = some y := by
  rcases Go.Deep.open_slice ht h with ⟨hcs, _⟩ | ⟨a, len, cap, m, n, D, Pl, hcs, _, hl, hm, hmm, _, hi⟩
  · simp at hcs
    exact ⟨none, 0, 0, hcs, Nat.le_refl _, Nat.zero_le _, fun i hi => by omega⟩
  · simp at hcs
    refine ⟨some a, len, cap, hcs, hl, hm, fun i hlt => ?_⟩
    have him : i < m := by rw [hmm]; split <;> omega
    obtain ⟨cs', hc, ht'⟩ := hi i him
    rw [hC] at hc
    obtain ⟨_, hcl, hat⟩ := World.cells?_some hc
    have hcell : ∀ (j : Nat) (f : Field), fs[j]? = some f → ∃ u, W.cell? (a.add (i * fs.size + j)) = some u ∧ cs'[f.offset]? = some u := by
      intro j f hj
      obtain ⟨_, ho⟩ := hone j f hj
      have hjl : j < fs.size := (Array.getElem?_eq_some_iff.1 hj).1
      have h1 := hat j hjl
      have hv : cs'[j]? = some (cs'[j]'(by omega)) := List.getElem?_eq_getElem (by omega)
      rw [addr_add] at h1
      exact ⟨_, h1.trans hv, by rw [ho]; exact hv⟩
    refine ⟨a, rfl, ?_, fun j f hj => ?_⟩
    · obtain ⟨u, hu, _⟩ := hcell 0 fs[0] (Array.getElem?_eq_getElem hpos)
      have := cell_lt hu
      rwa [addr_block] at this
    · obtain ⟨u, hu, hcs'⟩ := hcell j f hj
      obtain ⟨k, y, hr⟩ := field_read he ht' hj (hone j f hj).1 hcs'
      exact ⟨u, k, y, hu, hr⟩
end
section
variable {H : Type} {enc : TypeId × Value → H} {P : Program} {W : World} {sp : Nat → Bool}
theorem read_u64 {t : TypeId} {n : Nat} {v : Value} {y : DataW H × List MemPlace} (ht : P.underlying t = some (.int .u64)) (h : DataW.trod enc P W 0 sp true n t [v] = some y) : ∃ z : Nat, v = .int .u64 (z : Int) ∧ z < 18446744073709551616 := by
  obtain ⟨z, e, _, hw⟩ := DataW.trod_int ht h
  simp at e
  have := bounds_u64 hw
  obtain ⟨m, rfl⟩ := Int.eq_ofNat_of_zero_le this.1
  exact ⟨m, e, by omega⟩
theorem read_bool {t : TypeId} {n : Nat} {v : Value} {y : DataW H × List MemPlace} (ht : P.underlying t = some .bool) (h : DataW.trod enc P W 0 sp true n t [v] = some y) : ∃ b : Bool, v = .bool b := by
  obtain ⟨b, e, _⟩ := DataW.trod_bool ht h
  simp at e
  exact ⟨b, e⟩
end
/-- a call of a row -/
structure WDo where
  kind : Int
  x : Nat
  b : List UInt8
  is : Bool
structure WDoAt (w : World) (ad : Addr) (o : Nat) (d : WDo) (B : Option Addr) (c : Nat) : Prop where
  c0 : w.cell? (ad.add o) = some (.int .i64 d.kind)
  c1 : w.cell? (ad.add (o + 1)) = some (.int .u64 (d.x : Int))
  c2 : w.cell? (ad.add (o + 2)) = some (.slice B d.b.length c)
  c3 : w.cell? (ad.add (o + 3)) = some (.bool d.is)
  hx : d.x < 18446744073709551616
  hc : d.b.length ≤ c
  hm : c ≤ maxLen
  bs : Bs w B d.b
/-- the slice at A is the row of calls ds -/
def WDos (w : World) (A : Option Addr) (ds : List WDo) : Prop := ∀ j d, ds[j]? = some d → ∃ ad B c, A = some ad ∧ ad.block < w.heap.size ∧ WDoAt w ad (j * 4) d B c
theorem WDos.below {w w' : World} {A : Option Addr} {ds : List WDo} (h : WDos w A ds) (hb : Below w.heap.size w w') : WDos w' A ds := fun j d hj => by
  obtain ⟨ad, B, c, e, hlt, hd⟩ := h j d hj
  exact ⟨ad, B, c, e, Nat.lt_of_lt_of_le hlt hb.size, ⟨(hb.cell (by rw [addr_block]; exact hlt)).trans hd.c0, (hb.cell (by rw [addr_block]; exact hlt)).trans hd.c1, (hb.cell (by rw [addr_block]; exact hlt)).trans hd.c2,
    (hb.cell (by rw [addr_block]; exact hlt)).trans hd.c3, hd.hx, hd.hc, hd.hm, hd.bs.below hb⟩⟩
theorem dos_list {α : Type} {p : Nat → α → Prop} : ∀ (n : Nat), (∀ i, i < n → ∃ d, p i d) → ∃ ds : List α, ds.length = n ∧ ∀ j d, ds[j]? = some d → p j d
  | 0, _ => ⟨[], rfl, fun j d hj => by simp at hj⟩
  | n + 1, h => by
    obtain ⟨ds, hl, hd⟩ := dos_list n (fun i hi => h i (by omega))
    obtain ⟨d, hp⟩ := h n (by omega)
    refine ⟨ds ++ [d], by simp [hl], fun j e hj => ?_⟩
    by_cases hjn : j < n
    · rw [List.getElem?_append_left (by omega)] at hj
      exact hd j e hj
    · have : j = n := by
        have := (List.getElem?_eq_some_iff.1 hj).1
        simp [hl] at this
        omega
      subst this
      rw [List.getElem?_append_right (by omega), hl] at hj
      simp at hj
      subst hj
      exact hp
theorem open_wdos {H : Type} {enc : TypeId × Value → H} {W : World} {sp : Nat → Bool} {fuel : Nat} {v : Value} {x : DataW H × List MemPlace} (h : DataW.trod enc Try.prog W 0 sp true fuel 22 [v] = some x) :
    ∃ (A : Option Addr) (ds : List WDo) (c : Nat), v = .slice A ds.length c ∧ ds.length ≤ c ∧ c ≤ maxLen ∧ WDos W A ds := by
  obtain ⟨A, len, cap, rfl, hl, hm, hf⟩ := row_fields Try.underlying22 Try.underlying30 (show Try.prog.cellsOf 30 = 4 by kernel_rfl) (by decide) (by
    intro j f hj
    match j, hj with
    | 0, hj => simp at hj; subst hj; exact ⟨by kernel_rfl, rfl⟩
    | 1, hj => simp at hj; subst hj; exact ⟨by kernel_rfl, rfl⟩
    | 2, hj => simp at hj; subst hj; exact ⟨by kernel_rfl, rfl⟩
    | 3, hj => simp at hj; subst hj; exact ⟨by kernel_rfl, rfl⟩
    | j + 4, hj => simp at hj) h
  obtain ⟨ds, hdl, hds⟩ := dos_list (p := fun i d => ∃ ad B c, A = some ad ∧ ad.block < W.heap.size ∧ WDoAt W ad (i * 4) d B c) len (fun i hi => by
    obtain ⟨ad, e, hlt, hfl⟩ := hf i hi
    obtain ⟨u0, n0, y0, k0, r0⟩ := hfl 0 _ rfl
    obtain ⟨u1, n1, y1, k1, r1⟩ := hfl 1 _ rfl
    obtain ⟨u2, n2, y2, k2, r2⟩ := hfl 2 _ rfl
    obtain ⟨u3, n3, y3, k3, r3⟩ := hfl 3 _ rfl
    obtain ⟨z, rfl, _⟩ := read_int Try.underlying3 r0
    obtain ⟨q, rfl, hq⟩ := read_u64 Try.underlying28 r1
    obtain ⟨B, b, c, rfl, hc, hm, hb⟩ := open_bytes Try.underlying25 Try.underlying5 (show Try.prog.cellsOf 5 = 1 by kernel_rfl) r2
    obtain ⟨f, rfl⟩ := read_bool Try.underlying4 r3
    exact ⟨⟨z, q, b, f⟩, ad, B, c, e, hlt, ⟨k0, k1, k2, k3, hq, hc, hm, hb⟩⟩)
  exact ⟨A, ds, cap, by rw [hdl], by omega, hm, hds⟩
end Go.Proofs.Ytmaemlmbhldmkaa
