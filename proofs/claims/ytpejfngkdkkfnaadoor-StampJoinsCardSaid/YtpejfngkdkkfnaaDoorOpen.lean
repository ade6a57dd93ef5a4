/- Arguments that are structs, and rows of structs, opened to their cells, over any program. -/
import Derived.Test.YtpejfngkdkkfnaaDoorLaw
import Derived.Deep.Slices
namespace Go.Proofs.YtpejfngkdkkfnaaDoor
open Go.ChangeShapes Go.WideShapes Go.ChangeAt Go.RowKit
section
variable {H : Type} {enc : TypeId × Value → H} {P : Program} {W : World} {base : Nat} {sp : Nat → Bool} {held : Bool}
/-- a field of one cell, read by itself -/
theorem field_read {t : TypeId} {fs : Array Field} {fuel : Nat} {cs : List Value} {x : DataW H × List MemPlace} (hs : P.underlying t = some (.struct fs)) (h : DataW.trod enc P W base sp held fuel t cs = some x)
    {j : Nat} {f : Field} (hj : fs[j]? = some f) (hc : P.cellsOf f.type = 1) {v : Value} (hv : cs[f.offset]? = some v) : ∃ n y, DataW.trod enc P W base sp held n f.type [v] = some y := by
  obtain ⟨xs, n, _, _, hl, hxl, hf⟩ := DataW.trod_struct hs h
  have h1 := hf j f hj
  rw [hc] at h1
  have e : (cs.drop f.offset).take 1 = [v] := by
    obtain ⟨hlt, he⟩ := List.getElem?_eq_some_iff.1 hv
    rw [List.drop_eq_getElem_cons hlt, he]
    rfl
  rw [e] at h1
  have hjl : j < xs.length := by rw [hxl]; exact (Array.getElem?_eq_some_iff.1 hj).1
  exact ⟨n, xs[j], by rw [h1, List.getElem?_eq_getElem hjl]⟩
theorem read_int {t : TypeId} {n : Nat} {v : Value} {y : DataW H × List MemPlace} (ht : P.underlying t = some (.int .i64)) (h : DataW.trod enc P W base sp held n t [v] = some y) : ∃ z : Int, v = .int .i64 z ∧ -9223372036854775808 ≤ z ∧ z ≤ 9223372036854775807 := by
  obtain ⟨z, e, _, hw⟩ := DataW.trod_int ht h
  simp at e
  have := bounds_i64 hw
  exact ⟨z, e, this.1, this.2⟩
end
section
variable {H : Type} {enc : TypeId × Value → H} {P : Program} {W : World} {sp : Nat → Bool}
/-- a part's five cells -/
theorem part_cells {t si ss e : TypeId} {fs : Array Field} {fuel : Nat} {cs : List Value} {x : DataW H × List MemPlace} (hs : P.underlying t = some (.struct fs)) (hfs : fs.toList.map (fun f => (f.type, f.offset)) = [(si, 0), (si, 1), (si, 2), (si, 3), (ss, 4)])
    (hci : P.cellsOf si = 1) (hcs : P.cellsOf ss = 1) (hC : P.cellsOf t = 5) (hi : P.underlying si = some (.int .i64)) (hss : P.underlying ss = some (.slice e)) (he : P.underlying e = some (.int .u8)) (hce : P.cellsOf e = 1)
    (h : DataW.trod enc P W 0 sp true fuel t cs = some x) :
    ∃ (a b i t' : Int) (A : Option Addr) (l : List UInt8) (c : Nat), cs = [.int .i64 a, .int .i64 b, .int .i64 i, .int .i64 t', .slice A l.length c] ∧ l.length ≤ c ∧ c ≤ maxLen ∧ Bs W A l ∧
      (∀ z ∈ [a, b, i, t'], -9223372036854775808 ≤ z ∧ z ≤ 9223372036854775807) := by
  have hlen : cs.length = 5 := by obtain ⟨_, _, _, _, hl, _⟩ := DataW.trod_struct hs h; rw [hl, hC]
  have hfld : ∀ (j : Nat) (ty : TypeId) (of : Nat), ([(si, 0), (si, 1), (si, 2), (si, 3), (ss, 4)] : List (TypeId × Nat))[j]? = some (ty, of) → ∃ f, fs[j]? = some f ∧ f.type = ty ∧ f.offset = of := by
    intro j ty of hj
    rw [← hfs, List.getElem?_map] at hj
    cases hq : fs.toList[j]? with
    | none => rw [hq] at hj; cases hj
    | some f =>
      rw [hq] at hj
      simp at hj
      exact ⟨f, by simpa using hq, hj.1, hj.2⟩
  match cs, hlen with
  | [v0, v1, v2, v3, v4], _ =>
    obtain ⟨f0, g0, t0, o0⟩ := hfld 0 si 0 rfl
    obtain ⟨f1, g1, t1, o1⟩ := hfld 1 si 1 rfl
    obtain ⟨f2, g2, t2, o2⟩ := hfld 2 si 2 rfl
    obtain ⟨f3, g3, t3, o3⟩ := hfld 3 si 3 rfl
    obtain ⟨f4, g4, t4, o4⟩ := hfld 4 ss 4 rfl
    obtain ⟨n0, y0, r0⟩ := field_read hs h g0 (by rw [t0]; exact hci) (v := v0) (by rw [o0]; rfl)
    obtain ⟨n1, y1, r1⟩ := field_read hs h g1 (by rw [t1]; exact hci) (v := v1) (by rw [o1]; rfl)
    obtain ⟨n2, y2, r2⟩ := field_read hs h g2 (by rw [t2]; exact hci) (v := v2) (by rw [o2]; rfl)
    obtain ⟨n3, y3, r3⟩ := field_read hs h g3 (by rw [t3]; exact hci) (v := v3) (by rw [o3]; rfl)
    obtain ⟨n4, y4, r4⟩ := field_read hs h g4 (by rw [t4]; exact hcs) (v := v4) (by rw [o4]; rfl)
    rw [t0] at r0
    rw [t1] at r1
    rw [t2] at r2
    rw [t3] at r3
    rw [t4] at r4
    obtain ⟨a, rfl, a1, a2⟩ := read_int hi r0
    obtain ⟨b, rfl, b1, b2⟩ := read_int hi r1
    obtain ⟨i, rfl, i1, i2⟩ := read_int hi r2
    obtain ⟨t', rfl, u1, u2⟩ := read_int hi r3
    obtain ⟨A, l, c, rfl, hc, hm, hb⟩ := open_bytes hss he hce r4
    refine ⟨a, b, i, t', A, l, c, rfl, hc, hm, hb, ?_⟩
    intro z hz
    simp at hz
    rcases hz with rfl | rfl | rfl | rfl <;> omega
theorem open_part {r : Reach} {b0 : Nat} {t si ss e : TypeId} {fs : Array Field} {v : Value} {d : DataW H} {p : List MemPlace} (hs : P.underlying t = some (.struct fs)) (hfs : fs.toList.map (fun f => (f.type, f.offset)) = [(si, 0), (si, 1), (si, 2), (si, 3), (ss, 4)])
    (hci : P.cellsOf si = 1) (hcs : P.cellsOf ss = 1) (hC : P.cellsOf t = 5) (hi : P.underlying si = some (.int .i64)) (hss : P.underlying ss = some (.slice e)) (he : P.underlying e = some (.int .u8)) (hce : P.cellsOf e = 1)
    (hv : Value.okWide P W r b0 t v) (h : DataW.Trod enc P W 0 sp true t v d p) :
    ∃ (a b i t' : Int) (A : Option Addr) (l : List UInt8) (c : Nat), v = .agg #[.int .i64 a, .int .i64 b, .int .i64 i, .int .i64 t', .slice A l.length c] ∧ l.length ≤ c ∧ c ≤ maxLen ∧ Bs W A l ∧
      (∀ z ∈ [a, b, i, t'], -9223372036854775808 ≤ z ∧ z ≤ 9223372036854775807) := by
  obtain ⟨cs, rfl, hsz⟩ := okWide_struct hs hv
  obtain ⟨fuel, hf⟩ := h
  obtain ⟨a, b, i, t', A, l, c, e1, rest⟩ := part_cells hs hfs hci hcs hC hi hss he hce hf
  refine ⟨a, b, i, t', A, l, c, ?_, rest⟩
  congr 1
  apply Array.toList_inj.1
  simpa [Value.cells] using e1
end
end Go.Proofs.YtpejfngkdkkfnaaDoor
