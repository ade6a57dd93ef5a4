/- Texts laid as one: Law, Open, OpenDo, OpenRows. -/
import Derived.Test.YtckihiiimomgfaaDoorGMem
import Derived.ProofKit
import Derived.OpenShut
import Derived.Carry
import Derived.Deep.DeepHandedRow
import Derived.Lib.LaidTab
import Derived.JoinedCond
import Derived.Deep.Slices
namespace Go.Proofs.YtckihiiimomgfaaDoor
open Go.ChangeShapes Go.WideShapes Go.ChangeAt Go.RowKit

section
variable {H : Type} {enc : TypeId × Value → H} {P : Program}
theorem cell_lt {w : World} {a : Addr} {v : Value} (h : w.cell? a = some v) : a.block < w.heap.size := by
  rcases Nat.lt_or_ge a.block w.heap.size with h1 | h1
  · exact h1
  · simp [World.cell?, Array.getElem?_eq_none h1] at h

theorem open_bytes {W : World} {t e : TypeId} {fuel : Nat} {v : Value} {x : DataW H × List MemPlace} {sp : Nat → Bool} (ht : P.underlying t = some (.slice e)) (he : P.underlying e = some (.int .u8)) (hc : P.cellsOf e = 1)
    (h : DataW.trod enc P W 0 sp true fuel t [v] = some x) :
    ∃ (A : Option Addr) (l : List UInt8) (c : Nat), v = .slice A l.length c ∧ l.length ≤ c ∧ c ≤ maxLen ∧ Bs W A l := by
  rcases open_ints ht he hc h with ⟨hcs, _⟩ | ⟨a, len, cap, zs, hcs, _, hl, hm, hz, _, hcell, hwf⟩
  · simp at hcs
    exact ⟨none, [], 0, by simpa using hcs, Nat.le_refl _, Nat.zero_le _, Bs.nil _ _⟩
  · simp at hcs
    have hzl : len ≤ zs.length := by split at hz <;> omega
    refine ⟨some a, (zs.take len).map (fun z => UInt8.ofNat z.toNat), cap, ?_, ?_, hm, ?_⟩
    · simp [hcs, hzl]
    · simp; omega
    · intro j c hj
      rw [List.getElem?_map] at hj
      cases hq : (zs.take len)[j]? with
      | none => rw [hq] at hj; cases hj
      | some z =>
        rw [hq] at hj
        simp at hj
        subst hj
        have hjl : j < len := by
          rcases Nat.lt_or_ge j len with h1 | h1
          · exact h1
          · rw [List.getElem?_eq_none (by simp; omega)] at hq; cases hq
        rw [List.getElem?_take_of_lt hjl] at hq
        have hce := hcell j (by omega)
        have hzd : zs.getD j 0 = z := by rw [List.getD_eq_getElem?_getD, hq]; rfl
        rw [hzd] at hce
        have hw := hwf z (List.mem_of_getElem? hq)
        have hb := bounds_u8 hw
        have hlt := cell_lt hce
        rw [addr_block] at hlt
        refine ⟨a, rfl, hlt, ?_⟩
        rw [hce, UInt8.toNat_ofNat']
        congr 2
        omega

theorem open_intsl {W : World} {t e : TypeId} {fuel : Nat} {v : Value} {x : DataW H × List MemPlace} {sp : Nat → Bool} (ht : P.underlying t = some (.slice e)) (he : P.underlying e = some (.int .i64)) (hc : P.cellsOf e = 1)
    (h : DataW.trod enc P W 0 sp true fuel t [v] = some x) :
    ∃ (A : Option Addr) (l : List Int) (c : Nat), v = .slice A l.length c ∧ l.length ≤ c ∧ c ≤ maxLen ∧ Ns W A l ∧ ∀ z ∈ l, -9223372036854775808 ≤ z ∧ z ≤ 9223372036854775807 := by
  rcases open_ints ht he hc h with ⟨hcs, _⟩ | ⟨a, len, cap, zs, hcs, _, hl, hm, hz, _, hcell, hwf⟩
  · simp at hcs
    exact ⟨none, [], 0, by simpa using hcs, Nat.le_refl _, Nat.zero_le _, fun j c hj => by simp at hj, fun z hz => by simp at hz⟩
  · simp at hcs
    have hzl : len ≤ zs.length := by split at hz <;> omega
    refine ⟨some a, zs.take len, cap, ?_, ?_, hm, ?_, fun z hz => ?_⟩
    · simp [hcs, hzl]
    · simp; omega
    · intro j z hj
      have hjl : j < len := by
        rcases Nat.lt_or_ge j len with h1 | h1
        · exact h1
        · rw [List.getElem?_eq_none (by simp; omega)] at hj; cases hj
      rw [List.getElem?_take_of_lt hjl] at hj
      have hce := hcell j (by omega)
      have hzd : zs.getD j 0 = z := by rw [List.getD_eq_getElem?_getD, hj]; rfl
      rw [hzd] at hce
      have hlt := cell_lt hce
      rw [addr_block] at hlt
      exact ⟨a, rfl, hlt, hce⟩
    · exact bounds_i64 (hwf z (List.mem_of_mem_take hz))

theorem trodAll_below {W W' : World} (hl : laidOutB P = true) (hb : Below W.heap.size W W') :
    ∀ (ts : List TypeId) (vs : List Value) (ds : List (DataW H)) (ps : List MemPlace), (∀ t ∈ ts, P.readableRec t = true ∧ t < P.types.size) → (∀ x ∈ ps, x.block < W.heap.size) →
      DataW.TrodAll enc P W 0 (fun _ => true) true ts vs ds ps → DataW.TrodAll enc P W' 0 (fun b => decide (b < W.heap.size)) true ts vs ds ps
  | [], [], [], ps, _, _, h => h
  | t :: ts, v :: vs, d :: ds, ps, hr, hlt, h => by
    obtain ⟨p, q, h1, h2, rfl⟩ := h
    exact ⟨p, q, Below.trod hl (hr t (by simp)).1 (hr t (by simp)).2 h1 hb (fun x hx => hlt x (by simp [hx])),
      trodAll_below hl hb ts vs ds q (fun u hu => hr u (by simp [hu])) (fun x hx => hlt x (by simp [hx])) h2, rfl⟩
  | [], _ :: _, _, _, _, _, h => by simp [DataW.TrodAll] at h
  | [], [], _ :: _, _, _, _, h => by simp [DataW.TrodAll] at h
  | _ :: _, [], _, _, _, _, h => by simp [DataW.TrodAll] at h
  | _ :: _, _ :: _, [], _, _, _, h => by simp [DataW.TrodAll] at h

/-- the last step of every law that returns true and has turned nothing that was there -/
theorem law_post {f : Func} {s : ChangeSpec} {bt : TypeId} {W W' : World} {args : Array Value} {ds gs : List (DataW H)} {before : List MemPlace}
    (hl : laidOutB P = true) (hread : ∀ t ∈ f.params.toList, P.readableRec t = true ∧ t < P.types.size) (hvars : s.vars = []) (hres : f.resultTypes = #[bt]) (hbool : P.underlying bt = some .bool)
    (hspec : s.fn H (ds ++ gs) = { results := [.lit (.bool true)], args := ds })
    (hW : DataW.Whole enc P f.params.toList s.vars false W args.toList ds gs before) (hb : Below W.heap.size W W') :
    s.post enc P f false true false false W args (.bool true) W' := by
  have hW' := hW
  obtain ⟨p, q, hA, hV, rfl, hfz, hnd⟩ := hW
  rw [hvars] at hV
  obtain ⟨rfl, rfl⟩ := trodVars_none hV
  refine ⟨ds, [], p ++ [], [], p, [], hW', ?_, ?_, ?_, hb.frame _, fun h => by cases h⟩
  · rw [hspec, hres]
    exact trodAll_mk1 (shut_bool hbool true)
  · rw [hspec]
    exact trodAll_below hl hb _ _ _ _ hread (fun x hx => hW'.lt x (by simpa using hx)) hA
  · rw [hspec, hvars]
    rfl
end
end Go.Proofs.YtckihiiimomgfaaDoor

namespace Go.Proofs.YtckihiiimomgfaaDoor
open Go.ChangeShapes Go.WideShapes Go.ChangeAt Go.RowKit
section
variable {H : Type} {enc : TypeId × Value → H} {P : Program} {W : World} {base : Nat} {sp : Nat → Bool} {held : Bool}
/-- a field of one cell, read by itself -/
theorem field_read {t : TypeId} {fs : Array Field} {fuel : Nat} {cs : List Value} {x : DataW H × List MemPlace} (hs : P.underlying t = some (.struct fs)) (h : DataW.trod enc P W base sp held fuel t cs = some x)
    {j : Nat} {f : Field} (hj : fs[j]? = some f) (hc : P.cellsOf f.type = 1) {v : Value} (hv : cs[f.offset]? = some v) : ∃ n y, DataW.trod enc P W base sp held n f.type [v] = some y := by
  obtain ⟨xs, n, _, _, hl, hxl, hf⟩ := DataW.trod_struct hs h
  have h1 := hf j f hj
  rw [hc] at h1
  have e : (cs.drop f.offset).take 1 = [v] := by
    obtain ⟨hlt, he⟩ := List.getElem?_eq_some_iff.1 hv
    rw [List.drop_eq_getElem_cons hlt, he]
    rfl
  rw [e] at h1
  have hjl : j < xs.length := by rw [hxl]; exact (Array.getElem?_eq_some_iff.1 hj).1
  exact ⟨n, xs[j], by rw [h1, List.getElem?_eq_getElem hjl]⟩
theorem read_int {t : TypeId} {n : Nat} {v : Value} {y : DataW H × List MemPlace} (ht : P.underlying t = some (.int .i64)) (h : DataW.trod enc P W base sp held n t [v] = some y) : ∃ z : Int, v = .int .i64 z ∧ -9223372036854775808 ≤ z ∧ z ≤ 9223372036854775807 := by
  obtain ⟨z, e, _, hw⟩ := DataW.trod_int ht h
  simp at e
  have := bounds_i64 hw
  exact ⟨z, e, this.1, this.2⟩
end
section
variable {H : Type} {enc : TypeId × Value → H} {P : Program} {W : World} {sp : Nat → Bool}
/-- a part's five cells -/
theorem part_cells {t si ss e : TypeId} {fs : Array Field} {fuel : Nat} {cs : List Value} {x : DataW H × List MemPlace} (hs : P.underlying t = some (.struct fs)) (hfs : fs.toList.map (fun f => (f.type, f.offset)) = [(si, 0), (si, 1), (si, 2), (si, 3), (ss, 4)])
    (hci : P.cellsOf si = 1) (hcs : P.cellsOf ss = 1) (hC : P.cellsOf t = 5) (hi : P.underlying si = some (.int .i64)) (hss : P.underlying ss = some (.slice e)) (he : P.underlying e = some (.int .u8)) (hce : P.cellsOf e = 1)
    (h : DataW.trod enc P W 0 sp true fuel t cs = some x) :
    ∃ (a b i t' : Int) (A : Option Addr) (l : List UInt8) (c : Nat), cs = [.int .i64 a, .int .i64 b, .int .i64 i, .int .i64 t', .slice A l.length c] ∧ l.length ≤ c ∧ c ≤ maxLen ∧ Bs W A l ∧
      (∀ z ∈ [a, b, i, t'], -9223372036854775808 ≤ z ∧ z ≤ 9223372036854775807) := by
  have hlen : cs.length = 5 := by obtain ⟨_, _, _, _, hl, _⟩ := DataW.trod_struct hs h; rw [hl, hC]
  have hfld : ∀ (j : Nat) (ty : TypeId) (of : Nat), ([(si, 0), (si, 1), (si, 2), (si, 3), (ss, 4)] : List (TypeId × Nat))[j]? = some (ty, of) → ∃ f, fs[j]? = some f ∧ f.type = ty ∧ f.offset = of := by
    intro j ty of hj
    rw [← hfs, List.getElem?_map] at hj
    cases hq : fs.toList[j]? with
    | none => rw [hq] at hj; cases hj
    | some f =>
      rw [hq] at hj
      simp at hj
      exact ⟨f, by simpa using hq, hj.1, hj.2⟩
  match cs, hlen with
  | [v0, v1, v2, v3, v4], _ =>
    obtain ⟨f0, g0, t0, o0⟩ := hfld 0 si 0 rfl
    obtain ⟨f1, g1, t1, o1⟩ := hfld 1 si 1 rfl
    obtain ⟨f2, g2, t2, o2⟩ := hfld 2 si 2 rfl
    obtain ⟨f3, g3, t3, o3⟩ := hfld 3 si 3 rfl
    obtain ⟨f4, g4, t4, o4⟩ := hfld 4 ss 4 rfl
    obtain ⟨n0, y0, r0⟩ := field_read hs h g0 (by rw [t0]; exact hci) (v := v0) (by rw [o0]; rfl)
    obtain ⟨n1, y1, r1⟩ := field_read hs h g1 (by rw [t1]; exact hci) (v := v1) (by rw [o1]; rfl)
    obtain ⟨n2, y2, r2⟩ := field_read hs h g2 (by rw [t2]; exact hci) (v := v2) (by rw [o2]; rfl)
    obtain ⟨n3, y3, r3⟩ := field_read hs h g3 (by rw [t3]; exact hci) (v := v3) (by rw [o3]; rfl)
    obtain ⟨n4, y4, r4⟩ := field_read hs h g4 (by rw [t4]; exact hcs) (v := v4) (by rw [o4]; rfl)
    rw [t0] at r0
    rw [t1] at r1
    rw [t2] at r2
    rw [t3] at r3
    rw [t4] at r4
    obtain ⟨a, rfl, a1, a2⟩ := read_int hi r0
    obtain ⟨b, rfl, b1, b2⟩ := read_int hi r1
    obtain ⟨i, rfl, i1, i2⟩ := read_int hi r2
    obtain ⟨t', rfl, u1, u2⟩ := read_int hi r3
    obtain ⟨A, l, c, rfl, hc, hm, hb⟩ := open_bytes hss he hce r4
    refine ⟨a, b, i, t', A, l, c, rfl, hc, hm, hb, ?_⟩
    intro z hz
    simp at hz
    rcases hz with rfl | rfl | rfl | rfl <;> omega
theorem open_part {r : Reach} {b0 : Nat} {t si ss e : TypeId} {fs : Array Field} {v : Value} {d : DataW H} {p : List MemPlace} (hs : P.underlying t = some (.struct fs)) (hfs : fs.toList.map (fun f => (f.type, f.offset)) = [(si, 0), (si, 1), (si, 2), (si, 3), (ss, 4)])
    (hci : P.cellsOf si = 1) (hcs : P.cellsOf ss = 1) (hC : P.cellsOf t = 5) (hi : P.underlying si = some (.int .i64)) (hss : P.underlying ss = some (.slice e)) (he : P.underlying e = some (.int .u8)) (hce : P.cellsOf e = 1)
    (hv : Value.okWide P W r b0 t v) (h : DataW.Trod enc P W 0 sp true t v d p) :
    ∃ (a b i t' : Int) (A : Option Addr) (l : List UInt8) (c : Nat), v = .agg #[.int .i64 a, .int .i64 b, .int .i64 i, .int .i64 t', .slice A l.length c] ∧ l.length ≤ c ∧ c ≤ maxLen ∧ Bs W A l ∧
      (∀ z ∈ [a, b, i, t'], -9223372036854775808 ≤ z ∧ z ≤ 9223372036854775807) := by
  obtain ⟨cs, rfl, hsz⟩ := okWide_struct hs hv
  obtain ⟨fuel, hf⟩ := h
  obtain ⟨a, b, i, t', A, l, c, e1, rest⟩ := part_cells hs hfs hci hcs hC hi hss he hce hf
  refine ⟨a, b, i, t', A, l, c, ?_, rest⟩
  congr 1
  apply Array.toList_inj.1
  simpa [Value.cells] using e1
end
end Go.Proofs.YtckihiiimomgfaaDoor

namespace Go.Proofs.YtckihiiimomgfaaDoor
open Go.ChangeShapes Go.WideShapes Go.ChangeAt Go.RowKit
theorem addr_fld (ad : Addr) (o k : Nat) (hk : 0 < k) : ad.add (o + k) = ⟨(ad.add o).block, (ad.add o).off + k, none⟩ := by
  rw [← addr_add]
  generalize ad.add o = b
  unfold Addr.add
  rw [if_neg (by omega)]
section
variable {H : Type} {enc : TypeId × Value → H} {P : Program} {W : World} {base : Nat} {sp : Nat → Bool} {held : Bool}
/-- the cells of a struct's elements, field by field -/
theorem row_fields {t e : TypeId} {fs : Array Field} {fuel : Nat} {v : Value} {x : DataW H × List MemPlace} (ht : P.underlying t = some (.slice e)) (he : P.underlying e = some (.struct fs)) (hC : P.cellsOf e = fs.size) (hpos : 0 < fs.size)
    (hone : ∀ (j : Nat) (f : Field), fs[j]? = some f → P.cellsOf f.type = 1 ∧ f.offset = j) (h : DataW.trod enc P W base sp held fuel t [v] = some x) :
    ∃ (A : Option Addr) (len cap : Nat), v = .slice A len cap ∧ len ≤ cap ∧ cap ≤ maxLen ∧ ∀ i, i < len → ∃ ad, A = some ad ∧ ad.block < W.heap.size ∧
      ∀ (j : Nat) (f : Field), fs[j]? = some f → ∃ (u : Value) (n : Nat) (y : DataW H × List MemPlace), W.cell? (ad.add (i * fs.size + j)) = some u ∧ DataW.trod enc P W base sp held n f.type [u] = some y := by
  rcases Go.Deep.open_slice ht h with ⟨hcs, _⟩ | ⟨a, len, cap, m, n, D, Pl, hcs, _, hl, hm, hmm, _, hi⟩
  · simp at hcs
    exact ⟨none, 0, 0, hcs, Nat.le_refl _, Nat.zero_le _, fun i hi => by omega⟩
  · simp at hcs
    refine ⟨some a, len, cap, hcs, hl, hm, fun i hlt => ?_⟩
    have him : i < m := by rw [hmm]; split <;> omega
    obtain ⟨cs', hc, ht'⟩ := hi i him
    rw [hC] at hc
    obtain ⟨_, hcl, hat⟩ := World.cells?_some hc
    have hcell : ∀ (j : Nat) (f : Field), fs[j]? = some f → ∃ u, W.cell? (a.add (i * fs.size + j)) = some u ∧ cs'[f.offset]? = some u := by
      intro j f hj
      obtain ⟨_, ho⟩ := hone j f hj
      have hjl : j < fs.size := (Array.getElem?_eq_some_iff.1 hj).1
      have h1 := hat j hjl
      have hv : cs'[j]? = some (cs'[j]'(by omega)) := List.getElem?_eq_getElem (by omega)
      rw [addr_add] at h1
      exact ⟨_, h1.trans hv, by rw [ho]; exact hv⟩
    refine ⟨a, rfl, ?_, fun j f hj => ?_⟩
    · obtain ⟨u, hu, _⟩ := hcell 0 fs[0] (Array.getElem?_eq_getElem hpos)
      have := cell_lt hu
      rwa [addr_block] at this
    · obtain ⟨u, hu, hcs'⟩ := hcell j f hj
      obtain ⟨k, y, hr⟩ := field_read he ht' hj (hone j f hj).1 hcs'
      exact ⟨u, k, y, hu, hr⟩
end
section
variable {H : Type} {enc : TypeId × Value → H} {P : Program} {W : World} {sp : Nat → Bool}
theorem read_u64 {t : TypeId} {n : Nat} {v : Value} {y : DataW H × List MemPlace} (ht : P.underlying t = some (.int .u64)) (h : DataW.trod enc P W 0 sp true n t [v] = some y) : ∃ z : Nat, v = .int .u64 (z : Int) ∧ z < 18446744073709551616 := by
  obtain ⟨z, e, _, hw⟩ := DataW.trod_int ht h
  simp at e
  have := bounds_u64 hw
  obtain ⟨m, rfl⟩ := Int.eq_ofNat_of_zero_le this.1
  exact ⟨m, e, by omega⟩
theorem read_bool {t : TypeId} {n : Nat} {v : Value} {y : DataW H × List MemPlace} (ht : P.underlying t = some .bool) (h : DataW.trod enc P W 0 sp true n t [v] = some y) : ∃ b : Bool, v = .bool b := by
  obtain ⟨b, e, _⟩ := DataW.trod_bool ht h
  simp at e
  exact ⟨b, e⟩
end
end Go.Proofs.YtckihiiimomgfaaDoor

namespace Go.Proofs.YtckihiiimomgfaaDoor
open Go.ChangeShapes Go.WideShapes Go.ChangeAt Go.RowKit
/-- the slice at A is the row of rows of bytes ls -/
def Rws (w : World) (A : Option Addr) (ls : List (List UInt8)) : Prop := ∀ (j : Nat) (l : List UInt8), ls[j]? = some l → ∃ ad B c, A = some ad ∧ ad.block < w.heap.size ∧ w.cell? (ad.add j) = some (.slice B l.length c) ∧ l.length ≤ c ∧ c ≤ maxLen ∧ Bs w B l
theorem Rws.below {w w' : World} {A : Option Addr} {ls : List (List UInt8)} (h : Rws w A ls) (hb : Below w.heap.size w w') : Rws w' A ls := fun j l hj => by
  obtain ⟨ad, B, c, e, hlt, hc, h1, h2, h3⟩ := h j l hj
  exact ⟨ad, B, c, e, Nat.lt_of_lt_of_le hlt hb.size, (hb.cell (by rw [addr_block]; exact hlt)).trans hc, h1, h2, h3.below hb⟩
theorem list_of {α : Type} {p : Nat → α → Prop} : ∀ (n : Nat), (∀ i, i < n → ∃ d, p i d) → ∃ ds : List α, ds.length = n ∧ ∀ j d, ds[j]? = some d → p j d
  | 0, _ => ⟨[], rfl, fun j d hj => by simp at hj⟩
  | n + 1, h => by
    obtain ⟨ds, hl, hd⟩ := list_of n (fun i hi => h i (by omega))
    obtain ⟨d, hp⟩ := h n (by omega)
    refine ⟨ds ++ [d], by simp [hl], fun j e hj => ?_⟩
    by_cases hjn : j < n
    · rw [List.getElem?_append_left (by omega)] at hj
      exact hd j e hj
    · have : j = n := by
        have := (List.getElem?_eq_some_iff.1 hj).1
        simp [hl] at this
        omega
      subst this
      rw [List.getElem?_append_right (by omega), hl] at hj
      simp at hj
      subst hj
      exact hp
theorem open_rows {H : Type} {enc : TypeId × Value → H} {P : Program} {W : World} {sp : Nat → Bool} {t e u : TypeId} {fuel : Nat} {v : Value} {x : DataW H × List MemPlace} (ht : P.underlying t = some (.slice e)) (hce : P.cellsOf e = 1) (he : P.underlying e = some (.slice u)) (hu : P.underlying u = some (.int .u8)) (hcu : P.cellsOf u = 1)
    (h : DataW.trod enc P W 0 sp true fuel t [v] = some x) : ∃ (A : Option Addr) (ls : List (List UInt8)) (c : Nat), v = .slice A ls.length c ∧ ls.length ≤ c ∧ c ≤ maxLen ∧ Rws W A ls := by
  rcases Go.Deep.open_slice1 ht hce h with ⟨hcs, _⟩ | ⟨a, len, cap, m, n, V, D, Pl, hcs, _, hl, hm, hmm, _, hi⟩
  · simp at hcs
    exact ⟨none, [], 0, by simpa using hcs, Nat.le_refl _, Nat.zero_le _, fun j l hj => by simp at hj⟩
  · simp at hcs
    obtain ⟨ls, hls, hp⟩ := list_of (p := fun j (l : List UInt8) => ∃ ad B c, some a = some ad ∧ ad.block < W.heap.size ∧ W.cell? (ad.add j) = some (.slice B l.length c) ∧ l.length ≤ c ∧ c ≤ maxLen ∧ Bs W B l) len (fun i hlt => by
      have him : i < m := by rw [hmm]; split <;> omega
      obtain ⟨hc, ht'⟩ := hi i him
      obtain ⟨B, b, c, e1, h1, h2, h3⟩ := open_bytes he hu hcu ht'
      rw [e1] at hc
      have hlt' := cell_lt hc
      rw [addr_block] at hlt'
      exact ⟨b, a, B, c, rfl, hlt', hc, h1, h2, h3⟩)
    exact ⟨some a, ls, cap, by rw [hls]; exact hcs, by omega, hm, hp⟩
end Go.Proofs.YtckihiiimomgfaaDoor
