/- An argument that is a row of calls of doorwardlaw10.Do, opened to its cells. -/
import Derived.Test.YtckihiiimomgfaaDoorGOpen
namespace Go.Proofs.YtckihiiimomgfaaDoor
open Go.ChangeShapes Go.WideShapes Go.ChangeAt Go.RowKit
/-- a call of a row -/
structure D10 where
  kind : Int
  n : Int
  b : List UInt8
  l : List Int
structure D10At (w : World) (ad : Addr) (o : Nat) (d : D10) (Ab : Option Addr) (cb : Nat) (Al : Option Addr) (cl : Nat) : Prop where
  c0 : w.cell? (ad.add (o)) = some (.int .i64 d.kind)
  c1 : w.cell? (ad.add (o + 1)) = some (.int .i64 d.n)
  c2 : w.cell? (ad.add (o + 2)) = some (.slice Ab d.b.length cb)
  c3 : w.cell? (ad.add (o + 3)) = some (.slice Al d.l.length cl)
  hkind : -9223372036854775808 ≤ d.kind ∧ d.kind ≤ 9223372036854775807
  hn : -9223372036854775808 ≤ d.n ∧ d.n ≤ 9223372036854775807
  hb : d.b.length ≤ cb ∧ cb ≤ maxLen ∧ Bs w Ab d.b
  hl : d.l.length ≤ cl ∧ cl ≤ maxLen ∧ Ns w Al d.l
/-- the slice at A is the row of calls ds -/
def D10s (w : World) (A : Option Addr) (ds : List D10) : Prop := ∀ j d, ds[j]? = some d → ∃ ad Ab cb Al cl, A = some ad ∧ ad.block < w.heap.size ∧ D10At w ad (j * 4) d Ab cb Al cl
theorem D10s.below {w w' : World} {A : Option Addr} {ds : List D10} (h : D10s w A ds) (hb : Below w.heap.size w w') : D10s w' A ds := fun j d hj => by
  obtain ⟨ad, Ab, cb, Al, cl, e, hlt, hd⟩ := h j d hj
  exact ⟨ad, Ab, cb, Al, cl, e, Nat.lt_of_lt_of_le hlt hb.size, ⟨(hb.cell (by rw [addr_block]; exact hlt)).trans hd.c0, (hb.cell (by rw [addr_block]; exact hlt)).trans hd.c1, (hb.cell (by rw [addr_block]; exact hlt)).trans hd.c2, (hb.cell (by rw [addr_block]; exact hlt)).trans hd.c3, hd.hkind, hd.hn, ⟨hd.hb.1, hd.hb.2.1, hd.hb.2.2.below hb⟩, ⟨hd.hl.1, hd.hl.2.1, hd.hl.2.2.below hb⟩⟩⟩
theorem D10s.at_ {W w : World} {A : Option Addr} {ds : List D10} (h : D10s W A ds) (hb : Below W.heap.size W w) {j : Nat} {d : D10} (hj : ds[j]? = some d) : ∃ ad Ab cb Al cl, A = some ad ∧ ad.block < W.heap.size ∧ D10At w ad (j * 4) d Ab cb Al cl ∧ Ns W Al d.l := by
  obtain ⟨ad, Ab, cb, Al, cl, e, hlt, hd⟩ := h j d hj
  exact ⟨ad, Ab, cb, Al, cl, e, hlt, ⟨(hb.cell (by rw [addr_block]; exact hlt)).trans hd.c0, (hb.cell (by rw [addr_block]; exact hlt)).trans hd.c1, (hb.cell (by rw [addr_block]; exact hlt)).trans hd.c2, (hb.cell (by rw [addr_block]; exact hlt)).trans hd.c3, hd.hkind, hd.hn, ⟨hd.hb.1, hd.hb.2.1, hd.hb.2.2.below hb⟩, ⟨hd.hl.1, hd.hl.2.1, hd.hl.2.2.below hb⟩⟩, hd.hl.2.2⟩
theorem open_D10s {H : Type} {enc : TypeId × Value → H} {W : World} {sp : Nat → Bool} {fuel : Nat} {v : Value} {x : DataW H × List MemPlace} (h : DataW.trod enc Tryd.prog W 0 sp true fuel 22 [v] = some x) :
    ∃ (A : Option Addr) (ds : List D10) (c : Nat), v = .slice A ds.length c ∧ ds.length ≤ c ∧ c ≤ maxLen ∧ D10s W A ds := by
  obtain ⟨A, len, cap, rfl, hl, hm, hf⟩ := row_fields Tryd.underlying22 Tryd.underlying34 (show Tryd.prog.cellsOf 34 = 4 by kernel_rfl) (by decide) (by
    intro j f hj
    match j, hj with
    | 0, hj => simp at hj; subst hj; exact ⟨by kernel_rfl, rfl⟩
    | 1, hj => simp at hj; subst hj; exact ⟨by kernel_rfl, rfl⟩
    | 2, hj => simp at hj; subst hj; exact ⟨by kernel_rfl, rfl⟩
    | 3, hj => simp at hj; subst hj; exact ⟨by kernel_rfl, rfl⟩
    | j + 4, hj => simp at hj) h
  obtain ⟨ds, hdl, hds⟩ := list_of (p := fun i d => ∃ ad Ab cb Al cl, A = some ad ∧ ad.block < W.heap.size ∧ D10At W ad (i * 4) d Ab cb Al cl) len (fun i hi => by
    obtain ⟨ad, e, hlt, hfl⟩ := hf i hi
    obtain ⟨u0, n0, y0, k0, r0⟩ := hfl 0 _ rfl
    obtain ⟨u1, n1, y1, k1, r1⟩ := hfl 1 _ rfl
    obtain ⟨u2, n2, y2, k2, r2⟩ := hfl 2 _ rfl
    obtain ⟨u3, n3, y3, k3, r3⟩ := hfl 3 _ rfl
    obtain ⟨z0, rfl, hz0⟩ := read_int Tryd.underlying3 r0
    obtain ⟨z1, rfl, hz1⟩ := read_int Tryd.underlying3 r1
    obtain ⟨Ab, z2, cb, rfl, hc2, hm2, hb2⟩ := open_bytes Tryd.underlying29 Tryd.underlying5 (show Tryd.prog.cellsOf 5 = 1 by kernel_rfl) r2
    obtain ⟨Al, z3, cl, rfl, hc3, hm3, hb3, _⟩ := open_intsl Tryd.underlying32 Tryd.underlying3 (show Tryd.prog.cellsOf 3 = 1 by kernel_rfl) r3
    exact ⟨⟨z0, z1, z2, z3⟩, ad, Ab, cb, Al, cl, e, hlt, ⟨k0, k1, k2, k3, hz0, hz1, ⟨hc2, hm2, hb2⟩, ⟨hc3, hm3, hb3⟩⟩⟩)
  exact ⟨A, ds, cap, by rw [hdl], by omega, hm, hds⟩
end Go.Proofs.YtckihiiimomgfaaDoor
