/- An argument that is a row of calls of doorwardref08.Part, opened to its cells. -/
import Derived.Test.YtpejfngkdkkfnaaDoorOpenDo
import Derived.Test.YtpejfngkdkkfnaaDoorOpenRows
namespace Go.Proofs.YtpejfngkdkkfnaaDoor
open Go.ChangeShapes Go.WideShapes Go.ChangeAt Go.RowKit
/-- a call of a row -/
structure P8 where
  epoch : Int
  seq : Int
  index : Int
  total : Int
  data : List UInt8
structure P8At (w : World) (ad : Addr) (o : Nat) (d : P8) (Adata : Option Addr) (cdata : Nat) : Prop where
  c0 : w.cell? (ad.add (o)) = some (.int .i64 d.epoch)
  c1 : w.cell? (ad.add (o + 1)) = some (.int .i64 d.seq)
  c2 : w.cell? (ad.add (o + 2)) = some (.int .i64 d.index)
  c3 : w.cell? (ad.add (o + 3)) = some (.int .i64 d.total)
  c4 : w.cell? (ad.add (o + 4)) = some (.slice Adata d.data.length cdata)
  hepoch : -9223372036854775808 ≤ d.epoch ∧ d.epoch ≤ 9223372036854775807
  hseq : -9223372036854775808 ≤ d.seq ∧ d.seq ≤ 9223372036854775807
  hindex : -9223372036854775808 ≤ d.index ∧ d.index ≤ 9223372036854775807
  htotal : -9223372036854775808 ≤ d.total ∧ d.total ≤ 9223372036854775807
  hdata : d.data.length ≤ cdata ∧ cdata ≤ maxLen ∧ Bs w Adata d.data
/-- the slice at A is the row of calls ds -/
def P8s (w : World) (A : Option Addr) (ds : List P8) : Prop := ∀ j d, ds[j]? = some d → ∃ ad Adata cdata, A = some ad ∧ ad.block < w.heap.size ∧ P8At w ad (j * 5) d Adata cdata
theorem P8s.below {w w' : World} {A : Option Addr} {ds : List P8} (h : P8s w A ds) (hb : Below w.heap.size w w') : P8s w' A ds := fun j d hj => by
  obtain ⟨ad, Adata, cdata, e, hlt, hd⟩ := h j d hj
  exact ⟨ad, Adata, cdata, e, Nat.lt_of_lt_of_le hlt hb.size, ⟨(hb.cell (by rw [addr_block]; exact hlt)).trans hd.c0, (hb.cell (by rw [addr_block]; exact hlt)).trans hd.c1, (hb.cell (by rw [addr_block]; exact hlt)).trans hd.c2, (hb.cell (by rw [addr_block]; exact hlt)).trans hd.c3, (hb.cell (by rw [addr_block]; exact hlt)).trans hd.c4, hd.hepoch, hd.hseq, hd.hindex, hd.htotal, ⟨hd.hdata.1, hd.hdata.2.1, hd.hdata.2.2.below hb⟩⟩⟩
theorem P8s.at_ {W w : World} {A : Option Addr} {ds : List P8} (h : P8s W A ds) (hb : Below W.heap.size W w) {j : Nat} {d : P8} (hj : ds[j]? = some d) : ∃ ad Adata cdata, A = some ad ∧ ad.block < W.heap.size ∧ P8At w ad (j * 5) d Adata cdata := by
  obtain ⟨ad, Adata, cdata, e, hlt, hd⟩ := h j d hj
  exact ⟨ad, Adata, cdata, e, hlt, ⟨(hb.cell (by rw [addr_block]; exact hlt)).trans hd.c0, (hb.cell (by rw [addr_block]; exact hlt)).trans hd.c1, (hb.cell (by rw [addr_block]; exact hlt)).trans hd.c2, (hb.cell (by rw [addr_block]; exact hlt)).trans hd.c3, (hb.cell (by rw [addr_block]; exact hlt)).trans hd.c4, hd.hepoch, hd.hseq, hd.hindex, hd.htotal, ⟨hd.hdata.1, hd.hdata.2.1, hd.hdata.2.2.below hb⟩⟩⟩
theorem open_P8s {H : Type} {enc : TypeId × Value → H} {W : World} {sp : Nat → Bool} {fuel : Nat} {v : Value} {x : DataW H × List MemPlace} (h : DataW.trod enc Tryd.prog W 0 sp true fuel 55 [v] = some x) :
    ∃ (A : Option Addr) (ds : List P8) (c : Nat), v = .slice A ds.length c ∧ ds.length ≤ c ∧ c ≤ maxLen ∧ P8s W A ds := by
  obtain ⟨A, len, cap, rfl, hl, hm, hf⟩ := row_fields Tryd.underlying55 Tryd.underlying37 (show Tryd.prog.cellsOf 37 = 5 by kernel_rfl) (by decide) (by
    intro j f hj
    match j, hj with
    | 0, hj => simp at hj; subst hj; exact ⟨by kernel_rfl, rfl⟩
    | 1, hj => simp at hj; subst hj; exact ⟨by kernel_rfl, rfl⟩
    | 2, hj => simp at hj; subst hj; exact ⟨by kernel_rfl, rfl⟩
    | 3, hj => simp at hj; subst hj; exact ⟨by kernel_rfl, rfl⟩
    | 4, hj => simp at hj; subst hj; exact ⟨by kernel_rfl, rfl⟩
    | j + 5, hj => simp at hj) h
  obtain ⟨ds, hdl, hds⟩ := list_of (p := fun i d => ∃ ad Adata cdata, A = some ad ∧ ad.block < W.heap.size ∧ P8At W ad (i * 5) d Adata cdata) len (fun i hi => by
    obtain ⟨ad, e, hlt, hfl⟩ := hf i hi
    obtain ⟨u0, n0, y0, k0, r0⟩ := hfl 0 _ rfl
    obtain ⟨u1, n1, y1, k1, r1⟩ := hfl 1 _ rfl
    obtain ⟨u2, n2, y2, k2, r2⟩ := hfl 2 _ rfl
    obtain ⟨u3, n3, y3, k3, r3⟩ := hfl 3 _ rfl
    obtain ⟨u4, n4, y4, k4, r4⟩ := hfl 4 _ rfl
    obtain ⟨z0, rfl, hz0⟩ := read_int Tryd.underlying3 r0
    obtain ⟨z1, rfl, hz1⟩ := read_int Tryd.underlying3 r1
    obtain ⟨z2, rfl, hz2⟩ := read_int Tryd.underlying3 r2
    obtain ⟨z3, rfl, hz3⟩ := read_int Tryd.underlying3 r3
    obtain ⟨Adata, z4, cdata, rfl, hc4, hm4, hb4⟩ := open_bytes Tryd.underlying23 Tryd.underlying5 (show Tryd.prog.cellsOf 5 = 1 by kernel_rfl) r4
    exact ⟨⟨z0, z1, z2, z3, z4⟩, ad, Adata, cdata, e, hlt, ⟨k0, k1, k2, k3, k4, hz0, hz1, hz2, hz3, ⟨hc4, hm4, hb4⟩⟩⟩)
  exact ⟨A, ds, cap, by rw [hdl], by omega, hm, hds⟩
end Go.Proofs.YtpejfngkdkkfnaaDoor
