/- An argument that is a row of calls of doorwardlaw07.Do, opened to its cells. -/
import Derived.Test.YtckihiiimomgfaaOpenDo
import Derived.Test.YtckihiiimomgfaaOpenRows
namespace Go.Proofs.Ytckihiiimomgfaa
open Go.ChangeShapes Go.WideShapes Go.ChangeAt Go.RowKit
/-- a call of a row -/
structure D7 where
  kind : Int
  i : Int
  n : Int
  b : List UInt8
  whole : Bool
  l : List Int
structure D7At (w : World) (ad : Addr) (o : Nat) (d : D7) (Ab : Option Addr) (cb : Nat) (Al : Option Addr) (cl : Nat) : Prop where
  c0 : w.cell? (ad.add (o)) = some (.int .i64 d.kind)
  c1 : w.cell? (ad.add (o + 1)) = some (.int .i64 d.i)
  c2 : w.cell? (ad.add (o + 2)) = some (.int .i64 d.n)
  c3 : w.cell? (ad.add (o + 3)) = some (.slice Ab d.b.length cb)
  c4 : w.cell? (ad.add (o + 4)) = some (.bool d.whole)
  c5 : w.cell? (ad.add (o + 5)) = some (.slice Al d.l.length cl)
  hkind : -9223372036854775808 ≤ d.kind ∧ d.kind ≤ 9223372036854775807
  hi : -9223372036854775808 ≤ d.i ∧ d.i ≤ 9223372036854775807
  hn : -9223372036854775808 ≤ d.n ∧ d.n ≤ 9223372036854775807
  hb : d.b.length ≤ cb ∧ cb ≤ maxLen ∧ Bs w Ab d.b
  hl : d.l.length ≤ cl ∧ cl ≤ maxLen ∧ Ns w Al d.l
/-- the slice at A is the row of calls ds -/
def D7s (w : World) (A : Option Addr) (ds : List D7) : Prop := ∀ j d, ds[j]? = some d → ∃ ad Ab cb Al cl, A = some ad ∧ ad.block < w.heap.size ∧ D7At w ad (j * 6) d Ab cb Al cl
theorem D7s.below {w w' : World} {A : Option Addr} {ds : List D7} (h : D7s w A ds) (hb : Below w.heap.size w w') : D7s w' A ds := fun j d hj => by
  obtain ⟨ad, Ab, cb, Al, cl, e, hlt, hd⟩ := h j d hj
  exact ⟨ad, Ab, cb, Al, cl, e, Nat.lt_of_lt_of_le hlt hb.size, ⟨(hb.cell (by rw [addr_block]; exact hlt)).trans hd.c0, (hb.cell (by rw [addr_block]; exact hlt)).trans hd.c1, (hb.cell (by rw [addr_block]; exact hlt)).trans hd.c2, (hb.cell (by rw [addr_block]; exact hlt)).trans hd.c3, (hb.cell (by rw [addr_block]; exact hlt)).trans hd.c4, (hb.cell (by rw [addr_block]; exact hlt)).trans hd.c5, hd.hkind, hd.hi, hd.hn, ⟨hd.hb.1, hd.hb.2.1, hd.hb.2.2.below hb⟩, ⟨hd.hl.1, hd.hl.2.1, hd.hl.2.2.below hb⟩⟩⟩
theorem D7s.at_ {W w : World} {A : Option Addr} {ds : List D7} (h : D7s W A ds) (hb : Below W.heap.size W w) {j : Nat} {d : D7} (hj : ds[j]? = some d) : ∃ ad Ab cb Al cl, A = some ad ∧ ad.block < W.heap.size ∧ D7At w ad (j * 6) d Ab cb Al cl ∧ Ns W Al d.l := by
  obtain ⟨ad, Ab, cb, Al, cl, e, hlt, hd⟩ := h j d hj
  exact ⟨ad, Ab, cb, Al, cl, e, hlt, ⟨(hb.cell (by rw [addr_block]; exact hlt)).trans hd.c0, (hb.cell (by rw [addr_block]; exact hlt)).trans hd.c1, (hb.cell (by rw [addr_block]; exact hlt)).trans hd.c2, (hb.cell (by rw [addr_block]; exact hlt)).trans hd.c3, (hb.cell (by rw [addr_block]; exact hlt)).trans hd.c4, (hb.cell (by rw [addr_block]; exact hlt)).trans hd.c5, hd.hkind, hd.hi, hd.hn, ⟨hd.hb.1, hd.hb.2.1, hd.hb.2.2.below hb⟩, ⟨hd.hl.1, hd.hl.2.1, hd.hl.2.2.below hb⟩⟩, hd.hl.2.2⟩
theorem open_D7s {H : Type} {enc : TypeId × Value → H} {W : World} {sp : Nat → Bool} {fuel : Nat} {v : Value} {x : DataW H × List MemPlace} (h : DataW.trod enc Try.prog W 0 sp true fuel 22 [v] = some x) :
    ∃ (A : Option Addr) (ds : List D7) (c : Nat), v = .slice A ds.length c ∧ ds.length ≤ c ∧ c ≤ maxLen ∧ D7s W A ds := by
  obtain ⟨A, len, cap, rfl, hl, hm, hf⟩ := row_fields Try.underlying22 Try.underlying48 (show Try.prog.cellsOf 48 = 6 by kernel_rfl) (by decide) (by
    intro j f hj
    match j, hj with
    | 0, hj => simp at hj; subst hj; exact ⟨by kernel_rfl, rfl⟩
    | 1, hj => simp at hj; subst hj; exact ⟨by kernel_rfl, rfl⟩
    | 2, hj => simp at hj; subst hj; exact ⟨by kernel_rfl, rfl⟩
    | 3, hj => simp at hj; subst hj; exact ⟨by kernel_rfl, rfl⟩
    | 4, hj => simp at hj; subst hj; exact ⟨by kernel_rfl, rfl⟩
    | 5, hj => simp at hj; subst hj; exact ⟨by kernel_rfl, rfl⟩
    | j + 6, hj => simp at hj) h
  obtain ⟨ds, hdl, hds⟩ := list_of (p := fun i d => ∃ ad Ab cb Al cl, A = some ad ∧ ad.block < W.heap.size ∧ D7At W ad (i * 6) d Ab cb Al cl) len (fun i hi => by
    obtain ⟨ad, e, hlt, hfl⟩ := hf i hi
    obtain ⟨u0, n0, y0, k0, r0⟩ := hfl 0 _ rfl
    obtain ⟨u1, n1, y1, k1, r1⟩ := hfl 1 _ rfl
    obtain ⟨u2, n2, y2, k2, r2⟩ := hfl 2 _ rfl
    obtain ⟨u3, n3, y3, k3, r3⟩ := hfl 3 _ rfl
    obtain ⟨u4, n4, y4, k4, r4⟩ := hfl 4 _ rfl
    obtain ⟨u5, n5, y5, k5, r5⟩ := hfl 5 _ rfl
    obtain ⟨z0, rfl, hz0⟩ := read_int Try.underlying3 r0
    obtain ⟨z1, rfl, hz1⟩ := read_int Try.underlying3 r1
    obtain ⟨z2, rfl, hz2⟩ := read_int Try.underlying3 r2
    obtain ⟨Ab, z3, cb, rfl, hc3, hm3, hb3⟩ := open_bytes Try.underlying23 Try.underlying5 (show Try.prog.cellsOf 5 = 1 by kernel_rfl) r3
    obtain ⟨z4, rfl⟩ := read_bool Try.underlying4 r4
    obtain ⟨Al, z5, cl, rfl, hc5, hm5, hb5, _⟩ := open_intsl Try.underlying35 Try.underlying3 (show Try.prog.cellsOf 3 = 1 by kernel_rfl) r5
    exact ⟨⟨z0, z1, z2, z3, z4, z5⟩, ad, Ab, cb, Al, cl, e, hlt, ⟨k0, k1, k2, k3, k4, k5, hz0, hz1, hz2, ⟨hc3, hm3, hb3⟩, ⟨hc5, hm5, hb5⟩⟩⟩)
  exact ⟨A, ds, cap, by rw [hdl], by omega, hm, hds⟩
end Go.Proofs.Ytckihiiimomgfaa
