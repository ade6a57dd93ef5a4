/- Words for memory, over any program: a slice that reads as a list of bytes, wherever it lies; kept over draws, new blocks, whatever leaves old memory alone. -/
import Derived.WalkKit
import Derived.WalkSpells
import Derived.WalkLawsBesides
import Derived.Maps.AppendAt
import Derived.Deep.AppendLies
import Derived.Deep.Draws
import Derived.Lib.Hide
namespace Go.Proofs.YtpejfngkdkkfnaaDoor
open Go.RowKit

/-- a byte as a value -/
abbrev bval (c : UInt8) : Value := .int .u8 (c.toNat : Int)
def bvs (l : List UInt8) : List Value := l.map fun c => .int .u8 (c.toNat : Int)
theorem bvs_length (l : List UInt8) : (bvs l).length = l.length := by simp [bvs]
theorem bvs_append (l m : List UInt8) : bvs (l ++ m) = bvs l ++ bvs m := by simp [bvs]
theorem bvs_one (l : List UInt8) : ∀ u ∈ bvs l, u.oneCell' = true := by
  intro u hu
  obtain ⟨c, _, rfl⟩ := List.mem_map.1 hu
  rfl
theorem bvs_get (l : List UInt8) (j : Nat) (c : UInt8) (h : l[j]? = some c) : (bvs l)[j]? = some (.int .u8 (c.toNat : Int)) := by simp [bvs, h]
theorem bvs_inv {l : List UInt8} {j : Nat} {u : Value} (h : (bvs l)[j]? = some u) : ∃ c, l[j]? = some c ∧ u = .int .u8 (c.toNat : Int) := by
  unfold bvs at h
  rw [List.getElem?_map] at h
  cases hc : l[j]? with
  | none => rw [hc] at h; cases h
  | some c => rw [hc] at h; simp at h; exact ⟨c, rfl, h.symm⟩

theorem addr_block (a : Addr) (n : Nat) : (a.add n).block = a.block := by unfold Addr.add; split <;> rfl
theorem addr_add (a : Addr) (i j : Nat) : (a.add i).add j = a.add (i + j) := by
  unfold Addr.add
  by_cases hi : i = 0 <;> by_cases hj : j = 0 <;> simp [hi, hj, Nat.add_assoc]

/-- the slice at A reads as the bytes l -/
def Bs (w : World) (A : Option Addr) (l : List UInt8) : Prop :=
  ∀ (j : Nat) (c : UInt8), l[j]? = some c → ∃ ad, A = some ad ∧ ad.block < w.heap.size ∧ w.cell? (ad.add j) = some (.int .u8 (c.toNat : Int))
section
variable {w w' : World} {A : Option Addr} {l : List UInt8}
theorem Bs.nil (w : World) (A : Option Addr) : Bs w A [] := fun j c h => by simp at h
theorem Bs.at_ (h : Bs w A l) {k : Nat} (hk : k < l.length) : ∃ ad, A = some ad ∧ ad.block < w.heap.size ∧ w.cell? (ad.add k) = some (.int .u8 (l[k].toNat : Int)) :=
  h k l[k] (List.getElem?_eq_getElem hk)
theorem Bs.keep (h : Bs w A l) (hs : w.heap.size ≤ w'.heap.size) (hk : ∀ p : Addr, p.block < w.heap.size → w'.cell? p = w.cell? p) : Bs w' A l := fun j c hj => by
  obtain ⟨ad, e, hb, hc⟩ := h j c hj
  exact ⟨ad, e, by omega, (hk _ (by rw [addr_block]; exact hb)).trans hc⟩
theorem Bs.below (h : Bs w A l) (hb : Below w.heap.size w w') : Bs w' A l := h.keep hb.size fun _ hp => hb.cell hp
theorem Bs.drewN (h : Bs w A l) (n : Nat) : Bs (w.drewN n) A l := h
theorem Bs.drew (h : Bs w A l) : Bs w.drew A l := h
theorem Bs.alloc (h : Bs w A l) (o : Obj) : Bs (w.alloc o) A l := h.below ((Below.refl _ _).alloc (Nat.le_refl _) o)
theorem Bs.take (h : Bs w A l) (n : Nat) : Bs w A (l.take n) := fun j c hj => by
  by_cases hn : j < n
  · rw [List.getElem?_take_of_lt hn] at hj; exact h j c hj
  · rw [List.getElem?_eq_none (by simp; omega)] at hj; cases hj
theorem Bs.drop (h : Bs w A l) {k cap : Nat} (hc : l.length ≤ cap) : Bs w (if cap = k then A else A.map (·.add k)) (l.drop k) := fun j c hj => by
  rw [List.getElem?_drop] at hj
  obtain ⟨ad, rfl, hb, hcell⟩ := h _ c hj
  have hlt : k + j < l.length := (List.getElem?_eq_some_iff.1 hj).1
  rw [if_neg (by omega)]
  exact ⟨ad.add k, rfl, by rw [addr_block]; exact hb, by rw [addr_add]; exact hcell⟩
theorem Bs.of_own {base : Nat} {e : TypeId} {n c : Nat} (h : w.ownsRow base e 1 (.slice A n c) n (bvs l)) : Bs w A l := fun j c hj => by
  have hlen : l.length = n := by have := h.1; rw [bvs_length] at this; omega
  have hlt : j < l.length := (List.getElem?_eq_some_iff.1 hj).1
  rcases h.2 with ⟨h0, h1⟩ | ⟨g, cap, cur, hv, _, hg, _⟩
  · omega
  · have hA : A = some ⟨g, 0, none⟩ := by injection hv
    subst hA
    exact ⟨_, rfl, (h.lt g rfl).2, h.cells (g := g) rfl j _ (bvs_get l j c hj)⟩
end

/-- the slice at A reads as the numbers zs -/
def Ns (w : World) (A : Option Addr) (zs : List Int) : Prop :=
  ∀ (j : Nat) (z : Int), zs[j]? = some z → ∃ ad, A = some ad ∧ ad.block < w.heap.size ∧ w.cell? (ad.add j) = some (.int .i64 z)
section
variable {w w' : World} {A : Option Addr} {zs : List Int}
theorem Ns.at_ (h : Ns w A zs) {k : Nat} (hk : k < zs.length) : ∃ ad, A = some ad ∧ ad.block < w.heap.size ∧ w.cell? (ad.add k) = some (.int .i64 zs[k]) :=
  h k zs[k] (List.getElem?_eq_getElem hk)
theorem Ns.below (h : Ns w A zs) (hb : Below w.heap.size w w') : Ns w' A zs := fun j c hj => by
  obtain ⟨ad, e, hlt, hc⟩ := h j c hj
  exact ⟨ad, e, Nat.lt_of_lt_of_le hlt hb.size, (hb.cell (by rw [addr_block]; exact hlt)).trans hc⟩
theorem Ns.drewN (h : Ns w A zs) (n : Nat) : Ns (w.drewN n) A zs := h
end
/-- bytes that were just laid in a block of their own -/
theorem Bs.lit (w : World) (l : List UInt8) (cs : Array Value) (t : TypeId) (fr : Nat × Nat) (h : cs = (bvs l).toArray) : Bs (w.alloc (.cells cs t fr)) (some ⟨w.heap.size, 0, none⟩) l := fun j c hj => by
  refine ⟨_, rfl, by simp, ?_⟩
  have e : (w.alloc (.cells cs t fr)).heap[w.heap.size]? = some (.cells cs t fr) := heap_alloc_new w _
  have e2 : (⟨w.heap.size, 0, none⟩ : Addr).add j = ⟨w.heap.size, j, none⟩ := by unfold Addr.add; split <;> simp_all
  rw [e2, cell_of_row _ _ _ _ _ _ e, h]
  simpa using bvs_get l j c hj
theorem below_drewN {B : Nat} {a w : World} (h : Below B a w) (n : Nat) : Below B a (w.drewN n) := ⟨h.os, h.tape, h.output, h.size, h.block⟩
theorem below_refl_drewN (B : Nat) (w : World) (n : Nat) : Below B w (w.drewN n) := below_drewN (Below.refl _ _) n
theorem below_then {w w1 w2 : World} (h1 : Below w.heap.size w w1) (h2 : Below w1.heap.size w1 w2) : Below w.heap.size w w2 := h1.trans (h2.mono h1.size)
theorem below_alloc (w : World) (o : Obj) : Below w.heap.size w (w.alloc o) := (Below.refl _ _).alloc (Nat.le_refl _) o
/-- new memory whose owner is known: the shape of a row's value -/
theorem own_shape {w : World} {base : Nat} {e : TypeId} {size : Nat} {v : Value} {n : Nat} {xs : List Value} (h : w.ownsRow base e size v n xs) : ∃ A c, v = .slice A n c ∧ n ≤ c := by
  rcases h.2 with ⟨rfl, rfl⟩ | ⟨g, cap, cur, rfl, _, _, hn, _⟩
  · exact ⟨none, 0, rfl, Nat.le_refl _⟩
  · exact ⟨_, cap, rfl, hn⟩

section
variable {P : Program} (w : World)
theorem run_append_nothing (base : Nat) (t ty e : TypeId) (i : TypeInfo) (size : Nat) (ht : P.underlying t = some (.slice e)) (hi : P.info? e = some i)
    (v : Value) (n : Nat) (xs : List Value) (hown : w.ownsRow base e size v n xs) (c : Nat) : (Builtin.append_ #[t, t] ty #[v, .slice none 0 c]).run P w = .ok v w := by
  rcases hown.2 with ⟨rfl, rfl⟩ | ⟨g, cap, cur, rfl, _, _, hnc, _⟩
  · simp [Builtin.append_, run_underlying ht, sizeOf, typeInfo, hi, Builtin.lenOf, Builtin.firstCells]
  · simp [Builtin.append_, run_underlying ht, sizeOf, typeInfo, hi, Builtin.lenOf, Builtin.firstCells, hnc, storeCells]
/-- bytes appended to a row of the call's own, from wherever -/
theorem run_append_bs (base : Nat) (t ty e : TypeId) (i : TypeInfo) (z : Value) (ht : P.underlying t = some (.slice e)) (hi : P.info? e = some i) (hz : i.zero = some z)
    (hsize : i.size = 1) (hby : i.bytes = 1) (hzs : z.cells.size = 1)
    (v : Value) (xs : List Value) (hown : w.ownsRow base e 1 v xs.length xs)
    (A : Option Addr) (c : Nat) (l : List UInt8) (hr : Bs w A l)
    (hbytes : xs.length + l.length ≤ 140737488355328) (hbase : base ≤ w.heap.size) :
    ∃ v' w', (Builtin.append_ #[t, t] ty #[v, .slice A l.length c]).run P w = .ok v' w' ∧ w'.ownsRow base e 1 v' (xs.length + l.length) (xs ++ bvs l) ∧ w.grownBy w' v.ownBlock ∧
      (v'.ownBlock = v.ownBlock ∨ v'.ownBlock = some w.heap.size) := by
  cases A with
  | none =>
    have hl : l = [] := by
      cases l with
      | nil => rfl
      | cons a l => obtain ⟨ad, h, _⟩ := hr 0 a rfl; cases h
    subst hl
    exact ⟨v, w, run_append_nothing w base t ty e i 1 ht hi v _ xs hown c, by simpa [bvs] using hown, ⟨rfl, rfl, rfl, Nat.le_refl _, fun _ _ _ => rfl⟩, .inl rfl⟩
  | some ad =>
    have hcells : ∀ j u, (bvs l)[j]? = some u → w.cell? (ad.add j) = some u := by
      intro j u hu
      obtain ⟨b, hb, rfl⟩ := bvs_inv hu
      obtain ⟨ad', h, _, hc⟩ := hr j b hb
      injection h with h
      subst h
      exact hc
    obtain ⟨v', w', hrun, h2, h3, _, h5⟩ := run_append_own_at (P := P) w base t ty e i z 1 1 ht hi hz hsize hby hzs (by decide) v _ xs hown ad l.length c (bvs l) (by rw [bvs_length]; omega) hcells (bvs_one l) (by unfold maxLen; omega) (by omega) hbase
    exact ⟨v', w', hrun, h2, h3, h5⟩
theorem wp_append_bs {o : Oper} {a : Act} {K : Act → World → Prop} {Q : Exit → Act → World → Prop} (s x : Operand) (t : TypeId)
    (ho : o.op = .call { callee := .builtin .append, args := #[s, x], argTypes := #[t, t] })
    (base : Nat) (e : TypeId) (i : TypeInfo) (z : Value) (ht : P.underlying t = some (.slice e)) (hi : P.info? e = some i) (hz : i.zero = some z)
    (hsize : i.size = 1) (hby : i.bytes = 1) (hzs : z.cells.size = 1)
    (v : Value) (xs : List Value) (hs : a.eval s = v) (hown : w.ownsRow base e 1 v xs.length xs)
    (A : Option Addr) (c n : Nat) (l : List UInt8) (hn : n = l.length) (hx : a.eval x = .slice A n c) (hr : Bs w A l)
    (hbytes : xs.length + l.length ≤ 140737488355328) (hbase : base ≤ w.heap.size)
    (h : ∀ v' w', w'.ownsRow base e 1 v' (xs.length + l.length) (xs ++ bvs l) → w.grownBy w' v.ownBlock → (v'.ownBlock = v.ownBlock ∨ v'.ownBlock = some w.heap.size) → K (a.put o.dst v') w') : o.wp P a w K Q := by
  subst hn
  obtain ⟨v', w', hrun, h2, h3, h4⟩ := run_append_bs (P := P) w base t o.type e i z ht hi hz hsize hby hzs v xs hown A c l hr hbytes hbase
  unfold Oper.wp execOp
  simp only [ho, resolve, invoke, builtin, Sem.run_bind, Sem.run_pure, Result.andThen_ok, List.map_toArray, List.map_cons, List.map_nil, hs, hx, hrun]
  exact h v' w' h2 h3 h4
theorem wpList_append_bs {ops : Array Oper} {rest : List Oper} {o : Oper} {a : Act} {Q : Exit → Act → World → Prop} (hgd : o.guard = none) (s x : Operand) (t : TypeId)
    (ho : o.op = .call { callee := .builtin .append, args := #[s, x], argTypes := #[t, t] })
    (base : Nat) (e : TypeId) (i : TypeInfo) (z : Value) (ht : P.underlying t = some (.slice e)) (hi : P.info? e = some i) (hz : i.zero = some z)
    (hsize : i.size = 1) (hby : i.bytes = 1) (hzs : z.cells.size = 1)
    (v : Value) (xs : List Value) (hs : a.eval s = v) (hown : w.ownsRow base e 1 v xs.length xs)
    (A : Option Addr) (c n : Nat) (l : List UInt8) (hn : n = l.length) (hx : a.eval x = .slice A n c) (hr : Bs w A l)
    (hbytes : xs.length + l.length ≤ 140737488355328) (hbase : base ≤ w.heap.size)
    (h : ∀ v' w', w'.ownsRow base e 1 v' (xs.length + l.length) (xs ++ bvs l) → w.grownBy w' v.ownBlock → (v'.ownBlock = v.ownBlock ∨ v'.ownBlock = some w.heap.size) → wpList P ops Q rest (a.put o.dst v') w') : wpList P ops Q (o :: rest) a w :=
  wpList_plain hgd fun _ hK => wp_append_bs w s x t ho base e i z ht hi hz hsize hby hzs v xs hs hown A c n l hn hx hr hbytes hbase fun v' w' h2 h3 h4 => hK _ _ (h v' w' h2 h3 h4)
end

end Go.Proofs.YtpejfngkdkkfnaaDoor
