/- A block of bytes known whole, whatever its type: cells, stores, whole loads. -/
import Derived.Test.YtpejfngkdkkfnaaDoorFoot
import Derived.Deep.MidRow
namespace Go.Proofs.YtpejfngkdkkfnaaDoor
open Go.RowKit
/-- block g, of type T, holds the bytes l -/
def Row8 (w : World) (g : Nat) (T : TypeId) (l : List UInt8) : Prop := w.heap[g]? = some (.cells (bvs l).toArray T (0, 0))
theorem Row8.cell {w : World} {g : Nat} {T : TypeId} {l : List UInt8} (h : Row8 w g T l) (i : Nat) (c : UInt8) (hc : l[i]? = some c) : w.cell? ⟨g, i, none⟩ = some (.int .u8 (c.toNat : Int)) := by
  rw [block_cell h]
  simpa using bvs_get l i c hc
theorem Row8.free {w : World} {g : Nat} {T : TypeId} {l : List UInt8} (h : Row8 w g T l) (i : Nat) : w.frozen? ⟨g, i, none⟩ = false := block_free h
theorem Row8.lt {w : World} {g : Nat} {T : TypeId} {l : List UInt8} (h : Row8 w g T l) : g < w.heap.size := heap_lt h
theorem Row8.set {w : World} {g : Nat} {T : TypeId} {l : List UInt8} (h : Row8 w g T l) (i : Nat) (e : Int) (c : UInt8) (he : e = (c.toNat : Int)) : Row8 (w.setCell ⟨g, i, none⟩ (.int .u8 e)) g T (l.set i c) := by
  subst he
  have := set_block h i (.int .u8 (c.toNat : Int))
  have e : (bvs l).toArray.setIfInBounds i (.int .u8 (c.toNat : Int)) = (bvs (l.set i c)).toArray := by simp [bvs, List.map_set]
  rw [e] at this
  exact this
theorem Row8.far {w : World} {g g' : Nat} {T : TypeId} {l : List UInt8} (h : Row8 w g T l) (hne : g ≠ g') (k : Nat) (u : Value) : Row8 (w.setCell ⟨g', k, none⟩ u) g T l :=
  ((Kept.refl (fun x => x = g') w).setCell (p := ⟨g', k, none⟩) (.inl rfl) u).heap h hne
theorem Row8.keep {w w' : World} {g : Nat} {T : TypeId} {l : List UInt8} {F : Nat → Prop} (h : Row8 w g T l) (hk : Kept F w w') (hn : ¬ F g) : Row8 w' g T l := hk.heap h hn
theorem Row8.below {w w' : World} {g : Nat} {T : TypeId} {l : List UInt8} (h : Row8 w g T l) (hb : Below w.heap.size w w') : Row8 w' g T l := (hb.block g (heap_lt h)).trans h
theorem Row8.bs {w : World} {g : Nat} {T : TypeId} {l : List UInt8} (h : Row8 w g T l) : Bs w (some ⟨g, 0, none⟩) l := fun j c hj => by
  refine ⟨_, rfl, h.lt, ?_⟩
  rw [Addr.add_lit, Nat.zero_add]
  exact h.cell j c hj
theorem Row8.sub {w : World} {g : Nat} {T : TypeId} {l : List UInt8} (h : Row8 w g T l) (off n : Nat) : Bs w (some ⟨g, off, none⟩) ((l.drop off).take n) := fun j c hj => by
  refine ⟨_, rfl, h.lt, ?_⟩
  rw [Addr.add_lit]
  have hjn : j < n := by
    rcases Nat.lt_or_ge j n with h1 | h1
    · exact h1
    · rw [List.getElem?_eq_none (by simp; omega)] at hj; cases hj
  rw [List.getElem?_take_of_lt hjn, List.getElem?_drop] at hj
  exact h.cell _ c hj
theorem Row8.there {w : World} {g : Nat} {T : TypeId} {l : List UInt8} (h : Row8 w g T l) : w.there g 0 l.length := fun j hj => by
  rw [Nat.zero_add, h.cell j l[j] (List.getElem?_eq_getElem hj)]
  exact ⟨rfl, h.free _⟩
theorem Row8.own {w : World} {g : Nat} {l : List UInt8} (h : Row8 w g 5 l) (base n : Nat) (hb : base ≤ g) (hn : l.length = n) (hm : n ≤ maxLen) : w.ownsRow base 5 1 (.slice (some ⟨g, 0, none⟩) n n) n (bvs l) :=
  ⟨by rw [bvs_length]; omega, .inr ⟨g, n, _, rfl, hb, h, Nat.le_refl _, hm, by simp [bvs_length, hn], by
    rw [Nat.mul_one]
    exact List.take_of_length_le (by rw [bvs_length]; omega)⟩⟩
theorem setCells_shape (g : Nat) (T : TypeId) (fr : Nat × Nat) : ∀ (vs : List Value) (o : Nat) (w : World) (cs : Array Value), w.heap[g]? = some (.cells cs T fr) → ∃ cs', (w.setCells g o vs).heap[g]? = some (.cells cs' T fr) ∧ cs'.size = cs.size
  | [], _, _, cs, h => ⟨cs, h, rfl⟩
  | v :: r, o, w, cs, h => by
    obtain ⟨cs', h1, h2⟩ := setCells_shape g T fr r (o + 1) _ _ (set_block h o v)
    exact ⟨cs', h1, by simpa using h2⟩
theorem Row8.store {w : World} {g : Nat} {T : TypeId} {l m : List UInt8} (h : Row8 w g T l) (hlen : m.length = l.length) : Row8 (w.setCells g 0 (bvs m)) g T m := by
  obtain ⟨cs', h1, h2⟩ := setCells_shape g T (0, 0) (bvs m) 0 w _ h
  have ht : w.there g 0 (bvs m).length := by
    rw [bvs_length, hlen]; exact h.there
  have hrg := World.rangeAt_setCells_same w g 0 (bvs m) ht
  have e : cs' = (bvs m).toArray := by
    apply Array.ext
    · rw [h2]; simp [bvs_length, hlen]
    · intro j hj1 hj2
      have hj : j < (bvs m).length := by simpa using hj2
      have := hrg j _ (List.getElem?_eq_getElem hj)
      rw [Nat.zero_add, block_cell h1, Array.getElem?_eq_getElem hj1] at this
      injection this with this
  rw [e] at h1
  exact h1
theorem setCells_keeps (g : Nat) : ∀ (vs : List Value) (o : Nat) (a w : World) (F : Nat → Prop), Kept F a w → (F g ∨ a.heap.size ≤ g) → Kept F a (w.setCells g o vs)
  | [], _, _, _, _, h, _ => h
  | v :: r, o, a, _, F, h, hg => setCells_keeps g r (o + 1) a _ F (h.setCell (p := ⟨g, o, none⟩) hg v) hg
theorem setCells_sz (g : Nat) : ∀ (vs : List Value) (o : Nat) (w : World), (w.setCells g o vs).heap.size = w.heap.size
  | [], _, _ => rfl
  | v :: r, o, w => (setCells_sz g r (o + 1) (w.setCell ⟨g, o, none⟩ v)).trans (by simp)
theorem bvs_inj {l m : List UInt8} (h : bvs l = bvs m) : l = m := by
  induction l generalizing m with
  | nil => cases m with
    | nil => rfl
    | cons _ _ => simp [bvs] at h
  | cons a l ih => cases m with
    | nil => simp [bvs] at h
    | cons b m =>
      simp only [bvs, List.map_cons, List.cons.injEq] at h
      obtain ⟨h1, h2⟩ := h
      have e : a = b := by
        injection h1 with _ h1
        exact UInt8.toNat_inj.1 (by omega)
      rw [e, ih h2]
section
variable {P : Program}
/-- one cell is stored -/
theorem wpList_store_cell {ops : Array Oper} {rest : List Oper} {op : Oper} {a : Act} {w : World} {Q : Exit → Act → World → Prop} (hgd : op.guard = none) (ty : TypeId) (x y : Operand) (ho : op.op = .store ty x y)
    (g i : Nat) (v : Value) (hx : a.eval x = .pointer (some ⟨g, i, none⟩)) (hy : a.eval y = v) (h1 : v.oneCell' = true) (hc : (w.cell? ⟨g, i, none⟩).isSome = true) (hf : w.frozen? ⟨g, i, none⟩ = false)
    (hi : (P.info? ty).map (·.size) = some 1) (h : wpList P ops Q rest (a.put op.dst undef) (w.setCell ⟨g, i, none⟩ v)) : wpList P ops Q (op :: rest) a w := by
  have hrun : (storeVar ty ⟨g, i, none⟩ v).run P w = .ok () (w.setCell ⟨g, i, none⟩ v) := by
    have := run_storeCells_cells (P := P) g i [v] 0 w (fun j hj => by
      obtain rfl : j = 0 := by simp at hj; exact hj
      simpa using hc) (fun j hj => by
      obtain rfl : j = 0 := by simp at hj; exact hj
      simpa using hf) (fun u hu => by simp at hu; subst hu; exact h1)
    have hcv : v.cells = #[v] := by cases v <;> first | rfl | cases h1
    cases hq : P.info? ty with
    | none => simp [hq] at hi
    | some i0 =>
      have hs : i0.size = 1 := by simpa [hq] using hi
      simp only [Nat.add_zero] at this
      simp [storeVar, sizeOf, typeInfo, hq, hcv, hs, this]
      rfl
  refine wpList_plain hgd fun K hK => ?_
  unfold Oper.wp execOp
  simp only [ho, hx, hy, Instr.storeAt, Instr.sureAddr, Sem.run_bind, Sem.run_pure, Result.andThen_ok, hrun]
  exact hK _ _ h
end
theorem info_u8s : (Tryd.prog.info? 5).map (·.size) = some 1 := by kernel_rfl
/-- a byte is stored in a known block: a fresh name for the world behind it -/
theorem wpList_store_byte {ops : Array Oper} {rest : List Oper} {op : Oper} {a : Act} {w : World} {Q : Exit → Act → World → Prop} (hgd : op.guard = none) (x y : Operand) (ho : op.op = .store 5 x y)
    (g i : Nat) (T : TypeId) (l : List UInt8) (e : Int) (c : UInt8) (hx : a.eval x = .pointer (some ⟨g, i, none⟩)) (hy : a.eval y = .int .u8 e) (he : e = (c.toNat : Int)) (hr : Row8 w g T l) (hi : i < l.length)
    (h : ∀ w', Row8 w' g T (l.set i c) → Kept (fun k => k = g) w w' → w'.heap.size = w.heap.size → wpList Tryd.prog ops Q rest (a.put op.dst undef) w') : wpList Tryd.prog ops Q (op :: rest) a w := by
  refine wpList_store_cell hgd 5 x y ho g i _ hx hy rfl ?_ (hr.free i) info_u8s ?_
  · rw [hr.cell i _ (List.getElem?_eq_getElem hi)]; rfl
  · exact h _ (hr.set i e c he) ((Kept.refl (fun k => k = g) w).setCell (p := ⟨g, i, none⟩) (.inl rfl) _) (by simp)
end Go.Proofs.YtpejfngkdkkfnaaDoor
