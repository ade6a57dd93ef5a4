/- A row of parts, its bytes owned, in blocks among G: kept, read, one appended. -/
import Derived.Test.YtckihiiimomgfaaDoorGRow
import Derived.Test.YtckihiiimomgfaaDoorGMath
namespace Go.Proofs.YtckihiiimomgfaaDoor
open Go.RowKit
abbrev partCells (p : StampMath.Part) (u : Value) : List Value := [.int .i64 p.epoch, .int .i64 p.seq, .int .i64 p.index, .int .i64 p.total, u]
/-- v is a row of the parts ps, of type T -/
def PRow (w : World) (T : TypeId) (G : Nat → Prop) (v : Value) (ps : List StampMath.Part) : Prop :=
  ∃ xs : List Value, w.ownsRow 0 T 5 v ps.length xs ∧ (∀ g, v.ownBlock = some g → G g) ∧ ∀ (j : Nat) (p : StampMath.Part), ps[j]? = some p → ∃ u, (xs.drop (j * 5)).take 5 = partCells p u ∧ Own8 w 0 u p.data ∧ ∀ g, u.ownBlock = some g → G g
theorem PRow.nil (w : World) (T : TypeId) (G : Nat → Prop) : PRow w T G (.slice none 0 0) [] := ⟨[], World.ownsRow_nil _ _ _ _, fun g hg => by simp [Value.ownBlock] at hg, fun j l hj => by simp at hj⟩
theorem PRow.kept {w w' : World} {T : TypeId} {G F : Nat → Prop} {v : Value} {ps : List StampMath.Part} (h : PRow w T G v ps) (hk : Kept F w w') (hd : ∀ k, G k → ¬ F k) : PRow w' T G v ps := by
  obtain ⟨xs, a, b, c⟩ := h
  refine ⟨xs, hk.own a (fun g hg => hd g (b g hg)), b, fun j x hj => ?_⟩
  obtain ⟨u, d, f, i⟩ := c j x hj
  exact ⟨u, d, f.keep hk (fun g hg => hd g (i g hg)), i⟩
theorem PRow.below {w w' : World} {T : TypeId} {G : Nat → Prop} {v : Value} {ps : List StampMath.Part} (h : PRow w T G v ps) (hb : Below w.heap.size w w') : PRow w' T G v ps := h.kept (Kept.of_below (F := fun _ => False) hb) (fun _ _ h => h)
theorem PRow.mono {w : World} {T : TypeId} {G H : Nat → Prop} {v : Value} {ps : List StampMath.Part} (h : PRow w T G v ps) (hs : ∀ k, G k → H k) : PRow w T H v ps := by
  obtain ⟨xs, a, b, c⟩ := h
  refine ⟨xs, a, fun g hg => hs g (b g hg), fun j x hj => ?_⟩
  obtain ⟨u, d, f, i⟩ := c j x hj
  exact ⟨u, d, f, fun g hg => hs g (i g hg)⟩
theorem PRow.lt {w : World} {T : TypeId} {G : Nat → Prop} {v : Value} {ps : List StampMath.Part} (h : PRow w T G v ps) : PRow w T (fun k => G k ∧ k < w.heap.size) v ps := by
  obtain ⟨xs, a, b, c⟩ := h
  refine ⟨xs, a, fun g hg => ⟨b g hg, (a.lt g hg).2⟩, fun j x hj => ?_⟩
  obtain ⟨u, d, f, i⟩ := c j x hj
  exact ⟨u, d, f, fun g hg => ⟨i g hg, (f.lt g hg).2⟩⟩
theorem PRow.shape {w : World} {T : TypeId} {G : Nat → Prop} {v : Value} {ps : List StampMath.Part} (h : PRow w T G v ps) : ∃ A c, v = .slice A ps.length c ∧ ps.length ≤ c := by
  obtain ⟨vs, h1, _⟩ := h
  exact own_shape h1
theorem PRow.at_ {w : World} {T : TypeId} {G : Nat → Prop} {v : Value} {ps : List StampMath.Part} (h : PRow w T G v ps) {j : Nat} {p : StampMath.Part} (hj : ps[j]? = some p) :
    ∃ g c u, v = .slice (some ⟨g, 0, none⟩) ps.length c ∧ ps.length ≤ c ∧ g < w.heap.size ∧ G g ∧ w.rangeAt g (j * 5) (partCells p u) ∧ Own8 w 0 u p.data ∧ ∀ k, u.ownBlock = some k → G k := by
  obtain ⟨xs, a, b, c⟩ := h
  have hlt : j < ps.length := (List.getElem?_eq_some_iff.1 hj).1
  obtain ⟨u, d, f, i⟩ := c j p hj
  have hce : ∀ g, _ := fun g => a.cells (g := g)
  rcases a.2 with ⟨_, h0⟩ | ⟨g, cap, cur, rfl, hb, hg, hn, _⟩
  · rw [h0] at hlt; exact absurd hlt (Nat.not_lt_zero _)
  · refine ⟨g, cap, u, rfl, hn, heap_lt hg, b g rfl, fun k y hk => ?_, f, i⟩
    have hk5 : k < 5 := (List.getElem?_eq_some_iff.1 hk).1
    rw [← d, List.getElem?_take_of_lt hk5, List.getElem?_drop] at hk
    have := hce g rfl _ y hk
    rwa [Addr.add_lit, Nat.zero_add] at this
/-- one part is appended -/
theorem wp_pushP {P : Program} {o : Oper} {a : Act} {K : Act → World → Prop} {Q : Exit → Act → World → Prop} {w0 w : World} {cs : Array Value} {T' : TypeId} (hw : w = w0.alloc (.cells cs T') ∨ w = (w0.alloc (.cells cs T')).drew) (s x : Operand) (t : TypeId)
    (ho : o.op = .call { callee := .builtin .append, args := #[s, x], argTypes := #[t, t] }) (T : TypeId) (i : TypeInfo) (z : Value) (ht : P.underlying t = some (.slice T)) (hi : P.info? T = some i) (hz : i.zero = some z) (hsize : i.size = 5) (hby : i.bytes = 56) (hzs : z.cells.size = 5) (hT : T ≠ 5)
    (G : Nat → Prop) (v u : Value) (ps : List StampMath.Part) (p : StampMath.Part) (hs : a.eval s = v) (hr : PRow w0 T G v ps)
    (hx : a.eval x = .slice (some ⟨w0.heap.size, 0, none⟩) 1 1) (hcs : cs = (partCells p u).toArray) (hu : Own8 w0 0 u p.data) (hG : ∀ g, u.ownBlock = some g → G g) (hlen : ps.length ≤ 1000000)
    (h : ∀ v' w', PRow w' T (fun k => G k ∨ w0.heap.size ≤ k) v' (ps ++ [p]) → Kept (fun k => v.ownBlock = some k) w0 w' → (∀ g, v'.ownBlock = some g → v.ownBlock = some g ∨ w0.heap.size ≤ g) → K (a.put o.dst v') w') :
    Oper.wp P o a w K Q := by
  obtain ⟨xs, h1, h2, h3⟩ := hr
  have hxl : xs.length = ps.length * 5 := h1.1
  refine wp_push_new hw s x _ ho 0 T i z 5 56 ht hi hz hsize hby hzs (by decide) v ps.length xs hs h1 (partCells p u) hx hcs rfl (fun y hy => by
    simp at hy
    rcases hy with rfl | rfl | rfl | rfl | rfl
    · rfl
    · rfl
    · rfl
    · rfl
    · exact own8_cell hu) (by unfold maxLen; omega) (by omega) (Nat.zero_le _) ?_
  intro v' w' ho' hk' hv'
  have hne : ∀ (y : Value) (m : List UInt8), Own8 w0 0 y m → Own8 w' 0 y m := fun y m hy => hy.keep hk' (fun g hg hf => by
    rcases h1.2 with ⟨e, _⟩ | ⟨g', cap, cur, e, _, hb, _⟩
    · rw [e] at hf; simp [Value.ownBlock] at hf
    · rw [e] at hf
      have : g' = g := by simpa [Value.ownBlock] using hf
      subst this
      exact own_ne hy hb (Ne.symm hT) hg)
  refine h v' w' ⟨xs ++ partCells p u, by rw [List.length_append]; exact ho', fun g hg => (hv' g hg).imp (fun e => h2 g e) id, fun j m hj => ?_⟩ hk' hv'
  by_cases hjl : j < ps.length
  · rw [List.getElem?_append_left hjl] at hj
    obtain ⟨y, h4, h5, h6⟩ := h3 j m hj
    refine ⟨y, ?_, hne y _ h5, fun g hg => .inl (h6 g hg)⟩
    rw [List.drop_append, List.take_append, h4, List.length_drop, show 5 - (xs.length - j * 5) = 0 by omega, List.take_zero, List.append_nil]
  · have : j = ps.length := by
      have := (List.getElem?_eq_some_iff.1 hj).1
      simp at this
      omega
    subst this
    rw [List.getElem?_append_right (Nat.le_refl _)] at hj
    simp at hj
    subst hj
    refine ⟨u, ?_, hne u _ hu, fun g hg => .inl (hG g hg)⟩
    rw [List.drop_append, List.drop_of_length_le (by omega), List.nil_append, show ps.length * 5 - xs.length = 0 by omega]
    rfl
theorem wpList_pushP {P : Program} {ops : Array Oper} {Q : Exit → Act → World → Prop} {rest : List Oper} {o : Oper} {a : Act} {w0 : World} {cs : Array Value} {T' : TypeId} (hgd : o.guard = none) (s x : Operand) (t : TypeId)
    (ho : o.op = .call { callee := .builtin .append, args := #[s, x], argTypes := #[t, t] }) (T : TypeId) (i : TypeInfo) (z : Value) (ht : P.underlying t = some (.slice T)) (hi : P.info? T = some i) (hz : i.zero = some z) (hsize : i.size = 5) (hby : i.bytes = 56) (hzs : z.cells.size = 5) (hT : T ≠ 5)
    (G : Nat → Prop) (v u : Value) (ps : List StampMath.Part) (p : StampMath.Part) (hs : a.eval s = v) (hr : PRow w0 T G v ps)
    (hx : a.eval x = .slice (some ⟨w0.heap.size, 0, none⟩) 1 1) (hcs : cs = (partCells p u).toArray) (hu : Own8 w0 0 u p.data) (hG : ∀ g, u.ownBlock = some g → G g) (hlen : ps.length ≤ 1000000)
    (h : ∀ v' w', PRow w' T (fun k => G k ∨ w0.heap.size ≤ k) v' (ps ++ [p]) → Kept (fun k => v.ownBlock = some k) w0 w' → (∀ g, v'.ownBlock = some g → v.ownBlock = some g ∨ w0.heap.size ≤ g) → wpList P ops Q rest (a.put o.dst v') w') :
    wpList P ops Q (o :: rest) a (w0.alloc (.cells cs T')) :=
  wpList_plain hgd fun _ hK => wp_pushP (.inl rfl) s x t ho T i z ht hi hz hsize hby hzs hT G v u ps p hs hr hx hcs hu hG hlen fun v' w' a b c => hK _ _ (h v' w' a b c)
/-- behind a draw -/
theorem wpList_pushPd {P : Program} {ops : Array Oper} {Q : Exit → Act → World → Prop} {rest : List Oper} {o : Oper} {a : Act} {w0 : World} {cs : Array Value} {T' : TypeId} (hgd : o.guard = none) (s x : Operand) (t : TypeId)
    (ho : o.op = .call { callee := .builtin .append, args := #[s, x], argTypes := #[t, t] }) (T : TypeId) (i : TypeInfo) (z : Value) (ht : P.underlying t = some (.slice T)) (hi : P.info? T = some i) (hz : i.zero = some z) (hsize : i.size = 5) (hby : i.bytes = 56) (hzs : z.cells.size = 5) (hT : T ≠ 5)
    (G : Nat → Prop) (v u : Value) (ps : List StampMath.Part) (p : StampMath.Part) (hs : a.eval s = v) (hr : PRow w0 T G v ps)
    (hx : a.eval x = .slice (some ⟨w0.heap.size, 0, none⟩) 1 1) (hcs : cs = (partCells p u).toArray) (hu : Own8 w0 0 u p.data) (hG : ∀ g, u.ownBlock = some g → G g) (hlen : ps.length ≤ 1000000)
    (h : ∀ v' w', PRow w' T (fun k => G k ∨ w0.heap.size ≤ k) v' (ps ++ [p]) → Kept (fun k => v.ownBlock = some k) w0 w' → (∀ g, v'.ownBlock = some g → v.ownBlock = some g ∨ w0.heap.size ≤ g) → wpList P ops Q rest (a.put o.dst v') w') :
    wpList P ops Q (o :: rest) a (w0.alloc (.cells cs T')).drew :=
  wpList_plain hgd fun _ hK => wp_pushP (.inr rfl) s x t ho T i z ht hi hz hsize hby hzs hT G v u ps p hs hr hx hcs hu hG hlen fun v' w' a b c => hK _ _ (h v' w' a b c)
end Go.Proofs.YtckihiiimomgfaaDoor
