/- A row of rows of bytes, all owned, in blocks among G: kept, read, one appended. -/
import Derived.Test.YtckihiiimomgfaaPush
import Derived.Test.YtckihiiimomgfaaTakeS
namespace Go.Proofs.Ytckihiiimomgfaa
open Go.RowKit
theorem info_bytes : (Try.prog.info? 23).map (fun i => (i.zero, i.size, i.bytes)) = some (some (.slice none 0 0), 1, 24) := by kernel_rfl
/-- v is a row of the rows of bytes ls -/
def Rows8 (w : World) (G : Nat → Prop) (v : Value) (ls : List (List UInt8)) : Prop :=
  ∃ vs : List Value, w.ownsRow 0 23 1 v ls.length vs ∧ (∀ g, v.ownBlock = some g → G g) ∧ ∀ (j : Nat) (l : List UInt8), ls[j]? = some l → ∃ u, vs[j]? = some u ∧ Own8 w 0 u l ∧ ∀ g, u.ownBlock = some g → G g
theorem Rows8.nil (w : World) (G : Nat → Prop) : Rows8 w G (.slice none 0 0) [] := ⟨[], World.ownsRow_nil _ _ _ _, fun g hg => by simp [Value.ownBlock] at hg, fun j l hj => by simp at hj⟩
theorem Rows8.kept {w w' : World} {G F : Nat → Prop} {v : Value} {ls : List (List UInt8)} (h : Rows8 w G v ls) (hk : Kept F w w') (hd : ∀ k, G k → ¬ F k) : Rows8 w' G v ls := by
  obtain ⟨vs, h1, h2, h3⟩ := h
  refine ⟨vs, hk.own h1 (fun g hg => hd g (h2 g hg)), h2, fun j l hj => ?_⟩
  obtain ⟨u, h4, h5, h6⟩ := h3 j l hj
  exact ⟨u, h4, h5.keep hk (fun g hg => hd g (h6 g hg)), h6⟩
theorem Rows8.below {w w' : World} {G : Nat → Prop} {v : Value} {ls : List (List UInt8)} (h : Rows8 w G v ls) (hb : Below w.heap.size w w') : Rows8 w' G v ls := h.kept (Kept.of_below (F := fun _ => False) hb) (fun _ _ h => h)
theorem Rows8.mono {w : World} {G H : Nat → Prop} {v : Value} {ls : List (List UInt8)} (h : Rows8 w G v ls) (hs : ∀ k, G k → H k) : Rows8 w H v ls := by
  obtain ⟨vs, h1, h2, h3⟩ := h
  refine ⟨vs, h1, fun g hg => hs g (h2 g hg), fun j l hj => ?_⟩
  obtain ⟨u, h4, h5, h6⟩ := h3 j l hj
  exact ⟨u, h4, h5, fun g hg => hs g (h6 g hg)⟩
theorem Rows8.lt {w : World} {G : Nat → Prop} {v : Value} {ls : List (List UInt8)} (h : Rows8 w G v ls) : Rows8 w (fun k => G k ∧ k < w.heap.size) v ls := by
  obtain ⟨vs, h1, h2, h3⟩ := h
  refine ⟨vs, h1, fun g hg => ⟨h2 g hg, (h1.lt g hg).2⟩, fun j l hj => ?_⟩
  obtain ⟨u, h4, h5, h6⟩ := h3 j l hj
  exact ⟨u, h4, h5, fun g hg => ⟨h6 g hg, (h5.lt g hg).2⟩⟩
theorem Rows8.shape {w : World} {G : Nat → Prop} {v : Value} {ls : List (List UInt8)} (h : Rows8 w G v ls) : ∃ A c, v = .slice A ls.length c ∧ ls.length ≤ c := by
  obtain ⟨vs, h1, _⟩ := h
  exact own_shape h1
theorem Rows8.at_ {w : World} {G : Nat → Prop} {v : Value} {ls : List (List UInt8)} (h : Rows8 w G v ls) {j : Nat} {l : List UInt8} (hj : ls[j]? = some l) :
    ∃ g c u, v = .slice (some ⟨g, 0, none⟩) ls.length c ∧ ls.length ≤ c ∧ g < w.heap.size ∧ G g ∧ w.cell? ⟨g, j, none⟩ = some u ∧ Own8 w 0 u l ∧ ∀ k, u.ownBlock = some k → G k := by
  obtain ⟨vs, h1, h2, h3⟩ := h
  have hlt : j < ls.length := (List.getElem?_eq_some_iff.1 hj).1
  obtain ⟨u, h4, h5, h6⟩ := h3 j l hj
  have hce : ∀ g, _ := fun g => h1.cells (g := g)
  rcases h1.2 with ⟨_, h0⟩ | ⟨g, cap, cur, rfl, hb, hg, hn, _⟩
  · rw [h0] at hlt; exact absurd hlt (Nat.not_lt_zero _)
  · refine ⟨g, cap, u, rfl, hn, heap_lt hg, h2 g rfl, ?_, h5, h6⟩
    have := hce g rfl j u h4
    rwa [Addr.add_lit, Nat.zero_add] at this
theorem own8_cell {w : World} {base : Nat} {u : Value} {l : List UInt8} (h : Own8 w base u l) : u.oneCell' = true := by
  obtain ⟨A, c, rfl, _⟩ := h.shape
  rfl
section
variable {ops : Array Oper} {Q : Exit → Act → World → Prop}
/-- one row is appended -/
theorem wp_pushR {o : Oper} {a : Act} {K : Act → World → Prop} {w0 w : World} {cs : Array Value} {T : TypeId} (hw : w = w0.alloc (.cells cs T) ∨ w = (w0.alloc (.cells cs T)).drew) (s x : Operand)
    (ho : o.op = .call { callee := .builtin .append, args := #[s, x], argTypes := #[29, 29] }) (G : Nat → Prop) (v u : Value) (ls : List (List UInt8)) (l : List UInt8) (hs : a.eval s = v) (hr : Rows8 w0 G v ls)
    (hx : a.eval x = .slice (some ⟨w0.heap.size, 0, none⟩) 1 1) (hcs : cs = #[u]) (hu : Own8 w0 0 u l) (hG : ∀ g, u.ownBlock = some g → G g) (hlen : ls.length ≤ 1000000)
    (h : ∀ v' w', Rows8 w' (fun k => G k ∨ w0.heap.size ≤ k) v' (ls ++ [l]) → Kept (fun k => v.ownBlock = some k) w0 w' → (∀ g, v'.ownBlock = some g → v.ownBlock = some g ∨ w0.heap.size ≤ g) → K (a.put o.dst v') w') :
    Oper.wp Try.prog o a w K Q := by
  obtain ⟨i0, hi0, hz0, hz1, hz2⟩ := info_parts info_bytes
  obtain ⟨vs, h1, h2, h3⟩ := hr
  have hvl : vs.length = ls.length := by have := h1.1; omega
  refine wp_push_new hw s x _ ho 0 23 i0 (.slice none 0 0) 1 24 Try.underlying29 hi0 hz0 hz1 hz2 rfl (by decide) v ls.length vs hs h1 [u] hx hcs rfl (fun y hy => by simp at hy; subst hy; exact own8_cell hu) (by unfold maxLen; omega) (by omega) (Nat.zero_le _) ?_
  intro v' w' ho' hk' hv'
  have hne : ∀ (y : Value) (m : List UInt8), Own8 w0 0 y m → Own8 w' 0 y m := fun y m hy => hy.keep hk' (fun g hg hf => by
    rcases h1.2 with ⟨e, _⟩ | ⟨g', cap, cur, e, _, hb, _⟩
    · rw [e] at hf; simp [Value.ownBlock] at hf
    · rw [e] at hf
      have : g' = g := by simpa [Value.ownBlock] using hf
      subst this
      exact own_ne hy hb (by decide) hg)
  refine h v' w' ⟨vs ++ [u], by rw [List.length_append]; exact ho', fun g hg => (hv' g hg).imp (fun e => h2 g e) id, fun j m hj => ?_⟩ hk' hv'
  by_cases hjl : j < ls.length
  · rw [List.getElem?_append_left hjl] at hj
    obtain ⟨y, h4, h5, h6⟩ := h3 j m hj
    exact ⟨y, by rw [List.getElem?_append_left (by omega)]; exact h4, hne y m h5, fun g hg => .inl (h6 g hg)⟩
  · have : j = ls.length := by
      have := (List.getElem?_eq_some_iff.1 hj).1
      simp at this
      omega
    subst this
    rw [List.getElem?_append_right (Nat.le_refl _)] at hj
    simp at hj
    subst hj
    exact ⟨u, by rw [List.getElem?_append_right (by omega), hvl]; simp, hne u l hu, fun g hg => .inl (hG g hg)⟩
theorem wpList_pushR {rest : List Oper} {o : Oper} {a : Act} {w0 : World} {cs : Array Value} {T : TypeId} (hgd : o.guard = none) (s x : Operand)
    (ho : o.op = .call { callee := .builtin .append, args := #[s, x], argTypes := #[29, 29] }) (G : Nat → Prop) (v u : Value) (ls : List (List UInt8)) (l : List UInt8) (hs : a.eval s = v) (hr : Rows8 w0 G v ls)
    (hx : a.eval x = .slice (some ⟨w0.heap.size, 0, none⟩) 1 1) (hcs : cs = #[u]) (hu : Own8 w0 0 u l) (hG : ∀ g, u.ownBlock = some g → G g) (hlen : ls.length ≤ 1000000)
    (h : ∀ v' w', Rows8 w' (fun k => G k ∨ w0.heap.size ≤ k) v' (ls ++ [l]) → Kept (fun k => v.ownBlock = some k) w0 w' → (∀ g, v'.ownBlock = some g → v.ownBlock = some g ∨ w0.heap.size ≤ g) → wpList Try.prog ops Q rest (a.put o.dst v') w') :
    wpList Try.prog ops Q (o :: rest) a (w0.alloc (.cells cs T)) :=
  wpList_plain hgd fun _ hK => wp_pushR (.inl rfl) s x ho G v u ls l hs hr hx hcs hu hG hlen fun v' w' a b c => hK _ _ (h v' w' a b c)
end
end Go.Proofs.Ytckihiiimomgfaa
