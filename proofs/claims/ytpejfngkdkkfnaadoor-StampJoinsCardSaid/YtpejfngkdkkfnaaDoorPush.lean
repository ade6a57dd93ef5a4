/- 'append(s, x)' of one element: x lies in a new block of its own; the row of the call's own is longer by one. -/
import Derived.Test.YtpejfngkdkkfnaaDoorFoot
import Derived.Maps.AppendAt
namespace Go.Proofs.YtpejfngkdkkfnaaDoor
open Go.RowKit
section
variable {P : Program}
theorem wp_push {o : Oper} {a : Act} {K : Act → World → Prop} {Q : Exit → Act → World → Prop} {w : World} {g : Nat} {T : TypeId} (s x : Operand) (t : TypeId)
    (ho : o.op = .call { callee := .builtin .append, args := #[s, x], argTypes := #[t, t] })
    (base : Nat) (e : TypeId) (i : TypeInfo) (z : Value) (size bytes : Nat) (ht : P.underlying t = some (.slice e)) (hi : P.info? e = some i) (hz : i.zero = some z)
    (hsize : i.size = size) (hby : i.bytes = bytes) (hzs : z.cells.size = size) (hsz : 0 < size)
    (v : Value) (n : Nat) (xs : List Value) (hs : a.eval s = v) (hown : w.ownsRow base e size v n xs) (news : List Value) (hx : a.eval x = .slice (some ⟨g, 0, none⟩) 1 1)
    (hblk : w.heap[g]? = some (.cells news.toArray T (0, 0))) (hl : news.length = size) (h1 : ∀ u ∈ news, u.oneCell' = true) (h63 : n + 1 ≤ maxLen) (hbytes : (n + 1) * bytes ≤ 140737488355328) (hbase : base ≤ w.heap.size)
    (h : ∀ v' w', w'.ownsRow base e size v' (n + 1) (xs ++ news) → w.grownBy w' v.ownBlock → (v'.ownBlock = v.ownBlock ∨ v'.ownBlock = some w.heap.size) → K (a.put o.dst v') w') : o.wp P a w K Q := by
  obtain ⟨v', w', hr, h2, h3, h4, h5⟩ := run_append_own_at (P := P) w base t o.type e i z size bytes ht hi hz hsize hby hzs hsz v n xs hown ⟨g, 0, none⟩ 1 1 news (by omega) (fun j u hj => by
    rw [Addr.add_lit, Nat.zero_add, block_cell hblk]
    simpa using hj) h1 h63 hbytes hbase
  unfold Oper.wp execOp
  simp only [ho, resolve, invoke, builtin, Sem.run_bind, Sem.run_pure, Result.andThen_ok, List.map_toArray, List.map_cons, List.map_nil, hs, hx, hr]
  exact h v' w' h2 h3 h5
theorem wp_push_new {o : Oper} {a : Act} {K : Act → World → Prop} {Q : Exit → Act → World → Prop} {w0 w : World} {cs : Array Value} {T : TypeId} (hw : w = w0.alloc (.cells cs T) ∨ w = (w0.alloc (.cells cs T)).drew) (s x : Operand) (t : TypeId)
    (ho : o.op = .call { callee := .builtin .append, args := #[s, x], argTypes := #[t, t] })
    (base : Nat) (e : TypeId) (i : TypeInfo) (z : Value) (size bytes : Nat) (ht : P.underlying t = some (.slice e)) (hi : P.info? e = some i) (hz : i.zero = some z)
    (hsize : i.size = size) (hby : i.bytes = bytes) (hzs : z.cells.size = size) (hsz : 0 < size)
    (v : Value) (n : Nat) (xs : List Value) (hs : a.eval s = v) (hown : w0.ownsRow base e size v n xs) (news : List Value) (hx : a.eval x = .slice (some ⟨w0.heap.size, 0, none⟩) 1 1)
    (hcs : cs = news.toArray) (hl : news.length = size) (h1 : ∀ u ∈ news, u.oneCell' = true) (h63 : n + 1 ≤ maxLen) (hbytes : (n + 1) * bytes ≤ 140737488355328) (hbase : base ≤ w0.heap.size)
    (h : ∀ v' w', w'.ownsRow base e size v' (n + 1) (xs ++ news) → Kept (fun k => v.ownBlock = some k) w0 w' → (∀ g, v'.ownBlock = some g → v.ownBlock = some g ∨ w0.heap.size ≤ g) → K (a.put o.dst v') w') : o.wp P a w K Q := by
  subst hcs
  have hb : (w0.alloc (.cells news.toArray T)).heap[w0.heap.size]? = some (.cells news.toArray T (0, 0)) := heap_alloc_new w0 _
  have hsz0 : (w0.alloc (.cells news.toArray T)).heap.size = w0.heap.size + 1 := by simp
  have key : ∀ v' w', w'.ownsRow base e size v' (n + 1) (xs ++ news) → (w0.alloc (.cells news.toArray T)).grownBy w' v.ownBlock → (v'.ownBlock = v.ownBlock ∨ v'.ownBlock = some (w0.alloc (.cells news.toArray T)).heap.size) → K (a.put o.dst v') w' := by
    intro v' w' hown' hg hat
    refine h v' w' hown' ((Kept.refl (fun k => v.ownBlock = some k) w0).alloc _ |>.grown hg (fun g hg => .inl hg)) (fun g hg => ?_)
    rcases hat with hat | hat
    · rw [hat] at hg; exact .inl hg
    · rw [hat] at hg; injection hg with hg; right; omega
  rcases hw with rfl | rfl
  · exact wp_push s x t ho base e i z size bytes ht hi hz hsize hby hzs hsz v n xs hs (hown.alloc _) news hx hb hl h1 h63 hbytes (by omega) key
  · exact wp_push (w := (w0.alloc (.cells news.toArray T)).drew) s x t ho base e i z size bytes ht hi hz hsize hby hzs hsz v n xs hs (hown.alloc _).drew news hx hb hl h1 h63 hbytes (by show _ ≤ (w0.alloc _).heap.size; omega) (fun v' w' a b c => key v' w' a ⟨b.os, b.tape, b.output, b.size, b.block⟩ c)
theorem wpList_push {ops : Array Oper} {rest : List Oper} {o : Oper} {a : Act} {Q : Exit → Act → World → Prop} {w0 : World} {cs : Array Value} {T : TypeId} (hgd : o.guard = none) (s x : Operand) (t : TypeId)
    (ho : o.op = .call { callee := .builtin .append, args := #[s, x], argTypes := #[t, t] })
    (base : Nat) (e : TypeId) (i : TypeInfo) (z : Value) (size bytes : Nat) (ht : P.underlying t = some (.slice e)) (hi : P.info? e = some i) (hz : i.zero = some z)
    (hsize : i.size = size) (hby : i.bytes = bytes) (hzs : z.cells.size = size) (hsz : 0 < size)
    (v : Value) (n : Nat) (xs : List Value) (hs : a.eval s = v) (hown : w0.ownsRow base e size v n xs) (news : List Value) (hx : a.eval x = .slice (some ⟨w0.heap.size, 0, none⟩) 1 1)
    (hcs : cs = news.toArray) (hl : news.length = size) (h1 : ∀ u ∈ news, u.oneCell' = true) (h63 : n + 1 ≤ maxLen) (hbytes : (n + 1) * bytes ≤ 140737488355328) (hbase : base ≤ w0.heap.size)
    (h : ∀ v' w', w'.ownsRow base e size v' (n + 1) (xs ++ news) → Kept (fun k => v.ownBlock = some k) w0 w' → (∀ g, v'.ownBlock = some g → v.ownBlock = some g ∨ w0.heap.size ≤ g) → wpList P ops Q rest (a.put o.dst v') w') :
    wpList P ops Q (o :: rest) a (w0.alloc (.cells cs T)) :=
  wpList_plain hgd fun _ hK => wp_push_new (.inl rfl) s x t ho base e i z size bytes ht hi hz hsize hby hzs hsz v n xs hs hown news hx hcs hl h1 h63 hbytes hbase fun v' w' a b c => hK _ _ (h v' w' a b c)
end
/-- v owns the bytes l in a block from base on -/
def Own8 (w : World) (base : Nat) (v : Value) (l : List UInt8) : Prop := w.ownsRow base 5 1 v l.length (bvs l)
theorem Own8.nil (w : World) (base : Nat) : Own8 w base (.slice none 0 0) [] := World.ownsRow_nil _ _ _ _
theorem Own8.keep {w w' : World} {base : Nat} {v : Value} {l : List UInt8} {F : Nat → Prop} (h : Own8 w base v l) (hk : Kept F w w') (hn : ∀ k, v.ownBlock = some k → ¬ F k) : Own8 w' base v l := hk.own h hn
theorem Own8.below {w w' : World} {base : Nat} {v : Value} {l : List UInt8} (h : Own8 w base v l) (hb : Below w.heap.size w w') : Own8 w' base v l := own_below h hb
theorem Own8.shape {w : World} {base : Nat} {v : Value} {l : List UInt8} (h : Own8 w base v l) : ∃ A c, v = .slice A l.length c ∧ l.length ≤ c ∧ c ≤ maxLen := by
  obtain ⟨A, c, rfl, hc⟩ := own_shape h
  exact ⟨A, c, rfl, hc, own_capm h⟩
theorem Own8.shape' {w : World} {base : Nat} {v : Value} {l : List UInt8} (h : Own8 w base v l) : ∃ A n c, v = .slice A n c ∧ l.length = n ∧ n ≤ c ∧ c ≤ maxLen := by
  obtain ⟨A, c, h1, h2, h3⟩ := h.shape
  exact ⟨A, _, c, h1, rfl, h2, h3⟩
theorem Own8.bs {w : World} {base n c : Nat} {A : Option Addr} {l : List UInt8} (h : Own8 w base (.slice A n c) l) : Bs w A l := by
  obtain ⟨A', c', e, _⟩ := own_shape h
  injection e with e1 e2 e3
  subst e1 e2 e3
  exact Bs.of_own h
theorem Own8.base {w : World} {base b : Nat} {v : Value} {l : List UInt8} (h : Own8 w base v l) (hb : b ≤ base) : Own8 w b v l := own_base h hb
theorem wpList_push8 {ops : Array Oper} {rest : List Oper} {o : Oper} {a : Act} {Q : Exit → Act → World → Prop} {w0 : World} {cs : Array Value} {T : TypeId} (hgd : o.guard = none) (s x : Operand)
    (ho : o.op = .call { callee := .builtin .append, args := #[s, x], argTypes := #[23, 23] }) (base : Nat) (v : Value) (l : List UInt8) (hs : a.eval s = v) (hown : Own8 w0 base v l)
    (hx : a.eval x = .slice (some ⟨w0.heap.size, 0, none⟩) 1 1) (e : Int) (c : UInt8) (hcs : cs = #[.int .u8 e]) (he : e = (c.toNat : Int)) (hlen : l.length ≤ 1000000) (hbase : base ≤ w0.heap.size)
    (h : ∀ v' w', Own8 w' base v' (l ++ [c]) → Kept (fun k => v.ownBlock = some k) w0 w' → (∀ g, v'.ownBlock = some g → v.ownBlock = some g ∨ w0.heap.size ≤ g) → wpList Tryd.prog ops Q rest (a.put o.dst v') w') :
    wpList Tryd.prog ops Q (o :: rest) a (w0.alloc (.cells cs T)) := by
  obtain ⟨i0, hi0, hz0, hz1, hz2⟩ := info_parts info_u8
  subst he
  refine wpList_push hgd s x _ ho base 5 i0 (.int .u8 0) 1 1 Tryd.underlying23 hi0 hz0 hz1 hz2 rfl (by decide) v l.length (bvs l) hs hown [.int .u8 (c.toNat : Int)] hx (by rw [hcs]) rfl (by simp [Value.oneCell']) (by unfold maxLen; omega) (by omega) hbase ?_
  intro v' w' h1 h2 h3
  refine h v' w' ?_ h2 h3
  unfold Own8
  rw [bvs_append, List.length_append]
  exact h1
end Go.Proofs.YtpejfngkdkkfnaaDoor
