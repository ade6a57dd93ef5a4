/- A row of bytes of the call's own that begins somewhere in its block: what is left of it, and what is appended to it. -/
import Derived.Test.YtnjkpoljcekjcaaDoorFoot
import Derived.Deep.MidRow
import Derived.ArgAppend
namespace Go.Proofs.YtnjkpoljcekjcaaDoor
open Go.RowKit
/-- v is the bytes l, in a block from base on -/
def RestAt (w : World) (base : Nat) (v : Value) (l : List UInt8) : Prop :=
  (v = .slice none 0 0 ∧ l = []) ∨
  ∃ g off cap cur, v = .slice (some ⟨g, off, none⟩) l.length cap ∧ base ≤ g ∧ w.heap[g]? = some (.cells cur 5 (0, 0)) ∧ l.length ≤ cap ∧ cap ≤ maxLen ∧ off + cap ≤ cur.size ∧
    ∀ j c, l[j]? = some c → cur[off + j]? = some (.int .u8 (c.toNat : Int))
theorem RestAt.nil (w : World) (base : Nat) : RestAt w base (.slice none 0 0) [] := .inl ⟨rfl, rfl⟩
theorem RestAt.shape {w : World} {base : Nat} {v : Value} {l : List UInt8} (h : RestAt w base v l) : ∃ A c, v = .slice A l.length c ∧ l.length ≤ c ∧ c ≤ maxLen := by
  rcases h with ⟨rfl, rfl⟩ | ⟨g, off, cap, cur, rfl, _, _, h1, h2, _⟩
  · exact ⟨none, 0, rfl, Nat.le_refl _, Nat.zero_le _⟩
  · exact ⟨_, _, rfl, h1, h2⟩
theorem RestAt.bs {w : World} {base n c : Nat} {A : Option Addr} {l : List UInt8} (h : RestAt w base (.slice A n c) l) : Bs w A l := fun j x hj => by
  rcases h with ⟨_, rfl⟩ | ⟨g, off, cap, cur, e, _, hg, _, _, _, hc⟩
  · simp at hj
  · injection e with e
    subst e
    refine ⟨_, rfl, heap_lt hg, ?_⟩
    rw [Addr.add_lit, block_cell hg]
    exact hc j x hj
theorem RestAt.of_own {w : World} {base : Nat} {v : Value} {n : Nat} {l : List UInt8} (h : w.ownsRow base 5 1 v n (bvs l)) : RestAt w base v l := by
  have hn : l.length = n := by have := h.1; rw [bvs_length] at this; omega
  rcases h.2 with ⟨rfl, h0⟩ | ⟨g, cap, cur, rfl, hb, hg, hnc, hm, hs, ht⟩
  · exact .inl ⟨rfl, List.eq_nil_of_length_eq_zero (by omega)⟩
  · refine .inr ⟨g, 0, cap, cur, by rw [hn], hb, hg, by omega, hm, by omega, fun j c hj => ?_⟩
    have h1 := bvs_get l j c hj
    rw [← ht] at h1
    have hlt : j < l.length := (List.getElem?_eq_some_iff.1 hj).1
    rw [List.getElem?_take_of_lt (by omega)] at h1
    simpa using h1
theorem RestAt.ne {w : World} {base g : Nat} {T : TypeId} {v : Value} {l : List UInt8} {cs : Array Value} {fr : Nat × Nat} (ho : RestAt w base v l) (h : w.heap[g]? = some (.cells cs T fr)) (hne : 5 ≠ T) : v.ownBlock ≠ some g := by
  rcases ho with ⟨rfl, _⟩ | ⟨g', off, cap, cur, rfl, _, hg, _⟩
  · simp [Value.ownBlock]
  · intro he
    have e1 : g' = g := by simpa [Value.ownBlock] using he
    subst e1
    rw [hg] at h
    injection h with h
    injection h with _ h
    exact hne h
theorem RestAt.lt {w : World} {base : Nat} {v : Value} {l : List UInt8} (ho : RestAt w base v l) {g : Nat} (h : v.ownBlock = some g) : base ≤ g ∧ g < w.heap.size := by
  rcases ho with ⟨rfl, _⟩ | ⟨g', off, cap, cur, rfl, hb, hg, _⟩
  · simp [Value.ownBlock] at h
  · have e1 : g' = g := by simpa [Value.ownBlock] using h
    subst e1
    exact ⟨hb, heap_lt hg⟩
theorem RestAt.kept {w w' : World} {F : Nat → Prop} {base : Nat} {v : Value} {l : List UInt8} (ho : RestAt w base v l) (hk : Kept F w w') (hn : ∀ g, v.ownBlock = some g → ¬ F g) : RestAt w' base v l := by
  rcases ho with ⟨rfl, rfl⟩ | ⟨g, off, cap, cur, rfl, hb, hg, rest⟩
  · exact .nil _ _
  · exact .inr ⟨g, off, cap, cur, rfl, hb, hk.heap hg (hn g rfl), rest⟩
theorem RestAt.below {w w' : World} {base : Nat} {v : Value} {l : List UInt8} (ho : RestAt w base v l) (hk : Below w.heap.size w w') : RestAt w' base v l :=
  ho.kept (Kept.of_below (F := fun _ => False) hk) (fun _ _ h => h)
theorem RestAt.drop {w : World} {base g off n cap k : Nat} {l : List UInt8} (h : RestAt w base (.slice (some ⟨g, off, none⟩) n cap) l) (hk : k ≤ l.length) :
    RestAt w base (.slice (some (if cap = k then ⟨g, off, none⟩ else ⟨g, off + k, none⟩)) (n - k) (cap - k)) (l.drop k) := by
  rcases h with ⟨e, _⟩ | ⟨g', off', cap', cur, e, hb, hg, h1, h2, h3, hc⟩
  · cases e
  · injection e with e1 e2 e3
    injection e1 with e1
    injection e1 with e1 e4
    subst e1 e2 e3 e4
    by_cases hk' : cap = k
    · rw [if_pos hk']
      have : l.drop k = [] := List.drop_of_length_le (by omega)
      rw [this]
      refine .inr ⟨g, off, cap - k, cur, by simp; omega, hb, hg, by simp, by omega, by omega, fun j c hj => by simp at hj⟩
    · rw [if_neg hk']
      refine .inr ⟨g, off + k, cap - k, cur, by simp, hb, hg, by simp; omega, by omega, by omega, fun j c hj => ?_⟩
      rw [List.getElem?_drop] at hj
      rw [Nat.add_assoc]
      exact hc _ _ hj
section
variable {P : Program} (w : World)
theorem setCells_heap (g : Nat) (T : TypeId) (fr : Nat × Nat) : ∀ (vs : List Value) (o : Nat) (w : World) (cs : Array Value), w.heap[g]? = some (.cells cs T fr) →
    ∃ cs', (w.setCells g o vs).heap[g]? = some (.cells cs' T fr) ∧ cs'.size = cs.size ∧ (∀ j, (j < o ∨ o + vs.length ≤ j) → cs'[j]? = cs[j]?) ∧ (∀ j v, vs[j]? = some v → o + vs.length ≤ cs.size → cs'[o + j]? = some v)
  | [], _, _, cs, h => ⟨cs, h, rfl, fun _ _ => rfl, fun j v hv => by simp at hv⟩
  | v :: r, o, w, cs, h => by
    obtain ⟨cs', h1, h2, h3, h4⟩ := setCells_heap g T fr r (o + 1) _ _ (set_block h o v)
    simp only [Array.size_setIfInBounds] at h2 h4
    refine ⟨cs', h1, h2, fun j hj => ?_, fun j u hu hle => ?_⟩
    · rw [h3 j (by simp at hj; omega), Array.getElem?_setIfInBounds]
      rw [if_neg (by simp at hj; omega)]
    · simp at hle
      cases j with
      | zero =>
        simp at hu
        subst hu
        rw [Nat.add_zero, h3 o (by omega), Array.getElem?_setIfInBounds]
        rw [if_pos rfl, if_pos (by omega)]
      | succ j =>
        simp at hu
        rw [show o + (j + 1) = o + 1 + j by omega]
        exact h4 j u hu (by omega)
theorem grown_setCells (g : Nat) : ∀ (vs : List Value) (o : Nat) (a w : World), a.grownBy w (some g) → a.grownBy (w.setCells g o vs) (some g)
  | [], _, _, _, h => h
  | v :: r, o, a, _, h => grown_setCells g r (o + 1) a _ (grown_set h o v)
theorem run_append_rest (base : Nat) (t ty : TypeId) (i : TypeInfo) (z : Value) (ht : P.underlying t = some (.slice 5)) (hi : P.info? 5 = some i) (hz : i.zero = some z)
    (hsize : i.size = 1) (hby : i.bytes = 1) (hzs : z.cells.size = 1)
    (v : Value) (m : List UInt8) (hown : RestAt w base v m) (A : Option Addr) (c : Nat) (l : List UInt8) (hr : Bs w A l)
    (hbytes : m.length + l.length ≤ 140737488355328) (hbase : base ≤ w.heap.size) :
    ∃ v' w', (Builtin.append_ #[t, t] ty #[v, .slice A l.length c]).run P w = .ok v' w' ∧ RestAt w' base v' (m ++ l) ∧ w.grownBy w' v.ownBlock ∧ (∀ g, v'.ownBlock = some g → v.ownBlock = some g ∨ w.heap.size ≤ g) := by
  have hcells : ∀ ad, A = some ad → ∀ j u, (bvs l)[j]? = some u → w.cell? (ad.add j) = some u := by
    intro ad hA j u hu
    obtain ⟨b, hb, rfl⟩ := bvs_inv hu
    obtain ⟨ad', h, _, hc⟩ := hr j b hb
    rw [hA] at h
    injection h with h
    subst h
    exact hc
  rcases hown with ⟨rfl, rfl⟩ | ⟨g, off, cap, cur, rfl, hb, hg, hmc, hcm, hoc, hcur⟩
  · obtain ⟨v', w', h1, h2, h3, h4⟩ := run_append_bs (P := P) w base t ty 5 i z ht hi hz hsize hby hzs (.slice none 0 0) [] (World.ownsRow_nil _ _ _ _) A c l hr (by simpa using hbytes) hbase
    simp only [List.nil_append] at h2
    exact ⟨v', w', h1, by simpa using RestAt.of_own h2, h3, fun g hg => by
      rcases h4 with h4 | h4
      · rw [h4] at hg; exact .inl hg
      · rw [h4] at hg; injection hg with hg; right; omega⟩
  · cases A with
    | none =>
      have hl : l = [] := by
        cases l with
        | nil => rfl
        | cons a l => obtain ⟨ad, h, _⟩ := hr 0 a rfl; cases h
      subst hl
      refine ⟨.slice (some ⟨g, off, none⟩) m.length cap, w, ?_, .inr ⟨g, off, cap, cur, by simp, hb, hg, by simpa using hmc, hcm, hoc, by simpa using hcur⟩, ⟨rfl, rfl, rfl, Nat.le_refl _, fun _ _ _ => rfl⟩, fun _ h => .inl h⟩
      simp [Builtin.append_, run_underlying ht, sizeOf, typeInfo, hi, Builtin.lenOf, Builtin.firstCells, hmc, storeCells]
    | some ad =>
      by_cases hroom : m.length + l.length ≤ cap
      · have hth : ∀ j, j < (bvs l).length → (w.cell? ⟨g, off + m.length * i.size + j, none⟩).isSome = true := by
          intro j hj
          rw [bvs_length] at hj
          rw [block_cell hg, hsize]
          simp; omega
        have hrun := run_append_room_cells (P := P) w t ty 5 i ht hi g off m.length cap ad l.length c (bvs l) (by rw [bvs_length, hsize]; omega) (hcells ad rfl) (bvs_one l) hroom hth (fun j _ => block_free hg)
        rw [hsize, Nat.mul_one] at hrun
        obtain ⟨cs', k1, k2, k3, k4⟩ := setCells_heap g 5 (0, 0) (bvs l) (off + m.length) w cur hg
        refine ⟨_, _, hrun, .inr ⟨g, off, cap, cs', by simp, hb, k1, by simpa using hroom, hcm, by omega, fun j x hj => ?_⟩, grown_setCells g _ _ _ _ ⟨rfl, rfl, rfl, Nat.le_refl _, fun _ _ _ => rfl⟩, fun _ h => .inl h⟩
        by_cases hjm : j < m.length
        · rw [List.getElem?_append_left hjm] at hj
          rw [k3 _ (by omega)]
          exact hcur j x hj
        · rw [List.getElem?_append_right (by omega)] at hj
          have := k4 (j - m.length) _ (bvs_get l _ x hj) (by rw [bvs_length]; omega)
          rw [show off + m.length + (j - m.length) = off + j by omega] at this
          exact this
      · obtain ⟨v', w', h1, h2, h3⟩ := run_append_arg_grows (P := P) w t ty 5 i z 1 1 ht hi hz hsize hby hzs (by decide) ⟨g, off, none⟩ m.length cap (bvs m) (by rw [bvs_length]; omega)
          (fun j u hu => by
            obtain ⟨b, hb, rfl⟩ := bvs_inv hu
            rw [Addr.add_lit, block_cell hg]
            exact hcur j b hb) ad l.length c (bvs l) (by rw [bvs_length]; omega) (hcells ad rfl) (by omega) (by unfold maxLen; omega) (by omega)
        rw [← bvs_append] at h2
        refine ⟨v', w', h1, RestAt.of_own (own_base h2 hbase), ⟨h3.os, h3.tape, h3.output, h3.size, fun k hk _ => h3.block k hk (by simp)⟩, fun g' hg' => .inr ((RestAt.of_own h2).lt hg').1⟩
theorem wpList_append_rest {ops : Array Oper} {rest : List Oper} {o : Oper} {a : Act} {Q : Exit → Act → World → Prop} (hgd : o.guard = none) (s x : Operand) (t : TypeId)
    (ho : o.op = .call { callee := .builtin .append, args := #[s, x], argTypes := #[t, t] })
    (base : Nat) (i : TypeInfo) (z : Value) (ht : P.underlying t = some (.slice 5)) (hi : P.info? 5 = some i) (hz : i.zero = some z)
    (hsize : i.size = 1) (hby : i.bytes = 1) (hzs : z.cells.size = 1)
    (v : Value) (m : List UInt8) (hs : a.eval s = v) (hown : RestAt w base v m)
    (A : Option Addr) (c n : Nat) (l : List UInt8) (hn : n = l.length) (hx : a.eval x = .slice A n c) (hr : Bs w A l)
    (hbytes : m.length + l.length ≤ 140737488355328) (hbase : base ≤ w.heap.size)
    (h : ∀ v' w', RestAt w' base v' (m ++ l) → w.grownBy w' v.ownBlock → (∀ g, v'.ownBlock = some g → v.ownBlock = some g ∨ w.heap.size ≤ g) → wpList P ops Q rest (a.put o.dst v') w') : wpList P ops Q (o :: rest) a w := by
  subst hn
  obtain ⟨v', w', hrun, h2, h3, h4⟩ := run_append_rest (P := P) w base t o.type i z ht hi hz hsize hby hzs v m hown A c l hr hbytes hbase
  refine wpList_plain hgd fun K hK => ?_
  unfold Oper.wp execOp
  simp only [ho, resolve, invoke, builtin, Sem.run_bind, Sem.run_pure, Result.andThen_ok, List.map_toArray, List.map_cons, List.map_nil, hs, hx, hrun]
  exact hK _ _ (h v' w' h2 h3 h4)
end
end Go.Proofs.YtnjkpoljcekjcaaDoor
