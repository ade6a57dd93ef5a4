/- A block of values known whole: ranges of it, stores into it; sectors laid flat. -/
import Derived.Test.YtpejfngkdkkfnaaDoorFoot
import Derived.Test.YtpejfngkdkkfnaaDoorRow8
import Derived.Deep.MidRow
namespace Go.Proofs.YtpejfngkdkkfnaaDoor
open Go.RowKit
/-- block g, of type T, holds the values vs -/
def RowV (w : World) (g : Nat) (T : TypeId) (vs : List Value) : Prop := w.heap[g]? = some (.cells vs.toArray T (0, 0))
theorem RowV.lt {w : World} {g : Nat} {T : TypeId} {vs : List Value} (h : RowV w g T vs) : g < w.heap.size := heap_lt h
theorem RowV.cell {w : World} {g : Nat} {T : TypeId} {vs : List Value} (h : RowV w g T vs) (i : Nat) : w.cell? ⟨g, i, none⟩ = vs[i]? := by rw [block_cell h]; simp
theorem RowV.free {w : World} {g : Nat} {T : TypeId} {vs : List Value} (h : RowV w g T vs) (i : Nat) : w.frozen? ⟨g, i, none⟩ = false := block_free h
theorem RowV.keep {w w' : World} {g : Nat} {T : TypeId} {vs : List Value} {F : Nat → Prop} (h : RowV w g T vs) (hk : Kept F w w') (hn : ¬ F g) : RowV w' g T vs := hk.heap h hn
theorem RowV.below {w w' : World} {g : Nat} {T : TypeId} {vs : List Value} (h : RowV w g T vs) (hb : Below w.heap.size w w') : RowV w' g T vs := (hb.block g (heap_lt h)).trans h
theorem RowV.range {w : World} {g : Nat} {T : TypeId} {vs : List Value} (h : RowV w g T vs) (o n : Nat) : w.rangeAt g o ((vs.drop o).take n) := fun j v hj => by
  have hjn : j < n := by
    rcases Nat.lt_or_ge j n with h1 | h1
    · exact h1
    · rw [List.getElem?_eq_none (by simp; omega)] at hj; cases hj
  rw [List.getElem?_take_of_lt hjn, List.getElem?_drop] at hj
  rw [h.cell]; exact hj
theorem RowV.there {w : World} {g : Nat} {T : TypeId} {vs : List Value} (h : RowV w g T vs) (o n : Nat) (hn : o + n ≤ vs.length) : w.there g o n := fun j hj => by
  rw [h.cell, List.getElem?_eq_getElem (by omega)]
  exact ⟨rfl, h.free _⟩
/-- a piece of a list is another -/
def spliceV (vs : List Value) (o : Nat) (us : List Value) : List Value := vs.take o ++ us ++ vs.drop (o + us.length)
theorem spliceV_length (vs : List Value) (o : Nat) (us : List Value) (h : o + us.length ≤ vs.length) : (spliceV vs o us).length = vs.length := by
  simp [spliceV]; omega
theorem spliceV_get (vs : List Value) (o : Nat) (us : List Value) (h : o + us.length ≤ vs.length) (j : Nat) : (spliceV vs o us)[j]? = if o ≤ j ∧ j < o + us.length then us[j - o]? else vs[j]? := by
  unfold spliceV
  rw [List.append_assoc]
  by_cases h1 : j < o
  · rw [List.getElem?_append_left (by simp; omega), List.getElem?_take_of_lt h1, if_neg (by omega)]
  · rw [List.getElem?_append_right (by simp; omega), List.length_take, Nat.min_eq_left (by omega)]
    by_cases h2 : j < o + us.length
    · rw [List.getElem?_append_left (by omega), if_pos ⟨by omega, h2⟩]
    · rw [List.getElem?_append_right (by omega), List.getElem?_drop, if_neg (by omega), show o + us.length + (j - o - us.length) = j by omega]
theorem setCells_arr (g : Nat) (T : TypeId) (fr : Nat × Nat) : ∀ (us : List Value) (o : Nat) (w : World) (cs : Array Value), w.heap[g]? = some (.cells cs T fr) → o + us.length ≤ cs.size →
    ∃ cs', (w.setCells g o us).heap[g]? = some (.cells cs' T fr) ∧ cs'.size = cs.size ∧ ∀ j, cs'[j]? = if o ≤ j ∧ j < o + us.length then us[j - o]? else cs[j]?
  | [], o, w, cs, h, _ => ⟨cs, h, rfl, fun j => by rw [if_neg (by simp)]⟩
  | v :: r, o, w, cs, h, hl => by
    simp at hl
    obtain ⟨cs', h1, h2, h3⟩ := setCells_arr g T fr r (o + 1) _ _ (set_block h o v) (by simp; omega)
    refine ⟨cs', h1, by simpa using h2, fun j => ?_⟩
    rw [h3 j, Array.getElem?_setIfInBounds]
    by_cases hj : o + 1 ≤ j ∧ j < o + 1 + r.length
    · rw [if_pos hj, if_pos (by simp; omega)]
      obtain ⟨k, rfl⟩ : ∃ k, j = o + 1 + k := ⟨j - (o + 1), by omega⟩
      rw [show o + 1 + k - (o + 1) = k by omega, show o + 1 + k - o = k + 1 by omega]
      rfl
    · rw [if_neg hj]
      by_cases e : o = j
      · subst e
        rw [if_pos rfl, if_pos (by omega), if_pos (by simp)]
        simp
      · rw [if_neg e, if_neg (by simp; omega)]
theorem RowV.store {w : World} {g : Nat} {T : TypeId} {vs : List Value} (h : RowV w g T vs) (o : Nat) (us : List Value) (hl : o + us.length ≤ vs.length) : RowV (w.setCells g o us) g T (spliceV vs o us) := by
  obtain ⟨cs', h1, h2, h3⟩ := setCells_arr g T (0, 0) us o w _ h (by simpa using hl)
  have e : cs' = (spliceV vs o us).toArray := by
    apply Array.ext_getElem?
    intro j
    rw [h3 j, List.getElem?_toArray, List.getElem?_toArray, spliceV_get vs o us hl]
  rw [e] at h1
  exact h1
theorem setCells_keep (g : Nat) : ∀ (us : List Value) (o : Nat) (w : World), Kept (fun k => k = g) w (w.setCells g o us)
  | [], _, w => Kept.refl _ w
  | v :: r, o, w => ((Kept.refl (fun k => k = g) w).setCell (p := ⟨g, o, none⟩) (.inl rfl) v).trans (setCells_keep g r (o + 1) (w.setCell ⟨g, o, none⟩ v)) (fun _ hk => .inl hk)
/-- sectors, laid one behind the other -/
def flat (ss : List (List UInt8)) : List Value := ss.flatMap bvs
theorem secs_length {ss : List (List UInt8)} (h : ∀ s ∈ ss, s.length = 64) : (flat ss).length = 64 * ss.length := by
  induction ss with
  | nil => rfl
  | cons s r ih =>
    have h1 := h s (by simp)
    have h2 := ih (fun x hx => h x (by simp [hx]))
    unfold flat at h2 ⊢
    rw [List.flatMap_cons, List.length_append, bvs_length, h1, h2, List.length_cons]
    omega
theorem flat_cons (s : List UInt8) (r : List (List UInt8)) : flat (s :: r) = bvs s ++ flat r := rfl
theorem flat_drop {ss : List (List UInt8)} (h : ∀ s ∈ ss, s.length = 64) (i : Nat) : (flat ss).drop (64 * i) = flat (ss.drop i) := by
  induction i generalizing ss with
  | zero => simp
  | succ i ih =>
    cases ss with
    | nil => simp [flat]
    | cons s r =>
      have h1 := h s (by simp)
      rw [flat_cons, List.drop_append, List.drop_of_length_le (by rw [bvs_length]; omega), List.nil_append, bvs_length, h1, show 64 * (i + 1) - 64 = 64 * i by omega, ih (fun x hx => h x (by simp [hx]))]
      rfl
theorem flat_take {ss : List (List UInt8)} (h : ∀ s ∈ ss, s.length = 64) (i : Nat) : (flat ss).take (64 * i) = flat (ss.take i) := by
  induction i generalizing ss with
  | zero => simp [flat]
  | succ i ih =>
    cases ss with
    | nil => simp [flat]
    | cons s r =>
      have h1 := h s (by simp)
      rw [flat_cons, List.take_append, List.take_of_length_le (by rw [bvs_length]; omega), bvs_length, h1, show 64 * (i + 1) - 64 = 64 * i by omega, ih (fun x hx => h x (by simp [hx]))]
      rfl
theorem flat_at {ss : List (List UInt8)} (h : ∀ s ∈ ss, s.length = 64) {i : Nat} {s : List UInt8} (hi : ss[i]? = some s) : ((flat ss).drop (64 * i)).take 64 = bvs s := by
  obtain ⟨hlt, e⟩ := List.getElem?_eq_some_iff.1 hi
  have h1 := h s (List.mem_of_getElem? hi)
  rw [flat_drop h, List.drop_eq_getElem_cons hlt, e, flat_cons, List.take_append, List.take_of_length_le (by rw [bvs_length]; omega), bvs_length, h1]
  simp
theorem flat_set {ss : List (List UInt8)} (h : ∀ s ∈ ss, s.length = 64) {i : Nat} (hi : i < ss.length) {s : List UInt8} (hs : s.length = 64) : spliceV (flat ss) (64 * i) (bvs s) = flat (ss.set i s) := by
  unfold spliceV
  rw [flat_take h, bvs_length, hs, show 64 * i + 64 = 64 * (i + 1) by omega, flat_drop h]
  have e : ss.set i s = ss.take i ++ s :: ss.drop (i + 1) := by rw [List.set_eq_take_append_cons_drop, if_pos hi]
  rw [e]
  unfold flat
  rw [List.flatMap_append, List.flatMap_cons, List.append_assoc]
/-- a sector's first bytes are others -/
theorem flat_part {ss : List (List UInt8)} (h : ∀ s ∈ ss, s.length = 64) {i : Nat} {s : List UInt8} (hi : ss[i]? = some s) (b : List UInt8) (m : Nat) (hb : b.length = 64) (hm : m ≤ 64) :
    spliceV (flat ss) (64 * i) (bvs (b.take m)) = flat (ss.set i (b.take m ++ s.drop m)) := by
  obtain ⟨hlt, e⟩ := List.getElem?_eq_some_iff.1 hi
  have hs := h s (List.mem_of_getElem? hi)
  rw [← flat_set h hlt (s := b.take m ++ s.drop m) (by simp; omega)]
  have hl : 64 * i + 64 ≤ (flat ss).length := by rw [secs_length h]; omega
  refine List.ext_getElem? fun j => ?_
  rw [spliceV_get _ _ _ (by rw [bvs_length]; simp; omega), spliceV_get _ _ _ (by rw [bvs_length]; simp; omega)]
  simp only [bvs_length, List.length_append, List.length_take, List.length_drop, hb, hs]
  have hc := flat_at h hi
  by_cases h1 : 64 * i ≤ j ∧ j < 64 * i + m
  · rw [if_pos (by omega), if_pos (by omega), bvs_append, List.getElem?_append_left (by rw [bvs_length]; simp; omega)]
  · rw [if_neg (by omega)]
    by_cases h2 : 64 * i ≤ j ∧ j < 64 * i + 64
    · rw [if_pos (by omega), bvs_append, List.getElem?_append_right (by rw [bvs_length]; simp; omega), bvs_length, List.length_take, Nat.min_eq_left (by omega)]
      have e2 : (List.take 64 (List.drop (64 * i) (flat ss)))[j - 64 * i]? = (bvs s)[j - 64 * i]? := by rw [hc]
      rw [List.getElem?_take_of_lt (by omega), List.getElem?_drop, show 64 * i + (j - 64 * i) = j by omega] at e2
      rw [e2]
      unfold bvs
      rw [List.getElem?_map, List.getElem?_map, List.getElem?_drop, show m + (j - 64 * i - m) = j - 64 * i by omega]
    · rw [if_neg (by omega)]
section
variable {P : Program}
/-- a whole row is stored over one that was just made: a fresh name for the world behind it -/
theorem wpList_store_new {ops : Array Oper} {rest : List Oper} {op : Oper} {a : Act} {w w0 : World} {cs : Array Value} {T : TypeId} {Q : Exit → Act → World → Prop} (hgd : op.guard = none) (T' : TypeId) (x y : Operand) (ho : op.op = .store T' x y)
    (hw : w = w0.alloc (.cells cs T)) (us : List Value) (hx : a.eval x = .pointer (some ⟨w0.heap.size, 0, none⟩)) (hy : a.eval y = .agg us.toArray) (hcs : cs.size = us.length) (hi : (P.info? T').map (·.size) = some us.length) (h1 : ∀ u ∈ us, u.oneCell' = true)
    (h : ∀ w', RowV w' w0.heap.size T us → Below w0.heap.size w0 w' → w'.heap.size = w0.heap.size + 1 → wpList P ops Q rest (a.put op.dst undef) w') : wpList P ops Q (op :: rest) a w := by
  subst hw
  have hr : RowV (w0.alloc (.cells cs T)) w0.heap.size T cs.toList := by
    have := heap_alloc_new w0 (.cells cs T)
    unfold RowV
    rw [Array.toArray_toList]
    exact this
  have hcl : cs.toList.length = us.length := by simpa using hcs
  refine wpList_store_mid hgd T' x y ho w0.heap.size 0 us.toArray hx hy ?_ (by simpa using hi) (all_oneCell_toArray h1) ?_
  · rw [List.size_toArray]; exact hr.there 0 us.length (by omega)
  · have h2 := hr.store 0 us (by omega)
    have e : spliceV cs.toList 0 us = us := by
      unfold spliceV
      rw [List.take_zero, List.nil_append, Nat.zero_add, List.drop_of_length_le (by omega), List.append_nil]
    rw [e] at h2
    refine h _ h2 ((below_alloc w0 _).trans ((setCells_keep w0.heap.size us 0 _).below (B := w0.heap.size) (fun k _ hk => by omega) (by simp))) (by rw [setCells_sz]; simp)
end
end Go.Proofs.YtpejfngkdkkfnaaDoor
