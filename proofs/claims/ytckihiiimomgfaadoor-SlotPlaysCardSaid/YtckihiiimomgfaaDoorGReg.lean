/- Texts laid as one: HeadS, TakeS, Mix, TakeH. -/
import Derived.Test.YtckihiiimomgfaaDoorGMem
import Derived.Deep.RegionHeld3
import Derived.StillTailTactics
namespace Go.Proofs.YtckihiiimomgfaaDoor
open Go.RowKit
theorem put_defers (a : Act) (d : Option Nat) (v : Value) : (a.put d v).defers = a.defers := by cases d <;> rfl
section
variable {P : Program} {ops : Array Oper} {Q : Exit → Act → World → Prop} {md : Region.Mode} {S : World → Prop} {m : Nat}
/-- whatever order is picked, S holds behind every operation below m -/
def wpAnyG (P : Program) (md : Region.Mode) (ops : Array Oper) (Q : Exit → Act → World → Prop) (S : World → Prop) (m : Nat) : Nat → Array Bool → Act → World → Prop
  | 0, listed, a, w => Region.ready md ops listed = [] ∧ Q .normal a w
  | fuel + 1, listed, a, w => (Region.ready md ops listed = [] → Q .normal a w) ∧
    ∀ i ∈ Region.ready md ops listed, wpOp P ops Q i (fun a' w' => (i < m → S w') ∧ wpAnyG P md ops Q S m fuel (listed.setIfInBounds i true) a' w') a w
theorem wpAny_of_G : ∀ (fuel : Nat) (listed : Array Bool) (a : Act) (w : World), wpAnyG P md ops Q S m fuel listed a w → wpAny P md ops Q fuel listed a w
  | 0, _, _, _, h => h
  | fuel + 1, _, _, _, h => ⟨h.1, fun i hi => wpOp_mono (fun a' w' h' => wpAny_of_G fuel _ a' w' h'.2) (h.2 i hi)⟩
theorem wpAnyG_first {i : Nat} {oi : Oper} {v : Value} (hi : ops[i]? = some oi) (hsel : ∀ (j : Nat) (o : Oper) cs b, ops[j]? = some o → o.op ≠ .select cs b)
    (hQ : ∀ c a w, Q (.panic c) (a.put oi.dst v) w → Q (.panic c) a w) (hm : ∀ j, m ≤ j → j < ops.size → Region.waitsFor md ops j i = true) :
    ∀ (fuel : Nat) (listed : Array Bool) (a : Act) (w : World),
      (∀ j oj, ops[j]? = some oj → j ≠ i → listed.getD j true = false → (∀ e ∈ oj.after, Region.binds md e = true → e.on ≠ i) → oi.apart ops oj = true) →
      i ∈ Region.ready md ops listed → YieldsIf P ops S oi v a → S w →
      wpAnyG P md ops Q S m fuel (listed.setIfInBounds i true) (a.put oi.dst v) w → wpAnyG P md ops Q S m (fuel + 1) listed a w := by
  intro fuel
  induction fuel with
  | zero =>
    intro listed a w _ hr hy hS H
    refine ⟨fun h => (by rw [h] at hr; cases hr), fun j hj => ?_⟩
    by_cases hji : j = i
    · subst hji; exact hy.wpOp hi hS ⟨fun _ => hS, H⟩
    · have := ready_mono hj hji
      rw [H.1] at this
      cases this
  | succ fuel ih =>
    intro listed a w hfree hr hy hS H
    refine ⟨fun h => (by rw [h] at hr; cases hr), fun j hj => ?_⟩
    by_cases hji : j = i
    · subst hji; exact hy.wpOp hi hS ⟨fun _ => hS, H⟩
    · have h1 := H.2 j (ready_mono hj hji)
      obtain ⟨hjun, oj, hoj, hall⟩ := mem_ready.1 hj
      have hnot : ∀ e ∈ oj.after, Region.binds md e = true → e.on ≠ i := fun e he hb heq => by
        have h1 := hall e he hb
        have h0 := (mem_ready.1 hr).1
        rw [heq] at h1
        rcases Nat.lt_or_ge i listed.size with h' | h'
        · simp [h'] at h0 h1; rw [h0] at h1; cases h1
        · simp [Array.getElem?_eq_none h'] at h1
      have hjm : j < m := by
        rcases Nat.lt_or_ge j m with h | h
        · exact h
        · obtain ⟨oj', hoj', e, he, hb, hon⟩ := Region.waitsFor_spec (hm j h (Array.getElem?_eq_some_iff.1 hoj).1)
          obtain rfl : oj = oj' := Option.some.inj (hoj.symm.trans hoj')
          exact absurd hon (hnot e he hb)
      have h2 := wpOp_putIf hoj (hfree j oj hoj hji hjun hnot) (fun cs b => hsel i oi cs b hi) (fun cs b => hsel j oj cs b hoj) hQ hy h1
      have hfree' : ∀ k ok, ops[k]? = some ok → k ≠ i → (listed.setIfInBounds j true).getD k true = false →
          (∀ e ∈ ok.after, Region.binds md e = true → e.on ≠ i) → oi.apart ops ok = true := fun k ok hk hki hun hno => by
        refine hfree k ok hk hki ?_ hno
        by_cases hjk : j = k
        · subst hjk; exact hjun
        · rw [getD_set_ne true hjk] at hun; exact hun
      refine wpOp_mono (fun a' w' h3 => ⟨fun hlt => h3.2.1 hlt, ih (listed.setIfInBounds j true) a' w' hfree' (ready_mono hr (Ne.symm hji)) h3.1 (h3.2.1 hjm) ?_⟩) h2
      rw [Array.setIfInBounds_comm _ _ hji]
      exact h3.2.2
/-- quiet operations, one by one -/
def wpHeadS (P : Program) (ops : Array Oper) (S : World → Prop) (K : Act → Prop) : List Oper → Act → Prop
  | [], a => K a
  | o :: rest, a => ∃ v, YieldsIf P ops S o v a ∧ wpHeadS P ops S K rest (a.put o.dst v)
theorem wpHeadS_step {K : Act → Prop} {o : Oper} {rest : List Oper} {a : Act} {v : Value} (hy : YieldsIf P ops S o v a) (hr : wpHeadS P ops S K rest (a.put o.dst v)) : wpHeadS P ops S K (o :: rest) a := ⟨v, hy, hr⟩
theorem wpHeadS_nil {K : Act → Prop} {a : Act} (h : K a) : wpHeadS P ops S K [] a := h
/-- the others, one by one: S behind each below m -/
def wpTailS (P : Program) (ops : Array Oper) (Q : Exit → Act → World → Prop) (S : World → Prop) (m : Nat) : Nat → List Oper → Act → World → Prop
  | k, l, a, w => if k < m then
      match l with
      | [] => Q .normal a w
      | o :: rest => if Region.wanted o (yielded ops a.tmps) = true then o.wp P a w (fun a' w' => S w' ∧ wpTailS P ops Q S m (k + 1) rest a' w') Q else S w ∧ wpTailS P ops Q S m (k + 1) rest (a.put o.dst undef) w
    else wpList P ops Q l a w
theorem wpTailS_end {k : Nat} {l : List Oper} {a : Act} {w : World} (hk : ¬ k < m) (h : wpList P ops Q l a w) : wpTailS P ops Q S m k l a w := by unfold wpTailS; rw [if_neg hk]; exact h
theorem wpTailS_step {k : Nat} {o : Oper} {rest : List Oper} {a : Act} {w : World} (hk : k < m)
    (h : ∀ K : Act → World → Prop, Shut (∀ a w, S w → wpTailS P ops Q S m (k + 1) rest a w → K a w) → if Region.wanted o (yielded ops a.tmps) = true then o.wp P a w K Q else K (a.put o.dst undef) w) : wpTailS P ops Q S m k (o :: rest) a w := by
  unfold wpTailS
  rw [if_pos hk]
  have := h (fun a' w' => S w' ∧ wpTailS P ops Q S m (k + 1) rest a' w') (fun _ _ h1 h2 => ⟨h1, h2⟩)
  exact this
theorem wpTailS_op {k : Nat} {o : Oper} {rest : List Oper} {a : Act} {w : World} (hk : k < m) (hg : o.guard = none)
    (h : ∀ K : Act → World → Prop, Shut (∀ a w, S w → wpTailS P ops Q S m (k + 1) rest a w → K a w) → o.wp P a w K Q) : wpTailS P ops Q S m k (o :: rest) a w :=
  wpTailS_step hk fun K hK => by rw [if_pos (by simp [Region.wanted, hg])]; exact h K hK
def Region.headS (md : Region.Mode) (ops : Array Oper) (m g : Nat) : Nat → Nat → Array Bool → Bool
  | 0, k, listed => Region.seqB md ops g k listed
  | f + 1, k, listed => (Region.ready md ops listed).contains k && Region.free md ops listed k && ((List.range ops.size).all fun j => decide (j < m) || Region.waitsFor md ops j k) && Region.headS md ops m g f (k + 1) (listed.setIfInBounds k true)
theorem wpAnyG_seq : ∀ (l : List Oper) (k : Nat) (listed : Array Bool) (a : Act) (w : World), (∀ j, l[j]? = ops[k + j]?) → Region.seqB md ops l.length k listed = true → wpTailS P ops Q S m k l a w → wpAnyG P md ops Q S m l.length listed a w := by
  intro l
  induction l with
  | nil =>
    intro k listed a w _ hB h
    simp only [List.length_nil, Region.seqB, List.isEmpty_iff] at hB
    refine ⟨hB, ?_⟩
    unfold wpTailS at h
    split at h
    · exact h
    · exact h
  | cons o l ih =>
    intro k listed a w hl hB h
    simp only [List.length_cons, Region.seqB, Bool.and_eq_true, decide_eq_true_eq] at hB
    have h0 : ops[k]? = some o := by have := hl 0; simpa using this.symm
    obtain ⟨hr, hB2⟩ := hB
    have hr' : Region.ready md ops listed = [k] := by simpa using hr
    refine ⟨fun h1 => (by rw [h1] at hr'; cases hr'), fun i hi => ?_⟩
    rw [hr'] at hi
    obtain rfl : i = k := by simpa using hi
    have hnext : ∀ a' w', wpTailS P ops Q S m (i + 1) l a' w' → wpAnyG P md ops Q S m l.length (listed.setIfInBounds i true) a' w' := fun a' w' h' =>
      ih (i + 1) _ a' w' (fun j => by have := hl (j + 1); simpa [Nat.add_assoc, Nat.add_comm 1 j] using this) hB2 h'
    by_cases him : i < m
    · unfold wpTailS at h
      rw [if_pos him] at h
      simp only at h
      have hw : wpOp P ops Q i (fun a' w' => S w' ∧ wpTailS P ops Q S m (i + 1) l a' w') a w := by
        unfold wpOp
        simp only [h0]
        split at h
        · rename_i h1; rw [if_pos h1]; exact .inl h
        · rename_i h1; rw [if_neg h1]; exact h
      exact wpOp_mono (fun a' w' h' => ⟨fun _ => h'.1, hnext a' w' h'.2⟩) hw
    · unfold wpTailS at h
      rw [if_neg him] at h
      have hw : wpOp P ops Q i (wpList P ops Q l) a w := by unfold wpOp; simp only [h0]; exact h
      exact wpOp_mono (fun a' w' h' => ⟨fun h1 => absurd h1 him, hnext a' w' (wpTailS_end (by omega) h')⟩) hw
theorem wpAnyG_head (hsel : Region.noSelect ops = true) (hQ : ∀ c (a a' : Act) w, a.defers = a'.defers → Q (.panic c) a w → Q (.panic c) a' w) (t : List Oper) :
    ∀ (l : List Oper) (k : Nat) (listed : Array Bool) (a : Act) (w : World), (∀ j, (l ++ t)[j]? = ops[k + j]?) → Region.headS md ops m t.length l.length k listed = true → S w →
      wpHeadS P ops S (fun a' => wpTailS P ops Q S m (k + l.length) t a' w) l a → wpAnyG P md ops Q S m (l.length + t.length) listed a w := by
  intro l
  induction l with
  | nil =>
    intro k listed a w hl hB _ h
    simp only [List.length_nil, Nat.zero_add]
    exact wpAnyG_seq t k listed a w (by simpa using hl) hB h
  | cons o l ih =>
    intro k listed a w hl hB hS h
    simp only [List.length_cons, Region.headS, Bool.and_eq_true] at hB
    obtain ⟨⟨⟨h1, h2⟩, h3⟩, h4⟩ := hB
    obtain ⟨v, hy, hrest⟩ := h
    have h0 : ops[k]? = some o := by have := hl 0; simpa using this.symm
    rw [show (o :: l).length + t.length = (l.length + t.length) + 1 by simp; omega]
    refine wpAnyG_first h0 (Region.noSelect_spec hsel) (fun c a w h => hQ c _ a w (put_defers a _ _) h) (fun j hj hlt => ?_) _ listed a w (Region.free_spec h0 h2) (by simpa using h1) hy hS ?_
    · have := List.all_eq_true.1 h3 j (List.mem_range.2 hlt)
      simp only [Bool.or_eq_true, decide_eq_true_eq] at this
      exact this.resolve_left (by omega)
    · refine ih (k + 1) _ _ w (fun j => by have := hl (j + 1); simpa [Nat.add_assoc, Nat.add_comm 1 j] using this) h4 hS ?_
      rwa [show k + 1 + l.length = k + (o :: l).length by simp; omega]
/-- the quiet ones first, then the others -/
theorem wp_region_headS {id : Nat} {a : Act} {w : World} {l : List Oper} (n m : Nat) (S : World → Prop) (hm : P.follows .mixedOrders = true)
    (hB : (Region.noSelect l.toArray && decide (n ≤ l.length) && Region.headS .any l.toArray m (l.length - n) n 0 (Array.replicate l.length false)) = true) (hQ : ∀ c (a a' : Act) w, a.defers = a'.defers → Q (.panic c) a w → Q (.panic c) a' w) (hS : S w.drew)
    (h : wpHeadS P l.toArray S (fun a' => wpTailS P l.toArray Q S m n (l.drop n) a' w.drew) (l.take n) a) : (Code.region id l.toArray true).wp P Q a w := by
  simp only [Bool.and_eq_true, decide_eq_true_eq] at hB
  obtain ⟨⟨h1, h2⟩, h3⟩ := hB
  refine wp_region_any hm (wpAny_of_G (S := S) (m := m) _ _ _ _ ?_)
  have hl : (l.take n).length = n := by simp; omega
  have hd : (l.drop n).length = l.length - n := by simp
  have := wpAnyG_head (P := P) (md := .any) (m := m) (S := S) h1 hQ (l.drop n) (l.take n) 0 (Array.replicate l.length false) a w.drew (fun j => by rw [List.take_append_drop]; simp) (by rw [hl, hd]; exact h3) hS (by rw [hl, Nat.zero_add]; exact h)
  rw [hl, hd, show n + (l.length - n) = l.length by omega] at this
  simpa using this
end
end Go.Proofs.YtckihiiimomgfaaDoor

namespace Go.Proofs.YtckihiiimomgfaaDoor
open Go.RowKit
section
variable {P : Program} {ops : Array Oper} {Q : Exit → Act → World → Prop} {md : Region.Mode} {S : World → Prop} {m : Nat}
/-- operations by their numbers -/
def pick (l : List Oper) : List Nat → List (Nat × Oper)
  | [] => []
  | i :: r => match l[i]? with
    | some o => (i, o) :: pick l r
    | none => pick l r
def wpHeadI (P : Program) (ops : Array Oper) (S : World → Prop) (K : Act → Prop) : List (Nat × Oper) → Act → Prop
  | [], a => K a
  | (_, o) :: rest, a => ∃ v, YieldsIf P ops S o v a ∧ wpHeadI P ops S K rest (a.put o.dst v)
theorem wpHeadI_step {K : Act → Prop} {i : Nat} {o : Oper} {rest : List (Nat × Oper)} {a : Act} {v : Value} (hy : YieldsIf P ops S o v a) (hr : wpHeadI P ops S K rest (a.put o.dst v)) : wpHeadI P ops S K ((i, o) :: rest) a := ⟨v, hy, hr⟩
theorem wpHeadI_nil {K : Act → Prop} {a : Act} (h : K a) : wpHeadI P ops S K [] a := h
def wpTailI (P : Program) (ops : Array Oper) (Q : Exit → Act → World → Prop) (S : World → Prop) (m : Nat) : List (Nat × Oper) → Act → World → Prop
  | [], a, w => Q .normal a w
  | (i, o) :: rest, a, w => if i < m then
      if Region.wanted o (yielded ops a.tmps) = true then o.wp P a w (fun a' w' => S w' ∧ wpTailI P ops Q S m rest a' w') Q else S w ∧ wpTailI P ops Q S m rest (a.put o.dst undef) w
    else wpList P ops Q (o :: rest.map (·.2)) a w
theorem wpTailI_nil {a : Act} {w : World} (h : Q .normal a w) : wpTailI P ops Q S m [] a w := h
theorem wpTailI_end {i : Nat} {o : Oper} {rest : List (Nat × Oper)} {a : Act} {w : World} (hi : ¬ i < m) (h : wpList P ops Q (o :: rest.map (·.2)) a w) : wpTailI P ops Q S m ((i, o) :: rest) a w := by unfold wpTailI; rw [if_neg hi]; exact h
theorem wpTailI_op {i : Nat} {o : Oper} {rest : List (Nat × Oper)} {a : Act} {w : World} (hi : i < m) (hw : Region.wanted o (yielded ops a.tmps) = true)
    (h : ∀ K : Act → World → Prop, Shut (∀ a w, S w → wpTailI P ops Q S m rest a w → K a w) → o.wp P a w K Q) : wpTailI P ops Q S m ((i, o) :: rest) a w := by
  unfold wpTailI
  rw [if_pos hi, if_pos hw]
  exact h (fun a' w' => S w' ∧ wpTailI P ops Q S m rest a' w') (fun _ _ h1 h2 => ⟨h1, h2⟩)
theorem wpTailI_skip {i : Nat} {o : Oper} {rest : List (Nat × Oper)} {a : Act} {w : World} (hi : i < m) (hw : Region.wanted o (yielded ops a.tmps) = false) (hS : S w) (h : wpTailI P ops Q S m rest (a.put o.dst undef) w) : wpTailI P ops Q S m ((i, o) :: rest) a w := by
  unfold wpTailI
  rw [if_pos hi, if_neg (by rw [hw]; decide)]
  exact ⟨hS, h⟩
def Region.seqI (md : Region.Mode) (ops : Array Oper) : List Nat → Array Bool → Bool
  | [], listed => (Region.ready md ops listed).isEmpty
  | i :: r, listed => decide (Region.ready md ops listed = [i]) && ops[i]?.isSome && Region.seqI md ops r (listed.setIfInBounds i true)
def Region.headI (md : Region.Mode) (ops : Array Oper) (m : Nat) (ts : List Nat) : List Nat → Array Bool → Bool
  | [], listed => Region.seqI md ops ts listed
  | k :: r, listed => (Region.ready md ops listed).contains k && ops[k]?.isSome && Region.free md ops listed k && ((List.range ops.size).all fun j => decide (j < m) || Region.waitsFor md ops j k) && Region.headI md ops m ts r (listed.setIfInBounds k true)
theorem wpAnyG_list : ∀ (ts : List Nat) (listed : Array Bool) (a : Act) (w : World), Region.seqI md ops ts listed = true → wpList P ops Q ((pick ops.toList ts).map (·.2)) a w → (∀ i ∈ ts, ¬ i < m) → wpAnyG P md ops Q S m ts.length listed a w := by
  intro ts
  induction ts with
  | nil =>
    intro listed a w hB h _
    simp only [Region.seqI, List.isEmpty_iff] at hB
    exact ⟨hB, h⟩
  | cons i ts ih =>
    intro listed a w hB h hm
    simp only [Region.seqI, Bool.and_eq_true, decide_eq_true_eq] at hB
    obtain ⟨⟨hr, hs⟩, hB2⟩ := hB
    obtain ⟨o, ho⟩ := Option.isSome_iff_exists.1 hs
    have hp : pick ops.toList (i :: ts) = (i, o) :: pick ops.toList ts := by
      have : ops.toList[i]? = some o := by simpa using ho
      simp only [pick, this]
    rw [hp] at h
    refine ⟨fun h1 => (by rw [h1] at hr; cases hr), fun j hj => ?_⟩
    rw [hr] at hj
    obtain rfl : j = i := by simpa using hj
    have hw : wpOp P ops Q j (wpList P ops Q ((pick ops.toList ts).map (·.2))) a w := by unfold wpOp; simp only [ho]; exact h
    exact wpOp_mono (fun a' w' h' => ⟨fun h1 => absurd h1 (hm j (by simp)), ih _ a' w' hB2 h' (fun i hi => hm i (by simp [hi]))⟩) hw
theorem wpAnyG_tail : ∀ (ts : List Nat) (listed : Array Bool) (a : Act) (w : World), Region.seqI md ops ts listed = true → (ts.dropWhile (fun i => decide (i < m))).all (fun i => decide (¬ i < m)) = true → wpTailI P ops Q S m (pick ops.toList ts) a w → wpAnyG P md ops Q S m ts.length listed a w := by
  intro ts
  induction ts with
  | nil =>
    intro listed a w hB _ h
    simp only [Region.seqI, List.isEmpty_iff] at hB
    exact ⟨hB, h⟩
  | cons i ts ih =>
    intro listed a w hB hd h
    have hB0 := hB
    simp only [Region.seqI, Bool.and_eq_true, decide_eq_true_eq] at hB
    obtain ⟨⟨hr, hs⟩, hB2⟩ := hB
    obtain ⟨o, ho⟩ := Option.isSome_iff_exists.1 hs
    have hp : pick ops.toList (i :: ts) = (i, o) :: pick ops.toList ts := by
      have : ops.toList[i]? = some o := by simpa using ho
      simp only [pick, this]
    by_cases him : i < m
    · rw [hp] at h
      unfold wpTailI at h
      rw [if_pos him] at h
      rw [List.dropWhile_cons_of_pos (by simpa using him)] at hd
      refine ⟨fun h1 => (by rw [h1] at hr; cases hr), fun j hj => ?_⟩
      rw [hr] at hj
      obtain rfl : j = i := by simpa using hj
      have hw : wpOp P ops Q j (fun a' w' => S w' ∧ wpTailI P ops Q S m (pick ops.toList ts) a' w') a w := by
        unfold wpOp
        simp only [ho]
        split at h
        · rename_i h1; rw [if_pos h1]; exact .inl h
        · rename_i h1; rw [if_neg h1]; exact h
      exact wpOp_mono (fun a' w' h' => ⟨fun _ => h'.1, ih _ a' w' hB2 hd h'.2⟩) hw
    · rw [hp] at h
      unfold wpTailI at h
      rw [if_neg him] at h
      rw [List.dropWhile_cons_of_neg (by simpa using him)] at hd
      refine wpAnyG_list (i :: ts) listed a w hB0 (by rw [hp]; exact h) (fun j hj => ?_)
      have := List.all_eq_true.1 hd j hj
      simpa using this
theorem wpAnyG_headI (hsel : Region.noSelect ops = true) (hQ : ∀ c (a a' : Act) w, a.defers = a'.defers → Q (.panic c) a w → Q (.panic c) a' w) (ts : List Nat) (hd : (ts.dropWhile (fun i => decide (i < m))).all (fun i => decide (¬ i < m)) = true) :
    ∀ (hs : List Nat) (listed : Array Bool) (a : Act) (w : World), Region.headI md ops m ts hs listed = true → S w →
      wpHeadI P ops S (fun a' => wpTailI P ops Q S m (pick ops.toList ts) a' w) (pick ops.toList hs) a → wpAnyG P md ops Q S m (hs.length + ts.length) listed a w := by
  intro hs
  induction hs with
  | nil =>
    intro listed a w hB _ h
    simp only [List.length_nil, Nat.zero_add]
    exact wpAnyG_tail ts listed a w hB hd h
  | cons k hs ih =>
    intro listed a w hB hS h
    simp only [Region.headI, Bool.and_eq_true] at hB
    obtain ⟨⟨⟨⟨h1, h5⟩, h2⟩, h3⟩, h4⟩ := hB
    obtain ⟨o, ho⟩ := Option.isSome_iff_exists.1 h5
    have hp : pick ops.toList (k :: hs) = (k, o) :: pick ops.toList hs := by
      have : ops.toList[k]? = some o := by simpa using ho
      simp only [pick, this]
    rw [hp] at h
    obtain ⟨v, hy, hrest⟩ := h
    rw [show (k :: hs).length + ts.length = (hs.length + ts.length) + 1 by simp; omega]
    refine wpAnyG_first ho (Region.noSelect_spec hsel) (fun c a w h => hQ c _ a w (put_defers a _ _) h) (fun j hj hlt => ?_) _ listed a w (Region.free_spec ho h2) (by simpa using h1) hy hS ?_
    · have := List.all_eq_true.1 h3 j (List.mem_range.2 hlt)
      simp only [Bool.or_eq_true, decide_eq_true_eq] at this
      exact this.resolve_left (by omega)
    · exact ih _ _ w h4 hS hrest
/-- the quiet ones in the order hs, then the others in the order ts; S behind each of these below m -/
theorem wp_region_takeS {id : Nat} {a : Act} {w : World} {l : List Oper} (hs ts : List Nat) (m : Nat) (S : World → Prop) (hm : P.follows .mixedOrders = true)
    (hB : (Region.noSelect l.toArray && decide (hs.length + ts.length = l.length) && (ts.dropWhile (fun i => decide (i < m))).all (fun i => decide (¬ i < m)) && Region.headI .any l.toArray m ts hs (Array.replicate l.length false)) = true)
    (hQ : ∀ c (a a' : Act) w, a.defers = a'.defers → Q (.panic c) a w → Q (.panic c) a' w) (hS : S w.drew)
    (h : wpHeadI P l.toArray S (fun a' => wpTailI P l.toArray Q S m (pick l ts) a' w.drew) (pick l hs) a) : (Code.region id l.toArray true).wp P Q a w := by
  simp only [Bool.and_eq_true, decide_eq_true_eq] at hB
  obtain ⟨⟨⟨h1, h2⟩, h3⟩, h4⟩ := hB
  refine wp_region_any hm (wpAny_of_G (S := S) (m := m) _ _ _ _ ?_)
  have := wpAnyG_headI (P := P) (md := .any) (m := m) (S := S) h1 hQ ts h3 hs (Array.replicate l.length false) a w.drew h4 hS h
  rw [h2] at this
  simpa using this
end
end Go.Proofs.YtckihiiimomgfaaDoor

namespace Go.Proofs.YtckihiiimomgfaaDoor
open Go.RowKit
section
variable {P : Program} {ops : Array Oper} {Q : Exit → Act → World → Prop} {md : Region.Mode} {S : World → Prop} {m : Nat}
/-- operations by their numbers: taken (true), carried out (false) -/
def pickM (l : List Oper) : List (Bool × Nat) → List (Bool × Nat × Oper)
  | [] => []
  | (b, i) :: r => match l[i]? with
    | some o => (b, i, o) :: pickM l r
    | none => pickM l r
def wpMix (P : Program) (ops : Array Oper) (Q : Exit → Act → World → Prop) (S : World → Prop) (m : Nat) : List (Bool × Nat × Oper) → Act → World → Prop
  | [], a, w => Q .normal a w
  | (true, _, o) :: rest, a, w => ∃ v, YieldsIf P ops S o v a ∧ wpMix P ops Q S m rest (a.put o.dst v) w
  | (false, i, o) :: rest, a, w => if Region.wanted o (yielded ops a.tmps) = true then o.wp P a w (fun a' w' => (i < m → S w') ∧ wpMix P ops Q S m rest a' w') Q else (i < m → S w) ∧ wpMix P ops Q S m rest (a.put o.dst undef) w
theorem wpMix_nil {a : Act} {w : World} (h : Q .normal a w) : wpMix P ops Q S m [] a w := h
theorem wpMix_take {i : Nat} {o : Oper} {rest : List (Bool × Nat × Oper)} {a : Act} {w : World} {v : Value} (hy : YieldsIf P ops S o v a) (hr : wpMix P ops Q S m rest (a.put o.dst v) w) : wpMix P ops Q S m ((true, i, o) :: rest) a w := ⟨v, hy, hr⟩
theorem wpMix_do {i : Nat} {o : Oper} {rest : List (Bool × Nat × Oper)} {a : Act} {w : World} (hw : Region.wanted o (yielded ops a.tmps) = true)
    (h : ∀ K : Act → World → Prop, Shut (∀ a w, (i < m → S w) → wpMix P ops Q S m rest a w → K a w) → o.wp P a w K Q) : wpMix P ops Q S m ((false, i, o) :: rest) a w := by
  unfold wpMix
  rw [if_pos hw]
  exact h (fun a' w' => (i < m → S w') ∧ wpMix P ops Q S m rest a' w') (fun _ _ h1 h2 => ⟨h1, h2⟩)
theorem wpMix_skip {i : Nat} {o : Oper} {rest : List (Bool × Nat × Oper)} {a : Act} {w : World} (hw : Region.wanted o (yielded ops a.tmps) = false) (hS : i < m → S w) (h : wpMix P ops Q S m rest (a.put o.dst undef) w) : wpMix P ops Q S m ((false, i, o) :: rest) a w := by
  unfold wpMix
  rw [if_neg (by rw [hw]; decide)]
  exact ⟨hS, h⟩
/-- ok: S is known -/
def Region.mixB (md : Region.Mode) (ops : Array Oper) (m : Nat) : List (Bool × Nat) → Bool → Array Bool → Bool
  | [], _, listed => (Region.ready md ops listed).isEmpty
  | (true, k) :: r, ok, listed => ok && (Region.ready md ops listed).contains k && ops[k]?.isSome && Region.free md ops listed k && ((List.range ops.size).all fun j => decide (j < m) || Region.waitsFor md ops j k) && Region.mixB md ops m r ok (listed.setIfInBounds k true)
  | (false, i) :: r, _, listed => decide (Region.ready md ops listed = [i]) && ops[i]?.isSome && Region.mixB md ops m r (decide (i < m)) (listed.setIfInBounds i true)
theorem wpAnyG_mix (hsel : Region.noSelect ops = true) (hQ : ∀ c (a a' : Act) w, a.defers = a'.defers → Q (.panic c) a w → Q (.panic c) a' w) :
    ∀ (l : List (Bool × Nat)) (ok : Bool) (listed : Array Bool) (a : Act) (w : World), Region.mixB md ops m l ok listed = true → (ok = true → S w) → wpMix P ops Q S m (pickM ops.toList l) a w → wpAnyG P md ops Q S m l.length listed a w := by
  intro l
  induction l with
  | nil =>
    intro ok listed a w hB _ h
    simp only [Region.mixB, List.isEmpty_iff] at hB
    exact ⟨hB, h⟩
  | cons x l ih =>
    obtain ⟨b, k⟩ := x
    intro ok listed a w hB hS h
    cases b with
    | true =>
      simp only [Region.mixB, Bool.and_eq_true] at hB
      obtain ⟨⟨⟨⟨⟨h0, h1⟩, h5⟩, h2⟩, h3⟩, h4⟩ := hB
      obtain ⟨o, ho⟩ := Option.isSome_iff_exists.1 h5
      have hp : pickM ops.toList ((true, k) :: l) = (true, k, o) :: pickM ops.toList l := by
        have : ops.toList[k]? = some o := by simpa using ho
        simp only [pickM, this]
      rw [hp] at h
      obtain ⟨v, hy, hrest⟩ := h
      refine wpAnyG_first ho (Region.noSelect_spec hsel) (fun c a w h => hQ c _ a w (put_defers a _ _) h) (fun j hj hlt => ?_) _ listed a w (Region.free_spec ho h2) (by simpa using h1) hy (hS h0) ?_
      · have := List.all_eq_true.1 h3 j (List.mem_range.2 hlt)
        simp only [Bool.or_eq_true, decide_eq_true_eq] at this
        exact this.resolve_left (by omega)
      · exact ih ok _ _ w h4 hS hrest
    | false =>
      simp only [Region.mixB, Bool.and_eq_true, decide_eq_true_eq] at hB
      obtain ⟨⟨hr, hs⟩, hB2⟩ := hB
      obtain ⟨o, ho⟩ := Option.isSome_iff_exists.1 hs
      have hp : pickM ops.toList ((false, k) :: l) = (false, k, o) :: pickM ops.toList l := by
        have : ops.toList[k]? = some o := by simpa using ho
        simp only [pickM, this]
      rw [hp] at h
      refine ⟨fun h1 => (by rw [h1] at hr; cases hr), fun j hj => ?_⟩
      rw [hr] at hj
      obtain rfl : j = k := by simpa using hj
      have hw : wpOp P ops Q j (fun a' w' => (j < m → S w') ∧ wpMix P ops Q S m (pickM ops.toList l) a' w') a w := by
        unfold wpMix at h
        unfold wpOp
        simp only [ho]
        split at h
        · rename_i h1; rw [if_pos h1]; exact .inl h
        · rename_i h1; rw [if_neg h1]; exact h
      exact wpOp_mono (fun a' w' h' => ⟨h'.1, ih (decide (j < m)) _ a' w' hB2 (fun h => h'.1 (by simpa using h)) h'.2⟩) hw
theorem wp_region_mix {id : Nat} {a : Act} {w : World} {l : List Oper} (ls : List (Bool × Nat)) (m : Nat) (S : World → Prop) (hm : P.follows .mixedOrders = true)
    (hB : (Region.noSelect l.toArray && decide (ls.length = l.length) && Region.mixB .any l.toArray m ls true (Array.replicate l.length false)) = true)
    (hQ : ∀ c (a a' : Act) w, a.defers = a'.defers → Q (.panic c) a w → Q (.panic c) a' w) (hS : S w.drew)
    (h : wpMix P l.toArray Q S m (pickM l ls) a w.drew) : (Code.region id l.toArray true).wp P Q a w := by
  simp only [Bool.and_eq_true, decide_eq_true_eq] at hB
  obtain ⟨⟨h1, h2⟩, h4⟩ := hB
  refine wp_region_any hm (wpAny_of_G (S := S) (m := m) _ _ _ _ ?_)
  have := wpAnyG_mix (P := P) (md := .any) (m := m) (S := S) h1 hQ ls true (Array.replicate l.length false) a w.drew h4 (fun _ => hS) h
  rw [h2] at this
  simpa using this
end
end Go.Proofs.YtckihiiimomgfaaDoor

namespace Go.Proofs.YtckihiiimomgfaaDoor
open Go.RowKit
theorem takeAt {P : Program} {ops : Array Oper} {Q : Exit → Act → World → Prop} {md : Region.Mode} {S : World → Prop} {i : Nat} {v : Value} {fuel : Nat} {listed : Array Bool} {a : Act} {w : World}
    (hs : Region.noSelect ops = true) (hf : Region.free md ops listed i = true) (hr : (Region.ready md ops listed).contains i = true)
    (hQ : ∀ o, ops[i]? = some o → ∀ c a w, Q (.panic c) (a.put o.dst v) w → Q (.panic c) a w) (hy : ∀ o, ops[i]? = some o → YieldsIf P ops S o v a) (hS : S w)
    (h : ∀ d, ops[i]?.map (·.dst) = some d → wpAnyH P md ops Q S fuel (listed.setIfInBounds i true) (a.put d v) w) (hi : ops[i]?.isSome = true := by rfl) : wpAnyH P md ops Q S (fuel + 1) listed a w := by
  obtain ⟨o, ho⟩ := Option.isSome_iff_exists.1 hi
  exact wpAnyH_take ho hs hf hr (hQ o ho) (hy o ho) hS (h o.dst (by rw [ho]; rfl))
theorem consAt {P : Program} {ops : Array Oper} {Q : Exit → Act → World → Prop} {md : Region.Mode} {S : World → Prop} {fuel : Nat} {listed : Array Bool} {a : Act} {w : World} {i : Nat} {rs : List Nat}
    (h : ∀ o, ops[i]? = some o → ∀ K' : Act → World → Prop, Shut (∀ a w, S w → (S w → wpAnyH P md ops Q S fuel (listed.setIfInBounds i true) a w) → K' a w) → if Region.wanted o (yielded ops a.tmps) = true then Oper.wp P o a w K' Q else K' (a.put o.dst undef) w)
    (hs : AllReadyH P md ops Q S fuel listed a w rs) (hi : ops[i]?.isSome = true := by rfl) : AllReadyH P md ops Q S fuel listed a w (i :: rs) := by
  obtain ⟨o, ho⟩ := Option.isSome_iff_exists.1 hi
  exact AllReadyH.cons ho (h o ho) hs
end Go.Proofs.YtckihiiimomgfaaDoor
