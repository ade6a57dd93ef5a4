/- A region that draws its order: its quiet operations first, in an order of one's own, then the others, one by one. Over any program. -/
import Derived.Test.YtpejfngkdkkfnaaDoorHeadS
namespace Go.Proofs.YtpejfngkdkkfnaaDoor
open Go.RowKit
section
variable {P : Program} {ops : Array Oper} {Q : Exit → Act → World → Prop} {md : Region.Mode} {S : World → Prop} {m : Nat}
/-- operations by their numbers -/
def pick (l : List Oper) : List Nat → List (Nat × Oper)
  | [] => []
  | i :: r => match l[i]? with
    | some o => (i, o) :: pick l r
    | none => pick l r
def wpHeadI (P : Program) (ops : Array Oper) (S : World → Prop) (K : Act → Prop) : List (Nat × Oper) → Act → Prop
  | [], a => K a
  | (_, o) :: rest, a => ∃ v, YieldsIf P ops S o v a ∧ wpHeadI P ops S K rest (a.put o.dst v)
theorem wpHeadI_step {K : Act → Prop} {i : Nat} {o : Oper} {rest : List (Nat × Oper)} {a : Act} {v : Value} (hy : YieldsIf P ops S o v a) (hr : wpHeadI P ops S K rest (a.put o.dst v)) : wpHeadI P ops S K ((i, o) :: rest) a := ⟨v, hy, hr⟩
theorem wpHeadI_nil {K : Act → Prop} {a : Act} (h : K a) : wpHeadI P ops S K [] a := h
def wpTailI (P : Program) (ops : Array Oper) (Q : Exit → Act → World → Prop) (S : World → Prop) (m : Nat) : List (Nat × Oper) → Act → World → Prop
  | [], a, w => Q .normal a w
  | (i, o) :: rest, a, w => if i < m then
      if Region.wanted o (yielded ops a.tmps) = true then o.wp P a w (fun a' w' => S w' ∧ wpTailI P ops Q S m rest a' w') Q else S w ∧ wpTailI P ops Q S m rest (a.put o.dst undef) w
    else wpList P ops Q (o :: rest.map (·.2)) a w
theorem wpTailI_nil {a : Act} {w : World} (h : Q .normal a w) : wpTailI P ops Q S m [] a w := h
theorem wpTailI_end {i : Nat} {o : Oper} {rest : List (Nat × Oper)} {a : Act} {w : World} (hi : ¬ i < m) (h : wpList P ops Q (o :: rest.map (·.2)) a w) : wpTailI P ops Q S m ((i, o) :: rest) a w := by unfold wpTailI; rw [if_neg hi]; exact h
theorem wpTailI_op {i : Nat} {o : Oper} {rest : List (Nat × Oper)} {a : Act} {w : World} (hi : i < m) (hw : Region.wanted o (yielded ops a.tmps) = true)
    (h : ∀ K : Act → World → Prop, Shut (∀ a w, S w → wpTailI P ops Q S m rest a w → K a w) → o.wp P a w K Q) : wpTailI P ops Q S m ((i, o) :: rest) a w := by
  unfold wpTailI
  rw [if_pos hi, if_pos hw]
  exact h (fun a' w' => S w' ∧ wpTailI P ops Q S m rest a' w') (fun _ _ h1 h2 => ⟨h1, h2⟩)
theorem wpTailI_skip {i : Nat} {o : Oper} {rest : List (Nat × Oper)} {a : Act} {w : World} (hi : i < m) (hw : Region.wanted o (yielded ops a.tmps) = false) (hS : S w) (h : wpTailI P ops Q S m rest (a.put o.dst undef) w) : wpTailI P ops Q S m ((i, o) :: rest) a w := by
  unfold wpTailI
  rw [if_pos hi, if_neg (by rw [hw]; decide)]
  exact ⟨hS, h⟩
def Region.seqI (md : Region.Mode) (ops : Array Oper) : List Nat → Array Bool → Bool
  | [], listed => (Region.ready md ops listed).isEmpty
  | i :: r, listed => decide (Region.ready md ops listed = [i]) && ops[i]?.isSome && Region.seqI md ops r (listed.setIfInBounds i true)
def Region.headI (md : Region.Mode) (ops : Array Oper) (m : Nat) (ts : List Nat) : List Nat → Array Bool → Bool
  | [], listed => Region.seqI md ops ts listed
  | k :: r, listed => (Region.ready md ops listed).contains k && ops[k]?.isSome && Region.free md ops listed k && ((List.range ops.size).all fun j => decide (j < m) || Region.waitsFor md ops j k) && Region.headI md ops m ts r (listed.setIfInBounds k true)
theorem wpAnyG_list : ∀ (ts : List Nat) (listed : Array Bool) (a : Act) (w : World), Region.seqI md ops ts listed = true → wpList P ops Q ((pick ops.toList ts).map (·.2)) a w → (∀ i ∈ ts, ¬ i < m) → wpAnyG P md ops Q S m ts.length listed a w := by
  intro ts
  induction ts with
  | nil =>
    intro listed a w hB h _
    simp only [Region.seqI, List.isEmpty_iff] at hB
    exact ⟨hB, h⟩
  | cons i ts ih =>
    intro listed a w hB h hm
    simp only [Region.seqI, Bool.and_eq_true, decide_eq_true_eq] at hB
    obtain ⟨⟨hr, hs⟩, hB2⟩ := hB
    obtain ⟨o, ho⟩ := Option.isSome_iff_exists.1 hs
    have hp : pick ops.toList (i :: ts) = (i, o) :: pick ops.toList ts := by
      have : ops.toList[i]? = some o := by simpa using ho
      simp only [pick, this]
    rw [hp] at h
    refine ⟨fun h1 => (by rw [h1] at hr; cases hr), fun j hj => ?_⟩
    rw [hr] at hj
    obtain rfl : j = i := by simpa using hj
    have hw : wpOp P ops Q j (wpList P ops Q ((pick ops.toList ts).map (·.2))) a w := by unfold wpOp; simp only [ho]; exact h
    exact wpOp_mono (fun a' w' h' => ⟨fun h1 => absurd h1 (hm j (by simp)), ih _ a' w' hB2 h' (fun i hi => hm i (by simp [hi]))⟩) hw
theorem wpAnyG_tail : ∀ (ts : List Nat) (listed : Array Bool) (a : Act) (w : World), Region.seqI md ops ts listed = true → (ts.dropWhile (fun i => decide (i < m))).all (fun i => decide (¬ i < m)) = true → wpTailI P ops Q S m (pick ops.toList ts) a w → wpAnyG P md ops Q S m ts.length listed a w := by
  intro ts
  induction ts with
  | nil =>
    intro listed a w hB _ h
    simp only [Region.seqI, List.isEmpty_iff] at hB
    exact ⟨hB, h⟩
  | cons i ts ih =>
    intro listed a w hB hd h
    have hB0 := hB
    simp only [Region.seqI, Bool.and_eq_true, decide_eq_true_eq] at hB
    obtain ⟨⟨hr, hs⟩, hB2⟩ := hB
    obtain ⟨o, ho⟩ := Option.isSome_iff_exists.1 hs
    have hp : pick ops.toList (i :: ts) = (i, o) :: pick ops.toList ts := by
      have : ops.toList[i]? = some o := by simpa using ho
      simp only [pick, this]
    by_cases him : i < m
    · rw [hp] at h
      unfold wpTailI at h
      rw [if_pos him] at h
      rw [List.dropWhile_cons_of_pos (by simpa using him)] at hd
      refine ⟨fun h1 => (by rw [h1] at hr; cases hr), fun j hj => ?_⟩
      rw [hr] at hj
      obtain rfl : j = i := by simpa using hj
      have hw : wpOp P ops Q j (fun a' w' => S w' ∧ wpTailI P ops Q S m (pick ops.toList ts) a' w') a w := by
        unfold wpOp
        simp only [ho]
        split at h
        · rename_i h1; rw [if_pos h1]; exact .inl h
        · rename_i h1; rw [if_neg h1]; exact h
      exact wpOp_mono (fun a' w' h' => ⟨fun _ => h'.1, ih _ a' w' hB2 hd h'.2⟩) hw
    · rw [hp] at h
      unfold wpTailI at h
      rw [if_neg him] at h
      rw [List.dropWhile_cons_of_neg (by simpa using him)] at hd
      refine wpAnyG_list (i :: ts) listed a w hB0 (by rw [hp]; exact h) (fun j hj => ?_)
      have := List.all_eq_true.1 hd j hj
      simpa using this
theorem wpAnyG_headI (hsel : Region.noSelect ops = true) (hQ : ∀ c (a a' : Act) w, a.defers = a'.defers → Q (.panic c) a w → Q (.panic c) a' w) (ts : List Nat) (hd : (ts.dropWhile (fun i => decide (i < m))).all (fun i => decide (¬ i < m)) = true) :
    ∀ (hs : List Nat) (listed : Array Bool) (a : Act) (w : World), Region.headI md ops m ts hs listed = true → S w →
      wpHeadI P ops S (fun a' => wpTailI P ops Q S m (pick ops.toList ts) a' w) (pick ops.toList hs) a → wpAnyG P md ops Q S m (hs.length + ts.length) listed a w := by
  intro hs
  induction hs with
  | nil =>
    intro listed a w hB _ h
    simp only [List.length_nil, Nat.zero_add]
    exact wpAnyG_tail ts listed a w hB hd h
  | cons k hs ih =>
    intro listed a w hB hS h
    simp only [Region.headI, Bool.and_eq_true] at hB
    obtain ⟨⟨⟨⟨h1, h5⟩, h2⟩, h3⟩, h4⟩ := hB
    obtain ⟨o, ho⟩ := Option.isSome_iff_exists.1 h5
    have hp : pick ops.toList (k :: hs) = (k, o) :: pick ops.toList hs := by
      have : ops.toList[k]? = some o := by simpa using ho
      simp only [pick, this]
    rw [hp] at h
    obtain ⟨v, hy, hrest⟩ := h
    rw [show (k :: hs).length + ts.length = (hs.length + ts.length) + 1 by simp; omega]
    refine wpAnyG_first ho (Region.noSelect_spec hsel) (fun c a w h => hQ c _ a w (put_defers a _ _) h) (fun j hj hlt => ?_) _ listed a w (Region.free_spec ho h2) (by simpa using h1) hy hS ?_
    · have := List.all_eq_true.1 h3 j (List.mem_range.2 hlt)
      simp only [Bool.or_eq_true, decide_eq_true_eq] at this
      exact this.resolve_left (by omega)
    · exact ih _ _ w h4 hS hrest
/-- the quiet ones in the order hs, then the others in the order ts; S behind each of these below m -/
theorem wp_region_takeS {id : Nat} {a : Act} {w : World} {l : List Oper} (hs ts : List Nat) (m : Nat) (S : World → Prop) (hm : P.follows .mixedOrders = true)
    (hB : (Region.noSelect l.toArray && decide (hs.length + ts.length = l.length) && (ts.dropWhile (fun i => decide (i < m))).all (fun i => decide (¬ i < m)) && Region.headI .any l.toArray m ts hs (Array.replicate l.length false)) = true)
    (hQ : ∀ c (a a' : Act) w, a.defers = a'.defers → Q (.panic c) a w → Q (.panic c) a' w) (hS : S w.drew)
    (h : wpHeadI P l.toArray S (fun a' => wpTailI P l.toArray Q S m (pick l ts) a' w.drew) (pick l hs) a) : (Code.region id l.toArray true).wp P Q a w := by
  simp only [Bool.and_eq_true, decide_eq_true_eq] at hB
  obtain ⟨⟨⟨h1, h2⟩, h3⟩, h4⟩ := hB
  refine wp_region_any hm (wpAny_of_G (S := S) (m := m) _ _ _ _ ?_)
  have := wpAnyG_headI (P := P) (md := .any) (m := m) (S := S) h1 hQ ts h3 hs (Array.replicate l.length false) a w.drew h4 hS h
  rw [h2] at this
  simpa using this
end
end Go.Proofs.YtpejfngkdkkfnaaDoor
