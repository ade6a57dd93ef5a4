/- A region that draws its order, walked in an order of one's own: quiet operations taken, the others carried out where nothing else may come up. Over any program. -/
import Derived.Test.YtpejfngkdkkfnaaDoorTakeS
namespace Go.Proofs.YtpejfngkdkkfnaaDoor
open Go.RowKit
section
variable {P : Program} {ops : Array Oper} {Q : Exit → Act → World → Prop} {md : Region.Mode} {S : World → Prop} {m : Nat}
/-- operations by their numbers: taken (true), carried out (false) -/
def pickM (l : List Oper) : List (Bool × Nat) → List (Bool × Nat × Oper)
  | [] => []
  | (b, i) :: r => match l[i]? with
    | some o => (b, i, o) :: pickM l r
    | none => pickM l r
def wpMix (P : Program) (ops : Array Oper) (Q : Exit → Act → World → Prop) (S : World → Prop) (m : Nat) : List (Bool × Nat × Oper) → Act → World → Prop
  | [], a, w => Q .normal a w
  | (true, _, o) :: rest, a, w => ∃ v, YieldsIf P ops S o v a ∧ wpMix P ops Q S m rest (a.put o.dst v) w
  | (false, i, o) :: rest, a, w => if Region.wanted o (yielded ops a.tmps) = true then o.wp P a w (fun a' w' => (i < m → S w') ∧ wpMix P ops Q S m rest a' w') Q else (i < m → S w) ∧ wpMix P ops Q S m rest (a.put o.dst undef) w
theorem wpMix_nil {a : Act} {w : World} (h : Q .normal a w) : wpMix P ops Q S m [] a w := h
theorem wpMix_take {i : Nat} {o : Oper} {rest : List (Bool × Nat × Oper)} {a : Act} {w : World} {v : Value} (hy : YieldsIf P ops S o v a) (hr : wpMix P ops Q S m rest (a.put o.dst v) w) : wpMix P ops Q S m ((true, i, o) :: rest) a w := ⟨v, hy, hr⟩
theorem wpMix_do {i : Nat} {o : Oper} {rest : List (Bool × Nat × Oper)} {a : Act} {w : World} (hw : Region.wanted o (yielded ops a.tmps) = true)
    (h : ∀ K : Act → World → Prop, Shut (∀ a w, (i < m → S w) → wpMix P ops Q S m rest a w → K a w) → o.wp P a w K Q) : wpMix P ops Q S m ((false, i, o) :: rest) a w := by
  unfold wpMix
  rw [if_pos hw]
  exact h (fun a' w' => (i < m → S w') ∧ wpMix P ops Q S m rest a' w') (fun _ _ h1 h2 => ⟨h1, h2⟩)
theorem wpMix_skip {i : Nat} {o : Oper} {rest : List (Bool × Nat × Oper)} {a : Act} {w : World} (hw : Region.wanted o (yielded ops a.tmps) = false) (hS : i < m → S w) (h : wpMix P ops Q S m rest (a.put o.dst undef) w) : wpMix P ops Q S m ((false, i, o) :: rest) a w := by
  unfold wpMix
  rw [if_neg (by rw [hw]; decide)]
  exact ⟨hS, h⟩
/-- ok: S is known -/
def Region.mixB (md : Region.Mode) (ops : Array Oper) (m : Nat) : List (Bool × Nat) → Bool → Array Bool → Bool
  | [], _, listed => (Region.ready md ops listed).isEmpty
  | (true, k) :: r, ok, listed => ok && (Region.ready md ops listed).contains k && ops[k]?.isSome && Region.free md ops listed k && ((List.range ops.size).all fun j => decide (j < m) || Region.waitsFor md ops j k) && Region.mixB md ops m r ok (listed.setIfInBounds k true)
  | (false, i) :: r, _, listed => decide (Region.ready md ops listed = [i]) && ops[i]?.isSome && Region.mixB md ops m r (decide (i < m)) (listed.setIfInBounds i true)
theorem wpAnyG_mix (hsel : Region.noSelect ops = true) (hQ : ∀ c (a a' : Act) w, a.defers = a'.defers → Q (.panic c) a w → Q (.panic c) a' w) :
    ∀ (l : List (Bool × Nat)) (ok : Bool) (listed : Array Bool) (a : Act) (w : World), Region.mixB md ops m l ok listed = true → (ok = true → S w) → wpMix P ops Q S m (pickM ops.toList l) a w → wpAnyG P md ops Q S m l.length listed a w := by
  intro l
  induction l with
  | nil =>
    intro ok listed a w hB _ h
    simp only [Region.mixB, List.isEmpty_iff] at hB
    exact ⟨hB, h⟩
  | cons x l ih =>
    obtain ⟨b, k⟩ := x
    intro ok listed a w hB hS h
    cases b with
    | true =>
      simp only [Region.mixB, Bool.and_eq_true] at hB
      obtain ⟨⟨⟨⟨⟨h0, h1⟩, h5⟩, h2⟩, h3⟩, h4⟩ := hB
      obtain ⟨o, ho⟩ := Option.isSome_iff_exists.1 h5
      have hp : pickM ops.toList ((true, k) :: l) = (true, k, o) :: pickM ops.toList l := by
        have : ops.toList[k]? = some o := by simpa using ho
        simp only [pickM, this]
      rw [hp] at h
      obtain ⟨v, hy, hrest⟩ := h
      refine wpAnyG_first ho (Region.noSelect_spec hsel) (fun c a w h => hQ c _ a w (put_defers a _ _) h) (fun j hj hlt => ?_) _ listed a w (Region.free_spec ho h2) (by simpa using h1) hy (hS h0) ?_
      · have := List.all_eq_true.1 h3 j (List.mem_range.2 hlt)
        simp only [Bool.or_eq_true, decide_eq_true_eq] at this
        exact this.resolve_left (by omega)
      · exact ih ok _ _ w h4 hS hrest
    | false =>
      simp only [Region.mixB, Bool.and_eq_true, decide_eq_true_eq] at hB
      obtain ⟨⟨hr, hs⟩, hB2⟩ := hB
      obtain ⟨o, ho⟩ := Option.isSome_iff_exists.1 hs
      have hp : pickM ops.toList ((false, k) :: l) = (false, k, o) :: pickM ops.toList l := by
        have : ops.toList[k]? = some o := by simpa using ho
        simp only [pickM, this]
      rw [hp] at h
      refine ⟨fun h1 => (by rw [h1] at hr; cases hr), fun j hj => ?_⟩
      rw [hr] at hj
      obtain rfl : j = k := by simpa using hj
      have hw : wpOp P ops Q j (fun a' w' => (j < m → S w') ∧ wpMix P ops Q S m (pickM ops.toList l) a' w') a w := by
        unfold wpMix at h
        unfold wpOp
        simp only [ho]
        split at h
        · rename_i h1; rw [if_pos h1]; exact .inl h
        · rename_i h1; rw [if_neg h1]; exact h
      exact wpOp_mono (fun a' w' h' => ⟨h'.1, ih (decide (j < m)) _ a' w' hB2 (fun h => h'.1 (by simpa using h)) h'.2⟩) hw
theorem wp_region_mix {id : Nat} {a : Act} {w : World} {l : List Oper} (ls : List (Bool × Nat)) (m : Nat) (S : World → Prop) (hm : P.follows .mixedOrders = true)
    (hB : (Region.noSelect l.toArray && decide (ls.length = l.length) && Region.mixB .any l.toArray m ls true (Array.replicate l.length false)) = true)
    (hQ : ∀ c (a a' : Act) w, a.defers = a'.defers → Q (.panic c) a w → Q (.panic c) a' w) (hS : S w.drew)
    (h : wpMix P l.toArray Q S m (pickM l ls) a w.drew) : (Code.region id l.toArray true).wp P Q a w := by
  simp only [Bool.and_eq_true, decide_eq_true_eq] at hB
  obtain ⟨⟨h1, h2⟩, h4⟩ := hB
  refine wp_region_any hm (wpAny_of_G (S := S) (m := m) _ _ _ _ ?_)
  have := wpAnyG_mix (P := P) (md := .any) (m := m) (S := S) h1 hQ ls true (Array.replicate l.length false) a w.drew h4 (fun _ => hS) h
  rw [h2] at this
  simpa using this
end
end Go.Proofs.YtpejfngkdkkfnaaDoor
