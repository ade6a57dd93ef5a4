/- Footprints, over any program: which old blocks a call may have turned. -/
import Derived.Test.YtpejfngkdkkfnaaDoorMore
namespace Go.Proofs.YtpejfngkdkkfnaaDoor
open Go.RowKit

/-- w' is w, but for the blocks of F and for new ones -/
structure Kept (F : Nat → Prop) (w w' : World) : Prop where
  os : w'.os = w.os
  tape : w'.tape = w.tape
  output : w'.output = w.output
  size : w.heap.size ≤ w'.heap.size
  block : ∀ k, k < w.heap.size → ¬ F k → w'.heap[k]? = w.heap[k]?
section
variable {F G : Nat → Prop} {a w w' : World}
theorem Kept.refl (F : Nat → Prop) (w : World) : Kept F w w := ⟨rfl, rfl, rfl, Nat.le_refl _, fun _ _ _ => rfl⟩
theorem Kept.drew (h : Kept F a w) : Kept F a w.drew := ⟨h.os, h.tape, h.output, h.size, h.block⟩
theorem Kept.mono (h : Kept F a w) (hs : ∀ k, k < a.heap.size → F k → G k) : Kept G a w := ⟨h.os, h.tape, h.output, h.size, fun k hk hn => h.block k hk (fun hf => hn (hs k hk hf))⟩
theorem Kept.trans (h : Kept F a w) (h' : Kept G w w') (hs : ∀ k, G k → F k ∨ a.heap.size ≤ k) : Kept F a w' :=
  ⟨h'.os.trans h.os, h'.tape.trans h.tape, h'.output.trans h.output, Nat.le_trans h.size h'.size, fun k hk hn =>
    (h'.block k (Nat.lt_of_lt_of_le hk h.size) (fun hg => (hs k hg).elim hn (fun hle => by omega))).trans (h.block k hk hn)⟩
theorem Kept.of_below (h : Below w.heap.size w w') : Kept F w w' := ⟨h.os, h.tape, h.output, h.size, fun k hk _ => h.block k hk⟩
theorem Kept.of_grown {row : Option Nat} (h : w.grownBy w' row) (hr : ∀ g, row = some g → F g) : Kept F w w' := ⟨h.os, h.tape, h.output, h.size, fun k hk hn => h.block k hk (fun e => hn (hr k e.symm))⟩
theorem Kept.then_below (h : Kept F a w) (hb : Below w.heap.size w w') : Kept F a w' := h.trans (Kept.of_below (F := fun _ => False) hb) (fun _ hk => hk.elim)
theorem Kept.alloc (h : Kept F a w) (o : Obj) : Kept F a (w.alloc o) := h.then_below (below_alloc _ _)
theorem Kept.setCell (h : Kept F a w) {p : Addr} (hp : F p.block ∨ a.heap.size ≤ p.block) (u : Value) : Kept F a (w.setCell p u) :=
  ⟨h.os, h.tape, h.output, by simpa [World.setCell] using h.size, fun k hk hn => (Below.heap_setCell w p u k (by
    rintro rfl
    rcases hp with hp | hp
    · exact hn hp
    · omega)).trans (h.block k hk hn)⟩
theorem Kept.grown {row : Option Nat} (h : Kept F a w) (hg : w.grownBy w' row) (hr : ∀ g, row = some g → F g ∨ a.heap.size ≤ g) : Kept F a w' :=
  h.trans (Kept.of_grown (F := fun k => row = some k) hg (fun _ e => e)) hr
theorem Kept.below {B : Nat} (h : Kept F a w) (hF : ∀ k, k < a.heap.size → F k → B ≤ k) (hB : B ≤ a.heap.size) : Below B a w := ⟨h.os, h.tape, h.output, h.size, fun k hk => h.block k (by omega) (fun hf => by have := hF k (by omega) hf; omega)⟩
theorem Kept.cell (h : Kept F a w) {p : Addr} (hl : p.block < a.heap.size) (hp : ¬ F p.block) : w.cell? p = a.cell? p := World.cell?_of_block (h.block p.block hl hp)
theorem Kept.bs {A : Option Addr} {l : List UInt8} (h : Kept F a w) (hb : Bs a A l) (hn : ∀ ad, A = some ad → l ≠ [] → ¬ F ad.block) : Bs w A l := fun j c hj => by
  obtain ⟨ad, e, hlt, hc⟩ := hb j c hj
  exact ⟨ad, e, Nat.lt_of_lt_of_le hlt h.size, by rw [h.cell (by rw [addr_block]; exact hlt) (by rw [addr_block]; exact hn ad e (by rintro rfl; simp at hj))]; exact hc⟩
theorem Kept.own {base : Nat} {e : TypeId} {size : Nat} {v : Value} {n : Nat} {xs : List Value} (h : Kept F a w) (ho : a.ownsRow base e size v n xs) (hn : ∀ k, v.ownBlock = some k → ¬ F k) : w.ownsRow base e size v n xs := by
  obtain ⟨h1, h2⟩ := ho
  refine ⟨h1, ?_⟩
  rcases h2 with h2 | ⟨g, cap, cur, rfl, hb, hg, rest⟩
  · exact .inl h2
  · refine .inr ⟨g, cap, cur, rfl, hb, ?_, rest⟩
    have hlt : g < a.heap.size := by
      rcases Nat.lt_or_ge g a.heap.size with h1 | h1
      · exact h1
      · rw [Array.getElem?_eq_none h1] at hg; cases hg
    exact (h.block g hlt (hn g rfl)).trans hg
theorem Kept.heap (h : Kept F a w) {k : Nat} {o : Obj} (ho : a.heap[k]? = some o) (hn : ¬ F k) : w.heap[k]? = some o := by
  have hlt : k < a.heap.size := by
    rcases Nat.lt_or_ge k a.heap.size with h1 | h1
    · exact h1
    · rw [Array.getElem?_eq_none h1] at ho; cases ho
  exact (h.block k hlt hn).trans ho
end
theorem heap_lt {w : World} {k : Nat} {o : Obj} (h : w.heap[k]? = some o) : k < w.heap.size := by
  rcases Nat.lt_or_ge k w.heap.size with h1 | h1
  · exact h1
  · rw [Array.getElem?_eq_none h1] at h; cases h
theorem block_cell {w : World} {g i : Nat} {cs : Array Value} {T : TypeId} {fr : Nat × Nat} (h : w.heap[g]? = some (.cells cs T fr)) : w.cell? ⟨g, i, none⟩ = cs[i]? := cell_of_row _ _ _ _ _ _ h
theorem block_free {w : World} {g i : Nat} {cs : Array Value} {T : TypeId} (h : w.heap[g]? = some (.cells cs T (0, 0))) : w.frozen? ⟨g, i, none⟩ = false := by
  unfold World.frozen?
  simp only [h]
  simp
theorem own_capm {w : World} {base : Nat} {e : TypeId} {A : Option Addr} {n c : Nat} {xs : List Value} (h : w.ownsRow base e 1 (.slice A n c) n xs) : c ≤ maxLen := by
  rcases h.2 with ⟨h1, h2⟩ | ⟨g, cap, cur, hv, _, _, _, hm, _⟩
  · injection h1 with _ _ h; omega
  · injection hv with _ _ h; omega
/-- an owned row of bytes never lies in a block of another element type -/
theorem own_ne {w : World} {base g : Nat} {e T : TypeId} {size n : Nat} {v : Value} {xs : List Value} {cs : Array Value} {fr : Nat × Nat} (ho : w.ownsRow base e size v n xs) (h : w.heap[g]? = some (.cells cs T fr)) (hne : e ≠ T) : v.ownBlock ≠ some g := by
  rcases ho.2 with ⟨rfl, _⟩ | ⟨g', cap, cur, rfl, _, hg, _⟩
  · simp [Value.ownBlock]
  · intro he
    have e1 : g' = g := by simpa [Value.ownBlock] using he
    subst e1
    rw [hg] at h
    injection h with h
    injection h with _ h
    exact hne h
end Go.Proofs.YtpejfngkdkkfnaaDoor
