/- The program's disk beside the document's. -/
import Derived.Test.YtckihiiimomgfaaDoorDiskLaws
import Derived.Test.YtckihiiimomgfaaDoorRefDisk5
import Derived.Test.YtckihiiimomgfaaDoorGReg
import Derived.Test.YtckihiiimomgfaaDoorOver
import Derived.Deep.DeepCutAuto
namespace Go.Proofs.YtckihiiimomgfaaDoor
open Go.RowKit DiskMath
/-- both disks, in memory of the call's own, apart -/
structure Two (W w : World) (F G : Nat → Prop) (p q : Nat) (d e : Dk) (c : Nat) : Prop where
  dk : DiskAt w F p d
  rd : RDiskAt w G q e c
  ownF : ∀ k, F k → W.heap.size ≤ k ∧ k < w.heap.size
  ownG : ∀ k, G k → W.heap.size ≤ k ∧ k < w.heap.size
  apart : ∀ k, F k → ¬ G k
  bel : Below W.heap.size W w
theorem Two.kept {W w w' : World} {F G H : Nat → Prop} {p q : Nat} {d e : Dk} {c : Nat} (h : Two W w F G p q d e c) (hk : Kept H w w') (hF : ∀ k, H k → ¬ F k ∧ ¬ G k ∧ W.heap.size ≤ k) : Two W w' F G p q d e c := by
  have hs := h.bel.size
  have hs2 := hk.size
  exact ⟨h.dk.kept hk (fun k hf hh => (hF k hh).1 hf), h.rd.kept hk (fun k hg hh => (hF k hh).2.1 hg), fun k hf => ⟨(h.ownF k hf).1, by have := (h.ownF k hf).2; omega⟩, fun k hg => ⟨(h.ownG k hg).1, by have := (h.ownG k hg).2; omega⟩, h.apart, h.bel.trans (hk.below (B := W.heap.size) (fun k _ hh => (hF k hh).2.2) hs)⟩
theorem Two.below {W w w' : World} {F G : Nat → Prop} {p q : Nat} {d e : Dk} {c : Nat} (h : Two W w F G p q d e c) (hb : Below w.heap.size w w') : Two W w' F G p q d e c := h.kept (Kept.of_below (F := fun _ => False) hb) (fun _ h => h.elim)
theorem Two.drew {W w : World} {F G : Nat → Prop} {p q : Nat} {d e : Dk} {c : Nat} (h : Two W w F G p q d e c) : Two W w.drew F G p q d e c := h.kept (Kept.refl (fun _ => False) w).drew (fun _ h => h.elim)
/-- the program's disk steps -/
theorem Two.stepF {W w w' : World} {F G H : Nat → Prop} {p q : Nat} {d d' e : Dk} {c : Nat} (h : Two W w F G p q d e c) (hk : Kept F w w') (hd : DiskAt w' H p d') (hH : ∀ k, H k → F k ∨ w.heap.size ≤ k) : Two W w' (fun k => H k ∧ k < w'.heap.size) G p q d' e c := by
  have hs := h.bel.size
  have hs2 := hk.size
  refine ⟨hd.lt, h.rd.kept hk (fun k hg hf => h.apart k hf hg), fun k hk' => ⟨(hH k hk'.1).elim (fun hf => (h.ownF k hf).1) (fun hle => by omega), hk'.2⟩, fun k hg => ⟨(h.ownG k hg).1, by have := (h.ownG k hg).2; omega⟩, fun k hk' hg => ?_, h.bel.trans (hk.below (B := W.heap.size) (fun k _ hf => (h.ownF k hf).1) hs)⟩
  rcases hH k hk'.1 with h1 | h1
  · exact h.apart k h1 hg
  · have := (h.ownG k hg).2; omega
/-- the document's disk steps -/
theorem Two.stepG {W w w' : World} {F G H : Nat → Prop} {p q : Nat} {d e e' : Dk} {c c' : Nat} (h : Two W w F G p q d e c) (hk : Kept G w w') (hd : RDiskAt w' H q e' c') (hH : ∀ k, H k → G k ∨ w.heap.size ≤ k) : Two W w' F (fun k => H k ∧ k < w'.heap.size) p q d e' c' := by
  have hs := h.bel.size
  have hs2 := hk.size
  refine ⟨h.dk.kept hk (fun k hf hg => h.apart k hf hg), hd.lt, fun k hf => ⟨(h.ownF k hf).1, by have := (h.ownF k hf).2; omega⟩, fun k hk' => ⟨(hH k hk'.1).elim (fun hg => (h.ownG k hg).1) (fun hle => by omega), hk'.2⟩, fun k hf hk' => ?_, h.bel.trans (hk.below (B := W.heap.size) (fun k _ hg => (h.ownG k hg).1) hs)⟩
  rcases hH k hk'.1 with h1 | h1
  · exact h.apart k hf h1
  · have := (h.ownF k hf).2; omega
theorem diskLen_at (w : World) (F : Nat → Prop) (p : Nat) (d : Dk) (h : DiskAt w F p d) : Calls Tryd.prog 69 #[.pointer (some ⟨p, 0, none⟩)] w fun e w' => e = .returned (.int .i64 (d.fast.length : Nat)) ∧ w = w' := by
  obtain ⟨gf, gm, n, vw, hb, _⟩ := h
  have := diskLen_any w p gf gm n vw d hb
  rw [← hb.len] at this
  exact this
/-- what the document's disk says of itself -/
theorem RDiskAt.says {w : World} {G : Nat → Prop} {p : Nat} {d : Dk} {c : Nat} (h : RDiskAt w G p d c) : ∃ A cw, w.cell? ⟨p, 1, none⟩ = some (.slice A d.waits.length cw) ∧ w.cell? ⟨p, 4, none⟩ = some (.bool d.dead) := by
  obtain ⟨_, vf, vw, ar, lf, hb⟩ := h
  obtain ⟨A, cw, rfl, _⟩ := hb.waits.shape
  exact ⟨A, cw, hb.cells.2.1, hb.cells.2.2.2.2.1⟩
end Go.Proofs.YtckihiiimomgfaaDoor
