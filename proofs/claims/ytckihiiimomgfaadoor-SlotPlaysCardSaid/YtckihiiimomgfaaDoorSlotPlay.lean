/- Two slots and two disks, the program's and the document's, in memory of the call's own, apart. -/
import Derived.Test.YtckihiiimomgfaaDoorRefSlot3
import Derived.Test.YtckihiiimomgfaaDoorTwo
import Derived.Test.YtckihiiimomgfaaDoorSlotLaws
import Derived.Test.YtckihiiimomgfaaDoorOpenDo10
import Derived.Deep.CutBlock
import Derived.Deep.CutRange
namespace Go.Proofs.YtckihiiimomgfaaDoor
open Go.RowKit DiskMath
theorem slDec_len (r : List UInt8) : (slDec r).2.length ≤ r.length ∧ (slDec r).1 ≤ 4611686018427387904 := by
  have h1 := rdN_len 4611686018427387904 r 0
  have h2 := rdN_x 4611686018427387904 r 0
  unfold slDec
  rcases hN : rdN 4611686018427387904 r 0 with ⟨nn, l1, e1⟩
  rw [hN] at h1 h2
  simp only at h1 h2 ⊢
  have h3 : (rdBytes l1 e1).1.length ≤ l1.length := by
    have h4 := rdN_len 2147483647 l1 e1
    unfold rdBytes
    split
    · simp
    · split
      · simp
      · simp only [List.length_take]; omega
  split
  · exact ⟨by simp only; omega, h2⟩
  · exact ⟨by simp, by simp⟩
namespace SlotMath
theorem has_len (S : List Sector) (a size : Nat) : (has slDec S a size).2.length ≤ 38 * size ∧ (has slDec S a size).1 ≤ 4611686018427387904 := by
  unfold has
  split
  · exact ⟨by simp, by simp⟩
  · next r hr =>
    obtain ⟨h1, _⟩ := slotRec_some hr
    obtain ⟨h2, h3⟩ := slDec_len r
    unfold StampMath.totalOf at h1
    exact ⟨by omega, h3⟩
theorem opens_len (S : List Sector) (a size : Nat) : (opens slDec S a size).2.2.length ≤ 38 * size ∧ (opens slDec S a size).1 ≤ 4611686018427387904 ∧ (opens slDec S a size).2.1 ≤ 1 := by
  have h1 := has_len S a size
  have h2 := has_len S (a + size) size
  unfold opens
  split
  · exact ⟨h2.1, h2.2, Nat.le_refl _⟩
  · split
    · exact ⟨h1.1, h1.2, Nat.zero_le _⟩
    · exact ⟨by simp, by simp, Nat.le_refl _⟩
theorem save_len (fr : Nat) (s : Sl) (d : Dk) (b : List UInt8) (hb : b.length ≤ 65520) (hn : s.number ≤ 4611686018427387904) (hl : s.last ≤ 1) : (save slEnc fr s d b).1.size = s.size ∧ (save slEnc fr s d b).1.epoch = s.epoch ∧ (save slEnc fr s d b).2.1.fast.length = d.fast.length ∧ (save slEnc fr s d b).2.1.waits.length ≤ d.waits.length + 1725 ∧
    (save slEnc fr s d b).1.number ≤ 4611686018427387904 ∧ (save slEnc fr s d b).1.last ≤ 1 ∧ (save slEnc fr s d b).1.seq ≤ max s.seq 4294967296 := by
  have hpp : ∀ (a : Nat) (ps : List StampMath.Part) (dk : Dk) (i : Nat), (WalMath.putParts dk a i ps).1.fast.length = dk.fast.length ∧ (WalMath.putParts dk a i ps).1.waits.length ≤ dk.waits.length + ps.length := by
    intro a ps
    induction ps with
    | nil => intro dk i; exact ⟨rfl, Nat.le_refl _⟩
    | cons p ps ih =>
      intro dk i
      have hw := write_len dk (a + i : Nat) (StampMath.lay p)
      unfold WalMath.putParts
      split
      · have := ih (write dk (a + i : Nat) (StampMath.lay p)).1 (i + 1)
        simp only [List.length_cons]
        omega
      · simp only [List.length_cons]
        omega
  have hput : ∀ (a : Nat) (ps : List StampMath.Part), (WalMath.put d a ps).1.fast.length = d.fast.length ∧ (WalMath.put d a ps).1.waits.length ≤ d.waits.length + ps.length := by
    intro a ps
    have h1 := hpp a ps d 0
    unfold WalMath.put
    split
    · have h2 := flush_len (WalMath.putParts d a 0 ps).1
      omega
    · exact h1
  unfold save
  split
  · exact ⟨rfl, rfl, rfl, by simp, hn, hl, by simp only; omega⟩
  · split
    · exact ⟨rfl, rfl, rfl, by simp, hn, hl, by simp only; omega⟩
    · split
      · exact ⟨rfl, rfl, rfl, by simp, hn, hl, by simp only; omega⟩
      · next h3 =>
        have hs := slEnc_length (s.number + 1) b (by omega) hb
        have ht : StampMath.totalOf (slEnc (s.number + 1) b).length ≤ 1725 := by unfold StampMath.totalOf; omega
        have h3' := hput (fr + (1 - s.last) * s.size) (StampMath.parts s.epoch s.seq (slEnc (s.number + 1) b))
        rw [StampMath.parts_length] at h3'
        split
        · exact ⟨rfl, rfl, rfl, by simp, hn, hl, by simp only; omega⟩
        · split
          · exact ⟨rfl, rfl, rfl, by simp, hn, hl, by simp only; omega⟩
          · split
            · exact ⟨rfl, rfl, h3'.1, by simp only; omega, by simp only; omega, by simp only; omega, by simp only; omega⟩
            · exact ⟨rfl, rfl, h3'.1, by simp only; omega, hn, hl, by simp only; omega⟩
end SlotMath
/-- both slots and both disks -/
structure SpMem (W w : World) (F G : Nat → Prop) (p q lp yp fr : Nat) (g h : SlotMath.Sl) (d e : Dk) (c : Nat) : Prop where
  two : Two W w F G p q d e c
  log : SlotB w lp p fr g
  rlog : RSlotB w yp q fr h
  lF : ¬ F lp
  lG : ¬ G lp
  yF : ¬ F yp
  yG : ¬ G yp
  ly : lp ≠ yp
  lW : W.heap.size ≤ lp
  yW : W.heap.size ≤ yp
section
variable {W w w' : World} {F G : Nat → Prop} {p q lp yp fr : Nat} {g h : SlotMath.Sl} {d e : Dk} {c : Nat}
theorem SpMem.below (m : SpMem W w F G p q lp yp fr g h d e c) (hb : Below w.heap.size w w') : SpMem W w' F G p q lp yp fr g h d e c :=
  ⟨m.two.below hb, m.log.below hb, m.rlog.below hb, m.lF, m.lG, m.yF, m.yG, m.ly, m.lW, m.yW⟩
theorem SpMem.drew (m : SpMem W w F G p q lp yp fr g h d e c) : SpMem W w.drew F G p q lp yp fr g h d e c := m.below (Below.refl _ _).drew
/-- the program's slots and disk go on -/
theorem SpMem.app {g' : SlotMath.Sl} {d' : Dk} (m : SpMem W w F G p q lp yp fr g h d e c) (hl : SlotB w' lp p fr g') (hd : DiskAt w' (fun x => F x ∨ w.heap.size ≤ x) p d') (hk : Kept (fun x => F x ∨ x = lp) w w') :
    SpMem W w' (fun x => (F x ∨ w.heap.size ≤ x) ∧ x < w'.heap.size) G p q lp yp fr g' h d' e c := by
  have hs := m.two.bel.size
  have hs2 := hk.size
  have hll := m.log.lt
  have hyl := m.rlog.lt
  have hnG : ∀ k, G k → ¬ (F k ∨ k = lp) := fun k hg hf => by
    rcases hf with hf | rfl
    · exact m.two.apart k hf hg
    · exact m.lG hg
  refine ⟨⟨hd.lt, m.two.rd.kept hk hnG, fun k hk' => ⟨hk'.1.elim (fun hf => (m.two.ownF k hf).1) (fun _ => by omega), hk'.2⟩, fun k hg => ⟨(m.two.ownG k hg).1, by have := (m.two.ownG k hg).2; omega⟩, fun k hk' hg => ?_, m.two.bel.trans (hk.below (B := W.heap.size) (fun k _ hf => ?_) hs)⟩, hl, m.rlog.kept hk ?_, ?_, m.lG, ?_, m.yG, m.ly, m.lW, m.yW⟩
  · rcases hk'.1 with h1 | h1
    · exact m.two.apart k h1 hg
    · have := (m.two.ownG k hg).2; omega
  · rcases hf with hf | rfl
    · exact (m.two.ownF k hf).1
    · exact m.lW
  · rintro (hf | hf)
    · exact m.yF hf
    · exact m.ly hf.symm
  · rintro ⟨hf | hf, _⟩
    · exact m.lF hf
    · omega
  · rintro ⟨hf | hf, _⟩
    · exact m.yF hf
    · omega
/-- the document's slots and disk go on -/
theorem SpMem.rapp {h' : SlotMath.Sl} {e' : Dk} {c' : Nat} (m : SpMem W w F G p q lp yp fr g h d e c) (hl : RSlotB w' yp q fr h') (hd : RDiskAt w' (fun x => G x ∨ w.heap.size ≤ x) q e' c') (hk : Kept (fun x => G x ∨ x = yp) w w') :
    SpMem W w' F (fun x => (G x ∨ w.heap.size ≤ x) ∧ x < w'.heap.size) p q lp yp fr g h' d e' c' := by
  have hs := m.two.bel.size
  have hs2 := hk.size
  have hll := m.log.lt
  have hyl := m.rlog.lt
  have hnF : ∀ k, F k → ¬ (G k ∨ k = yp) := fun k hf hg => by
    rcases hg with hg | rfl
    · exact m.two.apart k hf hg
    · exact m.yF hf
  refine ⟨⟨m.two.dk.kept hk hnF, hd.lt, fun k hf => ⟨(m.two.ownF k hf).1, by have := (m.two.ownF k hf).2; omega⟩, fun k hk' => ⟨hk'.1.elim (fun hf => (m.two.ownG k hf).1) (fun _ => by omega), hk'.2⟩, fun k hf hk' => ?_, m.two.bel.trans (hk.below (B := W.heap.size) (fun k _ hf => ?_) hs)⟩, m.log.kept hk ?_, hl, m.lF, ?_, m.yF, ?_, m.ly, m.lW, m.yW⟩
  · rcases hk'.1 with h1 | h1
    · exact m.two.apart k hf h1
    · have := (m.two.ownF k hf).2; omega
  · rcases hf with hf | rfl
    · exact (m.two.ownG k hf).1
    · exact m.yW
  · rintro (hf | hf)
    · exact m.lG hf
    · exact m.ly hf
  · rintro ⟨hf | hf, _⟩
    · exact m.lG hf
    · omega
  · rintro ⟨hf | hf, _⟩
    · exact m.yG hf
    · omega
/-- the program's disk goes on -/
theorem SpMem.stepF {d' : Dk} (m : SpMem W w F G p q lp yp fr g h d e c) (hd : DiskAt w' F p d') (hk : Kept F w w') : SpMem W w' (fun x => (F x ∨ w.heap.size ≤ x) ∧ x < w'.heap.size) G p q lp yp fr g h d' e c :=
  m.app (m.log.kept hk m.lF) (hd.mono fun _ h => .inl h) (hk.mono fun _ _ h => .inl h)
theorem SpMem.stepG {e' : Dk} {c' : Nat} (m : SpMem W w F G p q lp yp fr g h d e c) (hd : RDiskAt w' (fun x => G x ∨ w.heap.size ≤ x) q e' c') (hk : Kept G w w') : SpMem W w' F (fun x => (G x ∨ w.heap.size ≤ x) ∧ x < w'.heap.size) p q lp yp fr g h d e' c' :=
  m.rapp (m.rlog.kept hk m.yG) hd (hk.mono fun _ _ h => .inl h)
/-- other slots of the program's -/
theorem SpMem.relog {lp' : Nat} {g' : SlotMath.Sl} (m : SpMem W w F G p q lp yp fr g h d e c) (hb : Below w.heap.size w w') (hl : SlotB w' lp' p fr g') (hn : w.heap.size ≤ lp') : SpMem W w' F G p q lp' yp fr g' h d e c := by
  have m' := m.below hb
  have hs := m.two.bel.size
  have hyl := m.rlog.lt
  exact ⟨m'.two, hl, m'.rlog, fun hf => by have := (m.two.ownF _ hf).2; omega, fun hf => by have := (m.two.ownG _ hf).2; omega, m.yF, m.yG, by omega, by omega, m.yW⟩
theorem SpMem.rrelog {yp' : Nat} {h' : SlotMath.Sl} (m : SpMem W w F G p q lp yp fr g h d e c) (hb : Below w.heap.size w w') (hl : RSlotB w' yp' q fr h') (hn : w.heap.size ≤ yp') : SpMem W w' F G p q lp yp' fr g h' d e c := by
  have m' := m.below hb
  have hs := m.two.bel.size
  have hll := m.log.lt
  exact ⟨m'.two, m'.log, hl, m.lF, m.lG, fun hf => by have := (m.two.ownF _ hf).2; omega, fun hf => by have := (m.two.ownG _ hf).2; omega, by omega, m.lW, by omega⟩
end
end Go.Proofs.YtckihiiimomgfaaDoor
