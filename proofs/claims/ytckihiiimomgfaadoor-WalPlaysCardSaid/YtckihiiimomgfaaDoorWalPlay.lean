/- Two logs and two disks, the program's and the document's, in memory of the call's own, apart. -/
import Derived.Test.YtckihiiimomgfaaDoorRefWal6
import Derived.Test.YtckihiiimomgfaaDoorTwo
import Derived.Test.YtckihiiimomgfaaDoorWalSame
import Derived.Test.YtckihiiimomgfaaDoorWalLaws
import Derived.Test.YtckihiiimomgfaaDoorOpenDo9
import Derived.Deep.CutBlock
import Derived.Deep.CutRange
namespace Go.Proofs.YtckihiiimomgfaaDoor
open Go.RowKit DiskMath
namespace WalMath
/-- no record of a region is longer than the region -/
theorem says_lens (S : List Sector) (tt : Nat) : ∀ (f at_ seq : Nat), ∀ l ∈ (says S tt f at_ seq).1, l.length ≤ 38 * tt
  | 0, at_, seq, l, h => by simp [says] at h
  | f + 1, at_, seq, l, h => by
    cases hr : record S tt at_ seq with
    | none => rw [says_none hr] at h; simp at h
    | some x =>
      obtain ⟨b, n⟩ := x
      rw [says_some hr] at h
      rcases List.mem_cons.1 h with rfl | h
      · obtain ⟨h1, e, he⟩ := record_some hr
        have hp := StampMath.totalOf_pos l.length
        have := (he (StampMath.totalOf l.length - 1) (by omega)).1
        unfold StampMath.totalOf at *
        omega
      · exact says_lens S tt f _ _ l h
theorem append_len (g : Lg) (d : Dk) (b : List UInt8) (hb : b.length ≤ 200) : (append g d b).1.to = g.to ∧ (append g d b).1.epoch = g.epoch ∧ (append g d b).2.1.fast.length = d.fast.length ∧ (append g d b).2.1.waits.length ≤ d.waits.length + 7 ∧
    g.at_ ≤ (append g d b).1.at_ ∧ (g.at_ ≤ g.to → (append g d b).1.at_ ≤ g.to) ∧ (append g d b).1.next ≤ max g.next 4294967296 := by
  have hpp : ∀ (ps : List StampMath.Part) (dk : Dk) (i : Nat), (putParts dk g.at_ i ps).1.fast.length = dk.fast.length ∧ (putParts dk g.at_ i ps).1.waits.length ≤ dk.waits.length + ps.length := by
    intro ps
    induction ps with
    | nil => intro dk i; exact ⟨rfl, Nat.le_refl _⟩
    | cons p ps ih =>
      intro dk i
      have hw := write_len dk (g.at_ + i : Nat) (StampMath.lay p)
      unfold putParts
      split
      · have := ih (write dk (g.at_ + i : Nat) (StampMath.lay p)).1 (i + 1)
        simp only [List.length_cons]
        omega
      · simp only [List.length_cons]
        omega
  have hput : ∀ ps : List StampMath.Part, (put d g.at_ ps).1.fast.length = d.fast.length ∧ (put d g.at_ ps).1.waits.length ≤ d.waits.length + ps.length := by
    intro ps
    have h1 := hpp ps d 0
    unfold put
    split
    · have h2 := flush_len (putParts d g.at_ 0 ps).1
      omega
    · exact h1
  have ht : StampMath.totalOf b.length ≤ 6 := by unfold StampMath.totalOf; omega
  have h3 := hput (StampMath.parts g.epoch g.next b)
  rw [StampMath.parts_length] at h3
  unfold append
  split
  · exact ⟨rfl, rfl, rfl, by simp, Nat.le_refl _, fun h => h, by simp only; omega⟩
  · split
    · exact ⟨rfl, rfl, rfl, by simp, Nat.le_refl _, fun h => h, by simp only; omega⟩
    · split
      · exact ⟨rfl, rfl, rfl, by simp, Nat.le_refl _, fun h => h, by simp only; omega⟩
      · split
        · exact ⟨rfl, rfl, rfl, by simp, Nat.le_refl _, fun h => h, by simp only; omega⟩
        · split
          · refine ⟨rfl, rfl, h3.1, by simp only; omega, by simp only; omega, fun h => by simp only; omega, by simp only; omega⟩
          · exact ⟨rfl, rfl, h3.1, by simp only; omega, Nat.le_refl _, fun h => h, by simp only; omega⟩
end WalMath
/-- both logs and both disks -/
structure WpMem (W w : World) (F G : Nat → Prop) (p q lp yp fr : Nat) (g h : WalMath.Lg) (d e : Dk) (c : Nat) : Prop where
  two : Two W w F G p q d e c
  log : LogB w lp p fr g
  rlog : RLogB w yp q fr h
  lF : ¬ F lp
  lG : ¬ G lp
  yF : ¬ F yp
  yG : ¬ G yp
  ly : lp ≠ yp
  lW : W.heap.size ≤ lp
  yW : W.heap.size ≤ yp
section
variable {W w w' : World} {F G : Nat → Prop} {p q lp yp fr : Nat} {g h : WalMath.Lg} {d e : Dk} {c : Nat}
theorem WpMem.below (m : WpMem W w F G p q lp yp fr g h d e c) (hb : Below w.heap.size w w') : WpMem W w' F G p q lp yp fr g h d e c :=
  ⟨m.two.below hb, m.log.below hb, m.rlog.below hb, m.lF, m.lG, m.yF, m.yG, m.ly, m.lW, m.yW⟩
theorem WpMem.drew (m : WpMem W w F G p q lp yp fr g h d e c) : WpMem W w.drew F G p q lp yp fr g h d e c := m.below (Below.refl _ _).drew
/-- the program's log and disk go on -/
theorem WpMem.app {g' : WalMath.Lg} {d' : Dk} (m : WpMem W w F G p q lp yp fr g h d e c) (hl : LogB w' lp p fr g') (hd : DiskAt w' (fun x => F x ∨ w.heap.size ≤ x) p d') (hk : Kept (fun x => F x ∨ x = lp) w w') :
    WpMem W w' (fun x => (F x ∨ w.heap.size ≤ x) ∧ x < w'.heap.size) G p q lp yp fr g' h d' e c := by
  have hs := m.two.bel.size
  have hs2 := hk.size
  have hll := m.log.lt
  have hyl := m.rlog.lt
  have hnG : ∀ k, G k → ¬ (F k ∨ k = lp) := fun k hg hf => by
    rcases hf with hf | rfl
    · exact m.two.apart k hf hg
    · exact m.lG hg
  refine ⟨⟨hd.lt, m.two.rd.kept hk hnG, fun k hk' => ⟨hk'.1.elim (fun hf => (m.two.ownF k hf).1) (fun _ => by omega), hk'.2⟩, fun k hg => ⟨(m.two.ownG k hg).1, by have := (m.two.ownG k hg).2; omega⟩, fun k hk' hg => ?_, m.two.bel.trans (hk.below (B := W.heap.size) (fun k _ hf => ?_) hs)⟩, hl, m.rlog.kept hk ?_, ?_, m.lG, ?_, m.yG, m.ly, m.lW, m.yW⟩
  · rcases hk'.1 with h1 | h1
    · exact m.two.apart k h1 hg
    · have := (m.two.ownG k hg).2; omega
  · rcases hf with hf | rfl
    · exact (m.two.ownF k hf).1
    · exact m.lW
  · rintro (hf | hf)
    · exact m.yF hf
    · exact m.ly hf.symm
  · rintro ⟨hf | hf, _⟩
    · exact m.lF hf
    · omega
  · rintro ⟨hf | hf, _⟩
    · exact m.yF hf
    · omega
/-- the document's log and disk go on -/
theorem WpMem.rapp {h' : WalMath.Lg} {e' : Dk} {c' : Nat} (m : WpMem W w F G p q lp yp fr g h d e c) (hl : RLogB w' yp q fr h') (hd : RDiskAt w' (fun x => G x ∨ w.heap.size ≤ x) q e' c') (hk : Kept (fun x => G x ∨ x = yp) w w') :
    WpMem W w' F (fun x => (G x ∨ w.heap.size ≤ x) ∧ x < w'.heap.size) p q lp yp fr g h' d e' c' := by
  have hs := m.two.bel.size
  have hs2 := hk.size
  have hll := m.log.lt
  have hyl := m.rlog.lt
  have hnF : ∀ k, F k → ¬ (G k ∨ k = yp) := fun k hf hg => by
    rcases hg with hg | rfl
    · exact m.two.apart k hf hg
    · exact m.yF hf
  refine ⟨⟨m.two.dk.kept hk hnF, hd.lt, fun k hf => ⟨(m.two.ownF k hf).1, by have := (m.two.ownF k hf).2; omega⟩, fun k hk' => ⟨hk'.1.elim (fun hf => (m.two.ownG k hf).1) (fun _ => by omega), hk'.2⟩, fun k hf hk' => ?_, m.two.bel.trans (hk.below (B := W.heap.size) (fun k _ hf => ?_) hs)⟩, m.log.kept hk ?_, hl, m.lF, ?_, m.yF, ?_, m.ly, m.lW, m.yW⟩
  · rcases hk'.1 with h1 | h1
    · exact m.two.apart k hf h1
    · have := (m.two.ownF k hf).2; omega
  · rcases hf with hf | rfl
    · exact (m.two.ownG k hf).1
    · exact m.yW
  · rintro (hf | hf)
    · exact m.lG hf
    · exact m.ly hf
  · rintro ⟨hf | hf, _⟩
    · exact m.lG hf
    · omega
  · rintro ⟨hf | hf, _⟩
    · exact m.yG hf
    · omega
/-- the program's disk goes on -/
theorem WpMem.stepF {d' : Dk} (m : WpMem W w F G p q lp yp fr g h d e c) (hd : DiskAt w' F p d') (hk : Kept F w w') : WpMem W w' (fun x => (F x ∨ w.heap.size ≤ x) ∧ x < w'.heap.size) G p q lp yp fr g h d' e c :=
  m.app (m.log.kept hk m.lF) (hd.mono fun _ h => .inl h) (hk.mono fun _ _ h => .inl h)
theorem WpMem.stepG {e' : Dk} {c' : Nat} (m : WpMem W w F G p q lp yp fr g h d e c) (hd : RDiskAt w' (fun x => G x ∨ w.heap.size ≤ x) q e' c') (hk : Kept G w w') : WpMem W w' F (fun x => (G x ∨ w.heap.size ≤ x) ∧ x < w'.heap.size) p q lp yp fr g h d e' c' :=
  m.rapp (m.rlog.kept hk m.yG) hd (hk.mono fun _ _ h => .inl h)
/-- another log of the program's -/
theorem WpMem.relog {lp' : Nat} {g' : WalMath.Lg} (m : WpMem W w F G p q lp yp fr g h d e c) (hb : Below w.heap.size w w') (hl : LogB w' lp' p fr g') (hn : w.heap.size ≤ lp') : WpMem W w' F G p q lp' yp fr g' h d e c := by
  have m' := m.below hb
  have hs := m.two.bel.size
  have hyl := m.rlog.lt
  exact ⟨m'.two, hl, m'.rlog, fun hf => by have := (m.two.ownF _ hf).2; omega, fun hf => by have := (m.two.ownG _ hf).2; omega, m.yF, m.yG, by omega, by omega, m.yW⟩
theorem WpMem.rrelog {yp' : Nat} {h' : WalMath.Lg} (m : WpMem W w F G p q lp yp fr g h d e c) (hb : Below w.heap.size w w') (hl : RLogB w' yp' q fr h') (hn : w.heap.size ≤ yp') : WpMem W w' F G p q lp yp' fr g h' d e c := by
  have m' := m.below hb
  have hs := m.two.bel.size
  have hll := m.log.lt
  exact ⟨m'.two, m'.log, hl, m.lF, m.lG, fun hf => by have := (m.two.ownF _ hf).2; omega, fun hf => by have := (m.two.ownG _ hf).2; omega, by omega, m.lW, by omega⟩
end
end Go.Proofs.YtckihiiimomgfaaDoor
