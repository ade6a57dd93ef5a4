/- The contracts of the document's Says and Open of a log. -/
import Derived.Test.YtckihiiimomgfaaDoorRefWal4
import Derived.Test.YtckihiiimomgfaaDoorWal7
namespace Go.Proofs.YtckihiiimomgfaaDoor
open Go.RowKit DiskMath
def SyRel (w : World) (S : List Sector) (tt fr seq f gk : Nat) (q v a : Value) (wr : World) : Prop :=
  ∃ (at_ nx : Nat) (acc : List (List UInt8)), q = .int .i64 (nx : Int) ∧ a = .int .i64 (at_ : Int) ∧ WalMath.says S tt f fr seq = (acc ++ (WalMath.says S tt gk at_ nx).1, (WalMath.says S tt gk at_ nx).2) ∧ tt - at_ < gk ∧ fr ≤ at_ ∧ at_ ≤ tt ∧ nx = seq + (at_ - fr) ∧ acc.length ≤ at_ - fr ∧
    Rows8 wr (fun x => w.heap.size ≤ x) v acc ∧ Below w.heap.size w wr
def SayPost (r : List (List UInt8) × Nat × Nat) (w : World) (e : Ending) (w' : World) : Prop :=
  ∃ v, e = .returned (.tuple #[v, .int .i64 (r.2.1 : Nat), .int .i64 (r.2.2 : Nat)]) ∧ Rows8 w' (fun x => w.heap.size ≤ x) v r.1 ∧ Below w.heap.size w w'
set_option maxRecDepth 100000 in
set_option maxHeartbeats 4000000 in
theorem refSays_any (w : World) (G : Nat → Prop) (p : Nat) (d : Dk) (c fr tt seq f : Nat) (h : RDiskAt w G p d c) (h1 : fr ≤ tt) (hto : tt ≤ d.fast.length) (hd : d.fast.length ≤ 1000) (hseq : seq ≤ 4294967295) (hf : tt - fr < f) :
    Calls Tryd.prog 68 #[.pointer (some ⟨p, 0, none⟩), .int .i64 fr, .int .i64 tt, .int .i64 seq] w (SayPost (WalMath.says (view d) tt f fr seq) w) := by
  have HD := Lib.hid h
  have HLen := Lib.hid (show _ ∧ _ from ⟨hto, hd⟩)
  have htt : tt ≤ 1000 := by omega
  have HF := Lib.hid hf
  clear h hto hd hf
  go_enter Tryd.func68, Tryd.ntmps68
  go_wp2_with fail
  go_loopg [3, 11, 12] f (fun gk q v a wr => SyRel w (view d) tt fr seq f gk q v a wr)
  case atStart => exact ⟨fr, seq, [], rfl, rfl, rfl, HF.out, Nat.le_refl _, h1, by omega, Nat.zero_le _, Rows8.nil _ _, Below.refl _ _⟩
  case round =>
    obtain ⟨at_, nx, acc, rfl, rfl, hsay, hgk, hfr, hat, hnx, hacl, hrow, hb⟩ := hrel
    obtain ⟨wo, rfl⟩ : ∃ wo : World, wo = wr := ⟨_, rfl⟩
    obtain ⟨Av, cv, rfl, hcv⟩ := hrow.shape
    obtain ⟨m, hm⟩ : ∃ m, acc.length = m := ⟨_, rfl⟩
    rw [hm] at hrow hcv hacl ⊢
    have hnx9 : nx ≤ 4294967295 + 1000 := by omega
    have HM := Lib.hid hm
    have HSAY := Lib.hid hsay
    have HROW := Lib.hid hrow
    have HB := Lib.hid hb
    have HNX := Lib.hid hnx
    have hsz := hb.size
    clear hm hsay hrow hb hcv hnx
    by_cases hlt : at_ < tt
    · have hrec := refOne_any wo G p d c at_ tt nx (HD.out.below HB.out) HLen.out.1 HLen.out.2 hat (by omega)
      have HREC := Lib.hid hrec
      clear hrec
      go_wp2_with fail
      refine HREC.out.mono ?_
      cases hq : WalMath.record (view d) tt at_ nx with
      | none =>
        rintro e w2 ⟨rfl, hb2⟩
        have hsn := HSAY.out
        rw [WalMath.says_none hq, List.append_nil] at hsn
        have HSN := Lib.hid hsn
        have HB2 := Lib.hid hb2
        clear hsn hb2 hq HREC HSAY
        go_wp2_with fail
        go_ret3
        rw [HSN.out]
        exact ⟨_, by rw [← HM.out]; rfl, HROW.out.below HB2.out, below_then HB.out HB2.out⟩
      | some x =>
        obtain ⟨b, n⟩ := x
        obtain ⟨hn1, hn2⟩ := WalMath.record_fits hq
        obtain ⟨gk', rfl⟩ : ∃ gk', gk = gk' + 1 := ⟨gk - 1, by omega⟩
        have hsn := HSAY.out
        rw [WalMath.says_some hq] at hsn
        rintro e w2 ⟨v, rfl, ho2, hb2⟩
        simp only at ho2
        obtain ⟨A2, n2, c2, rfl, hn2l, _, _⟩ := ho2.shape'
        have hne : ((n : Int) == 0) = false := by rw [beq_eq_false_iff_ne]; omega
        have HSN := Lib.hid hsn
        have HB2 := Lib.hid hb2
        have HO2 := Lib.hid ho2
        have hs2 := hb2.size
        have s1 : IntKind.i64.wrap ((at_ : Int) + (n : Int)) = (at_ : Int) + (n : Int) := by rw [IntKind.wrap_i64]; omega
        have s2 : IntKind.i64.wrap ((nx : Int) + (n : Int)) = (nx : Int) + (n : Int) := by rw [IntKind.wrap_i64]; omega
        clear hsn hb2 ho2 hq HREC HSAY hn2l
        go_wp2_with (at_builtin; refine wpList_pushR rfl (.tmp 29) (.tmp 31) rfl (fun x => w.heap.size ≤ x) (.slice Av m cv) (.slice A2 n2 c2) acc b rfl (HROW.out.below HB2.out) rfl rfl (HO2.out.base (Nat.zero_le _)) (fun x hx => by have := (HO2.out.lt x hx).1; omega) (by have := HM.out; omega) ?_; intro v4 w4 hr4 hk4 hv4; have HR4 := Lib.hid hr4; have HK4 := Lib.hid hk4; clear hr4 hk4 hv4)
        go_roundg gk'
        case measure => omega
        case rel =>
          refine ⟨at_ + n, nx + n, acc ++ [b], by go_num, by go_num, ?_, by omega, by omega, hn2, by have := HNX.out; omega, by simp; have := HM.out; omega, ?_, ?_⟩
          · rw [HSN.out]; simp
          · exact HR4.out.mono (H := fun x => w.heap.size ≤ x) (fun x hx => hx.elim id (fun h => by omega))
          · exact (below_then HB.out HB2.out).trans (HK4.out.below (B := w.heap.size) (fun x _ e => by obtain ⟨_, _, h2, _⟩ := HROW.out; exact h2 x e) (by omega))
    · have hno : WalMath.record (view d) tt at_ nx = none := WalMath.record_first (by unfold WalMath.partAt; rw [if_neg hlt])
      have hsn := HSAY.out
      rw [WalMath.says_none hno, List.append_nil] at hsn
      have HSN := Lib.hid hsn
      clear hsn hno HSAY
      go_wp2_with fail
      go_ret3
      rw [HSN.out]
      exact ⟨_, by rw [← HM.out]; rfl, HROW.out, HB.out⟩
/-- the document's log lies in block lp, its disk in p -/
structure RLogB (w : World) (lp p : Nat) (a : Nat) (g : WalMath.Lg) : Prop where
  blk : w.heap[lp]? = some (.cells #[.pointer (some ⟨p, 0, none⟩), .int .i64 (a : Nat), .int .i64 (g.to : Nat), .int .i64 (g.at_ : Nat), .int .i64 (g.epoch : Nat), .int .i64 (g.next : Nat), .int .i64 (g.err : Nat)] 81 (0, 0))
theorem RLogB.cells {w : World} {lp p a : Nat} {g : WalMath.Lg} (h : RLogB w lp p a g) : w.cell? ⟨lp, 0, none⟩ = some (.pointer (some ⟨p, 0, none⟩)) ∧ w.cell? ⟨lp, 1, none⟩ = some (.int .i64 (a : Nat)) ∧ w.cell? ⟨lp, 2, none⟩ = some (.int .i64 (g.to : Nat)) ∧ w.cell? ⟨lp, 3, none⟩ = some (.int .i64 (g.at_ : Nat)) ∧ w.cell? ⟨lp, 4, none⟩ = some (.int .i64 (g.epoch : Nat)) ∧ w.cell? ⟨lp, 5, none⟩ = some (.int .i64 (g.next : Nat)) ∧ w.cell? ⟨lp, 6, none⟩ = some (.int .i64 (g.err : Nat)) ∧ ∀ i, w.frozen? ⟨lp, i, none⟩ = false :=
  ⟨block_cell h.blk, block_cell h.blk, block_cell h.blk, block_cell h.blk, block_cell h.blk, block_cell h.blk, block_cell h.blk, fun _ => block_free h.blk⟩
theorem RLogB.lt {w : World} {lp p a : Nat} {g : WalMath.Lg} (h : RLogB w lp p a g) : lp < w.heap.size := heap_lt h.blk
theorem RLogB.kept {w w' : World} {F : Nat → Prop} {lp p a : Nat} {g : WalMath.Lg} (h : RLogB w lp p a g) (hk : Kept F w w') (hp : ¬ F lp) : RLogB w' lp p a g := ⟨hk.heap h.blk hp⟩
theorem RLogB.below {w w' : World} {lp p a : Nat} {g : WalMath.Lg} (h : RLogB w lp p a g) (hb : Below w.heap.size w w') : RLogB w' lp p a g := ⟨(hb.block lp h.lt).trans h.blk⟩
theorem RLogB.setAt {w : World} {lp p a : Nat} {g : WalMath.Lg} (h : RLogB w lp p a g) (x : Int) (k : Nat) (hx : x = (k : Int)) : RLogB (w.setCell ⟨lp, 3, none⟩ (.int .i64 x)) lp p a { g with at_ := k } := by
  subst hx
  exact ⟨set_block h.blk 3 _⟩
theorem RLogB.setNext {w : World} {lp p a : Nat} {g : WalMath.Lg} (h : RLogB w lp p a g) (x : Int) (k : Nat) (hx : x = (k : Int)) : RLogB (w.setCell ⟨lp, 5, none⟩ (.int .i64 x)) lp p a { g with next := k } := by
  subst hx
  exact ⟨set_block h.blk 5 _⟩
theorem RLogB.setErr {w : World} {lp p a : Nat} {g : WalMath.Lg} (h : RLogB w lp p a g) (x : Int) (k : Nat) (hx : x = (k : Int)) : RLogB (w.setCell ⟨lp, 6, none⟩ (.int .i64 x)) lp p a { g with err := k } := by
  subst hx
  exact ⟨set_block h.blk 6 _⟩
/-- what the document's Open answers -/
def ROpnPost (p fr tt ep : Nat) (r : List (List UInt8) × Nat × Nat) (w : World) (e : Ending) (w' : World) : Prop :=
  ∃ lp v, e = .returned (.tuple #[.pointer (some ⟨lp, 0, none⟩), v, .int .i64 0]) ∧ w.heap.size ≤ lp ∧ RLogB w' lp p fr ⟨tt, r.2.1, ep, r.2.2, 0⟩ ∧ Rows8 w' (fun x => w.heap.size ≤ x ∧ x ≠ lp) v r.1 ∧ Below w.heap.size w w'
set_option maxRecDepth 100000 in
set_option maxHeartbeats 4000000 in
theorem refOpen9_yes (w : World) (G : Nat → Prop) (p : Nat) (d : Dk) (c fr tt ep seq f : Nat) (h : RDiskAt w G p d c) (h1 : fr < tt) (hto : tt ≤ d.fast.length) (hd : d.fast.length ≤ 1000) (hep : ep ≤ 4294967295) (hseq : seq ≤ 4294967295) (hf : tt - fr < f) :
    Calls Tryd.prog 40 #[.pointer (some ⟨p, 0, none⟩), .int .i64 fr, .int .i64 tt, .int .i64 ep, .int .i64 seq] w (ROpnPost p fr tt ep (WalMath.says (view d) tt f fr seq) w) := by
  have hri := refRight9_any w G p d c fr tt h
  rw [decide_eq_true (show RegionOk d.fast.length (fr : Int) (tt : Int) from ⟨by omega, by omega, by omega⟩)] at hri
  have hsy := refSays_any w G p d c fr tt seq f h (by omega) hto hd hseq hf
  obtain ⟨r, hr⟩ : ∃ r, WalMath.says (view d) tt f fr seq = r := ⟨_, rfl⟩
  rw [hr] at hsy ⊢
  obtain ⟨all, at_, nx⟩ := r
  have HRI := Lib.hid hri
  have HSY := Lib.hid hsy
  clear h hri hsy hr hto hd hf
  go_enter Tryd.func40, Tryd.ntmps40
  go_wp2_with fail
  refine HRI.out.mono ?_
  rintro e w' ⟨rfl, rfl⟩
  clear HRI
  go_wp2_with fail
  refine HSY.out.mono ?_
  rintro e w1 ⟨v, rfl, hrow, hb⟩
  simp only at hrow
  have HROW := Lib.hid hrow.lt
  have HB := Lib.hid hb
  have hsz := hb.size
  clear hrow hb HSY
  go_wp2_with fail
  go_ret3
  exact ⟨_, v, rfl, hsz, ⟨heap_alloc_new w1 _⟩, (HROW.out.below (below_alloc _ _)).mono (fun x hx => ⟨hx.1, by omega⟩), below_then HB.out (below_alloc _ _)⟩
/-- a log that can't be opened -/
theorem refOpen9_no (w : World) (G : Nat → Prop) (p : Nat) (d : Dk) (c : Nat) (a b ep sq : Int) (h : RDiskAt w G p d c) (hno : ¬ (RegionOk d.fast.length a b ∧ 0 ≤ ep ∧ ep ≤ 4294967295 ∧ 0 ≤ sq ∧ sq ≤ 4294967295)) :
    Calls Tryd.prog 40 #[.pointer (some ⟨p, 0, none⟩), .int .i64 a, .int .i64 b, .int .i64 ep, .int .i64 sq] w fun e w' => e = .returned (.tuple #[.pointer none, .slice none 0 0, .int .i64 2]) ∧ w = w' := by
  have hri := refRight9_any w G p d c a b h
  by_cases h1 : RegionOk d.fast.length a b
  · rw [decide_eq_true h1] at hri
    have HRI := Lib.hid hri
    have hx : ep < 0 ∨ (0 ≤ ep ∧ 4294967295 < ep) ∨ (0 ≤ ep ∧ ep ≤ 4294967295 ∧ sq < 0) ∨ (0 ≤ ep ∧ ep ≤ 4294967295 ∧ 0 ≤ sq ∧ 4294967295 < sq) := by
      rcases Int.lt_or_le ep 0 with h2 | h2
      · exact .inl h2
      · rcases Int.lt_or_le 4294967295 ep with h3 | h3
        · exact .inr (.inl ⟨h2, h3⟩)
        · rcases Int.lt_or_le sq 0 with h4 | h4
          · exact .inr (.inr (.inl ⟨h2, h3, h4⟩))
          · rcases Int.lt_or_le 4294967295 sq with h5 | h5
            · exact .inr (.inr (.inr ⟨h2, h3, h4, h5⟩))
            · exact absurd ⟨h1, h2, h3, h4, h5⟩ hno
    clear h1 h hri hno
    rcases hx with h2 | ⟨h2, h3⟩ | ⟨h2, h3, h4⟩ | ⟨h2, h3, h4, h5⟩
    all_goals
      go_enter Tryd.func40, Tryd.ntmps40
      go_wp2_with fail
      refine HRI.out.mono ?_
      rintro e w' ⟨rfl, rfl⟩
      go_wp2_with fail
      go_ret3
      exact ⟨rfl, rfl⟩
  · rw [decide_eq_false h1] at hri
    have HRI := Lib.hid hri
    clear h1 h hri hno
    go_enter Tryd.func40, Tryd.ntmps40
    go_wp2_with fail
    refine HRI.out.mono ?_
    rintro e w' ⟨rfl, rfl⟩
    go_wp2_with fail
    go_ret3
    exact ⟨rfl, rfl⟩
end Go.Proofs.YtckihiiimomgfaaDoor
