/- The contract of wal.Open: a log, and its records. -/
import Derived.Test.YtckihiiimomgfaaDoorWal4
import Derived.Test.YtckihiiimomgfaaDoorGRow
import Derived.Deep.LoopGhost
namespace Go.Proofs.YtckihiiimomgfaaDoor
open Go.RowKit DiskMath
namespace WalMath
theorem record_fits {S : List Sector} {tt at_ seq : Nat} {b : List UInt8} {n : Nat} (h : record S tt at_ seq = some (b, n)) : 1 ≤ n ∧ at_ + n ≤ tt := by
  obtain ⟨rfl, e, he⟩ := record_some h
  have hp := StampMath.totalOf_pos b.length
  have := (he (StampMath.totalOf b.length - 1) (by omega)).1
  omega
theorem says_some {S : List Sector} {tt f at_ seq : Nat} {b : List UInt8} {n : Nat} (h : record S tt at_ seq = some (b, n)) : says S tt (f + 1) at_ seq = (b :: (says S tt f (at_ + n) (seq + n)).1, (says S tt f (at_ + n) (seq + n)).2) := by
  simp only [says, h]
theorem says_none {S : List Sector} {tt f at_ seq : Nat} (h : record S tt at_ seq = none) : says S tt f at_ seq = ([], at_, seq) := by
  cases f with
  | zero => rfl
  | succ f => simp only [says, h]
/-- where a log ends -/
theorem says_fits (S : List Sector) (tt : Nat) : ∀ (f at_ seq : Nat), at_ ≤ tt → at_ ≤ (says S tt f at_ seq).2.1 ∧ (says S tt f at_ seq).2.1 ≤ tt ∧ (says S tt f at_ seq).2.2 = seq + ((says S tt f at_ seq).2.1 - at_) ∧ (says S tt f at_ seq).1.length ≤ (says S tt f at_ seq).2.1 - at_
  | 0, at_, seq, h => by simp [says]; omega
  | f + 1, at_, seq, h => by
    cases hr : record S tt at_ seq with
    | none => rw [says_none hr]; simp; omega
    | some x =>
      obtain ⟨b, n⟩ := x
      obtain ⟨h1, h2⟩ := record_fits hr
      rw [says_some hr]
      obtain ⟨a1, a2, a3, a4⟩ := says_fits S tt f (at_ + n) (seq + n) h2
      simp only [List.length_cons]
      omega
end WalMath
def OpRel (w : World) (S : List Sector) (tt fr ep seq p f gk : Nat) (v : Value) (wr : World) : Prop :=
  ∃ (at_ nx : Nat) (acc : List (List UInt8)), WalMath.says S tt f fr seq = (acc ++ (WalMath.says S tt gk at_ nx).1, (WalMath.says S tt gk at_ nx).2) ∧ tt - at_ < gk ∧ fr ≤ at_ ∧ at_ ≤ tt ∧ nx = seq + (at_ - fr) ∧ acc.length ≤ at_ - fr ∧
    LogB wr w.heap.size p fr ⟨tt, at_, ep, nx, 0⟩ ∧ Rows8 wr (fun x => w.heap.size ≤ x ∧ x ≠ w.heap.size) v acc ∧ Below w.heap.size w wr
/-- what Open answers -/
def OpnPost (p fr tt ep : Nat) (r : List (List UInt8) × Nat × Nat) (w : World) (e : Ending) (w' : World) : Prop :=
  ∃ v, e = .returned (.tuple #[.pointer (some ⟨w.heap.size, 0, none⟩), v, .int .i64 0]) ∧ LogB w' w.heap.size p fr ⟨tt, r.2.1, ep, r.2.2, 0⟩ ∧ Rows8 w' (fun x => w.heap.size ≤ x ∧ x ≠ w.heap.size) v r.1 ∧ Below w.heap.size w w'
set_option maxRecDepth 100000 in
set_option maxHeartbeats 4000000 in
theorem walOpen_yes (w : World) (F : Nat → Prop) (p fr tt ep seq f : Nat) (d : Dk) (hd : DiskAt w F p d) (ht : Halves w) (h1 : fr < tt) (h2 : tt ≤ d.fast.length) (hd16 : d.fast.length ≤ 65536) (hep : ep ≤ 4294967295) (hsq : seq ≤ 4294967295) (hf : tt - fr < f) :
    Calls Tryd.prog 32 #[.pointer (some ⟨p, 0, none⟩), .int .i64 fr, .int .i64 tt, .int .i64 ep, .int .i64 seq] w (OpnPost p fr tt ep (WalMath.says (view d) tt f fr seq) w) := by
  have HD := Lib.hid hd.lt
  have HT := Lib.hid ht
  have HLen := Lib.hid (show _ ∧ _ from ⟨h2, hd16⟩)
  have hlen2 : tt ≤ 65536 := by omega
  obtain ⟨S, hS⟩ : ∃ S, view d = S := ⟨_, rfl⟩
  have HS := Lib.hid hS
  have HF := Lib.hid hf
  rw [hS]
  clear hd ht hS h2 hd16 hf
  go_enter Tryd.func32, Tryd.ntmps32
  go_wp2_with fail
  refine (walRight_yes w _ p d fr tt HD.out ⟨by omega, by omega, by have := HLen.out.1; omega⟩).mono ?_
  rintro e w' ⟨rfl, rfl⟩
  go_wp2_with fail
  go_loopg [15] f (fun gk v wr => OpRel w S tt fr ep seq p f gk v wr)
  case atStart =>
    exact ⟨fr, seq, [], rfl, HF.out, Nat.le_refl _, by omega, by omega, Nat.zero_le _, ⟨heap_alloc_new w _⟩, Rows8.nil _ _, below_alloc _ _⟩
  case round =>
    obtain ⟨at_, nx, acc, hsay, hgk, hfr, hat, hnx, hacl, hl, hrow, hb⟩ := hrel
    obtain ⟨wo, rfl⟩ : ∃ wo : World, wo = wr := ⟨_, rfl⟩
    obtain ⟨Av, cv, rfl, hcv⟩ := hrow.shape
    obtain ⟨m, hm⟩ : ∃ m, acc.length = m := ⟨_, rfl⟩
    rw [hm] at hrow hcv hacl ⊢
    have hrec := walRecord_any wo _ w.heap.size p fr ⟨tt, at_, ep, nx, 0⟩ d hl (HD.out.below hb) (HT.out.below hb) HLen.out.1 HLen.out.2 hat (by simp only; omega)
    rw [HS.out] at hrec
    simp only at hrec
    have HREC := Lib.hid hrec
    have HM := Lib.hid hm
    have HSAY := Lib.hid hsay
    have HL := Lib.hid hl
    have HROW := Lib.hid hrow
    have HB := Lib.hid hb
    have HNX := Lib.hid hnx
    have hlp := hl.lt
    have hsz := hb.size
    clear hrec hm hsay hl hrow hb hcv
    go_wp2_with fail
    refine HREC.out.mono ?_
    cases hq : WalMath.record S tt at_ nx with
    | none =>
      rintro e w2 ⟨rfl, hb2⟩
      have hsn := HSAY.out
      rw [WalMath.says_none hq, List.append_nil] at hsn
      have HSN := Lib.hid hsn
      have HB2 := Lib.hid hb2
      clear hsn hb2 hq HREC HSAY
      go_wp2_with fail
      go_ret3
      rw [HSN.out]
      exact ⟨_, rfl, HL.out.below HB2.out, HROW.out.below HB2.out, below_then HB.out HB2.out⟩
    | some x =>
      obtain ⟨b, n⟩ := x
      obtain ⟨hn1, hn2⟩ := WalMath.record_fits hq
      obtain ⟨gk', rfl⟩ : ∃ gk', gk = gk' + 1 := ⟨gk - 1, by omega⟩
      have hsn := HSAY.out
      rw [WalMath.says_some hq] at hsn
      rintro e w2 ⟨v, rfl, ho2, hb2⟩
      simp only at ho2
      obtain ⟨A2, n2, c2, rfl, hn2l, _, _⟩ := ho2.shape'
      have hne : ((n : Int) == 0) = false := by rw [beq_eq_false_iff_ne]; omega
      have HSN := Lib.hid hsn
      have HB2 := Lib.hid hb2
      have HO2 := Lib.hid ho2
      have hs2 := hb2.size
      clear hsn hb2 ho2 hq HREC HSAY
      go_wp2_with (at_builtin; refine wpList_pushR rfl (.tmp 56) (.tmp 58) rfl (fun x => w.heap.size ≤ x ∧ x ≠ w.heap.size) (.slice Av m cv) (.slice A2 n2 c2) acc b rfl (HROW.out.below HB2.out) rfl rfl (HO2.out.base (Nat.zero_le _)) (fun x hx => by have := (HO2.out.lt x hx).1; omega) (by have := HM.out; omega) ?_; intro v4 w4 hr4 hk4 hv4; have HR4 := Lib.hid hr4; have HK4 := Lib.hid hk4; clear hr4 hk4 hv4; have hl4 := (HL.out.below HB2.out).kept HK4.out (fun e => by obtain ⟨_, _, h2, _⟩ := HROW.out; exact (h2 _ e).2 rfl); have HL4 := Lib.hid hl4; obtain ⟨_, _, _, c3, _, c5, _, cf⟩ := hl4.cells; have f3 := cf 3; have f5 := cf 5; simp only at c3 c5; clear hl4 cf)
      have hset : ∀ (u : World) (i : Nat) (y : Value), Kept (fun x => x = w.heap.size) u (u.setCell ⟨w.heap.size, i, none⟩ y) := fun u i y => (Kept.refl (fun x => x = w.heap.size) u).setCell (p := ⟨w.heap.size, i, none⟩) (.inl rfl) y
      have HSET := Lib.hid hset
      clear hset
      go_roundg gk'
      case measure => omega
      case rel =>
        refine ⟨at_ + n, nx + n, acc ++ [b], ?_, by omega, by omega, hn2, by have := HNX.out; omega, by simp; have := HM.out; omega, ?_, ?_, ?_⟩
        · rw [HSN.out]; simp
        · exact (HL4.out.setAt _ (at_ + n) (by omega)).setNext _ (nx + n) (by have := HNX.out; omega)
        · exact ((HR4.out.mono (H := fun x => w.heap.size ≤ x ∧ x ≠ w.heap.size) (fun x hx => hx.elim id (fun h => by omega))).kept (HSET.out _ 3 _) (fun x hx => hx.2)).kept (HSET.out _ 5 _) (fun x hx => hx.2)
        · exact (((below_then HB.out HB2.out).trans (HK4.out.below (B := w.heap.size) (fun x _ e => by obtain ⟨_, _, h2, _⟩ := HROW.out; exact (h2 x e).1) (by omega))).setCell (Nat.le_refl _) _).setCell (Nat.le_refl _) _
/-- a log that can't be opened -/
theorem walOpen_no (w : World) (F : Nat → Prop) (p : Nat) (a b ep sq : Int) (d : Dk) (hd : DiskAt w F p d) (h : ¬ (RegionOk d.fast.length a b ∧ 0 ≤ ep ∧ ep ≤ 4294967295 ∧ 0 ≤ sq ∧ sq ≤ 4294967295)) :
    Calls Tryd.prog 32 #[.pointer (some ⟨p, 0, none⟩), .int .i64 a, .int .i64 b, .int .i64 ep, .int .i64 sq] w fun e w' => e = .returned (.tuple #[.pointer none, .slice none 0 0, .int .i64 2]) ∧ w = w' := by
  by_cases h1 : RegionOk d.fast.length a b
  · have HR := Lib.hid (walRight_yes w F p d a b hd h1)
    have hx : ep < 0 ∨ (0 ≤ ep ∧ 4294967295 < ep) ∨ (0 ≤ ep ∧ ep ≤ 4294967295 ∧ sq < 0) ∨ (0 ≤ ep ∧ ep ≤ 4294967295 ∧ 0 ≤ sq ∧ 4294967295 < sq) := by
      rcases Int.lt_or_le ep 0 with h2 | h2
      · exact .inl h2
      · rcases Int.lt_or_le 4294967295 ep with h3 | h3
        · exact .inr (.inl ⟨h2, h3⟩)
        · rcases Int.lt_or_le sq 0 with h4 | h4
          · exact .inr (.inr (.inl ⟨h2, h3, h4⟩))
          · rcases Int.lt_or_le 4294967295 sq with h5 | h5
            · exact .inr (.inr (.inr ⟨h2, h3, h4, h5⟩))
            · exact absurd ⟨h1, h2, h3, h4, h5⟩ h
    clear h1 h hd
    rcases hx with h2 | ⟨h2, h3⟩ | ⟨h2, h3, h4⟩ | ⟨h2, h3, h4, h5⟩
    all_goals
      go_enter Tryd.func32, Tryd.ntmps32
      go_wp2_with fail
      refine HR.out.mono ?_
      rintro e w' ⟨rfl, rfl⟩
      go_wp2_with fail
      go_ret3
      exact ⟨rfl, rfl⟩
  · have HR := Lib.hid (walRight_no w F p d a b hd h1)
    clear h1 h hd
    go_enter Tryd.func32, Tryd.ntmps32
    go_wp2_with fail
    refine HR.out.mono ?_
    rintro e w' ⟨rfl, rfl⟩
    go_wp2_with fail
    go_ret3
    exact ⟨rfl, rfl⟩
end Go.Proofs.YtckihiiimomgfaaDoor
