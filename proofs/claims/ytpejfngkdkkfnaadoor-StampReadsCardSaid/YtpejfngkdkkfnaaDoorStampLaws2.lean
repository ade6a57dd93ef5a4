/- The walk of the law on bytes as parts: it returns true and turns nothing that was there. -/
import Derived.Test.YtpejfngkdkkfnaaDoorStampLaws
namespace Go.Proofs.YtpejfngkdkkfnaaDoor
open Go.RowKit
/-- what is read, told as one part and one number -/
def readP (l : List UInt8) : StampMath.Part := (StampMath.read l).getD ⟨0, 0, 0, 0, []⟩
def readE (l : List UInt8) : Int := if (StampMath.read l).isSome then 0 else 4
theorem stampRead_all (A : Option Addr) (c : Nat) (l : List UInt8) (P : StampMath.Part) (x : Int) (w : World) (hc : l.length ≤ c) (hm : c ≤ maxLen) (hl : l.length ≤ 65536) (hr : Bs w A l) (ht : Halves w) (hP : readP l = P) (hx : readE l = x) :
    Calls Tryd.prog 29 #[.slice A l.length c] w fun e w' => ∃ B d, e = .returned (.tuple #[.agg #[.int .i64 P.epoch, .int .i64 P.seq, .int .i64 P.index, .int .i64 P.total, .slice B P.data.length d], .int .i64 x]) ∧
      w'.ownsRow w.heap.size 5 1 (.slice B P.data.length d) P.data.length (bvs P.data) ∧ Below w.heap.size w w' := by
  subst hP hx
  unfold readP readE
  cases h : StampMath.read l with
  | none =>
    refine (stampRead_none A c _ l w rfl hc hm hl hr ht h).mono ?_
    rintro e w' ⟨rfl, hb⟩
    exact ⟨none, 0, rfl, World.ownsRow_nil _ _ _ _, hb⟩
  | some p => exact stampRead_some A c _ l p w rfl hc hm hr ht h
theorem refRead_all (A : Option Addr) (c : Nat) (l : List UInt8) (P : StampMath.Part) (x : Int) (w : World) (hc : l.length ≤ c) (hm : c ≤ maxLen) (hl : l.length ≤ 65536) (hr : Bs w A l) (hP : readP l = P) (hx : readE l = x) :
    Calls Tryd.prog 30 #[.slice A l.length c] w fun e w' => ∃ B d, e = .returned (.tuple #[.agg #[.int .i64 P.epoch, .int .i64 P.seq, .int .i64 P.index, .int .i64 P.total, .slice B P.data.length d], .int .i64 x]) ∧
      w'.ownsRow w.heap.size 5 1 (.slice B P.data.length d) P.data.length (bvs P.data) ∧ Below w.heap.size w w' := by
  subst hP hx
  unfold readP readE
  cases h : StampMath.read l with
  | none =>
    refine (refRead_none A c _ l w rfl hc hm hl hr h).mono ?_
    rintro e w' ⟨rfl, hb⟩
    exact ⟨none, 0, rfl, World.ownsRow_nil _ _ _ _, hb⟩
  | some p => exact refRead_some A c _ l p w rfl hc hm hr h
theorem readP_small (l : List UInt8) : (readP l).data.length ≤ 65536 := by
  unfold readP
  cases h : StampMath.read l with
  | none => simp
  | some p =>
    have := (StampMath.read_some h).1.2.2.2.2.2.2.2.2
    simp; omega
theorem bvs_put (l : List UInt8) (j : Nat) (c : UInt8) : (bvs l).set j (.int .u8 (c.toNat : Int)) = bvs (l.set j c) := by simp [bvs, List.map_set]
theorem own_cap {w : World} {base : Nat} {e : TypeId} {A : Option Addr} {n c : Nat} {xs : List Value} (h : w.ownsRow base e 1 (.slice A n c) n xs) : c ≤ maxLen := by
  rcases h.2 with ⟨h1, h2⟩ | ⟨g, cap, cur, hv, _, _, _, hm, _⟩
  · injection h1 with _ _ h; omega
  · injection hv with _ _ h; omega
/-- bytes of the call's own are turned one by one -/
def IncRel (n : Nat) (v : Value) (w w0 : World) (i : Value) (wr : World) : Prop :=
  ∃ (k : Nat) (ys : List UInt8), k ≤ n ∧ i = .int .i64 (k : Nat) ∧ ys.length = n ∧ wr.ownsRow w.heap.size 5 1 v n (bvs ys) ∧ w0.grownBy wr v.ownBlock ∧ Below w.heap.size w wr
set_option maxHeartbeats 2000000 in
theorem stampReads_walk (A : Option Addr) (c : Nat) (l : List UInt8) (w : World) (hc : l.length ≤ c) (hm : c ≤ maxLen) (hr : Bs w A l) (ht : Halves w) :
    Calls Tryd.prog 8 #[.slice A l.length c] w fun e w' => e = .returned (.bool true) ∧ Below w.heap.size w w' := by
  go_enter Tryd.func8, Tryd.ntmps8
  go_wp2_with fail
  refine (cut_bs A c 70 l w hc hm (by decide)).mono ?_
  rintro e w' ⟨rfl, rfl⟩
  have hrb := hr.take 70
  have hbl : (l.take 70).length ≤ 70 := List.length_take_le _ _
  have hbc : (l.take 70).length ≤ c := by rw [List.length_take]; omega
  generalize l.take 70 = b at *
  clear hr hc
  go_wp2_with fail
  refine (copy_any A c b w (by omega) hrb).mono ?_
  rintro e w1 ⟨v, rfl, hown, hb1⟩
  obtain ⟨A1, c1, rfl, hc1⟩ := own_shape hown
  have hm1 := own_cap hown
  have HO1 := Lib.hid hown
  obtain ⟨P, hP⟩ : ∃ P, readP b = P := ⟨_, rfl⟩
  obtain ⟨x, hx⟩ : ∃ x, readE b = x := ⟨_, rfl⟩
  have hPl : P.data.length ≤ 65536 := by rw [← hP]; exact readP_small b
  have HRD := Lib.hid (stampRead_all A1 c1 b P x w1 hc1 hm1 (by omega) (Bs.of_own hown) (ht.below hb1) hP hx)
  have HRR := Lib.hid (fun w' (h : Bs w' A b) => refRead_all A c b P x w' hbc hm (by omega) h hP hx)
  have HB1 := Lib.hid hb1
  clear hown hb1 hP hx
  obtain ⟨pe, ps, pi, pt, pd⟩ := P
  simp only at hPl
  go_wp2_with fail
  refine HRD.out.mono ?_
  rintro e w2 ⟨B2, d2, rfl, ho2, hb2⟩
  clear HRD
  have HO2 := Lib.hid (own_below HO1.out hb2)
  have HB2 := Lib.hid (below_then HB1.out hb2)
  have HD2 := Lib.hid ho2
  have hs2 := hb2.size
  clear ho2 hb2 HB1
  go_wp2_with fail
  refine (HRR.out _ (hrb.below (below_then HB2.out (below_alloc _ _)))).mono ?_
  rintro e w3 ⟨B3, d3, rfl, ho3, hb3⟩
  clear HRR
  have hp3 : PartAt w3 w2.heap.size pe ps pi pt (.slice B2 pd.length d2) := (PartAt.of_block (heap_alloc_new w2 _)).below hb3
  have hb23 := below_then (below_alloc w2 _) hb3
  have HO3 := Lib.hid (own_below HO2.out hb23)
  have HD3 := Lib.hid (own_below HD2.out hb23)
  have HE3 := Lib.hid ho3
  have HP3 := Lib.hid hp3
  have HB3 := Lib.hid (below_then HB2.out hb23)
  have hs3 := hb3.size
  clear hp3 ho3 hb23 hb3 HO2 HD2 HB2
  go_wp2_with fail
  have hxx : (x != x) = false := by simp
  have HP := Lib.hid (HP3.out.below (below_alloc _ (.cells #[.int .i64 pe, .int .i64 ps, .int .i64 pi, .int .i64 pt, .slice B3 pd.length d3] 37)))
  have HQ : Hid (PartAt (w3.alloc (.cells #[.int .i64 pe, .int .i64 ps, .int .i64 pi, .int .i64 pt, .slice B3 pd.length d3] 37)) w3.heap.size pe ps pi pt (.slice B3 pd.length d3)) := Lib.hid (PartAt.of_block (heap_alloc_new w3 _))
  have HO := Lib.hid (HO3.out.alloc (.cells #[.int .i64 pe, .int .i64 ps, .int .i64 pi, .int .i64 pt, .slice B3 pd.length d3] 37))
  have HD := Lib.hid (HD3.out.alloc (.cells #[.int .i64 pe, .int .i64 ps, .int .i64 pi, .int .i64 pt, .slice B3 pd.length d3] 37))
  have HE := Lib.hid (HE3.out.alloc (.cells #[.int .i64 pe, .int .i64 ps, .int .i64 pi, .int .i64 pt, .slice B3 pd.length d3] 37))
  have HB := Lib.hid (below_then HB3.out (below_alloc _ (.cells #[.int .i64 pe, .int .i64 ps, .int .i64 pi, .int .i64 pt, .slice B3 pd.length d3] 37)))
  clear HP3 HO3 HD3 HE3 HB3
  obtain ⟨w4, hw4⟩ : ∃ w4, w3.alloc (.cells #[.int .i64 pe, .int .i64 ps, .int .i64 pi, .int .i64 pt, .slice B3 pd.length d3] 37) = w4 := ⟨_, rfl⟩
  have hs4 : w4.heap.size = w3.heap.size + 1 := by rw [← hw4]; simp
  rw [hw4] at HP HQ HO HD HE HB ⊢
  have hs4' : w3.heap.size < w4.heap.size := by omega
  clear hw4 hs4
  go_region_held3 (fun w' => w'.cell? ⟨w2.heap.size, 0, none⟩ = some (.int .i64 pe) ∧ w'.cell? ⟨w2.heap.size, 1, none⟩ = some (.int .i64 ps) ∧ w'.cell? ⟨w2.heap.size, 2, none⟩ = some (.int .i64 pi) ∧ w'.cell? ⟨w2.heap.size, 3, none⟩ = some (.int .i64 pt) ∧ w'.cell? ⟨w2.heap.size, 4, none⟩ = some (.slice B2 pd.length d2) ∧
          w'.cell? ⟨w3.heap.size, 0, none⟩ = some (.int .i64 pe) ∧ w'.cell? ⟨w3.heap.size, 1, none⟩ = some (.int .i64 ps) ∧ w'.cell? ⟨w3.heap.size, 2, none⟩ = some (.int .i64 pi) ∧ w'.cell? ⟨w3.heap.size, 3, none⟩ = some (.int .i64 pt) ∧ w'.cell? ⟨w3.heap.size, 4, none⟩ = some (.slice B3 pd.length d3))
    (first | exact ⟨HP.out.c0, HP.out.c1, HP.out.c2, HP.out.c3, HP.out.c4, HQ.out.c0, HQ.out.c1, HQ.out.c2, HQ.out.c3, HQ.out.c4⟩)
    (first
      | (go_at_call 26; (with_reducible refine (plain_any _ _ _ _ _ _ _ _ rfl _).mono ?_); rintro e wP ⟨rfl, hbd⟩; (first | (have hb : Below w4.heap.size w4 wP := ((Below.refl _ _).drew).trans hbd) | (have hb := hbd)); clear hbd; have HP := Lib.hid (HP.out.below hb); have HQ := Lib.hid (HQ.out.below hb); have HO := Lib.hid (own_below HO.out hb); have HD := Lib.hid (own_below HD.out hb); have HE := Lib.hid (own_below HE.out hb); have HB := Lib.hid (below_then HB.out hb))
      | (go_at_call 27; (with_reducible refine (refSame_self ⟨pe, ps, pi, pt, pd⟩ _ _ _ _ _ ?_ ?_ ?_).mono ?_); (exact hPl); (exact Bs.of_own HD.out); (exact Bs.of_own HE.out); rintro e wT ⟨rfl, hb⟩; have HP := Lib.hid (HP.out.below hb); have HQ := Lib.hid (HQ.out.below hb); have HO := Lib.hid (own_below HO.out hb); have HD := Lib.hid (own_below HD.out hb); have HE := Lib.hid (own_below HE.out hb); have HB := Lib.hid (below_then HB.out hb))
      | (go_at_call 18; (with_reducible refine (same_bel A1 A c1 c b b _ ?_ ?_ ?_ ?_).mono ?_); (omega); (omega); (exact Bs.of_own HO.out); (exact hrb.below HB.out); rintro e wS ⟨rfl, hb⟩; rw [sameB_self]; have HP := Lib.hid (HP.out.below hb); have HQ := Lib.hid (HQ.out.below hb); have HO := Lib.hid (own_below HO.out hb); have HD := Lib.hid (own_below HD.out hb); have HE := Lib.hid (own_below HE.out hb); have HB := Lib.hid (below_then HB.out hb)))
  go_wp2_with fail
  clear hxx
  have hlt2 : ∀ g, (Value.slice A1 b.length c1).ownBlock = some g → g < w1.heap.size := fun g hg => (HO1.out.lt g hg).2
  have HLT := Lib.hid hlt2
  clear hlt2 HO1
  obtain ⟨w5, hw5⟩ : ∃ w5, wS = w5 := ⟨_, rfl⟩
  rw [hw5] at HP HQ HO HD HE HB ⊢
  clear hw5
  go_loopw [8] (fun i wr => IncRel b.length (.slice A1 b.length c1) w w5 i wr) (fun i _ => b.length - (intOf i).toNat)
  case atStart => exact ⟨0, b, Nat.zero_le _, rfl, rfl, HO.out, ⟨rfl, rfl, rfl, Nat.le_refl _, fun _ _ _ => rfl⟩, HB.out⟩
  case round =>
    obtain ⟨k, ys, hk, rfl, hyl, hown, hg, hbr⟩ := hrel
    clear HO HB
    have HYL := Lib.hid hyl
    have HG := Lib.hid hg
    clear hyl hg
    by_cases hlt : k < b.length
    · obtain ⟨g, cap, hv, hbg, hgl⟩ := hown.form (by omega)
      injection hv with hA _ hcc
      subst hA hcc
      have hylt : k < ys.length := by have := HYL.out; omega
      have hcell : wr.cell? ⟨g, k, none⟩ = some (.int .u8 (ys[k].toNat : Int)) := by
        rw [hown.cellAt _ (by omega)]
        exact bvs_get _ _ _ (List.getElem?_eq_getElem hylt)
      have hfro := hown.frozenAt k
      have HW := Lib.hid hown
      clear hown
      obtain ⟨y, hy⟩ : ∃ y, ys[k] = y := ⟨_, rfl⟩
      rw [hy] at hcell
      have hyb := y.toNat_lt
      clear hy
      go_wp2_with fail
      go_roundw
      case rel =>
        have e : ((y.toNat : Int) + 1) % 256 = ((UInt8.ofNat (y.toNat + 1)).toNat : Int) := by rw [UInt8.toNat_ofNat']; omega
        refine ⟨k + 1, ys.set k (UInt8.ofNat (y.toNat + 1)), by omega, by go_num, by rw [List.length_set]; exact HYL.out, ?_, grown_set HG.out k _, hbr.setCell (p := ⟨g, k, none⟩) hbg _⟩
        have h := (HW.out.stored k (.int .u8 (((y.toNat : Int) + 1) % 256))).1
        rw [e, bvs_put] at h
        rw [e]
        exact h
      case measure => simp [intOf]; omega
    · have HP := Lib.hid (HP.out.grown HG.out (fun e => by have := HLT.out _ e.symm; omega))
      have HQ := Lib.hid (HQ.out.grown HG.out (fun e => by have := HLT.out _ e.symm; simp at hs3; omega))
      have HD := Lib.hid (own_far HD.out HG.out (fun g hg => HLT.out g hg))
      have HE := Lib.hid (own_far HE.out HG.out (fun g hg => by have := HLT.out g hg; simp; omega))
      have HB := Lib.hid hbr
      clear hown hbr HG
      go_wp2_with fail
      go_region_held3 (fun w' => w'.cell? ⟨w2.heap.size, 0, none⟩ = some (.int .i64 pe) ∧ w'.cell? ⟨w2.heap.size, 1, none⟩ = some (.int .i64 ps) ∧ w'.cell? ⟨w2.heap.size, 2, none⟩ = some (.int .i64 pi) ∧ w'.cell? ⟨w2.heap.size, 3, none⟩ = some (.int .i64 pt) ∧ w'.cell? ⟨w2.heap.size, 4, none⟩ = some (.slice B2 pd.length d2) ∧
          w'.cell? ⟨w3.heap.size, 0, none⟩ = some (.int .i64 pe) ∧ w'.cell? ⟨w3.heap.size, 1, none⟩ = some (.int .i64 ps) ∧ w'.cell? ⟨w3.heap.size, 2, none⟩ = some (.int .i64 pi) ∧ w'.cell? ⟨w3.heap.size, 3, none⟩ = some (.int .i64 pt) ∧ w'.cell? ⟨w3.heap.size, 4, none⟩ = some (.slice B3 pd.length d3))
        (first | exact ⟨HP.out.c0, HP.out.c1, HP.out.c2, HP.out.c3, HP.out.c4, HQ.out.c0, HQ.out.c1, HQ.out.c2, HQ.out.c3, HQ.out.c4⟩)
        (first
          | (go_at_call 26; (with_reducible refine (plain_any _ _ _ _ _ _ _ _ rfl _).mono ?_); rintro e wP ⟨rfl, hbd⟩; (first | (have hb : Below wr.heap.size wr wP := ((Below.refl _ _).drew).trans hbd) | (have hb := hbd)); clear hbd; have HP := Lib.hid (HP.out.below hb); have HQ := Lib.hid (HQ.out.below hb); have HD := Lib.hid (own_below HD.out hb); have HE := Lib.hid (own_below HE.out hb); have HB := Lib.hid (below_then HB.out hb))
          | (go_at_call 27; (with_reducible refine (refSame_self ⟨pe, ps, pi, pt, pd⟩ _ _ _ _ _ ?_ ?_ ?_).mono ?_); (exact hPl); (exact Bs.of_own HD.out); (exact Bs.of_own HE.out); rintro e wT ⟨rfl, hb⟩; have HP := Lib.hid (HP.out.below hb); have HQ := Lib.hid (HQ.out.below hb); have HD := Lib.hid (own_below HD.out hb); have HE := Lib.hid (own_below HE.out hb); have HB := Lib.hid (below_then HB.out hb))
          | (go_at_call 28; refine (stampLives_any _ ?_).mono ?_; (exact ht.below HB.out); rintro e wL ⟨rfl, hb⟩; have HP := Lib.hid (HP.out.below hb); have HQ := Lib.hid (HQ.out.below hb); have HD := Lib.hid (own_below HD.out hb); have HE := Lib.hid (own_below HE.out hb); have HB := Lib.hid (below_then HB.out hb)))
      go_wp2_with fail
      go_ret
      exact ⟨rfl, HB.out⟩
end Go.Proofs.YtpejfngkdkkfnaaDoor
