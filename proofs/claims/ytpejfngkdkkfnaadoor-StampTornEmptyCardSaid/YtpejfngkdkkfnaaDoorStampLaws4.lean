/- The walk of the law on sectors torn between a part and noughts: it returns true and turns nothing that was there. -/
import Derived.Test.YtpejfngkdkkfnaaDoorStampLaws3
import Derived.Test.YtpejfngkdkkfnaaDoorZeros
namespace Go.Proofs.YtpejfngkdkkfnaaDoor
open Go.RowKit
/-- behind the tearing: bytes of the call's own that are read as no part, or are those of the one -/
def EmptyCut (w w4 : World) (Y : List UInt8) (s : Value) (wx : World) : Prop :=
  ∃ C d T, s = .slice C 64 d ∧ wx.ownsRow w.heap.size 5 1 (.slice C 64 d) 64 (bvs T) ∧ T.length = 64 ∧ (∀ r, StampMath.read T = some r → T = Y) ∧ Below w4.heap.size w4 wx
theorem empty_cut {w w4 w5 w6 : World} {v5 v6 : Value} {Y T xs l : List UInt8} (hB : Below w.heap.size w w4) (hb : Below w4.heap.size w4 w5) (hown : w5.ownsRow w4.heap.size 5 1 v5 xs.length (bvs xs))
    (hown6 : w6.ownsRow w4.heap.size 5 1 v6 (xs.length + l.length) (bvs xs ++ bvs l)) (hg : w5.grownBy w6 v5.ownBlock) (hT : T = xs ++ l) (hTl : T.length = 64) (hr : ∀ r, StampMath.read T = some r → T = Y) :
    EmptyCut w w4 Y v6 w6 := by
  rw [← bvs_append, ← List.length_append, ← hT, hTl] at hown6
  obtain ⟨C, d, rfl, _⟩ := own_shape hown6
  exact ⟨C, d, T, rfl, own_base hown6 hB.size, hTl, hr, hb.grown hg hb.size (fun g hg => (hown.lt g hg).1)⟩
theorem Bs.lit_at (w : World) (l : List UInt8) (cs : Array Value) (t : TypeId) (fr : Nat × Nat) (h : cs = (bvs l).toArray) (g : Nat) (hg : w.heap.size = g) : Bs (w.alloc (.cells cs t fr)) (some ⟨g, 0, none⟩) l := by
  subst hg
  exact Bs.lit w l cs t fr h
theorem own_made (w : World) (Z : List UInt8) (hm : Z.length ≤ maxLen) : (w.alloc (.cells (bvs Z).toArray 5)).ownsRow w.heap.size 5 1 (.slice (some ⟨w.heap.size, 0, none⟩) Z.length Z.length) Z.length (bvs Z) :=
  ⟨by rw [bvs_length]; omega, .inr ⟨w.heap.size, Z.length, (bvs Z).toArray, rfl, Nat.le_refl _, heap_alloc_new w _, Nat.le_refl _, hm, by simp [bvs_length], by
    simp [List.take_of_length_le (show (bvs Z).length ≤ Z.length by rw [bvs_length]; exact Nat.le_refl _)]⟩⟩
set_option maxHeartbeats 2000000 in
theorem stampTornEmpty_walk (a b i t : Int) (A : Option Addr) (c : Nat) (da : List UInt8) (n : Int) (first : Bool) (w : World)
    (hc : da.length ≤ c) (hm : c ≤ maxLen) (hr : Bs w A da) (ht : Halves w) :
    Calls Tryd.prog 10 #[.agg #[.int .i64 a, .int .i64 b, .int .i64 i, .int .i64 t, .slice A da.length c], .int .i64 n, .bool first] w fun e w' => e = .returned (.bool true) ∧ Below w.heap.size w w' := by
  obtain ⟨i0, hi0, hz0, hz1, hz2⟩ := info_parts info_u8
  obtain ⟨db, hdb⟩ : ∃ db, da.take 50 = db := ⟨_, rfl⟩
  have HDB := Lib.hid hdb
  clear hdb
  go_enter Tryd.func10, Tryd.ntmps10
  go_wp2_with fail
  refine (mine_at a b i t da db A _ c _ rfl hc hm (hr.alloc _) HDB.out).mono ?_
  rintro e w1 ⟨Aq, cq, rfl, hoq, hb1⟩
  have hp1 : PartAt w1 w.heap.size a b i t (.slice A da.length c) := (PartAt.of_block (heap_alloc_new w _)).below hb1
  have hb01 := below_then (below_alloc w _) hb1
  have HP := Lib.hid hp1
  have HB := Lib.hid hb01
  have HO := Lib.hid hoq
  clear hp1 hb01 hoq hb1
  go_wp2_with fail
  by_cases hp : StampMath.right ⟨a, b, i, t, db⟩
  · refine (stampLay_ok ⟨a, b, i, t, db⟩ Aq cq w1 hp (Bs.of_own HO.out) (ht.below HB.out)).mono ?_
    rintro e w4 ⟨g, rfl, hg, hblk, hb⟩
    have HP := Lib.hid (HP.out.below hb)
    have HB := Lib.hid (below_then HB.out hb)
    have HK := Lib.hid hblk
    clear hb hblk HO hg
    have k0 := HP.out.c0
    have k1 := HP.out.c1
    by_cases hst : a = 0 ∧ b = 0
    · obtain ⟨rfl, rfl⟩ := hst
      go_wp2_with fail
      refine (stampLives_any _ (ht.below HB.out)).mono ?_
      rintro e w5 ⟨rfl, hb⟩
      go_wp2_with fail
      go_ret
      exact ⟨rfl, below_then HB.out hb⟩
    · have hcs : ((a == 0) = false) ∨ ((a == 0) = true ∧ (b == 0) = false) := by
        by_cases h1 : a = 0
        · exact .inr ⟨by rw [h1]; rfl, by rw [beq_eq_false_iff_ne]; exact fun h2 => hst ⟨h1, h2⟩⟩
        · exact .inl (by rw [beq_eq_false_iff_ne]; exact h1)
      have hY := StampMath.lay_length _ hp.2.2.2.2.2.2.2.2
      have htorn := fun m => StampMath.torn_empty m _ hp hst
      have htorn' := fun m => StampMath.torn_empty' m _ hp hst
      have hbs := HK.out.bs
      obtain ⟨Y, hYd⟩ : ∃ Y, StampMath.lay ⟨a, b, i, t, db⟩ = Y := ⟨_, rfl⟩
      rw [hYd] at hbs hY htorn htorn'
      have HYS := Lib.hid hbs
      have HYL := Lib.hid hY
      have HT := Lib.hid htorn
      have HT' := Lib.hid htorn'
      clear hbs hY htorn htorn' hYd HK hp hst
      rcases hcs with e1 | ⟨e1, e2⟩
      all_goals
        go_wp2_with fail
        clear k0 k1
        obtain ⟨m, hm64, hwi⟩ := within64 n w4
        refine hwi.mono ?_
        clear hwi
        rintro e w' ⟨rfl, rfl⟩
        go_wp2_with fail
        refine (copy_take _ Y m 64 w4 (by have := HYL.out; omega) (by omega) HYS.out).mono ?_
        rintro e w5 ⟨v5, rfl, hown, hb⟩
        have HV := Lib.hid hown
        have HB5 := Lib.hid hb
        have hs5 := hb.size
        clear hown hb
        have e64 : (64 : Int) - (m : Int) = ((64 - m : Nat) : Int) := by omega
        have E64 := Lib.hid e64
        clear e64
        go_wp2_with (at_builtin; refine wpList_append_zeros _ rfl _ _ 23 3 9 rfl w4.heap.size 5 i0 Tryd.underlying23 Tryd.underlying3 Tryd.underlying9 hi0 hz0 hz1 hz2 v5 m (bvs (Y.take m)) rfl HV.out (64 - m) ?_ ?_ ?_ ?_)
        · show Value.int .i64 (64 - (m : Int)) = _
          rw [E64.out]
        · omega
        · exact hs5
        intro v6 w6 hown6 hg6
        have hcut0 : EmptyCut w w4 Y v6 w6 := by
          have hxl : (Y.take m).length = m := by have := HYL.out; simp; omega
          have hTd : StampMath.tear m Y StampMath.zeros = Y.take m ++ List.replicate (64 - m) 0 := by
            unfold StampMath.tear StampMath.zeros
            rw [List.drop_replicate]
          refine empty_cut (xs := Y.take m) (l := List.replicate (64 - m) 0) (T := StampMath.tear m Y StampMath.zeros) HB.out HB5.out ?_ ?_ hg6 hTd ?_ (HT.out m)
          · rw [hxl]; exact HV.out
          · rw [hxl, List.length_replicate, show m + (64 - m) = 64 by omega]; exact hown6
          · rw [StampMath.tear_length (by rw [HYL.out]; decide), HYL.out]
        have HC0 := Lib.hid hcut0
        clear hcut0 hown6 hg6 HV HB5 hs5
        go_upto_if 45 with (fail)
        go_cut [9] (fun s wx => EmptyCut w w4 Y s wx)
        case first =>
          cases first
          · go_wp2_with fail
            go_meet
            exact HC0.out
          · obtain ⟨Z, hZ⟩ : ∃ Z, List.replicate m (0 : UInt8) = Z := ⟨_, rfl⟩
            have hZl : Z.length = m := by rw [← hZ, List.length_replicate]
            have hmk : ∀ u : World, (Instr.makeSlice 23 (.int .i64 (m : Int)) (.int .i64 (m : Int))).run Tryd.prog u = .ok (.slice (some ⟨u.heap.size, 0, none⟩) m m) (u.alloc (.cells (bvs Z).toArray 5)) := fun u => by
              have h := run_make (P := Tryd.prog) u 23 5 i0 (.int .u8 0) Tryd.underlying23 hi0 hz0 .i64 .i64 (m : Int) (m : Int) (by omega) (by omega) (by rw [hz2]; omega) (by omega)
              rw [h, hz1, Int.toNat_natCast, Nat.mul_one, made_u8, hZ]
            have HZ := Lib.hid hZ
            have HZL := Lib.hid hZl
            clear hZ hZl
            have hb6 : Below w4.heap.size w4 w6 := by obtain ⟨_, _, _, _, _, _, _, h⟩ := HC0.out; exact h
            have HOW : Hid ((w6.alloc (.cells (bvs Z).toArray 5)).ownsRow w6.heap.size 5 1 (.slice (some ⟨w6.heap.size, 0, none⟩) m m) (bvs Z).length (bvs Z)) := by
              have h := own_made w6 Z (by rw [HZL.out]; unfold maxLen; omega)
              rw [HZL.out] at h
              rw [bvs_length, HZL.out]
              exact Lib.hid h
            have HB6 := Lib.hid hb6
            clear hb6 HC0
            have f1 : (0 : Int) ≤ (m : Int) := by omega
            have f2 : (m : Int) ≤ 64 := by omega
            have hfin : ∀ v7 w7 l, w7.ownsRow w6.heap.size 5 1 v7 ((bvs Z).length + l.length) (bvs Z ++ bvs l) → (w6.alloc (.cells (bvs Z).toArray 5)).grownBy w7 (some w6.heap.size) → l = Y.drop m → EmptyCut w w4 Y v7 w7 := by
              intro v7 w7 l ho hg hl
              have hTd : StampMath.tear m StampMath.zeros Y = Z ++ l := by
                unfold StampMath.tear StampMath.zeros
                rw [List.take_replicate, hl, ← HZ.out]
                congr 2
                omega
              refine empty_cut (w4 := w4) (w5 := w6.alloc (.cells (bvs Z).toArray 5)) (v5 := .slice (some ⟨w6.heap.size, 0, none⟩) m m) (xs := Z) (l := l) HB.out (below_then HB6.out (below_alloc _ _)) ?_ ?_ hg hTd ?_ (HT'.out m)
              · have h := HOW.out
                rw [bvs_length] at h
                exact own_base h HB6.out.size
              · rw [bvs_length] at ho
                exact own_base ho HB6.out.size
              · rw [StampMath.tear_length (by rw [HYL.out]; decide)]; decide
            have HFIN := Lib.hid hfin
            clear hfin
            by_cases h64 : m = 64
            · subst h64
              have hmk' : ∀ u : World, (Instr.makeSlice 23 (.int .i64 64) (.int .i64 64)).run Tryd.prog u = .ok (.slice (some ⟨u.heap.size, 0, none⟩) 64 64) (u.alloc (.cells (bvs Z).toArray 5)) := hmk
              clear hmk
              go_wp2_with fail
              go_region_held3 (fun _ => True) (first | trivial) (first
                | (refine step_append_bs _ (by rfl) _ _ _ (by rfl) w6.heap.size 5 i0 (.int .u8 0) Tryd.underlying23 hi0 hz0 hz1 hz2 rfl (.slice (some ⟨w6.heap.size, 0, none⟩) 64 64) (bvs Z) (by rfl) ?_ _ _ _ ([]) ?_ (by rfl) ?_ ?_ ?_ ?_; (exact HOW.out); (have := HYL.out; simp; try omega); (exact Bs.nil _ _); (have := HYL.out; have := HZL.out; simp [bvs_length]; omega); (simp); intro v7 w7 hown7 hg7 _))
              go_wp2_with fail
              go_meet
              exact HFIN.out _ _ _ hown7 ⟨hg7.os, hg7.tape, hg7.output, hg7.size, hg7.block⟩ (by rw [List.drop_of_length_le (by rw [HYL.out]; omega)])
            · have h64' : ¬ 64 = m := by omega
              go_wp2_with fail
              go_region_held3 (fun _ => True) (first | trivial) (first
                | (refine step_append_bs _ (by rfl) _ _ _ (by rfl) w6.heap.size 5 i0 (.int .u8 0) Tryd.underlying23 hi0 hz0 hz1 hz2 rfl (.slice (some ⟨w6.heap.size, 0, none⟩) m m) (bvs Z) (by rfl) ?_ _ _ _ (Y.drop m) ?_ (by rfl) ?_ ?_ ?_ ?_; (exact HOW.out); (have := HYL.out; simp; try omega); (exact ((HYS.out.off m).below HB6.out).alloc _); (have := HYL.out; have := HZL.out; simp [bvs_length]; omega); (simp); intro v7 w7 hown7 hg7 _))
              go_wp2_with fail
              go_meet
              exact HFIN.out _ _ _ hown7 ⟨hg7.os, hg7.tape, hg7.output, hg7.size, hg7.block⟩ rfl
        case rest =>
          obtain ⟨C, d, T, rfl, hown, hTl, hTr, hb⟩ := hcut
          have hd := own_le hown
          have hdm := own_cap' hown
          have HC := Lib.hid (Bs.of_own hown)
          have HBW := Lib.hid (below_then HB.out hb)
          have HA := Lib.hid (HYS.out.below hb)
          have HTL := Lib.hid hTl
          have HTM := Lib.hid hTr
          clear hown hTl hTr hb HT HT' HC0
          have hmk : ∀ u : World, (Instr.makeSlice 23 (.int .i64 64) (.int .i64 64)).run Tryd.prog u = .ok (.slice (some ⟨u.heap.size, 0, none⟩) 64 64) (u.alloc (.cells (bvs zero64).toArray 5)) := fun u => by kernel_rfl
          have HMK := Lib.hid hmk
          clear hmk
          have hlz : zero64.length = 64 := by decide
          have hrz : StampMath.read zero64 = none := StampMath.read_zeros
          have HLZ := Lib.hid hlz
          have HRZ := Lib.hid hrz
          clear hlz hrz
          cases hrd : StampMath.read T with
          | none =>
            have HRD := Lib.hid (stampRead_none C d 64 T wc HTL.out hd hdm (by decide) HC.out (ht.below HBW.out) hrd)
            clear hrd
            go_wp2_with fail
            refine HRD.out.mono ?_
            rintro e w7 ⟨rfl, hb7⟩
            have HBW := Lib.hid (below_then (below_then HBW.out hb7) (below_alloc _ (.cells #[.int .i64 0, .int .i64 0, .int .i64 0, .int .i64 0, .slice none 0 0] 38)))
            clear hb7
            have hmk := HMK.out
            go_wp2_with fail
            clear hmk
            (with_reducible refine (stampRead_none _ 64 64 zero64 _ HLZ.out (by decide) (by unfold maxLen; omega) (by decide) ?_ ?_ HRZ.out).mono ?_)
            · exact Bs.lit_at _ zero64 _ _ _ rfl _ (by simp)
            · exact ht.below (below_then HBW.out (below_alloc _ _))
            rintro e w8 ⟨rfl, hb8⟩
            have HBW := Lib.hid (below_then (below_then (below_then HBW.out (below_alloc _ _)) hb8) (below_alloc _ (.cells #[.int .i64 0, .int .i64 0, .int .i64 0, .int .i64 0, .slice none 0 0] 38)))
            clear hb8
            go_wp2_with fail
            refine (stampLives_any _ (ht.below HBW.out)).mono ?_
            rintro e w9 ⟨rfl, hb9⟩
            go_wp2_with fail
            go_ret
            exact ⟨rfl, below_then HBW.out hb9⟩
          | some r =>
            have hTY := HTM.out r hrd
            subst hTY
            have HRD := Lib.hid (stampRead_some C d 64 T r wc HTL.out hd hdm HC.out (ht.below HBW.out) hrd)
            clear hrd
            obtain ⟨re, rs, ri, rt, rd⟩ := r
            go_wp2_with fail
            refine HRD.out.mono ?_
            rintro e w7 ⟨B7, d7, rfl, _, hb7⟩
            have hbx := below_then hb7 (below_alloc _ (.cells #[.int .i64 re, .int .i64 rs, .int .i64 ri, .int .i64 rt, .slice B7 rd.length d7] 38))
            have HBW := Lib.hid (below_then HBW.out hbx)
            have HC := Lib.hid (HC.out.below hbx)
            have HA := Lib.hid (HA.out.below hbx)
            clear hb7 hbx
            have hmk := HMK.out
            go_wp2_with fail
            clear hmk
            (with_reducible refine (stampRead_none _ 64 64 zero64 _ HLZ.out (by decide) (by unfold maxLen; omega) (by decide) ?_ ?_ HRZ.out).mono ?_)
            · exact Bs.lit_at _ zero64 _ _ _ rfl _ (by simp)
            · exact ht.below (below_then HBW.out (below_alloc _ _))
            rintro e w8 ⟨rfl, hb8⟩
            have hbx := below_then (below_then (below_alloc _ _) hb8) (below_alloc _ (.cells #[.int .i64 0, .int .i64 0, .int .i64 0, .int .i64 0, .slice none 0 0] 38))
            have HBW := Lib.hid (below_then HBW.out hbx)
            have HC := Lib.hid (HC.out.below hbx)
            have HA := Lib.hid (HA.out.below hbx)
            clear hb8 hbx
            go_wp2_with fail
            refine (same_at C (some ⟨g, 0, none⟩) d 64 64 64 T T _ HTL.out HTL.out (by decide) (by decide) HC.out HA.out).mono ?_
            rintro e w9 ⟨rfl, hb9⟩
            rw [sameB_self]
            go_wp2_with fail
            refine (stampLives_any _ (ht.below (below_then HBW.out hb9))).mono ?_
            rintro e w10 ⟨rfl, hb10⟩
            go_wp2_with fail
            go_ret
            exact ⟨rfl, below_then (below_then HBW.out hb9) hb10⟩
  · refine (stampLay_bad ⟨a, b, i, t, db⟩ Aq cq w1 hp).mono ?_
    rintro e w2 ⟨rfl, hb⟩
    have HB := Lib.hid (below_then HB.out hb)
    clear hb HO
    go_wp2_with fail
    refine (stampLives_any _ (ht.below HB.out)).mono ?_
    rintro e w5 ⟨rfl, hb⟩
    go_wp2_with fail
    go_ret
    exact ⟨rfl, below_then HB.out hb⟩
end Go.Proofs.YtpejfngkdkkfnaaDoor
