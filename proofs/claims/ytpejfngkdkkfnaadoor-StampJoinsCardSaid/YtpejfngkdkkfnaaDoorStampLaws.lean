/- The walks of the laws on parts: each returns true and turns nothing that was there. -/
import Derived.Test.YtpejfngkdkkfnaaDoorStampLaw0
import Derived.Test.YtpejfngkdkkfnaaDoorStampRefRead
namespace Go.Proofs.YtpejfngkdkkfnaaDoor
open Go.RowKit
def sevenPart : StampMath.Part := ⟨0, 0, 0, 1, [7]⟩
theorem seven_right : StampMath.right sevenPart := by decide
set_option maxHeartbeats 400000 in
theorem stampLives_any (w : World) (ht : Halves w) : Calls Tryd.prog 28 #[] w fun e w' => e = .returned (.bool true) ∧ Below w.heap.size w w' := by
  go_enter Tryd.func28, Tryd.ntmps28
  go_wp2_with fail
  refine (stampLay_ok sevenPart (some ⟨w.heap.size, 0, none⟩) 1 _ seven_right (Bs.lit w [7] _ _ _ rfl) (ht.below (below_alloc _ _))).mono ?_
  rintro e w1 ⟨g, rfl, hg, hblk, hb1⟩
  have hb01 := below_then (below_alloc w _) hb1
  have ht1 := ht.below hb01
  have hl := StampMath.lay_length sevenPart (by decide)
  have hrd : Calls Tryd.prog 29 #[.slice (some ⟨g, 0, none⟩) 64 64] w1 fun e w' => ∃ B d, e = .returned (.tuple #[.agg #[.int .i64 0, .int .i64 0, .int .i64 0, .int .i64 1, .slice B 1 d], .int .i64 0]) ∧
      w'.ownsRow w1.heap.size 5 1 (.slice B 1 d) 1 (bvs [7]) ∧ Below w1.heap.size w1 w' := stampRead_some (some ⟨g, 0, none⟩) 64 64 (StampMath.lay sevenPart) sevenPart w1 hl (by decide) (by unfold maxLen; omega) hblk.bs ht1 (StampMath.read_lay _ seven_right)
  have HRD := Lib.hid hrd
  clear hrd hl hblk hb1 hg
  go_wp2_with fail
  refine HRD.out.mono ?_
  rintro e w2 ⟨B, d, rfl, hown, hb2⟩
  obtain ⟨ad, rfl, hlt, hc⟩ := (Bs.of_own hown).at_ (k := 0) (by decide)
  have hc0 : w2.cell? ad = some (.int .u8 7) := hc
  clear hc hown HRD
  have hne : ad.block ≠ w2.heap.size := by omega
  go_wp2_with fail
  go_ret
  refine ⟨rfl, below_then (below_then hb01 hb2) (below_alloc _ _)⟩
set_option maxHeartbeats 2000000 in
theorem stampLays_walk (a b i t : Int) (A : Option Addr) (c : Nat) (da : List UInt8) (w : World) (hc : da.length ≤ c) (hm : c ≤ maxLen) (hr : Bs w A da) (ht : Halves w) :
    Calls Tryd.prog 7 #[.agg #[.int .i64 a, .int .i64 b, .int .i64 i, .int .i64 t, .slice A da.length c]] w fun e w' => e = .returned (.bool true) ∧ Below w.heap.size w w' := by
  obtain ⟨db, hdb⟩ : ∃ db, da.take 50 = db := ⟨_, rfl⟩
  have hdl : db.length ≤ 65536 := by rw [← hdb]; have := List.length_take_le 50 da; omega
  have HDB := Lib.hid hdb
  clear hdb
  go_enter Tryd.func7, Tryd.ntmps7
  go_wp2_with fail
  refine (mine_at a b i t da db A _ c _ rfl hc hm (hr.alloc _) HDB.out).mono ?_
  rintro e w1 ⟨Aq, cq, rfl, hoq, hb1⟩
  have hp1 : PartAt w1 w.heap.size a b i t (.slice A da.length c) := (PartAt.of_block (heap_alloc_new w _)).below hb1
  have hb01 := below_then (below_alloc w _) hb1
  have HP1 := Lib.hid hp1
  have HB1 := Lib.hid hb01
  have HO1 := Lib.hid hoq
  clear hp1 hb01 hoq hb1
  go_wp2_with fail
  by_cases hq : StampMath.right ⟨a, b, i, t, db⟩
  · refine (stampLay_ok ⟨a, b, i, t, db⟩ Aq cq _ hq (Bs.of_own (HO1.out.alloc _)) (ht.below (below_then HB1.out (below_alloc _ _)))).mono ?_
    rintro e w2 ⟨g, rfl, hg, hblk, hb2⟩
    have hq2 : PartAt w2 w1.heap.size a b i t (.slice Aq db.length cq) := (PartAt.of_block (heap_alloc_new w1 _)).below hb2
    have hb12 := below_then (below_alloc w1 _) hb2
    have HP2 := Lib.hid (HP1.out.below hb12)
    have HQ2 := Lib.hid hq2
    have HB2 := Lib.hid (below_then HB1.out hb12)
    have HO2 := Lib.hid (own_below HO1.out hb12)
    have HBK := Lib.hid hblk
    clear hq2 hb12 hb2 HP1 HB1 HO1 hblk
    have k0 := HP2.out.c0
    have k1 := HP2.out.c1
    have k2 := HP2.out.c2
    have k3 := HP2.out.c3
    have k4 := HP2.out.c4
    go_wp2_with fail
    clear k0 k1 k2 k3 k4
    refine (mine_at a b i t da db A _ c _ rfl hc hm (hr.below HB2.out) HDB.out).mono ?_
    rintro e w3 ⟨Ar, cr, rfl, hor, hb3⟩
    have HP3 := Lib.hid (HP2.out.below hb3)
    have HQ3 := Lib.hid (HQ2.out.below hb3)
    have HB3 := Lib.hid (below_then HB2.out hb3)
    have HO3 := Lib.hid (own_below HO2.out hb3)
    have HR3 := Lib.hid hor
    have HBK3 := Lib.hid (HBK.out.below hb3)
    clear hb3 hor HP2 HQ2 HB2 HO2 HBK
    go_wp2_with fail
    refine (plain_any _ _ _ _ _ Ar db.length cr rfl _).mono ?_
    rintro e w4 ⟨rfl, hb4⟩
    have HP4 := Lib.hid (HP3.out.below hb4)
    have HQ4 := Lib.hid (HQ3.out.below hb4)
    have HB4 := Lib.hid (below_then HB3.out hb4)
    have HO4 := Lib.hid (own_below HO3.out hb4)
    have HR4 := Lib.hid (own_below HR3.out hb4)
    have HBK4 := Lib.hid (HBK3.out.below hb4)
    clear hb4 HP3 HQ3 HB3 HO3 HR3 HBK3
    go_wp2_with fail
    refine (refLay_ok ⟨a, b, i, t, db⟩ Ar cr w4 hq (Bs.of_own HR4.out)).mono ?_
    rintro e w5 ⟨vy, rfl, hy, hb5⟩
    obtain ⟨Q, q, rfl, _⟩ := own_shape hy
    have hbs := Bs.of_own hy
    have HP := Lib.hid (HP4.out.below hb5)
    have HQ := Lib.hid (HQ4.out.below hb5)
    have HBW := Lib.hid (below_then HB4.out hb5)
    have HOq := Lib.hid (own_below HO4.out hb5)
    have hbk := (HBK4.out.below hb5).bs
    have hYl := StampMath.lay_length ⟨a, b, i, t, db⟩ hq.2.2.2.2.2.2.2.2
    obtain ⟨Y, hY⟩ : ∃ Y, StampMath.lay ⟨a, b, i, t, db⟩ = Y := ⟨_, rfl⟩
    rw [hY] at hbs hbk hYl
    clear hb5 HP4 HQ4 HB4 HO4 HR4 HBK4 hy hY hq hg
    go_wp2_with fail
    have HBS := Lib.hid hbs
    have HBK := Lib.hid hbk
    clear hbs hbk
    go_region_held3 (fun w' => w'.cell? ⟨w.heap.size, 0, none⟩ = some (.int .i64 a) ∧ w'.cell? ⟨w.heap.size, 1, none⟩ = some (.int .i64 b) ∧ w'.cell? ⟨w.heap.size, 2, none⟩ = some (.int .i64 i) ∧ w'.cell? ⟨w.heap.size, 3, none⟩ = some (.int .i64 t) ∧ w'.cell? ⟨w.heap.size, 4, none⟩ = some (.slice A da.length c) ∧
        w'.cell? ⟨w1.heap.size, 0, none⟩ = some (.int .i64 a) ∧ w'.cell? ⟨w1.heap.size, 1, none⟩ = some (.int .i64 b) ∧ w'.cell? ⟨w1.heap.size, 2, none⟩ = some (.int .i64 i) ∧ w'.cell? ⟨w1.heap.size, 3, none⟩ = some (.int .i64 t) ∧ w'.cell? ⟨w1.heap.size, 4, none⟩ = some (.slice Aq db.length cq))
      (first | exact ⟨HP.out.c0, HP.out.c1, HP.out.c2, HP.out.c3, HP.out.c4, HQ.out.c0, HQ.out.c1, HQ.out.c2, HQ.out.c3, HQ.out.c4⟩)
      (first
        | (go_at_call 18; (with_reducible refine (same_at (some ⟨g, 0, none⟩) Q 64 q 64 64 Y Y _ hYl hYl (by decide) (by decide) ?_ ?_).mono ?_); (exact HBK.out); (exact HBS.out); rintro e wS ⟨rfl, hbd⟩; rw [sameB_self]; have hb : Below w5.heap.size w5 wS := ((Below.refl _ _).drew).trans hbd; clear hbd; have HP := Lib.hid (HP.out.below hb); have HQ := Lib.hid (HQ.out.below hb); have HOq := Lib.hid (own_below HOq.out hb); have HBW := Lib.hid (below_then HBW.out hb))
        | (go_at_call 26; (with_reducible refine (plain_any _ _ _ _ _ _ _ _ rfl _).mono ?_); rintro e wP ⟨rfl, hb⟩; have HP := Lib.hid (HP.out.below hb); have HQ := Lib.hid (HQ.out.below hb); have HOq := Lib.hid (own_below HOq.out hb); have HBW := Lib.hid (below_then HBW.out hb); try (have HOm := Lib.hid (own_below HOm.out hb)))
        | (go_at_call 23; (with_reducible refine (mine_at _ _ _ _ da db A _ c _ rfl hc hm ?_ HDB.out).mono ?_); (exact hr.below HBW.out); rintro e wM ⟨Am, cm, rfl, hom, hb⟩; have HP := Lib.hid (HP.out.below hb); have HQ := Lib.hid (HQ.out.below hb); have HOq := Lib.hid (own_below HOq.out hb); have HBW := Lib.hid (below_then HBW.out hb); have HOm := Lib.hid hom; clear hom)
        | (go_at_call 27; (with_reducible refine (refSame_self ⟨a, b, i, t, db⟩ _ _ _ _ _ ?_ ?_ ?_).mono ?_); (exact hdl); (exact Bs.of_own HOq.out); (exact Bs.of_own HOm.out); rintro e wT ⟨rfl, hb⟩; have HP := Lib.hid (HP.out.below hb); have HQ := Lib.hid (HQ.out.below hb); have HOq := Lib.hid (own_below HOq.out hb); have HBW := Lib.hid (below_then HBW.out hb))
        | (go_at_call 28; refine (stampLives_any _ ?_).mono ?_; (exact ht.below HBW.out); rintro e wL ⟨rfl, hb⟩; have HP := Lib.hid (HP.out.below hb); have HQ := Lib.hid (HQ.out.below hb); have HOq := Lib.hid (own_below HOq.out hb); have HBW := Lib.hid (below_then HBW.out hb)))
    go_wp2_with fail
    go_ret
    exact ⟨rfl, HBW.out⟩
  · refine (stampLay_bad ⟨a, b, i, t, db⟩ Aq cq _ hq).mono ?_
    rintro e w2 ⟨rfl, hb2⟩
    have hq2 : PartAt w2 w1.heap.size a b i t (.slice Aq db.length cq) := (PartAt.of_block (heap_alloc_new w1 _)).below hb2
    have hb12 := below_then (below_alloc w1 _) hb2
    have HP2 := Lib.hid (HP1.out.below hb12)
    have HQ2 := Lib.hid hq2
    have HB2 := Lib.hid (below_then HB1.out hb12)
    have HO2 := Lib.hid (own_below HO1.out hb12)
    clear hq2 hb12 hb2 HP1 HB1 HO1
    have k0 := HP2.out.c0
    have k1 := HP2.out.c1
    have k2 := HP2.out.c2
    have k3 := HP2.out.c3
    have k4 := HP2.out.c4
    go_wp2_with fail
    clear k0 k1 k2 k3 k4
    refine (mine_at a b i t da db A _ c _ rfl hc hm (hr.below HB2.out) HDB.out).mono ?_
    rintro e w3 ⟨Ar, cr, rfl, hor, hb3⟩
    have HP3 := Lib.hid (HP2.out.below hb3)
    have HQ3 := Lib.hid (HQ2.out.below hb3)
    have HB3 := Lib.hid (below_then HB2.out hb3)
    have HO3 := Lib.hid (own_below HO2.out hb3)
    have HR3 := Lib.hid hor
    clear hb3 hor HP2 HQ2 HB2 HO2
    go_wp2_with fail
    refine (plain_any _ _ _ _ _ Ar db.length cr rfl _).mono ?_
    rintro e w4 ⟨rfl, hb4⟩
    have HP4 := Lib.hid (HP3.out.below hb4)
    have HQ4 := Lib.hid (HQ3.out.below hb4)
    have HB4 := Lib.hid (below_then HB3.out hb4)
    have HO4 := Lib.hid (own_below HO3.out hb4)
    have HR4 := Lib.hid (own_below HR3.out hb4)
    clear hb4 HP3 HQ3 HB3 HO3 HR3
    go_wp2_with fail
    refine (refLay_bad ⟨a, b, i, t, db⟩ Ar cr w4 hq).mono ?_
    rintro e w5 ⟨rfl, hb5⟩
    have HP := Lib.hid (HP4.out.below hb5)
    have HQ := Lib.hid (HQ4.out.below hb5)
    have HBW := Lib.hid (below_then HB4.out hb5)
    have HOq := Lib.hid (own_below HO4.out hb5)
    clear hb5 HP4 HQ4 HB4 HO4 HR4 hq
    go_wp2_with fail
    go_region_held3 (fun w' => w'.cell? ⟨w.heap.size, 0, none⟩ = some (.int .i64 a) ∧ w'.cell? ⟨w.heap.size, 1, none⟩ = some (.int .i64 b) ∧ w'.cell? ⟨w.heap.size, 2, none⟩ = some (.int .i64 i) ∧ w'.cell? ⟨w.heap.size, 3, none⟩ = some (.int .i64 t) ∧ w'.cell? ⟨w.heap.size, 4, none⟩ = some (.slice A da.length c) ∧
        w'.cell? ⟨w1.heap.size, 0, none⟩ = some (.int .i64 a) ∧ w'.cell? ⟨w1.heap.size, 1, none⟩ = some (.int .i64 b) ∧ w'.cell? ⟨w1.heap.size, 2, none⟩ = some (.int .i64 i) ∧ w'.cell? ⟨w1.heap.size, 3, none⟩ = some (.int .i64 t) ∧ w'.cell? ⟨w1.heap.size, 4, none⟩ = some (.slice Aq db.length cq))
      (first | exact ⟨HP.out.c0, HP.out.c1, HP.out.c2, HP.out.c3, HP.out.c4, HQ.out.c0, HQ.out.c1, HQ.out.c2, HQ.out.c3, HQ.out.c4⟩)
      (first
        | (go_at_call 18; (with_reducible refine (same_at none none 0 0 0 0 [] [] _ rfl rfl (by decide) (by decide) ?_ ?_).mono ?_); (exact Bs.nil _ _); (exact Bs.nil _ _); rintro e wS ⟨rfl, hbd⟩; rw [sameB_self]; have hb : Below w5.heap.size w5 wS := ((Below.refl _ _).drew).trans hbd; clear hbd; have HP := Lib.hid (HP.out.below hb); have HQ := Lib.hid (HQ.out.below hb); have HOq := Lib.hid (own_below HOq.out hb); have HBW := Lib.hid (below_then HBW.out hb))
        | (go_at_call 26; (with_reducible refine (plain_any _ _ _ _ _ _ _ _ rfl _).mono ?_); rintro e wP ⟨rfl, hb⟩; have HP := Lib.hid (HP.out.below hb); have HQ := Lib.hid (HQ.out.below hb); have HOq := Lib.hid (own_below HOq.out hb); have HBW := Lib.hid (below_then HBW.out hb); try (have HOm := Lib.hid (own_below HOm.out hb)))
        | (go_at_call 23; (with_reducible refine (mine_at _ _ _ _ da db A _ c _ rfl hc hm ?_ HDB.out).mono ?_); (exact hr.below HBW.out); rintro e wM ⟨Am, cm, rfl, hom, hb⟩; have HP := Lib.hid (HP.out.below hb); have HQ := Lib.hid (HQ.out.below hb); have HOq := Lib.hid (own_below HOq.out hb); have HBW := Lib.hid (below_then HBW.out hb); have HOm := Lib.hid hom; clear hom)
        | (go_at_call 27; (with_reducible refine (refSame_self ⟨a, b, i, t, db⟩ _ _ _ _ _ ?_ ?_ ?_).mono ?_); (exact hdl); (exact Bs.of_own HOq.out); (exact Bs.of_own HOm.out); rintro e wT ⟨rfl, hb⟩; have HP := Lib.hid (HP.out.below hb); have HQ := Lib.hid (HQ.out.below hb); have HOq := Lib.hid (own_below HOq.out hb); have HBW := Lib.hid (below_then HBW.out hb))
        | (go_at_call 28; refine (stampLives_any _ ?_).mono ?_; (exact ht.below HBW.out); rintro e wL ⟨rfl, hb⟩; have HP := Lib.hid (HP.out.below hb); have HQ := Lib.hid (HQ.out.below hb); have HOq := Lib.hid (own_below HOq.out hb); have HBW := Lib.hid (below_then HBW.out hb)))
    go_wp2_with fail
    go_ret
    exact ⟨rfl, HBW.out⟩
end Go.Proofs.YtpejfngkdkkfnaaDoor
