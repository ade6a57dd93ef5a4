/- The walk of the law on torn sectors: it returns true and turns nothing that was there. -/
import Derived.Test.YtpejfngkdkkfnaaDoorStampLaws
namespace Go.Proofs.YtpejfngkdkkfnaaDoor
open Go.RowKit
section
variable {P : Program} (w : World)
theorem step_append_bs {ops : Array Oper} {o : Oper} {a : Act} {K : Act → World → Prop} {Q : Exit → Act → World → Prop} {E : Prop} (hgd : o.guard = none) (s x : Operand) (t : TypeId)
    (ho : o.op = .call { callee := .builtin .append, args := #[s, x], argTypes := #[t, t] })
    (base : Nat) (e : TypeId) (i : TypeInfo) (z : Value) (ht : P.underlying t = some (.slice e)) (hi : P.info? e = some i) (hz : i.zero = some z)
    (hsize : i.size = 1) (hby : i.bytes = 1) (hzs : z.cells.size = 1)
    (v : Value) (xs : List Value) (hs : a.eval s = v) (hown : w.ownsRow base e 1 v xs.length xs)
    (A : Option Addr) (c n : Nat) (l : List UInt8) (hn : n = l.length) (hx : a.eval x = .slice A n c) (hr : Bs w A l)
    (hbytes : xs.length + l.length ≤ 140737488355328) (hbase : base ≤ w.heap.size)
    (h : ∀ v' w', w'.ownsRow base e 1 v' (xs.length + l.length) (xs ++ bvs l) → w.grownBy w' v.ownBlock → (v'.ownBlock = v.ownBlock ∨ v'.ownBlock = some w.heap.size) → K (a.put o.dst v') w') :
    if Region.wanted o (yielded ops a.tmps) = true then Oper.wp P o a w K Q else E := by
  have hw : Region.wanted o (yielded ops a.tmps) = true := by simp [Region.wanted, hgd]
  rw [if_pos hw]
  exact wp_append_bs w s x t ho base e i z ht hi hz hsize hby hzs v xs hs hown A c n l hn hx hr hbytes hbase h
end
theorem stampLay_sum (p : StampMath.Part) (A : Option Addr) (c : Nat) (w : World) (hr : Bs w A p.data) (ht : Halves w) :
    Calls Tryd.prog 24 #[.agg #[.int .i64 p.epoch, .int .i64 p.seq, .int .i64 p.index, .int .i64 p.total, .slice A p.data.length c]] w fun e w' =>
      ∃ B n d x, e = .returned (.tuple #[.slice B n d, .int .i64 x]) ∧ Below w.heap.size w w' := by
  by_cases hp : StampMath.right p
  · refine (stampLay_ok p A c w hp hr ht).mono ?_
    rintro e w' ⟨g, rfl, _, _, hb⟩
    exact ⟨_, _, _, _, rfl, hb⟩
  · refine (stampLay_bad p A c w hp).mono ?_
    rintro e w' ⟨rfl, hb⟩
    exact ⟨_, _, _, _, rfl, hb⟩
theorem within64 (x : Int) (w : World) : ∃ m : Nat, m ≤ 64 ∧ Calls Tryd.prog 20 #[.int .i64 x, .int .i64 0, .int .i64 64] w fun e w' => e = .returned (.int .i64 (m : Nat)) ∧ w = w' := by
  refine ⟨(max 0 (min x 64)).toNat, by omega, ?_⟩
  have e : (((max 0 (min x 64)).toNat : Nat) : Int) = max 0 (min x 64) := by omega
  rw [e]
  exact within_any x 0 64 w (by omega)
theorem addr_at (g i j : Nat) : (⟨g, i, none⟩ : Addr).add j = ⟨g, i + j, none⟩ := by
  unfold Addr.add
  split
  · next h => subst h; rfl
  · rfl
theorem Bs.off {w : World} {g : Nat} {L : List UInt8} (h : Bs w (some ⟨g, 0, none⟩) L) (m : Nat) : Bs w (some ⟨g, m, none⟩) (L.drop m) := fun j c hj => by
  rw [List.getElem?_drop] at hj
  obtain ⟨ad, e, hb, hc⟩ := h _ c hj
  injection e with e
  subst e
  refine ⟨_, rfl, hb, ?_⟩
  rw [addr_at] at hc ⊢
  rw [Nat.zero_add] at hc
  exact hc
/-- behind the tearing: the torn bytes in memory of their own -/
def TornCut (w : World) (Y Y' : List UInt8) (m : Nat) (s : Value) (wx : World) : Prop :=
  ∃ C d, s = .slice C 64 d ∧ wx.ownsRow w.heap.size 5 1 (.slice C 64 d) 64 (bvs (StampMath.tear m Y Y'))
theorem own_cap' {w : World} {base : Nat} {e : TypeId} {A : Option Addr} {n c : Nat} {xs : List Value} (h : w.ownsRow base e 1 (.slice A n c) n xs) : c ≤ maxLen := by
  rcases h.2 with ⟨h1, h2⟩ | ⟨g, cap, cur, hv, _, _, _, hm, _⟩
  · injection h1 with _ _ h; omega
  · injection hv with _ _ h; omega
theorem own_le {w : World} {base : Nat} {e : TypeId} {A : Option Addr} {n c : Nat} {xs : List Value} (h : w.ownsRow base e 1 (.slice A n c) n xs) : n ≤ c := by
  rcases h.2 with ⟨h1, h2⟩ | ⟨g, cap, cur, hv, _, _, hn, _, _⟩
  · omega
  · injection hv with _ _ h; omega
theorem own_len {w : World} {base : Nat} {e : TypeId} {v : Value} {n : Nat} {xs : List Value} (h : w.ownsRow base e 1 v n xs) : w.ownsRow base e 1 v xs.length xs := by
  have := h.1
  rw [Nat.mul_one] at this
  rw [this]; exact h
theorem torn_cut {w w4 w5 w6 : World} {v5 v6 : Value} {Y Y' l : List UInt8} {m : Nat} (hB : Below w.heap.size w w4) (hb : Below w4.heap.size w4 w5) (hown : w5.ownsRow w4.heap.size 5 1 v5 (bvs (Y.take m)).length (bvs (Y.take m)))
    (hown6 : w6.ownsRow w4.heap.size 5 1 v6 ((bvs (Y.take m)).length + l.length) (bvs (Y.take m) ++ bvs l)) (hg : w5.grownBy w6 v5.ownBlock) (hm : m ≤ Y.length) (hl : l = Y'.drop m) (hY' : Y'.length = 64) (hY : Y.length = 64) :
    TornCut w Y Y' m v6 w6 ∧ Below w4.heap.size w4 w6 := by
  subst hl
  have e1 : (bvs (Y.take m)).length + (Y'.drop m).length = 64 := by rw [bvs_length]; simp; omega
  rw [e1, ← bvs_append] at hown6
  obtain ⟨C, d, rfl, _⟩ := own_shape hown6
  exact ⟨⟨C, d, rfl, own_base hown6 hB.size⟩, hb.grown hg hb.size (fun g hg => (hown.lt g hg).1)⟩
theorem copy_take (ad : Addr) (l : List UInt8) (n c : Nat) (w : World) (h : n ≤ l.length) (hn : n ≤ 65536) (hr : Bs w (some ad) l) :
    Calls Tryd.prog 14 #[.slice (some ad) n c] w fun e w' => ∃ v, e = .returned v ∧ w'.ownsRow w.heap.size 5 1 v n (bvs (l.take n)) ∧ Below w.heap.size w w' := by
  have hl : (l.take n).length = n := by simp; omega
  have := copy_any (some ad) c (l.take n) w (by omega) (hr.take n)
  rwa [hl] at this
set_option maxHeartbeats 2000000 in
theorem stampTorn_walk (a b i t : Int) (A : Option Addr) (c : Nat) (da : List UInt8) (a' b' i' t' : Int) (A' : Option Addr) (c' : Nat) (da' : List UInt8) (n : Int) (w : World)
    (hc : da.length ≤ c) (hm : c ≤ maxLen) (hr : Bs w A da) (hc' : da'.length ≤ c') (hm' : c' ≤ maxLen) (hr' : Bs w A' da') (ht : Halves w) :
    Calls Tryd.prog 9 #[.agg #[.int .i64 a, .int .i64 b, .int .i64 i, .int .i64 t, .slice A da.length c], .agg #[.int .i64 a', .int .i64 b', .int .i64 i', .int .i64 t', .slice A' da'.length c'], .int .i64 n] w fun e w' => e = .returned (.bool true) ∧ Below w.heap.size w w' := by
  obtain ⟨i0, hi0, hz0, hz1, hz2⟩ := info_parts info_u8
  obtain ⟨db, hdb⟩ : ∃ db, da.take 50 = db := ⟨_, rfl⟩
  obtain ⟨db', hdb'⟩ : ∃ db, da'.take 50 = db := ⟨_, rfl⟩
  have HDB := Lib.hid hdb
  have HDB' := Lib.hid hdb'
  clear hdb hdb'
  go_enter Tryd.func9, Tryd.ntmps9
  go_wp2_with fail
  refine (mine_at a b i t da db A _ c _ rfl hc hm ((hr.alloc _).alloc _) HDB.out).mono ?_
  rintro e w1 ⟨Aq, cq, rfl, hoq, hb1⟩
  have hp1 : PartAt w1 w.heap.size a b i t (.slice A da.length c) := ((PartAt.of_block (heap_alloc_new w _)).below (below_alloc _ _)).below hb1
  have hq1 : PartAt w1 (w.heap.size + 1) a' b' i' t' (.slice A' da'.length c') := by
    have h : PartAt _ _ a' b' i' t' (.slice A' da'.length c') := (PartAt.of_block (heap_alloc_new (w.alloc (.cells #[.int .i64 a, .int .i64 b, .int .i64 i, .int .i64 t, .slice A da.length c] 37)) (.cells #[.int .i64 a', .int .i64 b', .int .i64 i', .int .i64 t', .slice A' da'.length c'] 37))).below hb1
    simpa using h
  have hb01 := below_then (below_then (below_alloc w _) (below_alloc _ _)) hb1
  have HP := Lib.hid hp1
  have HQ := Lib.hid hq1
  have HB := Lib.hid hb01
  have HO := Lib.hid hoq
  clear hp1 hq1 hb01 hoq hb1
  go_wp2_with fail
  by_cases hp : StampMath.right ⟨a, b, i, t, db⟩
  · refine (stampLay_ok ⟨a, b, i, t, db⟩ Aq cq w1 hp (Bs.of_own HO.out) (ht.below HB.out)).mono ?_
    rintro e w2 ⟨g, rfl, hg, hblk, hb⟩
    have HP := Lib.hid (HP.out.below hb)
    have HQ := Lib.hid (HQ.out.below hb)
    have HB := Lib.hid (below_then HB.out hb)
    have HK := Lib.hid hblk
    clear hb hblk HO hg
    have k0 := HQ.out.c0
    have k1 := HQ.out.c1
    have k2 := HQ.out.c2
    have k3 := HQ.out.c3
    have k4 := HQ.out.c4
    go_wp2_with fail
    clear k0 k1 k2 k3 k4
    refine (mine_at a' b' i' t' da' db' A' _ c' _ rfl hc' hm' (hr'.below HB.out) HDB'.out).mono ?_
    rintro e w3 ⟨Ar, cr, rfl, hor, hb⟩
    have HP := Lib.hid (HP.out.below hb)
    have HQ := Lib.hid (HQ.out.below hb)
    have HB := Lib.hid (below_then HB.out hb)
    have HK := Lib.hid (HK.out.below hb)
    have HO := Lib.hid hor
    clear hb hor
    go_wp2_with fail
    by_cases hq : StampMath.right ⟨a', b', i', t', db'⟩
    · refine (stampLay_ok ⟨a', b', i', t', db'⟩ Ar cr w3 hq (Bs.of_own HO.out) (ht.below HB.out)).mono ?_
      rintro e w4 ⟨g', rfl, hg, hblk, hb⟩
      have HP := Lib.hid (HP.out.below hb)
      have HQ := Lib.hid (HQ.out.below hb)
      have HB := Lib.hid (below_then HB.out hb)
      have HK := Lib.hid (HK.out.below hb)
      have HK' := Lib.hid hblk
      clear hb hblk HO hg
      have k0 := HP.out.c0
      have k1 := HP.out.c1
      have l0 := HQ.out.c0
      have l1 := HQ.out.c1
      by_cases hst : a = a' ∧ b = b'
      · obtain ⟨rfl, rfl⟩ := hst
        have e1 : (a == a) = true := beq_self_eq_true _
        have e2 : (b == b) = true := beq_self_eq_true _
        go_wp2_with fail
        refine (stampLives_any _ (ht.below HB.out)).mono ?_
        rintro e w5 ⟨rfl, hb⟩
        go_wp2_with fail
        go_ret
        exact ⟨rfl, below_then HB.out hb⟩
      · have HST := Lib.hid hst
        have hcond : ((a == a') && (b == b')) = false := by
          rw [Bool.and_eq_false_iff]
          by_cases h1 : a = a'
          · right; rw [beq_eq_false_iff_ne]; intro h2; exact hst ⟨h1, h2⟩
          · left; rw [beq_eq_false_iff_ne]; exact h1
        clear hst
        have HX := Lib.hid hp
        have HX' := Lib.hid hq
        clear hp hq
        have hcs : ((a == a') = false) ∨ ((a == a') = true ∧ (b == b') = false) := by
          rcases (Bool.and_eq_false_iff.1 hcond) with e1 | e2
          · exact .inl e1
          · cases h : (a == a')
            · exact .inl rfl
            · exact .inr ⟨rfl, e2⟩
        clear hcond
        have hbs := HK.out.bs
        have hbs' := HK'.out.bs
        have hY := StampMath.lay_length _ HX.out.2.2.2.2.2.2.2.2
        have hY' := StampMath.lay_length _ HX'.out.2.2.2.2.2.2.2.2
        have htorn := fun m => StampMath.torn m _ _ HX.out HX'.out HST.out
        obtain ⟨Y, hYd⟩ : ∃ Y, StampMath.lay ⟨a, b, i, t, db⟩ = Y := ⟨_, rfl⟩
        obtain ⟨Y', hYd'⟩ : ∃ Y, StampMath.lay ⟨a', b', i', t', db'⟩ = Y := ⟨_, rfl⟩
        rw [hYd] at hbs hY htorn
        rw [hYd'] at hbs' hY' htorn
        have HYS := Lib.hid hbs
        have HYS' := Lib.hid hbs'
        have HYL := Lib.hid hY
        have HYL' := Lib.hid hY'
        have HT := Lib.hid htorn
        clear hbs hbs' hY hY' htorn hYd hYd' HK HK' HX HX' HST
        have hs0 : w.heap.size ≤ w4.heap.size := HB.out.size
        rcases hcs with e1 | ⟨e1, e2⟩
        all_goals
          go_wp2_with fail
          clear k0 k1 l0 l1
          obtain ⟨m, hm64, hwi⟩ := within64 n w4
          refine hwi.mono ?_
          clear hwi
          rintro e w' ⟨rfl, rfl⟩
          have f1 : (0 : Int) ≤ (m : Int) := by omega
          have f2 : (m : Int) ≤ 64 := by omega
          go_wp2_with fail
          go_cut [11] (fun s wx => TornCut w Y Y' m s wx ∧ Below w4.heap.size w4 wx)
          case first =>
            by_cases h64 : m = 64
            · subst h64
              go_region_held3 (fun _ => True) (first | trivial) (first
                | (go_at_call 14; (with_reducible refine (copy_take _ Y 64 64 _ ?_ ?_ ?_).mono ?_); (have := HYL.out; omega); (omega); (exact HYS.out); rintro e w5 ⟨v5, rfl, hown, hbd⟩; have hb : Below w4.heap.size w4 w5 := ((Below.refl _ _).drew).trans hbd; have hown' := own_len hown)
                | (refine step_append_bs _ (by rfl) _ _ _ (by rfl) w4.heap.size 5 i0 (.int .u8 0) Tryd.underlying23 hi0 hz0 hz1 hz2 rfl v5 (bvs (Y.take 64)) (by rfl) hown' _ _ _ ([]) ?_ (by rfl) ?_ ?_ ?_ ?_; (have := HYL'.out; simp; try omega); (exact Bs.nil _ _); (have := HYL.out; have := HYL'.out; simp [bvs_length]; omega); (exact hb.size); intro v6 w6 hown6 hg6 _))
              go_wp2_with fail
              go_meet
              exact torn_cut HB.out hb hown' hown6 hg6 (Nat.le_of_eq HYL.out.symm) (by rw [List.drop_of_length_le (by rw [HYL'.out]; omega)]) HYL'.out HYL.out
            · have h64' : ¬ 64 = m := by omega
              go_region_held3 (fun _ => True) (first | trivial) (first
                | (go_at_call 14; (with_reducible refine (copy_take _ Y m 64 _ ?_ ?_ ?_).mono ?_); (have := HYL.out; omega); (omega); (exact HYS.out); rintro e w5 ⟨v5, rfl, hown, hbd⟩; have hb : Below w4.heap.size w4 w5 := ((Below.refl _ _).drew).trans hbd; have hown' := own_len hown)
                | (refine step_append_bs _ (by rfl) _ _ _ (by rfl) w4.heap.size 5 i0 (.int .u8 0) Tryd.underlying23 hi0 hz0 hz1 hz2 rfl v5 (bvs (Y.take m)) (by rfl) hown' _ _ _ (Y'.drop m) ?_ (by rfl) ?_ ?_ ?_ ?_; (have := HYL'.out; simp; try omega); (exact (HYS'.out.off m).below hb); (have := HYL.out; have := HYL'.out; simp [bvs_length]; omega); (exact hb.size); intro v6 w6 hown6 hg6 _))
              go_wp2_with fail
              go_meet
              exact torn_cut HB.out hb hown' hown6 hg6 (by rw [HYL.out]; omega) rfl HYL'.out HYL.out
          case rest =>
            obtain ⟨⟨C, d, rfl, hown⟩, hb⟩ := hcut
            have hTl : (StampMath.tear m Y Y').length = 64 := by rw [StampMath.tear_length (by rw [HYL.out, HYL'.out]), HYL.out]
            have htm := HT.out m
            obtain ⟨T, hT⟩ : ∃ T, StampMath.tear m Y Y' = T := ⟨_, rfl⟩
            rw [hT] at hown hTl htm
            have hd := own_le hown
            have hdm := own_cap' hown
            have HO := Lib.hid hown
            have HC := Lib.hid (Bs.of_own hown)
            have HBW := Lib.hid (below_then HB.out hb)
            have HA := Lib.hid (HYS.out.below hb)
            have HA' := Lib.hid (HYS'.out.below hb)
            have HTL := Lib.hid hTl
            have HTM := Lib.hid htm
            clear hown hTl hT hb HT htm f1 f2
            cases hrd : StampMath.read T with
            | none =>
              have hrd' := stampRead_none C d 64 T wc HTL.out hd hdm (by decide) HC.out (ht.below HBW.out) hrd
              have HRD := Lib.hid hrd'
              clear hrd hrd'
              go_wp2_with fail
              refine HRD.out.mono ?_
              rintro e w7 ⟨rfl, hb7⟩
              have HBW := Lib.hid (below_then (below_then HBW.out hb7) (below_alloc _ (.cells #[.int .i64 0, .int .i64 0, .int .i64 0, .int .i64 0, .slice none 0 0] 38)))
              clear hb7
              go_wp2_with fail
              refine (stampLives_any _ (ht.below HBW.out)).mono ?_
              rintro e w8 ⟨rfl, hb8⟩
              go_wp2_with fail
              go_ret
              exact ⟨rfl, below_then HBW.out hb8⟩
            | some r =>
              have hor := HTM.out r hrd
              have hrd' := stampRead_some C d 64 T r wc HTL.out hd hdm HC.out (ht.below HBW.out) hrd
              have HRD := Lib.hid hrd'
              have HOR := Lib.hid hor
              clear hrd hrd' hor
              obtain ⟨re, rs, ri, rt, rd⟩ := r
              go_wp2_with fail
              refine HRD.out.mono ?_
              rintro e w7 ⟨B7, d7, rfl, _, hb7⟩
              have hbx := below_then hb7 (below_alloc _ (.cells #[.int .i64 re, .int .i64 rs, .int .i64 ri, .int .i64 rt, .slice B7 rd.length d7] 38))
              have HBW := Lib.hid (below_then HBW.out hbx)
              have HC := Lib.hid (HC.out.below hbx)
              have HA := Lib.hid (HA.out.below hbx)
              have HA' := Lib.hid (HA'.out.below hbx)
              clear hb7 hbx
              go_wp2_with fail
              refine (same_at C (some ⟨g, 0, none⟩) d 64 64 64 T Y _ HTL.out HYL.out (by decide) (by decide) HC.out HA.out).mono ?_
              rintro e w8 ⟨rfl, hb8⟩
              by_cases hTY : T = Y
              · have hsb : sameB T Y = true := decide_eq_true hTY
                rw [hsb]
                clear hsb hTY
                go_wp2_with fail
                refine (stampLives_any _ (ht.below (below_then HBW.out hb8))).mono ?_
                rintro e w9 ⟨rfl, hb9⟩
                go_wp2_with fail
                go_ret
                exact ⟨rfl, below_then (below_then HBW.out hb8) hb9⟩
              · have hsb : sameB T Y = false := decide_eq_false hTY
                have hsb' : sameB T Y' = true := decide_eq_true (HOR.out.resolve_left hTY)
                rw [hsb]
                have HSB := Lib.hid hsb'
                clear hsb hTY hsb'
                go_wp2_with fail
                refine (same_at C (some ⟨g', 0, none⟩) d 64 64 64 T Y' _ HTL.out HYL'.out (by decide) (by decide) (HC.out.below hb8) (HA'.out.below hb8)).mono ?_
                rintro e w9 ⟨rfl, hb9⟩
                rw [HSB.out]
                go_wp2_with fail
                refine (stampLives_any _ (ht.below (below_then (below_then HBW.out hb8) hb9))).mono ?_
                rintro e w10 ⟨rfl, hb10⟩
                go_wp2_with fail
                go_ret
                exact ⟨rfl, below_then (below_then (below_then HBW.out hb8) hb9) hb10⟩
    · refine (stampLay_bad ⟨a', b', i', t', db'⟩ Ar cr w3 hq).mono ?_
      rintro e w4 ⟨rfl, hb⟩
      have HB := Lib.hid (below_then HB.out hb)
      clear hb
      go_wp2_with fail
      refine (stampLives_any _ (ht.below HB.out)).mono ?_
      rintro e w5 ⟨rfl, hb⟩
      go_wp2_with fail
      go_ret
      exact ⟨rfl, below_then HB.out hb⟩
  · refine (stampLay_bad ⟨a, b, i, t, db⟩ Aq cq w1 hp).mono ?_
    rintro e w2 ⟨rfl, hb⟩
    have HQ := Lib.hid (HQ.out.below hb)
    have HB := Lib.hid (below_then HB.out hb)
    clear hb HO
    have k0 := HQ.out.c0
    have k1 := HQ.out.c1
    have k2 := HQ.out.c2
    have k3 := HQ.out.c3
    have k4 := HQ.out.c4
    go_wp2_with fail
    clear k0 k1 k2 k3 k4
    refine (mine_at a' b' i' t' da' db' A' _ c' _ rfl hc' hm' (hr'.below HB.out) HDB'.out).mono ?_
    rintro e w3 ⟨Ar, cr, rfl, hor, hb⟩
    have HB := Lib.hid (below_then HB.out hb)
    have HO := Lib.hid hor
    clear hb hor
    go_wp2_with fail
    refine (stampLay_sum ⟨a', b', i', t', db'⟩ Ar cr w3 (Bs.of_own HO.out) (ht.below HB.out)).mono ?_
    rintro e w4 ⟨B, nn, d, x, rfl, hb⟩
    have HB := Lib.hid (below_then HB.out hb)
    clear hb
    go_wp2_with fail
    refine (stampLives_any _ (ht.below HB.out)).mono ?_
    rintro e w5 ⟨rfl, hb⟩
    go_wp2_with fail
    go_ret
    exact ⟨rfl, below_then HB.out hb⟩
end Go.Proofs.YtpejfngkdkkfnaaDoor
