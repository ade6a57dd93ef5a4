/- The contracts of a disk: Flush. -/
import Derived.Test.YtckihiiimomgfaaDisk5
namespace Go.Proofs.Ytckihiiimomgfaa
open Go.RowKit DiskMath
theorem wcells_length (ws : List (Nat × List UInt8)) (h : ∀ x ∈ ws, x.2.length = 64) : (wcells ws).length = 65 * ws.length := by
  induction ws with
  | nil => rfl
  | cons x ws ih =>
    have h1 := h x (by simp)
    have h2 := ih (fun y hy => h y (by simp [hy]))
    unfold wcells at h2 ⊢
    rw [List.flatMap_cons, List.length_append, List.length_cons, bvs_length, h1, h2, List.length_cons]
    omega
theorem wcells_at (ws : List (Nat × List UInt8)) (h : ∀ x ∈ ws, x.2.length = 64) (k i : Nat) (b : List UInt8) (hk : ws[k]? = some (i, b)) : ((wcells ws).drop (k * 65)).take 65 = .int .i64 (i : Int) :: bvs b := by
  induction ws generalizing k with
  | nil => simp at hk
  | cons x ws ih =>
    have h1 := h x (by simp)
    have e : wcells (x :: ws) = (.int .i64 (x.1 : Int) :: bvs x.2) ++ wcells ws := by simp [wcells]
    cases k with
    | zero =>
      simp at hk
      subst hk
      rw [e, Nat.zero_mul, List.drop_zero, List.take_append, List.take_of_length_le (by simp [bvs_length, h1])]
      simp [bvs_length, h1]
    | succ k =>
      rw [e, List.drop_append, List.drop_of_length_le (by simp [bvs_length, h1]; omega), List.nil_append, List.length_cons, bvs_length, h1, show (k + 1) * 65 - (64 + 1) = k * 65 by omega]
      exact ih (fun y hy => h y (by simp [hy])) k (by simpa using hk)
/-- a place among the disk's waiting writes -/
theorem DiskB.wait {w : World} {p gf gm n : Nat} {vw : Value} {d : Dk} (h : DiskB w p gf gm n vw d) {k i : Nat} {b : List UInt8} (hk : d.waits[k]? = some (i, b)) :
    ∃ g c, vw = .slice (some ⟨g, 0, none⟩) d.waits.length c ∧ d.waits.length ≤ c ∧ g < w.heap.size ∧ w.rangeAt g (k * 65) (.int .i64 (i : Int) :: bvs b) := by
  have hlt : k < d.waits.length := (List.getElem?_eq_some_iff.1 hk).1
  have hce : ∀ g, _ := fun g => h.waits.cells (g := g)
  rcases h.waits.2 with ⟨_, h0⟩ | ⟨g, cap, cur, rfl, hb, hg, hn, _⟩
  · omega
  · refine ⟨g, cap, rfl, hn, heap_lt hg, fun j v hj => ?_⟩
    have hjl : j < 65 := by
      have := (List.getElem?_eq_some_iff.1 hj).1
      rw [List.length_cons, bvs_length, (h.wsec _ (List.mem_of_getElem? hk)).2] at this
      exact this
    have e := wcells_at d.waits (fun x hx => (h.wsec x hx).2) k i b hk
    rw [← e, List.getElem?_take_of_lt hjl, List.getElem?_drop] at hj
    have := hce g rfl _ v hj
    rwa [Addr.add_lit, Nat.zero_add] at this
theorem info_write_zero : ∃ Z : List Value, Z.length = 65 ∧ ∀ w : World, (zeroValue 68).run Try.prog w = .ok (.agg Z.toArray) w := ⟨.int .i64 0 :: bvs (List.replicate 64 0), rfl, fun w => by kernel_rfl⟩
def sets (f : List Sector) (ws : List (Nat × Sector)) : List Sector := ws.foldl (fun f x => f.set x.1 x.2) f
theorem sets_length (ws : List (Nat × Sector)) (f : List Sector) : (sets f ws).length = f.length := by
  unfold sets
  induction ws generalizing f with
  | nil => rfl
  | cons x ws ih => rw [List.foldl_cons, ih]; simp
theorem sets_sec (ws : List (Nat × Sector)) (f : List Sector) (h : ∀ s ∈ f, s.length = 64) (hw : ∀ x ∈ ws, x.2.length = 64) : ∀ s ∈ sets f ws, s.length = 64 := by
  unfold sets
  induction ws generalizing f with
  | nil => exact h
  | cons x ws ih =>
    rw [List.foldl_cons]
    refine ih _ (fun s hs => ?_) (fun y hy => hw y (by simp [hy]))
    rcases List.mem_or_eq_of_mem_set hs with h1 | rfl
    · exact h s h1
    · exact hw x (by simp)
theorem sets_snoc (ws : List (Nat × Sector)) (f : List Sector) (x : Nat × Sector) : sets f (ws ++ [x]) = (sets f ws).set x.1 x.2 := by simp [sets]
/-- a sector is stored among the fast ones -/
theorem DiskB.setFast {w : World} {p gf gm n : Nat} {vw : Value} {d : Dk} (h : DiskB w p gf gm n vw d) (i : Nat) (b : List UInt8) (hi : i < n) (hb : b.length = 64) : DiskB (w.setCells gf (64 * i) (bvs b)) p gf gm n vw { d with fast := d.fast.set i b } := by
  obtain ⟨n1, n2, n3, n4⟩ := h.ne
  have hk := setCells_keep gf (bvs b) (64 * i) w
  have hl := h.len
  have hr := h.fast.store (64 * i) (bvs b) (by rw [bvs_length, hb, secs_length h.sec]; omega)
  rw [flat_set h.sec (by omega) hb] at hr
  refine ⟨hk.heap h.blk (fun e => n1 e), hr, h.map.kept hk (fun e => n3 e.symm), hk.own h.waits (fun g hg e => (n4 g hg).2.1 e), by rw [List.length_set]; exact hl, h.pos, h.max, fun s hs => ?_, h.wsec, h.few, h.arm⟩
  rcases List.mem_or_eq_of_mem_set hs with h1 | rfl
  · exact h.sec s h1
  · exact hb
def FlRel (w : World) (F : Nat → Prop) (p gf gm n : Nat) (vw : Value) (d : Dk) (i : Value) (wr : World) : Prop :=
  ∃ k : Nat, k ≤ d.waits.length ∧ i = .int .i64 (k : Int) ∧ DiskB wr p gf gm n vw { d with fast := sets d.fast (d.waits.take k) } ∧ Kept F w wr
set_option maxRecDepth 100000 in
set_option maxHeartbeats 1000000 in
theorem diskFlush_any (w : World) (F : Nat → Prop) (p : Nat) (d : Dk) (h : DiskAt w F p d) :
    Calls Try.prog 10 #[.pointer (some ⟨p, 0, none⟩)] w fun e w' => e = .returned (.int .i64 ((flush d).2 : Nat)) ∧ DiskAt w' F p (flush d).1 ∧ Kept F w w' := by
  obtain ⟨gf, gm, n, vw, hb, q1, q2, q3, q4⟩ := h
  have hfl : flush d = if (DiskMath.step d).2 then ({ (DiskMath.step d).1 with fast := view d, waits := [] }, 0) else ((DiskMath.step d).1, 7) := rfl
  have HW := Lib.hid hfl
  have HH := Lib.hid hb
  have hview : view d = sets (DiskMath.step d).1.fast (DiskMath.step d).1.waits := by rw [(step_fst d).1, (step_fst d).2.1]; rfl
  have HV := Lib.hid hview
  have HQ4 := Lib.hid q4
  clear hb hfl hview q4
  go_enter Try.func10, Try.ntmps10
  go_wp2_with fail
  refine (diskOk_any w p gf gm n _ d HH.out).mono ?_
  rintro e w' ⟨rfl, rfl⟩
  go_wp2_with fail
  refine (diskStep_any w F p gf gm n vw d HH.out q1).mono ?_
  rintro e w1 ⟨rfl, hb1, hk1, hs1⟩
  have HB1 := Lib.hid hb1
  have HK1 := Lib.hid hk1
  have HS1 := Lib.hid hs1
  obtain ⟨_, _, c2, _⟩ := hb1.cells
  clear hb1 hk1 hs1
  by_cases hd : (DiskMath.step d).2 = true
  · have HD := Lib.hid hd
    rw [if_pos hd]
    clear hd
    obtain ⟨A, c, rfl, hnc⟩ := own_shape HB1.out.waits
    obtain ⟨d1, hd1⟩ : ∃ d1, (DiskMath.step d).1 = d1 := ⟨_, rfl⟩
    rw [hd1] at HB1 HV c2 hnc
    have HD1 := Lib.hid hd1
    have hfew := HB1.out.few
    obtain ⟨m, hm⟩ : ∃ m, d1.waits.length = m := ⟨_, rfl⟩
    rw [hm] at HB1 c2 hnc hfew
    rw [hd1, hm] at HQ4
    have HM := Lib.hid hm
    clear hd1 hm HH
    go_wp2_with fail
    go_loopw [19] (fun i wr => FlRel w F p gf gm n (.slice A m c) d1 i wr) (fun i _ => m - (intOf i).toNat)
    case atStart => exact ⟨0, Nat.zero_le _, rfl, HB1.out, HK1.out⟩
    case round =>
      obtain ⟨k, hk, rfl, hbk, hkk⟩ := hrel
      obtain ⟨wo, rfl⟩ : ∃ wo : World, wo = wr := ⟨_, rfl⟩
      rw [HM.out] at hk
      by_cases hlt : k < m
      · obtain ⟨⟨i, b⟩, hx⟩ : ∃ x, d1.waits[k]? = some x := ⟨_, List.getElem?_eq_getElem (by have := HM.out; omega)⟩
        obtain ⟨g, c', hv, _, hg, hrg⟩ := hbk.wait hx
        obtain ⟨hin, hl⟩ := hbk.wsec (i, b) (List.mem_of_getElem? hx)
        injection hv with hv1 hv2 hv3
        subst hv1 hv3
        clear hv2
        have HBK := Lib.hid hbk
        have HKK := Lib.hid hkk
        have HX := Lib.hid hx
        have HRG := Lib.hid hrg
        have HL := Lib.hid hl
        obtain ⟨Z, hZl, hzv⟩ := info_write_zero
        have HZL := Lib.hid hZl
        have hus := Try.underlying68
        have hib : (Try.prog.info? 68).map (·.size) = some (Value.int .i64 (i : Int) :: bvs b).length := by rw [List.length_cons, bvs_length, hl]; kernel_rfl
        have h1 : ∀ u ∈ Value.int .i64 (i : Int) :: bvs b, u.oneCell' = true := List.forall_mem_cons.2 ⟨rfl, bvs_one b⟩
        have HONE := Lib.hid h1
        clear hbk hkk hx hrg hl hZl h1
        go_wp2_with (first
          | refine wpList_load_mid rfl 68 (.tmp 21) rfl g (k * 65) rfl (.int .i64 (i : Int) :: bvs b) _ HRG.out hus rfl hib ?_
          | refine wpList_store_new rfl 68 (.tmp 5) (.tmp 22) rfl rfl (.int .i64 (i : Int) :: bvs b) rfl rfl (by show Z.toArray.size = _; rw [List.size_toArray, HZL.out, List.length_cons, bvs_length, HL.out]) hib HONE.out ?_; intro w2 hr2 hb2 hs2; have HR2 := Lib.hid hr2; have HB2 := Lib.hid hb2; clear hr2 hb2)
        have hd2 := HBK.out.kept (Kept.of_below (F := fun _ => False) HB2.out) (fun h => h) (fun h => h) (fun h => h) (fun _ _ h => h)
        have b0 : w2.cell? ⟨p, 0, none⟩ = some (.slice (some ⟨gf, 0, none⟩) n n) := hd2.cells.1
        have b1 : w2.cell? ⟨wo.heap.size, 0, none⟩ = some (.int .i64 (i : Int)) := by rw [HR2.out.cell]; rfl
        have b2 : w2.rangeAt wo.heap.size 1 (bvs b) := by
          have := HR2.out.range 1 64
          rw [List.drop_succ_cons, List.drop_zero, List.take_of_length_le (by rw [bvs_length, HL.out]; exact Nat.le_refl _)] at this
          exact this
        have HD2 := Lib.hid hd2
        have hin1 : (i : Int) < (n : Int) := by omega
        have hin0 : (0 : Int) ≤ (i : Int) := by omega
        have hu2 := Try.underlying66
        have hi2 : (Try.prog.info? 66).map (·.size) = some (bvs b).length := by rw [bvs_length, HL.out]; kernel_rfl
        clear hd2 hus hib hzv
        refine wp_region_headS 9 9 (fun w' => (w'.cell? ⟨p, 0, none⟩ = some (.slice (some ⟨gf, 0, none⟩) n n) ∧ w'.cell? ⟨wo.heap.size, 0, none⟩ = some (.int .i64 (i : Int))) ∧ w'.rangeAt wo.heap.size 1 (bvs b)) (by kernel_rfl) (by kernel_rfl) (by rintro _ ⟨_, _⟩ ⟨_, _⟩ _ rfl h; exact h) ⟨⟨b0, b1⟩, b2⟩ ?_
        iterate 7 (refine wpHeadS_step (v := ?_) (Or.inl ⟨by rfl, ?_⟩) ?_; rotate_left; · intro w' hSw; obtain ⟨⟨s1, s2⟩, -⟩ := hSw; go_simp; (try with_reducible rfl))
        simp only [Act.put, List.setIfInBounds_toArray, List.set_cons_zero, List.set_cons_succ]
        refine wpHeadS_step (yieldsIf_load_mid (by rfl) 66 (.tmp 29) rfl wo.heap.size 1 (by rfl) (bvs b) _ (fun w' hS => hS.2) hu2 rfl hi2) ?_
        simp only [Act.put, List.setIfInBounds_toArray, List.set_cons_zero, List.set_cons_succ]
        refine wpHeadS_step (v := ?_) (Or.inl ⟨by rfl, ?_⟩) ?_
        rotate_left
        · intro w' hSw; clear hSw; go_simp; (try with_reducible rfl)
        refine wpHeadS_nil (wpTailS_end (by decide) ?_)
        simp only [Act.put, List.setIfInBounds_toArray, List.set_cons_zero, List.set_cons_succ]
        have hd5 := ((HD2.out.kept (Kept.refl (fun _ => False) w2).drew (fun h => h) (fun h => h) (fun h => h) (fun _ _ h => h)).setFast i b hin HL.out)
        rw [Nat.mul_comm] at hd5
        have HD5 := Lib.hid hd5
        have hth : w2.drew.there gf (i * 64) (bvs b).toArray.size := by
          rw [List.size_toArray, bvs_length, HL.out]
          exact RowV.there (w := w2.drew) HD2.out.fast _ _ (by
            have h1 := HD2.out.len
            rw [secs_length HD2.out.sec, h1]; omega)
        clear hd5
        refine wpList_store_mid rfl 66 (.tmp 31) (.tmp 30) rfl gf (i * 64) (bvs b).toArray rfl rfl hth (by rw [List.size_toArray]; exact hi2) (all_oneCell_toArray (bvs_one b)) ?_
        obtain ⟨w5, hw5⟩ : ∃ w5, w2.drew.setCells gf (i * 64) (bvs b) = w5 := ⟨_, rfl⟩
        have hk5 : Kept F wo w5 := by
          have k1 : Kept F wo w2.drew := ((Kept.refl F wo).then_below HB2.out).drew
          rw [← hw5]
          exact k1.trans (setCells_keep gf (bvs b) (i * 64) w2.drew) (fun k hk => by subst hk; exact .inl q2)
        have hk6 := HKK.out.trans hk5 (fun k hk => .inl hk)
        have HK6 := Lib.hid hk6
        rw [show (bvs b).toArray.toList = bvs b from rfl, hw5]
        rw [hw5] at HD5
        clear hth hw5 hk5 hk6
        go_wp2_with fail
        go_roundw
        case rel =>
          refine ⟨k + 1, by have := HM.out; omega, by go_num, ?_, HK6.out⟩
          have e : d1.waits.take (k + 1) = d1.waits.take k ++ [(i, b)] := by rw [List.take_add_one, HX.out]; rfl
          rw [e, sets_snoc]
          exact HD5.out
        case measure => simp [intOf]; omega
      · obtain rfl : k = m := by omega
        have hbs : DiskB wo p gf gm n (.slice A k c) { d1 with fast := view d } := by
          have h := hbk
          rw [List.take_of_length_le (by have := HM.out; omega), ← HV.out] at h
          exact h
        have HBS := Lib.hid hbs
        have HKK := Lib.hid hkk
        clear hbk hbs hkk hlt hk
        go_wp2_with fail
        refine (diskSettle_any wo F p gf gm n _ _ HBS.out q1 q3).mono ?_
        rintro e w6 ⟨rfl, hb6, hk6, hs6⟩
        have HB6 := Lib.hid hb6
        have HK6 := Lib.hid (HKK.out.trans hk6 (fun k hk => .inl hk))
        clear hb6 hk6 hs6
        go_wp2_with fail
        go_ret
        rw [HW.out, HD.out, HD1.out]
        exact ⟨rfl, ⟨gf, gm, n, _, HB6.out, q1, q2, q3, fun g hg => by simp [Value.ownBlock] at hg⟩, HK6.out⟩
  · have hd' : (DiskMath.step d).2 = false := by simpa using hd
    have HD := Lib.hid hd'
    rw [hd']
    clear hd hd'
    go_wp2_with fail
    go_ret
    rw [HW.out, HD.out]
    exact ⟨rfl, ⟨gf, gm, n, vw, HB1.out, q1, q2, q3, HQ4.out⟩, HK1.out⟩
end Go.Proofs.Ytckihiiimomgfaa
