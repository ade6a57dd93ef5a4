/- The contracts of a disk: Crash. -/
import Derived.Test.YtckihiiimomgfaaDisk6
namespace Go.Proofs.Ytckihiiimomgfaa
open Go.RowKit DiskMath
theorem torn_snoc (ws : List (Nat × Sector)) (f : List Sector) (w : Nat × Sector) (l : List Int) (z : Int) (h : l[ws.length]? = some z) : torn f (ws ++ [w]) l = tearAt (torn f ws l) w.1 (clamp z) w.2 := by
  induction ws generalizing f l with
  | nil =>
    cases l with
    | nil => simp at h
    | cons a l => simp at h; subst h; simp [torn]
  | cons x ws ih =>
    cases l with
    | nil => simp at h
    | cons a l =>
      simp only [List.cons_append, torn]
      exact ih _ l (by simpa using h)
theorem torn_take (ws : List (Nat × Sector)) (f : List Sector) (l : List Int) (k : Nat) (h : l.length ≤ k) : torn f (ws.take k) l = torn f ws l := by
  induction ws generalizing f l k with
  | nil => simp
  | cons x ws ih =>
    cases l with
    | nil => cases k <;> simp [torn]
    | cons a l =>
      cases k with
      | zero => simp at h
      | succ k =>
        simp only [List.take_succ_cons, torn]
        exact ih _ l k (by simpa using h)
theorem clamp_le (z : Int) : clamp z ≤ 64 := by unfold clamp; omega
theorem tear_sec {i n : Nat} {f : List Sector} {b : Sector} (hf : ∀ s ∈ f, s.length = 64) (hb : b.length = 64) : ∀ s ∈ tearAt f i n b, s.length = 64 := fun s hs => by
  unfold tearAt at hs
  by_cases hi : i < f.length
  · rcases List.mem_or_eq_of_mem_set hs with h1 | rfl
    · exact hf s h1
    · have e : f.getD i [] = f[i] := by rw [List.getD_eq_getElem?_getD, List.getElem?_eq_getElem hi]; rfl
      have := hf f[i] (List.getElem_mem _)
      rw [StampMath.tear_length (by rw [e]; omega)]
      exact hb
  · rw [List.set_eq_of_length_le (by omega)] at hs
    exact hf s hs
/-- a sector's first bytes are stored among the fast ones -/
theorem DiskB.tearFast {w w' : World} {p gf gm n : Nat} {vw : Value} {d : Dk} (h : DiskB w p gf gm n vw d) (i m : Nat) (b : List UInt8) (hi : i < n) (hb : b.length = 64) (hm : m ≤ 64) (hr : RowV w' gf 66 (spliceV (flat d.fast) (64 * i) (bvs (b.take m)))) (hk : Kept (fun k => k = gf) w w') : DiskB w' p gf gm n vw { d with fast := tearAt d.fast i m b } := by
  obtain ⟨n1, n2, n3, n4⟩ := h.ne
  have hl := h.len
  have hil : i < d.fast.length := by omega
  rw [flat_part h.sec (List.getElem?_eq_getElem hil) b m hb hm] at hr
  have e : tearAt d.fast i m b = d.fast.set i (b.take m ++ (d.fast[i]).drop m) := by
    unfold tearAt StampMath.tear
    rw [List.getD_eq_getElem?_getD, List.getElem?_eq_getElem hil]
    rfl
  refine ⟨hk.heap h.blk (fun e => n1 e), by rw [e]; exact hr, h.map.kept hk (fun e => n3 e.symm), hk.own h.waits (fun g hg e => (n4 g hg).2.1 e), by rw [e, List.length_set]; exact hl, h.pos, h.max, tear_sec h.sec hb, h.wsec, h.few, h.arm⟩
def CrRel (w : World) (F : Nat → Prop) (p gf gm n : Nat) (vw : Value) (d : Dk) (l : List Int) (i : Value) (wr : World) : Prop :=
  ∃ k : Nat, k ≤ d.waits.length ∧ k ≤ l.length ∧ i = .int .i64 (k : Int) ∧ DiskB wr p gf gm n vw { d with fast := torn d.fast (d.waits.take k) l } ∧ Kept F w wr
set_option maxRecDepth 100000 in
set_option maxHeartbeats 1000000 in
theorem diskCrash_any (w : World) (F : Nat → Prop) (p : Nat) (d : Dk) (A0 : Option Addr) (c0 : Nat) (l : List Int) (h : DiskAt w F p d) (_hlc : l.length ≤ c0) (hlm : c0 ≤ maxLen) (hr : Ns w A0 l) (hA : ∀ ad, A0 = some ad → l ≠ [] → ¬ F ad.block) :
    Calls Try.prog 14 #[.pointer (some ⟨p, 0, none⟩), .slice A0 l.length c0] w fun e w' => e = .returned (.tuple #[]) ∧ DiskAt w' F p (crash d l) ∧ Kept F w w' := by
  obtain ⟨gf, gm, n, vw, hb, q1, q2, q3, q4⟩ := h
  have HQ4 := Lib.hid q4
  obtain ⟨_, _, c2, _⟩ := hb.cells
  obtain ⟨A, c, rfl, hnc⟩ := own_shape hb.waits
  have hfew := hb.few
  obtain ⟨m, hm⟩ : ∃ m, d.waits.length = m := ⟨_, rfl⟩
  obtain ⟨nl, hnl⟩ : ∃ nl, l.length = nl := ⟨_, rfl⟩
  rw [hm] at hnc c2 hb HQ4 hfew
  rw [hnl] at _hlc ⊢
  have HM := Lib.hid hm
  have HNL := Lib.hid hnl
  have HH := Lib.hid hb
  have hcm : c0 ≤ 9223372036854775807 := by unfold maxLen at hlm; omega
  have HA := Lib.hid hA
  clear hb q4 hm hnl hlm hA
  go_enter Try.func14, Try.ntmps14
  go_wp2_with fail
  refine (diskOk_any w p gf gm n _ d HH.out).mono ?_
  rintro e w' ⟨rfl, rfl⟩
  go_wp2_with fail
  go_loopw [14] (fun i wr => CrRel w F p gf gm n (.slice A m c) d l i wr) (fun i _ => m - (intOf i).toNat)
  case atStart => exact ⟨0, Nat.zero_le _, Nat.zero_le _, rfl, HH.out, Kept.refl _ _⟩
  case round =>
    obtain ⟨k, hk, hkl, rfl, hbk, hkk⟩ := hrel
    obtain ⟨wo, rfl⟩ : ∃ wo : World, wo = wr := ⟨_, rfl⟩
    rw [HM.out] at hk
    rw [HNL.out] at hkl
    by_cases hlt : k < m
    · obtain ⟨⟨i, b⟩, hx⟩ : ∃ x, d.waits[k]? = some x := ⟨_, List.getElem?_eq_getElem (by have := HM.out; omega)⟩
      obtain ⟨g, c', hv, _, hg, hrg⟩ := hbk.wait hx
      obtain ⟨hin, hl⟩ := hbk.wsec (i, b) (List.mem_of_getElem? hx)
      injection hv with hv1 hv2 hv3
      subst hv1 hv3
      clear hv2
      have HBK := Lib.hid hbk
      have HKK := Lib.hid hkk
      have HX := Lib.hid hx
      have HRG := Lib.hid hrg
      have HL := Lib.hid hl
      obtain ⟨Z, hZl, hzv⟩ := info_write_zero
      have HZL := Lib.hid hZl
      have hus := Try.underlying68
      have hib : (Try.prog.info? 68).map (·.size) = some (Value.int .i64 (i : Int) :: bvs b).length := by rw [List.length_cons, bvs_length, hl]; kernel_rfl
      have h1 : ∀ u ∈ Value.int .i64 (i : Int) :: bvs b, u.oneCell' = true := List.forall_mem_cons.2 ⟨rfl, bvs_one b⟩
      have HONE := Lib.hid h1
      clear hbk hkk hx hrg hl hZl h1
      by_cases hkn : k < nl
      · obtain ⟨z, hz⟩ : ∃ z, l[k]? = some z := ⟨_, List.getElem?_eq_getElem (by have := HNL.out; omega)⟩
        obtain ⟨ad, rfl, had, hcz⟩ := hr k z hz
        have HZ := Lib.hid hz
        clear hz
        go_wp2_with (first
          | refine wpList_load_mid rfl 68 (.tmp 17) rfl g (k * 65) rfl (.int .i64 (i : Int) :: bvs b) _ HRG.out hus rfl hib ?_
          | refine wpList_store_new rfl 68 (.tmp 5) (.tmp 18) rfl rfl (.int .i64 (i : Int) :: bvs b) rfl rfl (by show Z.toArray.size = _; rw [List.size_toArray, HZL.out, List.length_cons, bvs_length, HL.out]) hib HONE.out ?_; intro w2 hr2 hb2 hs2; have HR2 := Lib.hid hr2; have HB2 := Lib.hid hb2; clear hr2 hb2)
        have hd2 := HBK.out.kept (Kept.of_below (F := fun _ => False) HB2.out) (fun h => h) (fun h => h) (fun h => h) (fun _ _ h => h)
        have b0 : w2.cell? ⟨p, 0, none⟩ = some (.slice (some ⟨gf, 0, none⟩) n n) := hd2.cells.1
        have b1 : w2.cell? ⟨wo.heap.size, 0, none⟩ = some (.int .i64 (i : Int)) := by rw [HR2.out.cell]; rfl
        have hczo : w2.cell? (ad.add k) = some (.int .i64 z) := by
          rw [HB2.out.cell (by rw [addr_block]; exact Nat.lt_of_lt_of_le had HKK.out.size), HKK.out.cell (by rw [addr_block]; exact had) (by rw [addr_block]; exact HA.out ad rfl (by intro e; have := HNL.out; rw [e] at this; simp at this; omega))]
          exact hcz
        have hb12 : Bs w2 (some ⟨wo.heap.size, 1, none⟩) b := fun j x hj => by
          refine ⟨_, rfl, by show wo.heap.size < _; omega, ?_⟩
          rw [Addr.add_lit, HR2.out.cell, Nat.add_comm 1 j, List.getElem?_cons_succ]
          exact bvs_get b j x hj
        have HB12 := Lib.hid hb12
        have HD2 := Lib.hid hd2
        have hin1 : (i : Int) < (n : Int) := by omega
        have hin0 : (0 : Int) ≤ (i : Int) := by omega
        have hkn1 : (k : Int) < (nl : Int) := by omega
        have hkn0 : (0 : Int) ≤ (k : Int) := by omega
        have hw1 : IntKind.i64.wrap (k : Int) = (k : Int) := IntWalk.i64_in _ (by omega)
        clear hd2 hus hib hzv hb12 hcz
        refine wp_region_headS 16 17 (fun w' => w'.cell? ⟨p, 0, none⟩ = some (.slice (some ⟨gf, 0, none⟩) n n) ∧ w'.cell? ⟨wo.heap.size, 0, none⟩ = some (.int .i64 (i : Int)) ∧ w'.cell? (ad.add k) = some (.int .i64 z)) (by kernel_rfl) (by kernel_rfl) (by rintro _ ⟨_, _⟩ ⟨_, _⟩ _ rfl h; exact h) ⟨b0, b1, hczo⟩ ?_
        have HS0 := Lib.hid (show _ ∧ _ ∧ _ from ⟨b0, b1, hczo⟩)
        clear b0 b1 hczo
        iterate 14 (refine wpHeadS_step (v := ?_) (Or.inl ⟨by rfl, ?_⟩) ?_; rotate_left; · intro w' hSw; obtain ⟨s1, s2, s3⟩ := hSw; go_simp; (try with_reducible rfl))
        simp only [Act.put, List.setIfInBounds_toArray, List.set_cons_zero, List.set_cons_succ]
        obtain ⟨cl, hcl⟩ : ∃ cl, clamp z = cl := ⟨_, rfl⟩
        have hcl64 : cl ≤ 64 := by rw [← hcl]; exact clamp_le z
        have HCL := Lib.hid hcl
        clear hcl
        refine wpHeadS_step (v := .int .i64 (cl : Int)) (Or.inl ⟨by rfl, ?_⟩) ?_
        · intro w' hSw; clear hSw; go_simp; rw [← HCL.out]; unfold clamp; split <;> split <;> omega
        have hcli : (cl : Int) ≤ 64 := by omega
        have hcl0 : (0 : Int) ≤ (cl : Int) := by omega
        refine wpHeadS_step (v := ?_) (Or.inl ⟨by rfl, ?_⟩) ?_
        rotate_left
        · intro w' hSw; clear hSw; go_simp; (try with_reducible rfl)
        simp only [Act.put, List.setIfInBounds_toArray, List.set_cons_zero, List.set_cons_succ]
        have hlen := HD2.out.len
        have hfl : (flat (torn d.fast (d.waits.take k) l)).length = 64 * n := by rw [secs_length HD2.out.sec]; exact congrArg (64 * ·) hlen
        have htl : (b.take cl).length = cl := by rw [List.length_take, HL.out]; omega
        refine wpHeadS_nil (wpTailS_op (by decide) rfl fun K hK => wp_copy_keep (.tmp 30) (.tmp 38) 23 23 rfl 5 Try.underlying23 (by kernel_rfl) (some ⟨gf, i * 64, none⟩) (some ⟨wo.heap.size, 1, none⟩) 64 64 cl 64 rfl rfl gf (i * 64) (flat (torn d.fast (d.waits.take k) l)) 66 HD2.out.fast (bvs (b.take cl)) ?_ ?_ ?_ (bvs_one _) ?_)
        · rw [bvs_length, htl]; exact (Nat.min_eq_left (by omega)).symm
        · intro _
          refine ⟨rfl, _, rfl, fun j v hj => ?_⟩
          obtain ⟨x, hx, rfl⟩ := bvs_inv hj
          obtain ⟨ad', e, _, hce⟩ := (HB12.out.take cl) j x hx
          injection e with e
          subst e
          exact hce
        · rw [bvs_length, htl, hfl]; omega
        · intro w5 hr5 hk5 hs5
          obtain ⟨n1, n2, n3, n4⟩ := HD2.out.ne
          obtain ⟨b0, b1, hczo⟩ := HS0.out
          have hgfw : gf < wo.heap.size := HBK.out.lt.2.1
          have hadgf : ad.block ≠ gf := fun e => HA.out ad rfl (by intro e; have := HNL.out; rw [e] at this; simp at this; omega) (e ▸ q2)
          refine hK.out _ _ ⟨?_, ?_, ?_⟩ ?_
          · rw [hk5.cell (p := ⟨p, 0, none⟩) (show p < w2.heap.size from cell_lt' b0) n1]; exact b0
          · rw [hk5.cell (p := ⟨wo.heap.size, 0, none⟩) (show wo.heap.size < w2.heap.size from cell_lt' b1) (show ¬ wo.heap.size = gf by omega)]; exact b1
          · rw [hk5.cell (by rw [addr_block]; exact (show ad.block < w2.heap.size by have := cell_lt' hczo; rwa [addr_block] at this)) (by rw [addr_block]; exact hadgf)]; exact hczo
          · have hd2' : DiskB w2.drew p gf gm n (.slice (some ⟨g, 0, none⟩) m c) { d with fast := torn d.fast (d.waits.take k) l } := HD2.out.kept (Kept.refl (fun _ => False) w2).drew (fun h => h) (fun h => h) (fun h => h) (fun _ _ h => h)
            have hd5 := hd2'.tearFast i cl b hin HL.out hcl64 (by rw [Nat.mul_comm]; exact hr5) hk5
            have hkk5 : Kept F wo w5 := ((Kept.refl F wo).then_below HB2.out).drew.trans hk5 (fun k hk => by subst hk; exact .inl q2)
            have HD5 := Lib.hid hd5
            have HK5 := Lib.hid (HKK.out.trans hkk5 (fun k hk => .inl hk))
            clear hd2' hd5 hkk5 hk5 hr5 hs5 n1 n2 n3 n4 b0 b1 hczo hK HS0 HD2 K
            refine wpTailS_end (by decide) ?_
            simp only [Act.put, List.setIfInBounds_toArray, List.set_cons_zero, List.set_cons_succ]
            go_wp2_with fail
            go_roundw
            case rel =>
              refine ⟨k + 1, by have := HM.out; omega, by have := HNL.out; omega, by go_num, ?_, HK5.out⟩
              have e : d.waits.take (k + 1) = d.waits.take k ++ [(i, b)] := by rw [List.take_add_one, HX.out]; rfl
              have hk0 : (d.waits.take k).length = k := by rw [List.length_take]; have := HM.out; omega
              rw [e, torn_snoc _ _ _ _ z (by rw [hk0]; exact HZ.out), HCL.out]
              exact HD5.out
            case measure => simp [intOf]; omega
      · go_wp2_with (first
          | refine wpList_load_mid rfl 68 (.tmp 17) rfl g (k * 65) rfl (.int .i64 (i : Int) :: bvs b) _ HRG.out hus rfl hib ?_
          | refine wpList_store_new rfl 68 (.tmp 5) (.tmp 18) rfl rfl (.int .i64 (i : Int) :: bvs b) rfl rfl (by show Z.toArray.size = _; rw [List.size_toArray, HZL.out, List.length_cons, bvs_length, HL.out]) hib HONE.out ?_; intro w2 hr2 hb2 hs2; have HR2 := Lib.hid hr2; have HB2 := Lib.hid hb2; clear hr2 hb2)
        have hbs : DiskB w2 p gf gm n (.slice (some ⟨g, 0, none⟩) m c) { d with fast := torn d.fast d.waits l } := by
          have h := HBK.out.kept (Kept.of_below (F := fun _ => False) HB2.out) (fun h => h) (fun h => h) (fun h => h) (fun _ _ h => h)
          rw [torn_take _ _ _ _ (by have := HNL.out; omega)] at h
          exact h
        have HBS := Lib.hid hbs
        have HKS := Lib.hid (HKK.out.then_below HB2.out)
        clear hbs
        refine (diskSettle_any w2 F p gf gm n _ _ HBS.out q1 q3).mono ?_
        rintro e w6 ⟨rfl, hb6, hk6, hs6⟩
        obtain ⟨_, _, _, c63, c64, f6⟩ := hb6.cells
        have f63 := f6 3
        have f64 := f6 4
        have HB6 := Lib.hid hb6
        have HK6 := Lib.hid (HKS.out.trans hk6 (fun k hk => .inl hk))
        clear hb6 hk6 hs6 f6
        go_wp2_with fail
        go_end0
        refine ⟨rfl, ⟨gf, gm, n, _, (HB6.out.set3 0 0 rfl (by decide)).set4 false, q1, q2, q3, fun g hg => by simp [Value.ownBlock] at hg⟩, ?_⟩
        exact (HK6.out.trans (DiskB.keptP (F := F) q1) (fun _ h => .inl h)).trans (DiskB.keptP (F := F) q1) (fun _ h => .inl h)
    · obtain rfl : k = m := by omega
      have hbs : DiskB wo p gf gm n (.slice A k c) { d with fast := torn d.fast d.waits l } := by
        have h := hbk
        rw [List.take_of_length_le (by have := HM.out; omega)] at h
        exact h
      have HBS := Lib.hid hbs
      have HKS := Lib.hid hkk
      clear hbk hbs hkk hlt hk
      go_wp2_with fail
      refine (diskSettle_any wo F p gf gm n _ _ HBS.out q1 q3).mono ?_
      rintro e w6 ⟨rfl, hb6, hk6, hs6⟩
      obtain ⟨_, _, _, c63, c64, f6⟩ := hb6.cells
      have f63 := f6 3
      have f64 := f6 4
      have HB6 := Lib.hid hb6
      have HK6 := Lib.hid (HKS.out.trans hk6 (fun k hk => .inl hk))
      clear hb6 hk6 hs6 f6
      go_wp2_with fail
      go_end0
      refine ⟨rfl, ⟨gf, gm, n, _, (HB6.out.set3 0 0 rfl (by decide)).set4 false, q1, q2, q3, fun g hg => by simp [Value.ownBlock] at hg⟩, ?_⟩
      exact (HK6.out.trans (DiskB.keptP (F := F) q1) (fun _ h => .inl h)).trans (DiskB.keptP (F := F) q1) (fun _ h => .inl h)
end Go.Proofs.Ytckihiiimomgfaa
