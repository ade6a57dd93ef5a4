/- The contract of the document's Save. -/
import Derived.Test.YtckihiiimomgfaaDoorRefSlot2
import Derived.Test.YtckihiiimomgfaaDoorRefSplit
import Derived.Test.YtckihiiimomgfaaDoorStampRefLay
import Derived.Test.YtckihiiimomgfaaDoorRefDisk5
import Derived.Test.YtckihiiimomgfaaDoorSlot6
namespace Go.Proofs.YtckihiiimomgfaaDoor
open Go.RowKit DiskMath
def RSavPost (G : Nat → Prop) (sp p fr c : Nat) (r : SlotMath.Sl × Dk × Nat) (w : World) (e : Ending) (w' : World) : Prop :=
  e = .returned (.int .i64 (r.2.2 : Nat)) ∧ RSlotB w' sp p fr r.1 ∧ (∃ c', c' ≤ c + 2000 ∧ RDiskAt w' (fun x => G x ∨ w.heap.size ≤ x) p r.2.1 c') ∧ Kept (fun x => G x ∨ x = sp) w w'
theorem RSavPost.same {G : Nat → Prop} {sp p fr c : Nat} {s : SlotMath.Sl} {d : Dk} {k : Nat} {w w' : World} {e : Ending} (he : e = .returned (.int .i64 (k : Nat))) (hl : RSlotB w sp p fr s) (hd : RDiskAt w G p d c) (hb : Below w.heap.size w w') : RSavPost G sp p fr c (s, d, k) w e w' :=
  ⟨he, hl.below hb, ⟨c, by omega, (hd.below hb).mono (fun _ h => .inl h)⟩, Kept.of_below hb⟩
/-- behind so many parts, all written, or one refused -/
def RvRel (W : World) (G : Nat → Prop) (sp p fr : Nat) (s : SlotMath.Sl) (d : Dk) (c at_ : Nat) (L : List StampMath.Part) (i : Value) (wr : World) : Prop :=
  ∃ (k er ck : Nat) (dk : Dk), k ≤ L.length ∧ i = .int .i64 (k : Int) ∧ ((er = 0 ∧ WalMath.putParts d at_ 0 L = WalMath.putParts dk at_ k (L.drop k)) ∨ (er ≠ 0 ∧ WalMath.putParts d at_ 0 L = (dk, er))) ∧ RSlotB wr sp p fr { s with err := er } ∧
    RDiskAt wr (fun x => G x ∨ W.heap.size ≤ x) p dk ck ∧ dk.fast.length = d.fast.length ∧ dk.waits.length ≤ d.waits.length + k ∧ ck ≤ c + k ∧ Kept (fun x => G x ∨ x = sp) W wr
def RvAt (w4 : World) (at_ : Nat) (v : Value) (wx : World) : Prop := v = .int .i64 (at_ : Int) ∧ (wx = w4 ∨ wx = w4.drew)
set_option maxRecDepth 100000 in
set_option maxHeartbeats 8000000 in
theorem refSave_any (w : World) (G : Nat → Prop) (sp p fr : Nat) (s : SlotMath.Sl) (d : Dk) (c : Nat) (A : Option Addr) (cb : Nat) (b : List UInt8) (hs : RSlotB w sp p fr s) (hd : RDiskAt w G p d c) (hG : ¬ G sp)
    (hbs : Bs w A b) (hb47 : b.length ≤ 140737488355328) (hla : s.last ≤ 1) (hf : fr + 2 * s.size ≤ d.fast.length) (hd16 : d.fast.length ≤ 65536) (hep : s.epoch ≤ 4294967295) (hsq : s.seq ≤ 4294967295 + 65536) (hnu : s.number ≤ 4611686018427387904) (hw : d.waits.length < 98000) (hc : c ≤ 900000) :
    Calls Tryd.prog 24 #[.pointer (some ⟨sp, 0, none⟩), .slice A b.length cb] w (RSavPost G sp p fr c (SlotMath.save slEnc fr s d b) w) := by
  obtain ⟨size, ep, sq, nu, la, er0⟩ := s
  simp only at hla hf hep hsq hnu
  obtain ⟨c0, c1, c2, c3, c4, c5, c6, c7, cf⟩ := hs.cells
  simp only at c2 c3 c4 c5 c6 c7
  obtain ⟨nb, hnb⟩ : ∃ nb, b.length = nb := ⟨_, rfl⟩
  have HS := Lib.hid hs
  have HD := Lib.hid hd
  have HBS := Lib.hid hbs
  have HG := Lib.hid hG
  have hlt := hs.lt
  rw [hnb] at hb47 ⊢
  have HNB := Lib.hid hnb
  clear hd hbs hG hnb hs cf
  by_cases h1 : er0 = 0
  · have n1 : ((er0 : Int) != 0) = false := by rw [bne_eq_false_iff_eq]; omega
    have HER := Lib.hid h1
    clear h1
    by_cases h2 : 65520 < nb
    · have e : SlotMath.save slEnc fr ⟨size, ep, sq, nu, la, er0⟩ d b = (⟨size, ep, sq, nu, la, er0⟩, d, 5) := by
        unfold SlotMath.save
        rw [if_neg (by have := HER.out; simp only; omega), HNB.out, if_pos h2]
      have HE := Lib.hid e
      clear e
      go_enter Tryd.func24, Tryd.ntmps24
      go_wp2_with fail
      go_ret
      rw [HE.out]
      exact RSavPost.same rfl HS.out HD.out (Below.refl _ _)
    · by_cases h3 : 4611686018427387904 ≤ nu ∨ 4294967295 < sq
      · have e : SlotMath.save slEnc fr ⟨size, ep, sq, nu, la, er0⟩ d b = (⟨size, ep, sq, nu, la, er0⟩, d, 8) := by
          unfold SlotMath.save
          rw [if_neg (by have := HER.out; simp only; omega), HNB.out, if_neg h2, if_pos h3]
        have HE := Lib.hid e
        clear e
        by_cases h4 : 4611686018427387904 ≤ nu
        · have t1 : decide ((4611686018427387904 : Int) ≤ (nu : Int)) = true := decide_eq_true (by omega)
          have t2 : (4611686018427387904 : Int) ≤ (nu : Int) := by omega
          clear h3 h4
          go_enter Tryd.func24, Tryd.ntmps24
          go_wp2_with fail
          go_ret
          rw [HE.out]
          exact RSavPost.same rfl HS.out HD.out (Below.refl _ _)
        · have t1 : decide ((4611686018427387904 : Int) ≤ (nu : Int)) = false := decide_eq_false (by omega)
          have t2 : ¬ (4611686018427387904 : Int) ≤ (nu : Int) := by omega
          have t3 : (4294967295 : Int) < (sq : Int) := by omega
          clear h3 h4
          go_enter Tryd.func24, Tryd.ntmps24
          go_wp2_with fail
          go_ret
          rw [HE.out]
          exact RSavPost.same rfl HS.out HD.out (Below.refl _ _)
      · have hnu' : nu < 4611686018427387904 := by omega
        have hsq' : sq ≤ 4294967295 := by omega
        obtain ⟨R, hR⟩ : ∃ R, slEnc (nu + 1) b = R := ⟨_, rfl⟩
        obtain ⟨nr, hnr⟩ : ∃ nr, R.length = nr := ⟨_, rfl⟩
        have hnr2 : nr ≤ 65536 := by rw [← hnr, ← hR]; exact slEnc_length _ _ (by omega) (by rw [HNB.out]; omega)
        obtain ⟨T, hT⟩ : ∃ T, StampMath.totalOf nr = T := ⟨_, rfl⟩
        have hT1 : 1 ≤ T := by rw [← hT]; exact StampMath.totalOf_pos _
        have hT2 : T ≤ 1725 := by rw [← hT]; unfold StampMath.totalOf; omega
        obtain ⟨at_, hat⟩ : ∃ at_, fr + (1 - la) * size = at_ := ⟨_, rfl⟩
        have hat0 : la = 0 → at_ = fr + size := fun h => by rw [← hat, h]; omega
        have hat1 : la ≠ 0 → at_ = fr := fun h => by
          have : la = 1 := by omega
          rw [← hat, this]; omega
        have hatf : at_ + size ≤ d.fast.length := by
          by_cases h : la = 0
          · have := hat0 h; omega
          · have := hat1 h; omega
        have hap : SlotMath.save slEnc fr ⟨size, ep, sq, nu, la, er0⟩ d b = if 4294967295 < sq + (T - 1) then (⟨size, ep, sq, nu, la, er0⟩, d, 8) else if size < T then (⟨size, ep, sq, nu, la, er0⟩, d, 8)
            else if (WalMath.put d at_ (StampMath.parts ep sq R)).2 = 0 then (⟨size, ep, sq + T, nu + 1, 1 - la, er0⟩, (WalMath.put d at_ (StampMath.parts ep sq R)).1, 0)
            else (⟨size, ep, sq + T, nu, la, (WalMath.put d at_ (StampMath.parts ep sq R)).2⟩, (WalMath.put d at_ (StampMath.parts ep sq R)).1, (WalMath.put d at_ (StampMath.parts ep sq R)).2) := by
          unfold SlotMath.save
          rw [if_neg (by have := HER.out; simp only; omega), HNB.out, if_neg h2, if_neg h3]
          simp only [hR, hnr, hT, hat]
        have hpl : (StampMath.parts ep sq R).length = T := by rw [StampMath.parts_length, hnr, hT]
        have HTD := Lib.hid hT
        have HAP := Lib.hid hap
        have HPL := Lib.hid hpl
        have HNR := Lib.hid hnr
        have HR := Lib.hid hR
        have HAT := Lib.hid (show _ ∧ _ from ⟨hat0, hat1⟩)
        have HSK := Lib.hid (show ∀ w', Below w.heap.size w w' → RSlotB w' sp p fr ⟨size, ep, sq, nu, la, er0⟩ from fun w' hb => HS.out.below hb)
        have t0 : ¬ (65520 : Int) < (nb : Int) := by omega
        have t1 : decide ((4611686018427387904 : Int) ≤ (nu : Int)) = false := decide_eq_false (by omega)
        have t2 : ¬ (4611686018427387904 : Int) ≤ (nu : Int) := by omega
        have t3 : ¬ (4294967295 : Int) < (sq : Int) := by omega
        have s1 : IntKind.i64.wrap ((nu : Int) + 1) = (nu : Int) + 1 := by rw [IntKind.wrap_i64]; omega
        have s2 : IntKind.u64.wrap ((nu : Int) + 1) = (nu : Int) + 1 := by rw [IntKind.wrap_u64]; omega
        have hpu := refPut_any (nu + 1) w (by omega)
        rw [Int.natCast_add] at hpu
        have hby := fun w' (hb : Below w.heap.size w w') => refBytes_any A cb b w' (by rw [HNB.out]; omega) (HBS.out.below hb)
        simp only [HNB.out] at hby
        have HPU := Lib.hid hpu
        have HBY := Lib.hid hby
        obtain ⟨i0, hi0, hz0, hz1, hz2⟩ := info_parts info_u8
        clear hpl hT hap hR hnr hat hat0 hat1 hpu hby h2 h3
        go_enter Tryd.func24, Tryd.ntmps24
        go_wp2_with fail
        refine HPU.out.mono ?_
        rintro e w1 ⟨v1, rfl, ho1, hb1⟩
        have HO1 := Lib.hid (own_len' ho1)
        have HB1 := Lib.hid hb1
        have hs1 := hb1.size
        clear ho1 hb1 HPU s1 s2
        go_wp2_with fail
        refine (HBY.out _ HB1.out).mono ?_
        rintro e w2 ⟨v2, rfl, ho2, hb2⟩
        obtain ⟨A2, c2', rfl, hc2⟩ := own_shape ho2
        obtain ⟨n2, hn2⟩ : ∃ n2, (bytesOf b).length = n2 := ⟨_, rfl⟩
        have hbs2 : Bs w2 A2 (bytesOf b) := Bs.of_own ho2
        obtain ⟨L1, hL1⟩ : ∃ L1, WireMath.put (nu + 1) = L1 := ⟨_, rfl⟩
        have hlen : L1.length + n2 = nr := by rw [← HNR.out, ← HR.out, ← hL1, ← hn2]; unfold slEnc; rw [List.length_append]
        have hRe : L1 ++ bytesOf b = R := by rw [← HR.out, ← hL1]; rfl
        rw [hL1] at HO1
        rw [hn2] at hc2 ⊢
        have HO12 := Lib.hid (own_below HO1.out hb2)
        have HB2 := Lib.hid (HB1.out.trans (hb2.mono hs1))
        have hs2 := HB2.out.size
        have HN2 := Lib.hid hn2
        have HLEN := Lib.hid hlen
        have HRE := Lib.hid hRe
        have HBS2 := Lib.hid hbs2
        clear ho2 hb2 hn2 hbs2 hL1 hlen hRe HO1 HB1 HBY hc2
        go_upto_region 8 with (at_builtin; go_loud (refine wpList_append_bs _ rfl (.tmp 42) (.tmp 44) 29 rfl w.heap.size 5 i0 (.int .u8 0) Tryd.underlying29 hi0 hz0 hz1 hz2 rfl v1 (bvs L1) rfl HO12.out A2 c2' n2 (bytesOf b) HN2.out.symm rfl HBS2.out ?c1 hs2 ?_; (rw [bvs_length]; have := HLEN.out; have := HN2.out; omega); intro v3 w3' ho3 hg3 hat3; rw [← bvs_append, HRE.out] at ho3; obtain ⟨A3, c3', rfl, hc3⟩ := own_shape ho3; have HO3 := Lib.hid ho3; have HG3 := Lib.hid hg3; clear ho3 hg3 hat3))
        have hnn : (bvs L1).length + (bytesOf b).length = nr := by rw [bvs_length, HN2.out]; exact HLEN.out
        have ho3 := HO3.out
        rw [hnn] at ho3 hc3 ⊢
        have hb3 : Below w.heap.size w w3' := HB2.out.grown HG3.out hs2 (fun g hg => (HO12.out.lt g hg).1)
        have hbs3 : Bs w3' A3 R := Bs.of_own ho3
        have hcap := own_capm ho3
        have hsp := refSplit_any ep sq A3 nr c3' R w3'.drew HNR.out (by omega) (by omega) (by omega) (by omega) hnr2 hc3 hcap hbs3.drew
        unfold RsPost at hsp
        rw [HNR.out, HTD.out] at hsp
        have HSP := Lib.hid hsp
        have HB3 := Lib.hid hb3
        have hs3 := hb3.size
        have HX3 := Lib.hid (HSK.out _ hb3)
        have hx3d := HX3.out.drew
        have j3 := hx3d.cells.2.2.2.1
        have j4 := hx3d.cells.2.2.2.2.1
        simp only at j3 j4
        clear hnn ho3 hb3 hbs3 hcap hsp HO3 HG3 HO12 HB2 HBS2 HN2 HLEN HRE hx3d c0 c1 c2 c3 c4 c5 c6 c7 hc3 t0 t1 t2 t3
        refine wp_region_mix [(true, 0), (true, 1), (true, 2), (true, 3), (true, 4), (true, 5), (true, 6), (true, 7), (true, 8), (false, 9), (true, 10), (true, 11), (true, 12), (true, 13), (true, 14)] 15 (fun w' => w'.cell? ⟨sp, 3, none⟩ = some (.int .i64 (ep : Nat)) ∧ w'.cell? ⟨sp, 4, none⟩ = some (.int .i64 (sq : Nat))) (by kernel_rfl) (by kernel_rfl) (by rintro _ ⟨_, _⟩ ⟨_, _⟩ _ rfl h; exact h) (⟨j3, j4⟩) ?_
        simp only [pickM, List.getElem?_cons_succ, List.getElem?_cons_zero]
        iterate 9 ((refine wpMix_take (v := ?_) ?_ ?_; rotate_left; · (refine Or.inl ⟨by rfl, ?_⟩; intro w' hSw; obtain ⟨s3, s4⟩ := hSw; go_simp; (try with_reducible rfl))); (try simp only [Act.put, List.setIfInBounds_toArray, List.set_cons_zero, List.set_cons_succ]))
        refine wpMix_do rfl fun K hK => ?_
        go_simp
        refine HSP.out.mono ?_
        rintro e w4 (⟨hfull, rfl, rfl⟩ | ⟨hfull, v4, rfl, hp4, hb4⟩)
        · refine hK.out _ _ (fun _ => ⟨j3, j4⟩) ?_
          clear hK K HSP
          (try simp only [Act.put, List.setIfInBounds_toArray, List.set_cons_zero, List.set_cons_succ])
          iterate 5 ((refine wpMix_take (v := ?_) ?_ ?_; rotate_left; · (refine Or.inl ⟨by rfl, ?_⟩; intro w' hSw; obtain ⟨s3, s4⟩ := hSw; go_simp; (try with_reducible rfl))); (try simp only [Act.put, List.setIfInBounds_toArray, List.set_cons_zero, List.set_cons_succ]))
          refine wpMix_nil ?_
          have hap := HAP.out
          rw [if_pos (by omega)] at hap
          have HAP2 := Lib.hid hap
          clear hap
          go_wp2_with fail
          go_ret
          rw [HAP2.out]
          exact RSavPost.same rfl HS.out HD.out HB3.out.drew
        · have hb4' : Below w.heap.size w w4 := HB3.out.trans (((Below.refl _ _).drew.trans hb4).mono hs3)
          obtain ⟨A4, c4', rfl, hc4'⟩ := hp4.shape
          rw [HPL.out] at hp4 ⊢
          have hx4 := HSK.out _ hb4'
          refine hK.out _ _ (fun _ => ⟨hx4.cells.2.2.2.1, hx4.cells.2.2.2.2.1⟩) ?_
          have HP4 := Lib.hid hp4.lt
          have HB4 := Lib.hid hb4'
          have HX4 := Lib.hid hx4
          have hs34 : w3'.heap.size ≤ w4.heap.size := ((Below.refl _ w3').drew.trans hb4).size
          have hap := HAP.out
          rw [if_neg (by omega)] at hap
          clear hK K HSP hp4 hb4 hb4' hc4' hx4 HAP j3 j4
          have HAP := Lib.hid hap
          clear hap
          (try simp only [Act.put, List.setIfInBounds_toArray, List.set_cons_zero, List.set_cons_succ])
          iterate 5 ((refine wpMix_take (v := ?_) ?_ ?_; rotate_left; · (refine Or.inl ⟨by rfl, ?_⟩; intro w' hSw; obtain ⟨s3, s4⟩ := hSw; go_simp; (try with_reducible rfl))); (try simp only [Act.put, List.setIfInBounds_toArray, List.set_cons_zero, List.set_cons_succ]))
          refine wpMix_nil ?_
          obtain ⟨k0, k1, k2, k3, k4, k5, k6, k7, kf⟩ := HX4.out.cells
          simp only at k2 k3 k4 k5 k6 k7
          have f4 := kf 4
          by_cases h5 : size < T
          · have hap := HAP.out
            rw [if_pos h5] at hap
            have HAP2 := Lib.hid hap
            have d5 : decide ((size : Int) < (T : Int)) = true := decide_eq_true (by omega)
            have d5' : (size : Int) < (T : Int) := by omega
            clear hap
            go_wp2_with fail
            go_ret
            rw [HAP2.out]
            exact RSavPost.same rfl HS.out HD.out HB4.out
          · have hap := HAP.out
            rw [if_neg h5] at hap
            have d5 : decide ((size : Int) < (T : Int)) = false := decide_eq_false (by omega)
            have d5' : ¬ (size : Int) < (T : Int) := by omega
            have s3 : IntKind.i64.wrap ((sq : Int) + (T : Int)) = (sq : Int) + (T : Int) := by rw [IntKind.wrap_i64]; omega
            have hright : ∀ q ∈ StampMath.parts ep sq R, StampMath.right q := fun q hq => by
              unfold StampMath.parts at hq
              obtain ⟨i, hi, rfl⟩ := List.mem_map.1 hq
              rw [HNR.out, HTD.out] at hi
              have := List.mem_range.1 hi
              exact StampMath.part_right (by omega) (by omega) (by omega) (by omega) (by rw [HNR.out, HTD.out]; omega) (by rw [HNR.out, HTD.out]; omega)
            obtain ⟨L, hL⟩ : ∃ L, StampMath.parts ep sq R = L := ⟨_, rfl⟩
            have hpl := HPL.out
            rw [hL] at hap hright hpl
            rw [hL] at HP4
            have HAP2 := Lib.hid hap
            have HRT := Lib.hid hright
            have HPL2 := Lib.hid hpl
            clear hap hright hL hpl HPL HAP HSK kf
            go_upto_region 14 with (fail)
            obtain ⟨W, hW⟩ : ∃ W : World, w4.setCell ⟨sp, 4, none⟩ (.int .i64 ((sq : Int) + (T : Int))) = W := ⟨_, rfl⟩
            have hx5 : RSlotB W sp p fr ⟨size, ep, sq + T, nu, la, er0⟩ := by rw [← hW]; exact HX4.out.setSeq _ (sq + T) (by omega)
            have hWs : W.heap.size = w4.heap.size := by rw [← hW]; simp [World.setCell]
            have hset : Kept (fun x => x = sp) w4 W := by rw [← hW]; exact (Kept.refl (fun x => x = sp) w4).setCell (p := ⟨sp, 4, none⟩) (.inl rfl) _
            have hd5 : RDiskAt W (fun x => G x ∧ x < w.heap.size) p d c := (HD.out.lt.below HB4.out).kept hset (fun x hx e => by subst e; exact HG.out hx.1)
            have hp5 := HP4.out.kept hset (fun x hx e => by
              subst e
              have h1 := hx.1
              have : w3'.drew.heap.size = w3'.heap.size := rfl
              omega)
            have hkw : Kept (fun x => G x ∨ x = sp) w W := (Kept.of_below HB4.out).trans hset (fun x hx => .inl (.inr hx))
            rw [hW]
            have hsz4 := HB4.out.size
            have HX5 := Lib.hid hx5
            have HD5 := Lib.hid hd5
            have HP5 := Lib.hid hp5
            have HKW := Lib.hid hkw
            have HWS := Lib.hid hWs
            have hszW : w.heap.size ≤ W.heap.size := by omega
            have hszP : ∀ x, (w3'.drew.heap.size ≤ x ∧ x < w4.heap.size) → w.heap.size ≤ x ∧ x < W.heap.size := fun x hx => by
              have : w3'.drew.heap.size = w3'.heap.size := rfl
              omega
            have HSP2 := Lib.hid hszP
            obtain ⟨y0, y1, y2, _, _, _, y6, _, _⟩ := hx5.cells
            simp only at y1 y2 y6
            clear hx5 hd5 hp5 hkw hWs hset hszP hW HP4 HX4 HB4 k0 k1 k2 k3 k4 k5 k6 k7 f4 d5 d5' s3
            have hus := Tryd.underlying114
            go_upto_if 87 with (fail)
            go_cut [8] (fun v wx => RvAt W at_ v wx)
            case first =>
              by_cases hl0 : la = 0
              · have e6 : ((la : Int) == 0) = true := by rw [beq_iff_eq]; omega
                have s4 : IntKind.i64.wrap ((fr : Int) + (size : Int)) = (fr : Int) + (size : Int) := by rw [IntKind.wrap_i64]; omega
                have HATL := Lib.hid (HAT.out.1 hl0)
                clear hl0
                go_wp2_with fail
                refine wp_region_mix [(true, 0), (true, 1), (true, 2), (true, 3), (true, 4), (true, 5), (true, 6), (true, 7), (true, 8), (true, 9)] 10 (fun w' => w'.cell? ⟨sp, 1, none⟩ = some (.int .i64 (fr : Nat)) ∧ w'.cell? ⟨sp, 2, none⟩ = some (.int .i64 (size : Nat))) (by kernel_rfl) (by kernel_rfl) (by rintro _ ⟨_, _⟩ ⟨_, _⟩ _ rfl h; exact h) (⟨y1, y2⟩) ?_
                simp only [pickM, List.getElem?_cons_succ, List.getElem?_cons_zero]
                iterate 10 ((refine wpMix_take (v := ?_) ?_ ?_; rotate_left; · (refine Or.inl ⟨by rfl, ?_⟩; intro w' hSw; obtain ⟨s1, s2⟩ := hSw; go_simp; (try with_reducible rfl))); (try simp only [Act.put, List.setIfInBounds_toArray, List.set_cons_zero, List.set_cons_succ]))
                refine wpMix_nil ?_
                go_wp2_with fail
                go_meet
                exact ⟨by rw [HATL.out]; exact congrArg (Value.int .i64) (by omega), .inr rfl⟩
              · have e6 : ((la : Int) == 0) = false := by rw [beq_eq_false_iff_ne]; omega
                have HATL := Lib.hid (HAT.out.2 hl0)
                clear hl0
                go_wp2_with fail
                go_meet
                exact ⟨by rw [HATL.out], .inl rfl⟩
            case rest =>
              obtain ⟨rfl, hwx⟩ := hcut
              obtain ⟨W2, rfl⟩ : ∃ W2 : World, W2 = wc := ⟨_, rfl⟩
              have hX2 : RSlotB W2 sp p fr ⟨size, ep, sq + T, nu, la, er0⟩ ∧ RDiskAt W2 (fun x => G x ∧ x < w.heap.size) p d c ∧ PRow W2 114 (fun x => w3'.drew.heap.size ≤ x ∧ x < w4.heap.size) (.slice A4 T c4') L ∧ Kept (fun x => G x ∨ x = sp) w W2 ∧ W2.heap.size = W.heap.size := by
                rcases hwx with rfl | rfl
                · exact ⟨HX5.out, HD5.out, HP5.out, HKW.out, rfl⟩
                · exact ⟨HX5.out.drew, HD5.out.kept (Kept.refl (fun _ => False) _).drew (fun _ _ h => h), HP5.out.kept (Kept.refl (fun _ => False) _).drew (fun _ _ h => h), HKW.out.drew, rfl⟩
              obtain ⟨hx6, hd6, hp6, hkw6, hs6⟩ := hX2
              have HX6 := Lib.hid hx6
              have HD6 := Lib.hid hd6
              have HP6 := Lib.hid (hp6.mono HSP2.out)
              have HKW6 := Lib.hid hkw6
              have hszW2 : w.heap.size ≤ W2.heap.size := by omega
              have hspl : sp < w.heap.size := hlt
              have HS6 := Lib.hid hs6
              clear hx6 hd6 hp6 hkw6 hs6 hwx HX5 HD5 HP5 HKW y0 y1 y2 y6 HSP2 HWS hsz4 hszW
              have HER0 := Lib.hid HER.out
              go_wp2_with fail
              go_loopw [9] (fun i wr => RvRel W2 (fun x => G x ∧ x < w.heap.size) sp p fr ⟨size, ep, sq + T, nu, la, er0⟩ d c at_ L i wr) (fun i _ => T - (intOf i).toNat)
              case atStart =>
                refine ⟨0, 0, c, d, Nat.zero_le _, rfl, .inl ⟨rfl, rfl⟩, ?_, HD6.out.mono (fun _ h => .inl h), rfl, Nat.le_refl _, Nat.le_refl _, Kept.refl _ _⟩
                have h := HX6.out
                rw [HER0.out] at h
                exact h
              case round =>
                obtain ⟨k, er, ck, dk, hk, rfl, hput, hlk, hdk, hfl, hwl, hck, hkp⟩ := hrel
                obtain ⟨wo, rfl⟩ : ∃ wo : World, wo = wr := ⟨_, rfl⟩
                rw [HPL2.out] at hk
                obtain ⟨m0, _, _, _, _, _, _, m7, mf⟩ := hlk.cells
                simp only at m7
                have f7 := mf 7
                have HLK := Lib.hid hlk
                have HDK := Lib.hid hdk
                have HPUT := Lib.hid hput
                have HKP := Lib.hid hkp
                have hso := hkp.size
                clear hlk hdk hput hkp mf
                by_cases hgo : k < T ∧ er = 0
                · obtain ⟨hlt2, he⟩ := hgo
                  have e0 : ((er : Int) == 0) = true := by rw [beq_iff_eq]; omega
                  obtain ⟨q, hx⟩ : ∃ q, L[k]? = some q := ⟨_, List.getElem?_eq_getElem (by have := HPL2.out; omega)⟩
                  obtain ⟨gq, c', u, hv, _, hgl, hgg, hrg, hou, hug⟩ := (HP6.out.kept HKP.out (fun x hx h => by
                    have h1 := hx.1
                    rcases h with h | h
                    · have := h.2; omega
                    · omega)).at_ hx
                  injection hv with e4 e5 e6
                  subst e4 e6
                  have hqr := HRT.out q (List.mem_of_getElem? hx)
                  obtain ⟨pe, ps, pi, pt, pd⟩ := q
                  simp only at hou
                  obtain ⟨Au, nu', cu, rfl, hnu2, hcu, _⟩ := hou.shape'
                  have hib : (Tryd.prog.info? 114).map (·.size) = some (partCells ⟨pe, ps, pi, pt, pd⟩ (.slice Au nu' cu)).length := by kernel_rfl
                  have hdrop : L.drop k = ⟨pe, ps, pi, pt, pd⟩ :: L.drop (k + 1) := by
                    obtain ⟨h1, h2⟩ := List.getElem?_eq_some_iff.1 hx
                    rw [List.drop_eq_getElem_cons h1, h2]
                  have hpst : WalMath.putParts dk at_ k (L.drop k) = if (write dk (at_ + k : Nat) (StampMath.lay ⟨pe, ps, pi, pt, pd⟩)).2 = 0 then WalMath.putParts (write dk (at_ + k : Nat) (StampMath.lay ⟨pe, ps, pi, pt, pd⟩)).1 at_ (k + 1) (L.drop (k + 1)) else write dk (at_ + k : Nat) (StampMath.lay ⟨pe, ps, pi, pt, pd⟩) := by rw [hdrop]; rfl
                  have hputk : WalMath.putParts d at_ 0 L = WalMath.putParts dk at_ k (L.drop k) := by
                    rcases HPUT.out with h | h
                    · exact h.2
                    · exact absurd he h.1
                  rw [hpst] at hputk
                  have hlay := refLay_ok ⟨pe, ps, pi, pt, pd⟩ Au cu wo hqr hou.bs
                  simp only at hlay
                  rw [hnu2] at hlay
                  have hll : (StampMath.lay ⟨pe, ps, pi, pt, pd⟩).length = 64 := StampMath.lay_length _ hqr.2.2.2.2.2.2.2.2
                  obtain ⟨Y, hY⟩ : ∃ Y, StampMath.lay ⟨pe, ps, pi, pt, pd⟩ = Y := ⟨_, rfl⟩
                  rw [hY] at hlay hll hputk
                  have HRG := Lib.hid hrg
                  have HLAY := Lib.hid hlay
                  have HPST := Lib.hid hputk
                  have HLL := Lib.hid hll
                  have s1 : IntKind.i64.wrap ((at_ : Int) + (k : Int)) = (at_ : Int) + (k : Int) := by rw [IntKind.wrap_i64]; omega
                  clear hrg hou hqr hx hug e5 hdrop hpst hlay hY hputk hll hnu2 HPUT he
                  go_wp2_with (refine wpList_load_mid rfl 114 (.tmp 113) rfl gq (k * 5) rfl (partCells ⟨pe, ps, pi, pt, pd⟩ (.slice Au nu' cu)) _ HRG.out hus rfl hib ?_)
                  refine HLAY.out.mono ?_
                  rintro e w5 ⟨v5, rfl, ho5, hb5⟩
                  obtain ⟨A5, c5', rfl, hc5⟩ := own_shape ho5
                  have ho5' : Own8 w5 wo.heap.size (.slice A5 64 c5') Y := by unfold Own8; rw [HLL.out]; exact ho5
                  have HLO := Lib.hid (HLK.out.below hb5)
                  have HO5 := Lib.hid ho5'
                  have HB5 := Lib.hid hb5
                  have hs5 := hb5.size
                  have q0 := HLO.out.cells.1
                  clear ho5 ho5' hb5 HLAY m0 m7 f7
                  have hwr := refWrite_yes w5 (fun x => ((G x ∧ x < w.heap.size) ∨ W2.heap.size ≤ x) ∧ x < wo.heap.size) p dk ck (at_ + k) A5 c5' Y (HDK.out.lt.below HB5.out) (by omega) (by omega) HLL.out HO5.out.bs (fun ad had h => by
                    have h8 : (Value.slice A5 64 c5').ownBlock = some ad.block := by rw [had]; rfl
                    have := (HO5.out.lt _ h8).1
                    have := h.2
                    omega) (by omega)
                  have hwl2 := write_len dk (at_ + k : Nat) Y
                  obtain ⟨wd, hwd⟩ : ∃ wd, write dk (at_ + k : Nat) Y = wd := ⟨_, rfl⟩
                  have hps := HPST.out
                  rw [hwd] at hwr hps hwl2
                  rw [Int.natCast_add] at hwr
                  obtain ⟨dn, cd⟩ := wd
                  simp only at hwr hps hwl2
                  have HWR := Lib.hid hwr
                  have HPS := Lib.hid hps
                  have HWL2 := Lib.hid hwl2
                  clear hwr hps hwl2 hwd HPST
                  go_wp2_with fail
                  refine HWR.out.mono ?_
                  rintro e w6 ⟨rfl, hd6, hk6⟩
                  have hl6 := HLO.out.kept hk6 (fun h => by
                    rcases h.1 with h | h
                    · exact HG.out h.1
                    · omega)
                  have c67 := hl6.cells.2.2.2.2.2.2.2.1
                  have f67 := hl6.cells.2.2.2.2.2.2.2.2 7
                  simp only at c67
                  have hkp6 : Kept (fun x => (G x ∧ x < w.heap.size) ∨ x = sp) W2 w6 := (HKP.out.then_below HB5.out).trans hk6 (fun x hx => hx.1.elim (fun h => .inl (.inl h)) .inr)
                  have hd6' : RDiskAt w6 (fun x => (G x ∧ x < w.heap.size) ∨ W2.heap.size ≤ x) p dn (ck + 1) := hd6.mono (fun x hx => hx.elim (fun h => h.1) (fun h => .inr (by omega)))
                  have hset : Kept (fun x => x = sp) w6 (w6.setCell ⟨sp, 7, none⟩ (.int .i64 (cd : Nat))) := (Kept.refl (fun x => x = sp) w6).setCell (p := ⟨sp, 7, none⟩) (.inl rfl) _
                  have hl7 := hl6.setErr (cd : Nat) cd rfl
                  have hd7 := hd6'.kept hset (fun x hx e => by
                    subst e
                    rcases hx with h | h
                    · exact HG.out h.1
                    · omega)
                  have hkp7 : Kept (fun x => (G x ∧ x < w.heap.size) ∨ x = sp) W2 (w6.setCell ⟨sp, 7, none⟩ (.int .i64 (cd : Nat))) := hkp6.setCell (p := ⟨sp, 7, none⟩) (.inl (.inr rfl)) _
                  have HL7 := Lib.hid hl7
                  have HD7 := Lib.hid hd7
                  have HKP7 := Lib.hid hkp7
                  clear hl6 hkp6 hd6' hset hl7 hd7 hkp7 hd6 hk6 HDK q0 HWR
                  go_wp2_with fail
                  go_roundw
                  case rel =>
                    refine ⟨k + 1, cd, ck + 1, dn, by have := HPL2.out; omega, by go_num, ?_, HL7.out, HD7.out, by have := HWL2.out.1; omega, by have := HWL2.out.2; omega, by omega, HKP7.out⟩
                    have hps := HPS.out
                    by_cases hcd : cd = 0
                    · rw [if_pos hcd] at hps
                      exact .inl ⟨hcd, hps⟩
                    · rw [if_neg hcd] at hps
                      exact .inr ⟨hcd, hps⟩
                  case measure => simp [intOf]; omega
                · have hkpw : Kept (fun x => G x ∨ x = sp) w wo := HKW6.out.trans HKP.out (fun x hx => .inl (hx.imp (fun h => h.1) id))
                  have HKPW := Lib.hid hkpw
                  have hdw : ∀ (wx : World) (dx : Dk) (cx : Nat), RDiskAt wx (fun x => (G x ∧ x < w.heap.size) ∨ W2.heap.size ≤ x) p dx cx → RDiskAt wx (fun x => G x ∨ w.heap.size ≤ x) p dx cx := fun wx dx cx h => h.mono (fun x hx => hx.elim (fun h => .inl h.1) (fun h => .inr (by omega)))
                  have HDW := Lib.hid hdw
                  clear hkpw hdw
                  by_cases he : er = 0
                  · obtain rfl : k = T := by omega
                    have e0 : ((er : Int) == 0) = true := by rw [beq_iff_eq]; omega
                    have hpp : WalMath.put d at_ L = flush dk := by
                      unfold WalMath.put
                      rcases HPUT.out with h | h
                      · rw [h.2, List.drop_of_length_le (by have := HPL2.out; omega)]
                        rfl
                      · exact absurd he h.1
                    have hap := HAP2.out
                    rw [hpp] at hap
                    have HAP3 := Lib.hid hap
                    clear hpp hap HPUT HAP2 hgo he
                    go_wp2_with fail
                    refine (refFlush_any wo _ p dk ck HDK.out (by omega)).mono ?_
                    rintro e w7 ⟨rfl, hd7, hk7⟩
                    have hl7 := HLK.out.kept hk7 (fun h => by
                      rcases h with h | h
                      · exact HG.out h.1
                      · omega)
                    have hkp7 : Kept (fun x => G x ∨ x = sp) w w7 := HKPW.out.trans hk7 (fun x hx => hx.elim (fun h => .inl (.inl h.1)) (fun h => .inr (by omega)))
                    obtain ⟨wf, hwf⟩ : ∃ wf, flush dk = wf := ⟨_, rfl⟩
                    have hap := HAP3.out
                    rw [hwf] at hap hd7 ⊢
                    obtain ⟨df, cf⟩ := wf
                    simp only at hap hd7 ⊢
                    have j7 := hl7.cells.2.2.2.2.2.2.2.1
                    have jf := hl7.cells.2.2.2.2.2.2.2.2 7
                    simp only at j7
                    have hset : Kept (fun x => x = sp) w7 (w7.setCell ⟨sp, 7, none⟩ (.int .i64 (cf : Nat))) := (Kept.refl (fun x => x = sp) w7).setCell (p := ⟨sp, 7, none⟩) (.inl rfl) _
                    have hl8 := hl7.setErr (cf : Nat) cf rfl
                    have hd8 := (HDW.out _ _ _ hd7).kept hset (fun x hx e => by
                      subst e
                      rcases hx with h | h
                      · exact HG.out h
                      · omega)
                    have hkp8 : Kept (fun x => G x ∨ x = sp) w (w7.setCell ⟨sp, 7, none⟩ (.int .i64 (cf : Nat))) := hkp7.setCell (p := ⟨sp, 7, none⟩) (.inl (.inr rfl)) _
                    have HL8 := Lib.hid hl8
                    have HD8 := Lib.hid hd8
                    have HKP8 := Lib.hid hkp8
                    have HAP4 := Lib.hid hap
                    clear hd7 hk7 hl7 hkp7 hset hl8 hd8 hkp8 hap hwf HAP3 HDK HLK HKP HKPW HDW m0 m7 f7
                    by_cases hcf : cf = 0
                    · have n7 : ((cf : Int) != 0) = false := by rw [bne_eq_false_iff_eq]; omega
                      have e7 : ((cf : Int) == 0) = true := by rw [beq_iff_eq]; omega
                      have s1 : IntKind.i64.wrap ((nu : Int) + 1) = (nu : Int) + 1 := by rw [IntKind.wrap_i64]; omega
                      have s2 : IntKind.i64.wrap (1 - (la : Int)) = 1 - (la : Int) := by rw [IntKind.wrap_i64]; omega
                      have hap := HAP4.out
                      rw [if_pos hcf] at hap
                      have HAP5 := Lib.hid hap
                      have HCF := Lib.hid hcf
                      clear hap hcf HAP4
                      go_wp2_with fail
                      obtain ⟨w8, hw8⟩ : ∃ w8, w7.setCell ⟨sp, 7, none⟩ (.int .i64 (cf : Nat)) = w8 := ⟨_, rfl⟩
                      rw [hw8] at HL8 HD8 HKP8 ⊢
                      have HL8d := Lib.hid HL8.out.drew
                      have j5 := HL8d.out.cells.2.2.2.2.2.1
                      have j6 := HL8d.out.cells.2.2.2.2.2.2.1
                      have f5 := HL8d.out.cells.2.2.2.2.2.2.2.2 5
                      simp only at j5 j6
                      clear hw8 j7 jf
                      refine wp_region_mix [(true, 0), (true, 1), (true, 2), (true, 3), (true, 4), (true, 7), (true, 8), (true, 9), (true, 10), (true, 11), (false, 5), (true, 6), (true, 12), (true, 13), (false, 14), (false, 15), (true, 16), (false, 17)] 17 (fun w' => w'.cell? ⟨sp, 6, none⟩ = some (.int .i64 (la : Nat)) ∧ True) (by kernel_rfl) (by kernel_rfl) (by rintro _ ⟨_, _⟩ ⟨_, _⟩ _ rfl h; exact h) (⟨j6, trivial⟩) ?_
                      simp only [pickM, List.getElem?_cons_succ, List.getElem?_cons_zero]
                      iterate 10 ((refine wpMix_take (v := ?_) ?_ ?_; rotate_left; · (refine Or.inl ⟨by rfl, ?_⟩; intro w' hSw; obtain ⟨s6, -⟩ := hSw; go_simp; (try with_reducible rfl))); (try simp only [Act.put, List.setIfInBounds_toArray, List.set_cons_zero, List.set_cons_succ]))
                      refine wpMix_do rfl fun K hK => ?_
                      go_simp
                      refine hK.out _ _ (fun _ => ⟨j6, trivial⟩) ?_
                      clear hK K
                      (try simp only [Act.put, List.setIfInBounds_toArray, List.set_cons_zero, List.set_cons_succ])
                      iterate 3 ((refine wpMix_take (v := ?_) ?_ ?_; rotate_left; · (refine Or.inl ⟨by rfl, ?_⟩; intro w' hSw; obtain ⟨s6, -⟩ := hSw; go_simp; (try with_reducible rfl))); (try simp only [Act.put, List.setIfInBounds_toArray, List.set_cons_zero, List.set_cons_succ]))
                      have hl9 := HL8d.out.setNumber ((nu : Int) + 1) (nu + 1) (by omega)
                      have k6 := hl9.cells.2.2.2.2.2.2.1
                      have g6 := hl9.cells.2.2.2.2.2.2.2.2 6
                      simp only at k6
                      have HL9 := Lib.hid hl9
                      have k6' : ((w8.setCell ⟨sp, 5, none⟩ (.int .i64 ((nu : Int) + 1))).drew).cell? ⟨sp, 6, none⟩ = some (.int .i64 (la : Nat)) := k6
                      have g6' : ((w8.setCell ⟨sp, 5, none⟩ (.int .i64 ((nu : Int) + 1))).drew).frozen? ⟨sp, 6, none⟩ = false := g6
                      clear hl9
                      refine wpMix_do rfl fun K hK => ?_
                      go_simp
                      refine hK.out _ _ (fun _ => ⟨k6, trivial⟩) ?_
                      clear hK K
                      (try simp only [Act.put, List.setIfInBounds_toArray, List.set_cons_zero, List.set_cons_succ])
                      refine wpMix_do rfl fun K hK => ?_
                      go_simp
                      refine hK.out _ _ (fun _ => ⟨k6, trivial⟩) ?_
                      clear hK K
                      (try simp only [Act.put, List.setIfInBounds_toArray, List.set_cons_zero, List.set_cons_succ])
                      iterate 1 ((refine wpMix_take (v := ?_) ?_ ?_; rotate_left; · (refine Or.inl ⟨by rfl, ?_⟩; intro w' hSw; obtain ⟨s6, -⟩ := hSw; go_simp; (try with_reducible rfl))); (try simp only [Act.put, List.setIfInBounds_toArray, List.set_cons_zero, List.set_cons_succ]))
                      refine wpMix_do rfl fun K hK => ?_
                      go_simp
                      refine hK.out _ _ (fun h => absurd h (by decide)) ?_
                      clear hK K
                      (try simp only [Act.put, List.setIfInBounds_toArray, List.set_cons_zero, List.set_cons_succ])
                      refine wpMix_nil ?_
                      go_wp2_with fail
                      go_ret
                      rw [HAP5.out]
                      have hfin := HL9.out.setLast (1 - (la : Int)) (1 - la) (by omega)
                      have hcf := HCF.out
                      have her := HER.out
                      refine ⟨rfl, ?_, ⟨ck + 1, by omega, ?_⟩, ?_⟩
                      · simp only at hfin ⊢
                        rw [her, ← hcf]
                        exact hfin
                      · have hset : ∀ (u : World) (i : Nat) (y : Value), Kept (fun x => x = sp) u (u.setCell ⟨sp, i, none⟩ y) := fun u i y => (Kept.refl (fun x => x = sp) u).setCell (p := ⟨sp, i, none⟩) (.inl rfl) y
                        have hno : ∀ x, (G x ∨ w.heap.size ≤ x) → ¬ x = sp := fun x hx e => by
                          subst e
                          rcases hx with h | h
                          · exact HG.out h
                          · omega
                        exact ((HD8.out.kept (Kept.refl (fun _ => False) w8).drew (fun _ _ h => h)).kept (hset _ 5 _) hno).kept (hset _ 6 _) hno
                      · exact ((HKP8.out.drew).setCell (p := ⟨sp, 5, none⟩) (.inl (.inr rfl)) _).setCell (p := ⟨sp, 6, none⟩) (.inl (.inr rfl)) _
                    · have n7 : ((cf : Int) != 0) = true := by rw [bne_iff_ne]; omega
                      have hap := HAP4.out
                      rw [if_neg hcf] at hap
                      have HAP5 := Lib.hid hap
                      clear hap hcf HAP4
                      go_wp2_with fail
                      go_ret
                      rw [HAP5.out]
                      exact ⟨rfl, HL8.out, ⟨ck + 1, by omega, HD8.out⟩, HKP8.out⟩
                  · have e0 : ((er : Int) == 0) = false := by rw [beq_eq_false_iff_ne]; omega
                    have n0 : ((er : Int) != 0) = true := by rw [bne_iff_ne]; omega
                    have hpp : WalMath.put d at_ L = (dk, er) := by
                      unfold WalMath.put
                      rcases HPUT.out with h | h
                      · exact absurd h.1 he
                      · rw [h.2, if_neg he]
                    have hap := HAP2.out
                    rw [hpp, if_neg he] at hap
                    have HAP3 := Lib.hid hap
                    clear hpp hap HPUT HAP2 hgo he
                    by_cases hkT : k < T
                    all_goals
                      go_wp2_with fail
                      go_ret
                      rw [HAP3.out]
                      exact ⟨rfl, HLK.out, ⟨ck, by omega, HDW.out _ _ _ HDK.out⟩, HKPW.out⟩
  · have e : SlotMath.save slEnc fr ⟨size, ep, sq, nu, la, er0⟩ d b = (⟨size, ep, sq, nu, la, er0⟩, d, er0) := by
      unfold SlotMath.save
      rw [if_pos h1]
    have HE := Lib.hid e
    have n1 : ((er0 : Int) != 0) = true := by rw [bne_iff_ne]; omega
    clear e
    go_enter Tryd.func24, Tryd.ntmps24
    go_wp2_with fail
    go_ret
    rw [HE.out]
    exact RSavPost.same rfl HS.out HD.out (Below.refl _ _)
end Go.Proofs.YtckihiiimomgfaaDoor
