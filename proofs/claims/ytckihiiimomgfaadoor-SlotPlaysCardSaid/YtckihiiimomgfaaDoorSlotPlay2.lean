/- The walk of the statement what every row of calls to slots answers: SlotPlays, where there are slots. Printed by gen_slotplay2.py. -/
import Derived.Test.YtckihiiimomgfaaDoorSlotPlay
namespace Go.Proofs.YtckihiiimomgfaaDoor
open Go.RowKit DiskMath
theorem within_next10 (x : Nat) : ∃ k : Nat, max 0 (min ((x : Int) + 1) 4294967295) = (k : Int) ∧ k ≤ 4294967295 := by
  obtain ⟨m, hm⟩ : ∃ m : Int, max 0 (min ((x : Int) + 1) 4294967295) = m := ⟨_, rfl⟩
  have h0 : 0 ≤ m := by omega
  have h1 : m ≤ 4294967295 := by omega
  obtain ⟨k, rfl⟩ := Int.eq_ofNat_of_zero_le h0
  exact ⟨k, hm, by omega⟩
def SqRel (W : World) (n p q fr size : Nat) (s15 s18 s21 : Value) (wr : World) : Prop :=
  ∃ (j c lp yp ep sq nu la er : Nat) (F G : Nat → Prop) (d : Dk), s15 = .pointer (some ⟨lp, 0, none⟩) ∧ s18 = .pointer (some ⟨yp, 0, none⟩) ∧ s21 = .int .i64 (j : Int) ∧ j ≤ 25 ∧ c ≤ 3000 * j ∧ d.waits.length ≤ 2000 * j ∧ d.fast.length = n ∧ ep ≤ 4294967295 ∧ sq ≤ 4294967296 ∧ nu ≤ 4611686018427387904 ∧ la ≤ 1 ∧
    SpMem W wr F G p q lp yp fr ⟨size, ep, sq, nu, la, er⟩ ⟨size, ep, sq, nu, la, er⟩ d d c
/-- behind one call of a row -/
def SqCut (W : World) (n p q fr size j : Nat) (s15 s18 : Value) (wr : World) : Prop :=
  ∃ (c lp yp ep sq nu la er : Nat) (F G : Nat → Prop) (d : Dk), s15 = .pointer (some ⟨lp, 0, none⟩) ∧ s18 = .pointer (some ⟨yp, 0, none⟩) ∧ c ≤ 3000 * (j + 1) ∧ d.waits.length ≤ 2000 * (j + 1) ∧ d.fast.length = n ∧ ep ≤ 4294967295 ∧ sq ≤ 4294967296 ∧ nu ≤ 4611686018427387904 ∧ la ≤ 1 ∧
    SpMem W wr F G p q lp yp fr ⟨size, ep, sq, nu, la, er⟩ ⟨size, ep, sq, nu, la, er⟩ d d c
def Sq4 (W : World) (n p q lp yp fr c : Nat) (F G : Nat → Prop) (g : SlotMath.Sl) (d : Dk) (i : Value) (wr : World) : Prop := ∃ k : Nat, i = .int .i64 (k : Int) ∧ k ≤ n ∧ SpMem W wr F G p q lp yp fr g g d d c
set_option maxRecDepth 100000 in
set_option maxHeartbeats 100000000 in
theorem slotPlays_yes (x : Int) (n fr size ep0 : Nat) (A : Option Addr) (c0 : Nat) (ds : List D10) (w : World) (hx : max 1 (min x 20) = (n : Int)) (hn20 : n ≤ 20) (h1 : 1 ≤ size) (h2 : fr + 2 * size ≤ n) (hep0 : ep0 ≤ 4294967295) (_hc : ds.length ≤ c0) (hm : c0 ≤ maxLen) (hr : D10s w A ds) (ht : Halves w) :
    Calls Tryd.prog 4 #[.int .i64 x, .int .i64 fr, .int .i64 size, .int .i64 ep0, .slice A ds.length c0] w fun e w' => e = .returned (.bool true) ∧ Below w.heap.size w w' := by
  have hcm : c0 ≤ 9223372036854775807 := by unfold maxLen at hm; omega
  obtain ⟨N, hN⟩ : ∃ N, ds.length = N := ⟨_, rfl⟩
  rw [hN] at _hc ⊢
  have HN := Lib.hid hN
  have HR := Lib.hid hr
  have HT := Lib.hid ht
  have HX := Lib.hid hx
  have hth := ht.1
  clear hN hm hr ht hx
  go_enter Tryd.func4, Tryd.ntmps4
  go_wp2_with fail
  refine (within_any x 1 20 w (by decide)).mono ?_
  rintro e w' ⟨rfl, rfl⟩
  rw [HX.out]
  clear HX
  go_wp2_with fail
  refine (diskNew_yes n w (by omega) (by omega)).mono ?_
  rintro e w1 ⟨rfl, hd1, hb1⟩
  have HD1 := Lib.hid hd1.lt
  have HB1 := Lib.hid hb1
  have hs1 := hb1.size
  clear hd1 hb1
  go_wp2_with fail
  refine (refNew_yes n w1 (by omega) (by omega)).mono ?_
  rintro e w2 ⟨rfl, hd2, hb2⟩
  have hs2 := hb2.size
  have HTWO := Lib.hid (show Two w w2 (fun k => w.heap.size ≤ k ∧ k < w1.heap.size) (fun k => w1.heap.size ≤ k ∧ k < w2.heap.size) (w.heap.size + 2) w1.heap.size (DiskMath.new n) (DiskMath.new n) 0 from
    ⟨HD1.out.below hb2, hd2.lt, fun k hk => ⟨hk.1, by omega⟩, fun k hk => ⟨by omega, hk.2⟩, fun k hf hg => by omega, below_then HB1.out hb2⟩)
  have hdl : (DiskMath.new n).fast.length = n := by simp [DiskMath.new]
  have hdw : (DiskMath.new n).waits.length = 0 := by simp [DiskMath.new]
  obtain ⟨d0, hd0⟩ : ∃ d0, DiskMath.new n = d0 := ⟨_, rfl⟩
  rw [hd0] at HTWO hdl hdw
  obtain ⟨p, hp⟩ : ∃ p, w.heap.size + 2 = p := ⟨_, rfl⟩
  obtain ⟨q, hq⟩ : ∃ q, w1.heap.size = q := ⟨_, rfl⟩
  rw [hp, hq] at HTWO
  rw [hp, hq]
  obtain ⟨r, hr⟩ : ∃ r, SlotMath.opens slDec (view d0) fr size = r := ⟨_, rfl⟩
  have ho1 := slotOpen_yes w2 _ p fr size ep0 d0 HTWO.out.dk (HT.out.below HTWO.out.bel) h1 (by omega) (by omega) hep0
  have ho2 := fun w' (hb : Below w2.heap.size w2 w') => refOpen10_yes w' _ q d0 0 fr size ep0 (HTWO.out.rd.below hb) h1 (by omega) (by omega) hep0
  have hfits := SlotMath.opens_len (view d0) fr size
  rw [hr] at ho1 ho2 hfits
  obtain ⟨nu0, la0, data⟩ := r
  simp only at hfits
  obtain ⟨ma, hma⟩ : ∃ ma, data.length = ma := ⟨_, rfl⟩
  have HO1 := Lib.hid ho1
  have HO2 := Lib.hid ho2
  have HMA := Lib.hid hma
  have HFI := Lib.hid hfits
  have HDL := Lib.hid (show _ ∧ _ from ⟨hdl, hdw⟩)
  clear hd2 hb2 HD1 HB1 hd0 hr ho1 ho2 hma hfits hdl hdw hp hq
  go_wp2_with fail
  refine HO1.out.mono ?_
  rintro e w3 ⟨v3, rfl, hl3, hr3, hb3⟩
  simp only at hl3 hr3
  have hs3 := hb3.size
  have hlp3 := hl3.lt
  obtain ⟨A3, n3, c3, rfl, hn3, hc3, _⟩ := hr3.shape'
  obtain rfl : n3 = ma := by have := HMA.out; omega
  have HR3 := Lib.hid hr3
  have HB3 := Lib.hid hb3
  have HL3 := Lib.hid hl3
  have hnF : ∀ k, (w.heap.size ≤ k ∧ k < q) → k < w2.heap.size := fun k hk => (HTWO.out.ownF k hk).2
  clear hl3 hr3 hb3 HO1 hn3
  go_wp2_with fail
  refine (HO2.out _ HB3.out).mono ?_
  rintro e w4 ⟨yp0, v4, rfl, hyl, hl4, hr4, hb4⟩
  simp only at hl4 hr4
  have hs4 := hb4.size
  obtain ⟨A4, n4, c4, rfl, hn4, hc4, _⟩ := hr4.shape'
  obtain rfl : n4 = n3 := by have := HMA.out; omega
  have hm4 : SpMem w w4 (fun k => w.heap.size ≤ k ∧ k < q) (fun k => q ≤ k ∧ k < w2.heap.size) p q w2.heap.size yp0 fr ⟨size, ep0, 0, nu0, la0, 0⟩ ⟨size, ep0, 0, nu0, la0, 0⟩ d0 d0 0 :=
    ⟨(HTWO.out.below HB3.out).below hb4, HL3.out.below hb4, hl4, fun h => by have := hnF _ h; omega, fun h => by have := h.2; omega, fun h => by have := hnF _ h; omega, fun h => by have := h.2; omega, by omega, by omega, by omega⟩
  have HM4 := Lib.hid hm4
  have hsm := same_at A3 A4 c3 c4 n4 n4 data data w4 HMA.out HMA.out (by have := HFI.out.1; have := HMA.out; omega) (by have := HFI.out.1; have := HMA.out; omega) (HR3.out.below hb4).bs hr4.bs
  rw [sameB_self] at hsm
  have HSM := Lib.hid hsm
  obtain ⟨lp0, hlp0⟩ : ∃ lp0, w2.heap.size = lp0 := ⟨_, rfl⟩
  rw [hlp0] at HM4
  rw [hlp0]
  clear hl4 hr4 hb4 hm4 hsm HO2 hyl HR3 HB3 HL3 hnF HTWO hlp0 hn4
  go_wp2_with fail
  refine HSM.out.mono ?_
  rintro e w5 ⟨rfl, hb5⟩
  have HM5 := Lib.hid (HM4.out.below hb5)
  clear hb5 HSM HM4
  go_wp2_with fail
  go_loopw [15, 16, 17, 18, 19, 20, 21] (fun s15 _ _ s18 _ _ s21 wr => SqRel w n p q fr size s15 s18 s21 wr) (fun _ _ _ _ _ _ i _ => 25 - (intOf i).toNat)
  case atStart => exact ⟨0, 0, lp0, yp0, ep0, 0, nu0, la0, 0, _, _, d0, rfl, rfl, rfl, by decide, Nat.le_refl _, by have := HDL.out.2; omega, HDL.out.1, hep0, by omega, HFI.out.2.1, HFI.out.2.2, HM5.out⟩
  case round =>
    as_aux_lemma =>
      clear HM5 HFI HMA HDL hs1 hs2 hs3 hs4 hlp3 hc3 hc4 hep0
      obtain ⟨j, c, lp, yp, ep, sq, nu, la, er, F, G, d, rfl, rfl, rfl, hj, hcc, hwl, hfl, hep, hsq, hnu, hla, hmem⟩ := hrel
      obtain ⟨wo, rfl⟩ : ∃ wo : World, wo = wr := ⟨_, rfl⟩
      by_cases hgo : j < N ∧ j < 25
      · as_aux_lemma =>
          obtain ⟨hlt, h25⟩ := hgo
          obtain ⟨z, hz⟩ : ∃ z, ds[j]? = some z := ⟨_, List.getElem?_eq_getElem (by have := HN.out; omega)⟩
          obtain ⟨ad, Ab, cb, Al, cl, rfl, hadw, hda⟩ := HR.out j z hz
          obtain ⟨dk, dn, db, dl⟩ := z
          obtain ⟨mb, hmb⟩ : ∃ mb, db.length = mb := ⟨_, rfl⟩
          have hcells : ∀ w' : World, Below w.heap.size w w' → w'.cell? (ad.add (j * 4)) = some (.int .i64 dk) ∧ w'.cell? ⟨(ad.add (j * 4)).block, (ad.add (j * 4)).off + 1, none⟩ = some (.int .i64 dn) ∧ w'.cell? ⟨(ad.add (j * 4)).block, (ad.add (j * 4)).off + 2, none⟩ = some (.slice Ab mb cb) ∧ w'.cell? ⟨(ad.add (j * 4)).block, (ad.add (j * 4)).off + 3, none⟩ = some (.slice Al dl.length cl) := fun w' hb => by
            have hc : ∀ k, w'.cell? (ad.add k) = w.cell? (ad.add k) := fun k => hb.cell (by rw [addr_block]; exact hadw)
            refine ⟨(hc _).trans hda.c0, ?_, ?_, ?_⟩
            · rw [← addr_fld _ _ 1 (by decide)]; exact (hc _).trans hda.c1
            · rw [← addr_fld _ _ 2 (by decide), ← hmb]; exact (hc _).trans hda.c2
            · rw [← addr_fld _ _ 3 (by decide)]; exact (hc _).trans hda.c3
          have HC := Lib.hid hcells
          have HM := Lib.hid hmem
          have HMB := Lib.hid hmb
          have HB := Lib.hid hda.hb
          have HNN := Lib.hid hda.hn
          have HL := Lib.hid hda.hl
          have hsz := hmem.two.bel.size
          obtain ⟨k0, k1, k2, k3⟩ := hcells wo hmem.two.bel
          clear hcells hmem hda hz hmb k1 k2 k3
          go_upto_block 2 with (fail)
          go_cut [15, 16, 17, 18, 19, 20, 22, 23, 24, 25, 26] from 78 to 237 (fun s15 _ _ s18 _ _ _ _ _ _ _ wx => SqCut w n p q fr size j s15 s18 wx)
          case first =>
            by_cases h0 : dk = 0
            · subst h0
              as_aux_lemma =>
                have hcut := cut_bs Ab cb 200 db wo HB.out.1 HB.out.2.1 (by decide)
                obtain ⟨l0, hl0⟩ : ∃ l0, db.take 200 = l0 := ⟨_, rfl⟩
                have hbs0 : Bs w Ab l0 := by rw [← hl0]; exact HB.out.2.2.take 200
                have hm200 : l0.length ≤ 200 := by rw [← hl0]; exact List.length_take_le _ _
                rw [hl0] at hcut
                obtain ⟨m0, hm0⟩ : ∃ m0, l0.length = m0 := ⟨_, rfl⟩
                rw [hm0, HMB.out] at hcut
                rw [hm0] at hm200
                have HCUT := Lib.hid hcut
                have HM0 := Lib.hid hm0
                have HB0 := Lib.hid hbs0
                have k2 := (HC.out wo HM.out.two.bel).2.2.1
                clear hcut hl0 hbs0 hm0
                have hap := slotSave_any wo F lp p fr ⟨size, ep, sq, nu, la, er⟩ d Ab cb l0 HM.out.log HM.out.two.dk (HT.out.below HM.out.two.bel) HM.out.lF (fun h => by have := (HM.out.two.ownF _ h).1; omega) (fun h => by have := HM.out.lW; omega) (HB0.out.below HM.out.two.bel) (by rw [HM0.out]; omega) hla (by simp only; omega) (by omega) hep (by simp only; omega) hnu (by omega)
                have hrp := fun w' (hl : RSlotB w' yp q fr ⟨size, ep, sq, nu, la, er⟩) (hd : RDiskAt w' G q d c) (hb : Below w.heap.size w w') => refSave_any w' G yp q fr ⟨size, ep, sq, nu, la, er⟩ d c Ab cb l0 hl hd HM.out.yG (HB0.out.below hb) (by rw [HM0.out]; omega) hla (by simp only; omega) (by omega) hep (by simp only; omega) hnu (by omega) (by omega)
                have hal := SlotMath.save_len fr ⟨size, ep, sq, nu, la, er⟩ d l0 (by rw [HM0.out]; omega) hnu hla
                rw [HM0.out] at hap
                simp only [HM0.out] at hrp
                obtain ⟨r, hr⟩ : ∃ r, SlotMath.save slEnc fr ⟨size, ep, sq, nu, la, er⟩ d l0 = r := ⟨_, rfl⟩
                rw [hr] at hap hrp hal
                obtain ⟨⟨size', ep', sq', nu', la', er'⟩, d', cd⟩ := r
                simp only at hal
                obtain ⟨rfl, rfl, hal3, hal4, hal5, hal6, hal7⟩ := hal
                have HAP := Lib.hid hap
                have HRP := Lib.hid hrp
                have n1 : ((cd : Int) != (cd : Int)) = false := by simp
                clear hap hrp hr
                go_wp2_with fail
                refine HCUT.out.mono ?_
                rintro e w' ⟨rfl, rfl⟩
                clear HCUT k2
                go_wp2_with fail
                refine HAP.out.mono ?_
                rintro e w5 ⟨he, hl5, hd5, hk5⟩
                simp only at he hl5 hd5
                subst he
                have HM5 := Lib.hid (HM.out.app hl5 hd5 hk5)
                clear hl5 hd5 hk5 HAP
                go_wp2_with fail
                refine (HRP.out w5 HM5.out.rlog HM5.out.two.rd HM5.out.two.bel).mono ?_
                rintro e w6 ⟨he, hl6, ⟨c', hc', hd6⟩, hk6⟩
                simp only at he hl6 hd6
                subst he
                have HM6 := Lib.hid (HM5.out.rapp hl6 hd6 hk6)
                clear hl6 hd6 hk6 HRP
                go_wp2_with fail
                go_meet
                exact ⟨c', lp, yp, _, sq', nu', la', er', _, _, d', rfl, rfl, by omega, by omega, by omega, hep, by omega, hal5, hal6, HM6.out⟩
            · have e0 : (dk == 0) = false := beq_eq_false_iff_ne.2 h0
              clear h0
              by_cases h1' : dk = 1
              · subst h1'
                as_aux_lemma =>
                  obtain ⟨fc, hfc⟩ : ∃ fc, (arm d dn).2 = fc := ⟨_, rfl⟩
                  have har : (arm d dn).1.fast = d.fast ∧ (arm d dn).1.waits = d.waits := by
                    unfold arm
                    split
                    · exact ⟨rfl, rfl⟩
                    · split <;> exact ⟨rfl, rfl⟩
                  have HFC := Lib.hid hfc
                  have HMd := Lib.hid HM.out.drew
                  have HAR := Lib.hid har
                  have n1 : ((fc : Int) != (fc : Int)) = false := by simp
                  clear hfc har
                  go_wp2_with fail
                  refine wp_region_mix [(true, 0), (true, 1), (true, 2), (true, 3), (true, 4), (true, 5), (true, 7), (true, 8), (true, 9), (true, 10), (true, 11), (true, 12), (false, 6), (false, 13), (true, 14)] 15 (fun w' => w'.cell? ⟨(ad.add (j * 4)).block, (ad.add (j * 4)).off + 1, none⟩ = some (.int .i64 dn) ∧ True) (by kernel_rfl) (by kernel_rfl) (by rintro _ ⟨_, _⟩ ⟨_, _⟩ _ rfl h; exact h) (⟨(HC.out _ HMd.out.two.bel).2.1, trivial⟩) ?_
                  simp only [pickM, List.getElem?_cons_succ, List.getElem?_cons_zero]
                  iterate 12 ((refine wpMix_take (v := ?_) ?_ ?_; rotate_left; · (refine Or.inl ⟨by rfl, ?_⟩; intro w' hSw; obtain ⟨s1, -⟩ := hSw; go_simp; (try with_reducible rfl))); (try simp only [Act.put, List.setIfInBounds_toArray, List.set_cons_zero, List.set_cons_succ]))
                  refine wpMix_do rfl fun K hK => ?_
                  go_simp
                  refine (diskArm_any wo.drew F p d dn HNN.out.1 HNN.out.2 HMd.out.two.dk).mono ?_
                  rintro e w5 ⟨rfl, hd5, hk5, _⟩
                  have HM5 := Lib.hid (HMd.out.stepF hd5 hk5)
                  rw [HFC.out]
                  refine hK.out _ _ (fun _ => ⟨(HC.out _ HM5.out.two.bel).2.1, trivial⟩) ?_
                  clear hK K
                  (try simp only [Act.put, List.setIfInBounds_toArray, List.set_cons_zero, List.set_cons_succ])
                  refine wpMix_do rfl fun K hK => ?_
                  go_simp
                  refine (refArm_any w5 G q d c dn HNN.out.1 HNN.out.2 HM5.out.two.rd).mono ?_
                  rintro e w6 ⟨rfl, hd6, hk6, _⟩
                  have HM6 := Lib.hid (HM5.out.stepG (hd6.mono fun _ h => .inl h) hk6)
                  rw [HFC.out]
                  refine hK.out _ _ (fun _ => ⟨(HC.out _ HM6.out.two.bel).2.1, trivial⟩) ?_
                  clear hK K
                  (try simp only [Act.put, List.setIfInBounds_toArray, List.set_cons_zero, List.set_cons_succ])
                  iterate 1 ((refine wpMix_take (v := ?_) ?_ ?_; rotate_left; · (refine Or.inl ⟨by rfl, ?_⟩; intro w' hSw; obtain ⟨-, -⟩ := hSw; go_simp; (try with_reducible rfl))); (try simp only [Act.put, List.setIfInBounds_toArray, List.set_cons_zero, List.set_cons_succ]))
                  refine wpMix_nil ?_
                  go_wp2_with fail
                  go_meet
                  exact ⟨c, lp, yp, ep, sq, nu, la, er, _, _, (arm d dn).1, rfl, rfl, by omega, by rw [HAR.out.2]; omega, by rw [HAR.out.1]; exact hfl, hep, hsq, hnu, hla, HM6.out⟩
              · have e1 : (dk == 1) = false := beq_eq_false_iff_ne.2 h1'
                clear h1'
                as_aux_lemma =>
                  have hblk : ∀ a2, Al = some a2 → dl ≠ [] → a2.block < w.heap.size := fun a2 he hn => by
                    obtain ⟨a3, e3, h3, _⟩ := HL.out.2.2.at_ (k := 0) (List.length_pos_iff.2 hn)
                    rw [he] at e3; injection e3 with e3; subst e3; exact h3
                  have HBK := Lib.hid hblk
                  have hcl := crash_len d dl
                  obtain ⟨ml, hml⟩ : ∃ ml, dl.length = ml := ⟨_, rfl⟩
                  have hcr1 := diskCrash_any wo F p d Al cl dl HM.out.two.dk HL.out.1 HL.out.2.1 (HL.out.2.2.below HM.out.two.bel) (fun a2 he hn hf => by have := HBK.out a2 he hn; have := (HM.out.two.ownF _ hf).1; omega)
                  have hcr2 := fun w' (hd : RDiskAt w' G q d c) (hb : Below w.heap.size w w') => refCrash_any w' G q d c Al cl dl hd HL.out.1 HL.out.2.1 (HL.out.2.2.below hb) (fun a2 he hn hg => by have := HBK.out a2 he hn; have := (HM.out.two.ownG _ hg).1; omega)
                  rw [hml] at hcr1
                  simp only [hml] at hcr2
                  obtain ⟨d', hd'⟩ : ∃ d', crash d dl = d' := ⟨_, rfl⟩
                  rw [hd'] at hcr1 hcl
                  simp only [hd'] at hcr2
                  have hkc := HC.out
                  simp only [hml] at hkc
                  have hfl' : d'.fast.length = n := by rw [hcl.1]; exact hfl
                  have hwl' : d'.waits.length = 0 := by rw [hcl.2.1]; rfl
                  have HKC := Lib.hid hkc
                  have HCR1 := Lib.hid hcr1
                  have HCR2 := Lib.hid hcr2
                  have c30 := (hkc wo HM.out.two.bel).2.2.2
                  have s5 : IntKind.i64.wrap (2 * (size : Int)) = 2 * (size : Int) := by rw [IntKind.wrap_i64]; omega
                  have s6 : IntKind.i64.wrap ((fr : Int) + 2 * (size : Int)) = (fr : Int) + 2 * (size : Int) := by rw [IntKind.wrap_i64]; omega
                  clear hblk hcl hml hcr1 hcr2 hd' hkc HBK
                  go_wp2_with fail
                  refine HCR1.out.mono ?_
                  rintro e w5 ⟨rfl, hd5, hk5⟩
                  have HM5 := Lib.hid (HM.out.stepF hd5 hk5)
                  have c35 := (HKC.out w5 HM5.out.two.bel).2.2.2
                  clear hd5 hk5 c30 HCR1
                  go_wp2_with fail
                  refine (HCR2.out w5 HM5.out.two.rd HM5.out.two.bel).mono ?_
                  rintro e w6 ⟨rfl, hd6, hk6⟩
                  have HM6 := Lib.hid (HM5.out.stepG hd6 hk6)
                  clear hd6 hk6 c35 HCR2
                  obtain ⟨xn, hxn⟩ : ∃ xn, nwst (view d') fr (fr + 2 * size - fr) = xn := ⟨_, rfl⟩
                  have hxl : xn ≤ 4294967295 := by rw [← hxn]; exact nwst_le _ _ _
                  have e2s : ((fr + 2 * size : Nat) : Int) = (fr : Int) + 2 * (size : Int) := by omega
                  have hn1 := walNewest_yes w6 _ p d' fr (fr + 2 * size) HM6.out.two.dk (by omega) (by omega) (by omega)
                  have hn2' := fun w' (hb : Below w6.heap.size w6 w') => refNewest_yes w' _ q d' c fr (fr + 2 * size) (HM6.out.two.rd.below hb) (by omega) (by omega) (by omega)
                  rw [hxn, e2s] at hn1
                  simp only [hxn, e2s] at hn2'
                  have HN1 := Lib.hid hn1
                  have HN2 := Lib.hid hn2'
                  clear hn1 hn2' hxn e2s
                  go_wp2_with fail
                  refine HN1.out.mono ?_
                  rintro e w7 ⟨rfl, hb7⟩
                  have HM7 := Lib.hid (HM6.out.below hb7)
                  have HB7 := Lib.hid hb7
                  clear hb7 HN1
                  go_wp2_with fail
                  refine (HN2.out _ HB7.out).mono ?_
                  rintro e w8 ⟨rfl, hb8⟩
                  have HM8 := Lib.hid (HM7.out.below hb8)
                  have n1 : ((xn : Int) != (xn : Int)) = false := by simp
                  clear hb8 HN2 HB7 HM7
                  obtain ⟨ep', hep1, hep2⟩ := within_next10 xn
                  have hwi := fun w' => within_any ((xn : Int) + 1) 0 4294967295 w' (by decide)
                  simp only [hep1] at hwi
                  have s1 : IntKind.i64.wrap ((xn : Int) + 1) = (xn : Int) + 1 := by rw [IntKind.wrap_i64]; omega
                  have HWI := Lib.hid hwi
                  obtain ⟨r, hr⟩ : ∃ r, SlotMath.opens slDec (view d') fr size = r := ⟨_, rfl⟩
                  have ho1 := slotOpen_yes w8 _ p fr size ep' d' HM8.out.two.dk (HT.out.below HM8.out.two.bel) h1 (by omega) (by omega) hep2
                  have ho2 := fun w' (hb : Below w8.heap.size w8 w') => refOpen10_yes w' _ q d' c fr size ep' (HM8.out.two.rd.below hb) h1 (by omega) (by omega) hep2
                  have hfits := SlotMath.opens_len (view d') fr size
                  rw [hr] at ho1 ho2 hfits
                  obtain ⟨nu0, la0, data⟩ := r
                  simp only at hfits
                  obtain ⟨ma, hma⟩ : ∃ ma, data.length = ma := ⟨_, rfl⟩
                  have HO1 := Lib.hid ho1
                  have HO2 := Lib.hid ho2
                  have HMA := Lib.hid hma
                  have HFI := Lib.hid hfits
                  clear hr ho1 ho2 hma hfits hwi hep1 s5 s6
                  go_wp2_with fail
                  refine (HWI.out _).mono ?_
                  rintro e w' ⟨rfl, rfl⟩
                  clear s1 HWI
                  go_wp2_with fail
                  refine HO1.out.mono ?_
                  rintro e w9 ⟨v9, rfl, hl9, hr9, hb9⟩
                  simp only at hl9 hr9
                  obtain ⟨A9, n9, c9, rfl, hn9, _, _⟩ := hr9.shape'
                  obtain rfl : n9 = ma := by have := HMA.out; omega
                  have HM9 := Lib.hid (HM8.out.relog hb9 hl9 (Nat.le_refl _))
                  have HR9 := Lib.hid hr9
                  have HB9 := Lib.hid hb9
                  obtain ⟨lp', hlp'⟩ : ∃ lp', w8.heap.size = lp' := ⟨_, rfl⟩
                  rw [hlp'] at HM9 ⊢
                  clear hl9 hr9 hb9 HO1 hn9 hlp'
                  go_wp2_with fail
                  refine (HO2.out _ HB9.out).mono ?_
                  rintro e w10 ⟨yp', v10, rfl, hyl, hl10, hr10, hb10⟩
                  simp only at hl10 hr10
                  obtain ⟨A10, n10, c10, rfl, hn10, _, _⟩ := hr10.shape'
                  obtain rfl : n10 = n9 := by have := HMA.out; omega
                  have HM10 := Lib.hid (HM9.out.rrelog hb10 hl10 hyl)
                  have hsm := same_at A9 A10 c9 c10 n10 n10 data data w10 HMA.out HMA.out (by have := HFI.out.1; have := HMA.out; omega) (by have := HFI.out.1; have := HMA.out; omega) (HR9.out.below hb10).bs hr10.bs
                  rw [sameB_self] at hsm
                  have HSM := Lib.hid hsm
                  clear hl10 hr10 hb10 hsm HO2 hn10
                  go_wp2_with fail
                  refine HSM.out.mono ?_
                  rintro e w11 ⟨rfl, hb11⟩
                  have HM11 := Lib.hid (HM10.out.below hb11)
                  clear hb11 HSM
                  go_wp2_with fail
                  go_meet
                  exact ⟨c, lp', yp', ep', 0, nu0, la0, 0, _, _, d', rfl, rfl, by omega, by omega, hfl', hep2, by omega, HFI.out.2.1, HFI.out.2.2, HM11.out⟩
          case rest =>
            as_aux_lemma =>
              obtain ⟨c', lp', yp', ep, sq, nu, la, er, F', G', d', rfl, rfl, hc1, hc2, hc3, hep', hsq', hnu', hla', hm6⟩ := hcut
              obtain ⟨w6, rfl⟩ : ∃ w6 : World, w6 = wc := ⟨_, rfl⟩
              obtain ⟨lp, rfl⟩ : ∃ lp, lp = lp' := ⟨_, rfl⟩
              obtain ⟨yp, rfl⟩ : ∃ yp, yp = yp' := ⟨_, rfl⟩
              obtain ⟨Aw, cw, hq1, _⟩ := hm6.two.rd.says
              obtain ⟨wl, hwl'⟩ : ∃ wl, d'.waits.length = wl := ⟨_, rfl⟩
              rw [hwl'] at hq1
              have hcW := fun w' (h : DiskAt w' F' p d') => diskWaits_any w' F' p d' h
              rw [hwl'] at hcW
              have HCW := Lib.hid hcW
              have hS : ∀ w', Below w6.heap.size w6 w' → w'.cell? ⟨yp, 5, none⟩ = some (.int .i64 (nu : Nat)) ∧ w'.cell? ⟨q, 1, none⟩ = some (.slice Aw wl cw) := fun w' hb => by
                obtain ⟨_, _, _, _, _, z5, _⟩ := (hm6.rlog.below hb).cells
                exact ⟨z5, (hb.cell (p := ⟨q, 1, none⟩) (cell_lt' hq1)).trans hq1⟩
              have HS := Lib.hid hS
              have HM6 := Lib.hid hm6
              have HM7 := Lib.hid hm6.drew
              have n2 : ((nu : Int) != (nu : Int)) = false := by simp
              have n4 : ((wl : Int) != (wl : Int)) = false := by simp
              clear hm6 hcW hS hwl' hq1 HM HC HB HL k0
              go_wp2_with fail
              refine wp_region_mix [(true, 0), (true, 2), (true, 3), (true, 4), (true, 5), (false, 1), (true, 6), (true, 7), (true, 8), (true, 10), (true, 11), (true, 12), (true, 13), (true, 14), (false, 9), (true, 15), (true, 16)] 17 (fun w' => w'.cell? ⟨yp, 5, none⟩ = some (.int .i64 (nu : Nat)) ∧ w'.cell? ⟨q, 1, none⟩ = some (.slice Aw wl cw)) (by kernel_rfl) (by kernel_rfl) (by rintro _ ⟨_, _⟩ ⟨_, _⟩ _ rfl h; exact h) (HS.out _ (Below.refl _ _).drew) ?_
              simp only [pickM, List.getElem?_cons_succ, List.getElem?_cons_zero]
              iterate 5 ((refine wpMix_take (v := ?_) ?_ ?_; rotate_left; · (refine Or.inl ⟨by rfl, ?_⟩; intro w' hSw; obtain ⟨s5, s1⟩ := hSw; go_simp; (try with_reducible rfl))); (try simp only [Act.put, List.setIfInBounds_toArray, List.set_cons_zero, List.set_cons_succ]))
              refine wpMix_do rfl fun K hK => ?_
              go_simp
              refine (slotNumber_any _ lp p fr ⟨size, ep, sq, nu, la, er⟩ HM7.out.log).mono ?_
              rintro e w' ⟨rfl, rfl⟩
              refine hK.out _ _ (fun _ => HS.out _ (Below.refl _ _).drew) ?_
              clear hK K

              iterate 8 ((refine wpMix_take (v := ?_) ?_ ?_; rotate_left; · (refine Or.inl ⟨by rfl, ?_⟩; intro w' hSw; obtain ⟨s5, s1⟩ := hSw; go_simp; (try with_reducible rfl))); (try simp only [Act.put, List.setIfInBounds_toArray, List.set_cons_zero, List.set_cons_succ]))
              refine wpMix_do rfl fun K hK => ?_
              go_simp
              refine (HCW.out _ HM7.out.two.dk).mono ?_
              rintro e w' ⟨rfl, rfl⟩
              refine hK.out _ _ (fun _ => HS.out _ (Below.refl _ _).drew) ?_
              clear hK K
              (try simp only [Act.put, List.setIfInBounds_toArray, List.set_cons_zero, List.set_cons_succ])
              iterate 2 ((refine wpMix_take (v := ?_) ?_ ?_; rotate_left; · (refine Or.inl ⟨by rfl, ?_⟩; intro w' hSw; obtain ⟨s5, s1⟩ := hSw; go_simp; (try with_reducible rfl))); (try simp only [Act.put, List.setIfInBounds_toArray, List.set_cons_zero, List.set_cons_succ]))
              refine wpMix_nil ?_
              clear HCW HS n2 n4 HM6
              go_wp2_with fail
              go_loopw [27] (fun i wz => Sq4 w n p q lp yp fr c' F' G' ⟨size, ep, sq, nu, la, er⟩ d' i wz) (fun i _ => n - (intOf i).toNat)
              case atStart => exact ⟨0, rfl, Nat.zero_le _, HM7.out⟩
              case round =>
                clear HM7
                obtain ⟨k, rfl, hk, ht⟩ := hrel
                obtain ⟨wz, rfl⟩ : ∃ wz : World, wz = wr := ⟨_, rfl⟩
                have HZ := Lib.hid ht
                clear ht
                by_cases hkn : k < n
                · as_aux_lemma =>
                    go_wp2_with fail
                    refine (diskRead_yes wz F' p d' k HZ.out.two.dk (by rw [hc3]; exact hkn)).mono ?_
                    rintro e w8 ⟨v8, s, rfl, hs, hs64, ho8, hb8⟩
                    obtain ⟨A8, c8, rfl, _⟩ := own_shape ho8
                    have ho8' : Own8 w8 wz.heap.size (.slice A8 64 c8) s := by unfold Own8; rw [hs64]; exact ho8
                    have HZ8 := Lib.hid (HZ.out.below hb8)
                    have HS := Lib.hid (show _ ∧ _ from ⟨hs, hs64⟩)
                    have HO8 := Lib.hid ho8'
                    clear hs hs64 ho8 ho8' hb8
                    go_wp2_with fail
                    refine (refNow_any w8 G' q d' c' k HZ8.out.two.rd (by rw [hc3]; exact hkn)).mono ?_
                    rintro e w9 ⟨v9, s', rfl, hs', hs64', ho9, hb9⟩
                    obtain rfl : s = s' := view_at HS.out.1 hs'
                    obtain ⟨A9, n9, c9, rfl, hn9, _, _⟩ := ho9.shape'
                    obtain rfl : n9 = 64 := by omega
                    have hsm := same_at A8 A9 c8 c9 64 64 s s w9 hs64' hs64' (by decide) (by decide) (HO8.out.bs.below hb9) ho9.bs
                    rw [sameB_self] at hsm
                    have HSM := Lib.hid hsm
                    have HZ9 := Lib.hid (HZ8.out.below hb9)
                    clear hs' hs64' ho9 hb9 hn9 hsm
                    go_wp2_with fail
                    refine HSM.out.mono ?_
                    rintro e w10 ⟨rfl, hb10⟩
                    have HZ10 := Lib.hid (HZ9.out.below hb10)
                    clear hb10 HSM
                    go_wp2_with fail
                    go_roundw
                    case rel => exact ⟨k + 1, by go_num, by omega, HZ10.out⟩
                    case measure => simp [intOf]; omega
                · as_aux_lemma =>
                    go_wp2_with fail
                    go_roundw
                    case rel => exact ⟨j + 1, c', lp, yp, ep, sq, nu, la, er, F', G', d', rfl, rfl, by go_num, by omega, by omega, by omega, hc3, hep', hsq', hnu', hla', HZ.out⟩
                    case measure => simp [intOf]; omega
      · have hx : ¬ j < N ∨ (j < N ∧ ¬ j < 25) := by omega
        have HB := Lib.hid hmem.two.bel
        clear hgo hmem
        rcases hx with hx | ⟨hx, hy⟩
        all_goals
          as_aux_lemma =>
            go_wp2_with fail
            refine (slotLives_any _ (HT.out.below HB.out)).mono ?_
            rintro e w8 ⟨rfl, hb8⟩
            have HB8 := Lib.hid (below_then HB.out hb8)
            clear hb8
            go_wp2_with fail
            go_ret
            exact ⟨rfl, HB8.out⟩
end Go.Proofs.YtckihiiimomgfaaDoor
