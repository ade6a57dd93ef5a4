/- The contract of the document's Append. -/
import Derived.Test.YtckihiiimomgfaaDoorRefWal5
import Derived.Test.YtckihiiimomgfaaDoorRefSplit
import Derived.Test.YtckihiiimomgfaaDoorStampRefLay
import Derived.Test.YtckihiiimomgfaaDoorRefDisk5
import Derived.Test.YtckihiiimomgfaaDoorWal6
namespace Go.Proofs.YtckihiiimomgfaaDoor
open Go.RowKit DiskMath
theorem RLogB.drew {w : World} {lp p a : Nat} {g : WalMath.Lg} (h : RLogB w lp p a g) : RLogB w.drew lp p a g := ⟨h.blk⟩
def RAppPost (G : Nat → Prop) (lp p a c : Nat) (r : WalMath.Lg × Dk × Nat) (w : World) (e : Ending) (w' : World) : Prop :=
  e = .returned (.int .i64 (r.2.2 : Nat)) ∧ RLogB w' lp p a r.1 ∧ (∃ c', c' ≤ c + 2000 ∧ RDiskAt w' (fun x => G x ∨ w.heap.size ≤ x) p r.2.1 c') ∧ Kept (fun x => G x ∨ x = lp) w w'
theorem RAppPost.same {G : Nat → Prop} {lp p a c : Nat} {g : WalMath.Lg} {d : Dk} {k : Nat} {w w' : World} {e : Ending} (he : e = .returned (.int .i64 (k : Nat))) (hl : RLogB w lp p a g) (hd : RDiskAt w G p d c) (hb : Below w.heap.size w w') : RAppPost G lp p a c (g, d, k) w e w' :=
  ⟨he, hl.below hb, ⟨c, by omega, (hd.below hb).mono (fun _ h => .inl h)⟩, Kept.of_below hb⟩
/-- behind so many parts, all written, or one refused -/
def RpRel (W : World) (G : Nat → Prop) (lp p a : Nat) (g : WalMath.Lg) (d : Dk) (c : Nat) (L : List StampMath.Part) (i : Value) (wr : World) : Prop :=
  ∃ (k er ck : Nat) (dk : Dk), k ≤ L.length ∧ i = .int .i64 (k : Int) ∧ ((er = 0 ∧ WalMath.putParts d g.at_ 0 L = WalMath.putParts dk g.at_ k (L.drop k)) ∨ (er ≠ 0 ∧ WalMath.putParts d g.at_ 0 L = (dk, er))) ∧ RLogB wr lp p a { g with err := er } ∧
    RDiskAt wr (fun x => G x ∨ W.heap.size ≤ x) p dk ck ∧ dk.fast.length = d.fast.length ∧ dk.waits.length ≤ d.waits.length + k ∧ ck ≤ c + k ∧ Kept (fun x => G x ∨ x = lp) W wr
set_option maxRecDepth 100000 in
set_option maxHeartbeats 8000000 in
theorem refAppend_any (w : World) (G : Nat → Prop) (lp p a : Nat) (g : WalMath.Lg) (d : Dk) (c : Nat) (A : Option Addr) (cb : Nat) (b : List UInt8) (hl : RLogB w lp p a g) (hd : RDiskAt w G p d c) (hG : ¬ G lp)
    (hbc : b.length ≤ cb) (hcm : cb ≤ maxLen) (hbs : Bs w A b) (hb47 : b.length ≤ 140737488355328) (hat : g.at_ ≤ g.to) (hto : g.to ≤ d.fast.length) (hd16 : d.fast.length ≤ 65536) (hep : g.epoch ≤ 4294967295) (hnx : g.next ≤ 4294967295 + 65536) (hw : d.waits.length < 98000) (hc : c ≤ 900000) :
    Calls Tryd.prog 41 #[.pointer (some ⟨lp, 0, none⟩), .slice A b.length cb] w (RAppPost G lp p a c (WalMath.append g d b) w) := by
  obtain ⟨_, _, c2, c3, c4, c5, c6, cf⟩ := hl.cells
  obtain ⟨nb, hnb⟩ : ∃ nb, b.length = nb := ⟨_, rfl⟩
  have HL := Lib.hid hl
  have HD := Lib.hid hd
  have HBS := Lib.hid hbs
  have HCM := Lib.hid hcm
  have HG := Lib.hid hG
  have hlt := hl.lt
  rw [hnb] at hbc hb47 ⊢
  have HNB := Lib.hid hnb
  clear hd hbs hcm hG hnb hl cf
  by_cases h1 : g.err = 0
  · have n1 : ((g.err : Int) != 0) = false := by rw [bne_eq_false_iff_eq]; omega
    by_cases h2 : 65536 < nb
    · have e : WalMath.append g d b = (g, d, 5) := by
        unfold WalMath.append
        rw [if_neg (by omega), HNB.out, if_pos h2]
      have HE := Lib.hid e
      clear e
      go_enter Tryd.func41, Tryd.ntmps41
      go_wp2_with fail
      go_ret
      rw [HE.out]
      exact RAppPost.same rfl HL.out HD.out (Below.refl _ _)
    · by_cases h3 : 4294967295 < g.next
      · have e : WalMath.append g d b = (g, d, 8) := by
          unfold WalMath.append
          rw [if_neg (by omega), HNB.out, if_neg h2, if_pos (by omega)]
        have HE := Lib.hid e
        have n3 : (4294967295 : Int) < (g.next : Int) := by omega
        clear e
        go_enter Tryd.func41, Tryd.ntmps41
        go_wp2_with fail
        go_ret
        rw [HE.out]
        exact RAppPost.same rfl HL.out HD.out (Below.refl _ _)
      · obtain ⟨T, hT⟩ : ∃ T, StampMath.totalOf nb = T := ⟨_, rfl⟩
        have hT1 : 1 ≤ T := by rw [← hT]; exact StampMath.totalOf_pos _
        have hT2 : T ≤ 1725 := by rw [← hT]; unfold StampMath.totalOf; omega
        have hap : WalMath.append g d b = if 4294967295 < g.next + (T - 1) then (g, d, 8) else if g.to - g.at_ < T then (g, d, 8)
            else if (WalMath.put d g.at_ (StampMath.parts g.epoch g.next b)).2 = 0 then ({ g with at_ := g.at_ + T, next := g.next + T }, (WalMath.put d g.at_ (StampMath.parts g.epoch g.next b)).1, 0)
            else ({ g with err := (WalMath.put d g.at_ (StampMath.parts g.epoch g.next b)).2 }, (WalMath.put d g.at_ (StampMath.parts g.epoch g.next b)).1, (WalMath.put d g.at_ (StampMath.parts g.epoch g.next b)).2) := by
          unfold WalMath.append
          rw [if_neg (by omega), HNB.out, if_neg h2, hT]
        have hsp := refSplit_any g.epoch g.next A nb cb b w.drew HNB.out (by omega) (by omega) (by omega) (by omega) (by omega) hbc HCM.out HBS.out.drew
        unfold RsPost at hsp
        rw [HNB.out, hT] at hsp
        have hpl : (StampMath.parts g.epoch g.next b).length = T := by rw [StampMath.parts_length, HNB.out, hT]
        have HTD := Lib.hid hT
        have HAP := Lib.hid hap
        have HSP := Lib.hid hsp
        have HPL := Lib.hid hpl
        have HSK := Lib.hid (show (w.drew.cell? ⟨lp, 4, none⟩ = some (.int .i64 (g.epoch : Nat)) ∧ w.drew.cell? ⟨lp, 5, none⟩ = some (.int .i64 (g.next : Nat))) ∧ True from ⟨⟨c4, c5⟩, trivial⟩)
        have HSK2 := Lib.hid (show ∀ w', Below w.heap.size w w' → RLogB w' lp p a g from fun w' hb => HL.out.below hb)
        have hn3 : ¬ (4294967295 : Int) < (g.next : Int) := by omega
        clear hsp hpl hT hap
        go_enter Tryd.func41, Tryd.ntmps41
        go_wp2_with fail
        refine wp_region_mix [(true, 0), (true, 1), (true, 2), (true, 3), (true, 4), (true, 5), (true, 6), (true, 7), (true, 8), (false, 9), (true, 10), (true, 11), (true, 12), (true, 13), (true, 14)] 15 (fun w' => w'.cell? ⟨lp, 4, none⟩ = some (.int .i64 (g.epoch : Nat)) ∧ w'.cell? ⟨lp, 5, none⟩ = some (.int .i64 (g.next : Nat))) (by kernel_rfl) (by kernel_rfl) (by rintro _ ⟨_, _⟩ ⟨_, _⟩ _ rfl h; exact h) (HSK.out.1) ?_
        simp only [pickM, List.getElem?_cons_succ, List.getElem?_cons_zero]
        iterate 9 ((refine wpMix_take (v := ?_) ?_ ?_; rotate_left; · (refine Or.inl ⟨by rfl, ?_⟩; intro w' hSw; obtain ⟨s4, s5⟩ := hSw; go_simp; (try with_reducible rfl))); (try simp only [Act.put, List.setIfInBounds_toArray, List.set_cons_zero, List.set_cons_succ]))
        refine wpMix_do rfl fun K hK => ?_
        go_simp
        refine HSP.out.mono ?_
        rintro e w3 (⟨hfull, rfl, rfl⟩ | ⟨hfull, v3, rfl, hp3, hb3⟩)
        · as_aux_lemma =>
          refine hK.out _ _ (fun _ => HSK.out.1) ?_
          clear hK K HSP
          (try simp only [Act.put, List.setIfInBounds_toArray, List.set_cons_zero, List.set_cons_succ])
          iterate 5 ((refine wpMix_take (v := ?_) ?_ ?_; rotate_left; · (refine Or.inl ⟨by rfl, ?_⟩; intro w' hSw; obtain ⟨s4, s5⟩ := hSw; go_simp; (try with_reducible rfl))); (try simp only [Act.put, List.setIfInBounds_toArray, List.set_cons_zero, List.set_cons_succ]))
          refine wpMix_nil ?_
          have hap := HAP.out
          rw [if_pos (by omega)] at hap
          have HAP2 := Lib.hid hap
          clear hap
          go_wp2_with fail
          go_ret
          rw [HAP2.out]
          exact RAppPost.same rfl HL.out HD.out (Below.refl _ _).drew
        · as_aux_lemma =>
          have hb3' : Below w.heap.size w w3 := (Below.refl _ _).drew.trans hb3
          obtain ⟨A3, c3', rfl, hc3'⟩ := hp3.shape
          rw [HPL.out] at hp3 ⊢
          have hl3 := HSK2.out _ hb3'
          refine hK.out _ _ (fun _ => ⟨hl3.cells.2.2.2.2.1, hl3.cells.2.2.2.2.2.1⟩) ?_
          have HP3 := Lib.hid hp3.lt
          have HB3 := Lib.hid hb3'
          have HL3 := Lib.hid hl3
          have hap := HAP.out
          rw [if_neg (by omega)] at hap
          clear hK K HSP hp3 hb3 hb3' hc3' hl3 HAP
          have HAP := Lib.hid hap
          clear hap
          (try simp only [Act.put, List.setIfInBounds_toArray, List.set_cons_zero, List.set_cons_succ])
          iterate 5 ((refine wpMix_take (v := ?_) ?_ ?_; rotate_left; · (refine Or.inl ⟨by rfl, ?_⟩; intro w' hSw; obtain ⟨s4, s5⟩ := hSw; go_simp; (try with_reducible rfl))); (try simp only [Act.put, List.setIfInBounds_toArray, List.set_cons_zero, List.set_cons_succ]))
          refine wpMix_nil ?_
          have hs1 : IntKind.i64.wrap ((g.to : Int) - (g.at_ : Int)) = (g.to : Int) - (g.at_ : Int) := by rw [IntKind.wrap_i64]; omega
          go_upto_region 10 with (fail)
          refine wp_region_mix [(true, 0), (true, 1), (true, 2), (true, 3), (true, 4), (true, 5), (true, 6), (true, 7), (true, 8), (true, 9), (true, 10), (true, 11)] 12 (fun w' => w'.cell? ⟨lp, 2, none⟩ = some (.int .i64 (g.to : Nat)) ∧ w'.cell? ⟨lp, 3, none⟩ = some (.int .i64 (g.at_ : Nat))) (by kernel_rfl) (by kernel_rfl) (by rintro _ ⟨_, _⟩ ⟨_, _⟩ _ rfl h; exact h) (⟨HL3.out.drew.cells.2.2.1, HL3.out.drew.cells.2.2.2.1⟩) ?_
          simp only [pickM, List.getElem?_cons_succ, List.getElem?_cons_zero]
          iterate 12 ((refine wpMix_take (v := ?_) ?_ ?_; rotate_left; · (refine Or.inl ⟨by rfl, ?_⟩; intro w' hSw; obtain ⟨s2, s3⟩ := hSw; go_simp; (try with_reducible rfl))); (try simp only [Act.put, List.setIfInBounds_toArray, List.set_cons_zero, List.set_cons_succ]))
          refine wpMix_nil ?_
          have HB3d := Lib.hid HB3.out.drew
          have HL3d := Lib.hid HL3.out.drew
          have HP3d := Lib.hid (HP3.out.kept (Kept.refl (fun _ => False) w3).drew (fun _ _ h => h))
          by_cases h5 : g.to - g.at_ < T
          · as_aux_lemma =>
            have d5 : decide ((g.to : Int) - (g.at_ : Int) < (T : Int)) = true := decide_eq_true (by omega)
            have hap := HAP.out
            rw [if_pos h5] at hap
            have HAP2 := Lib.hid hap
            clear hap
            go_wp2_with fail
            go_ret
            rw [HAP2.out]
            exact RAppPost.same rfl HL.out HD.out HB3d.out
          · as_aux_lemma =>
            have d5 : decide ((g.to : Int) - (g.at_ : Int) < (T : Int)) = false := decide_eq_false (by omega)
            have hap := HAP.out
            rw [if_neg h5] at hap
            have hg0 : ({ g with err := 0 } : WalMath.Lg) = g := by obtain ⟨_, _, _, _, e⟩ := g; simp only at h1; subst h1; rfl
            have hright : ∀ q ∈ StampMath.parts g.epoch g.next b, StampMath.right q := fun q hq => by
              unfold StampMath.parts at hq
              obtain ⟨i, hi, rfl⟩ := List.mem_map.1 hq
              rw [HNB.out, HTD.out] at hi
              have := List.mem_range.1 hi
              exact StampMath.part_right (by omega) (by omega) (by omega) (by omega) (by rw [HNB.out, HTD.out]; omega) (by rw [HNB.out, HTD.out]; omega)
            obtain ⟨L, hL⟩ : ∃ L, StampMath.parts g.epoch g.next b = L := ⟨_, rfl⟩
            have hpl := HPL.out
            rw [hL] at hap hright hpl
            rw [hL] at HP3d
            have HAP2 := Lib.hid hap
            have HRT := Lib.hid hright
            have HPL2 := Lib.hid hpl
            have HG0 := Lib.hid hg0
            clear hap hg0 hright hL hpl HPL HAP HSK HSK2 HP3 HL3 HB3 c2 c3 c4 c5 c6
            obtain ⟨W, hW⟩ : ∃ W : World, w3.drew = W := ⟨_, rfl⟩
            rw [hW] at HB3d HL3d HP3d ⊢
            have hWs : W.heap.size = w3.heap.size := by rw [← hW]; rfl
            have HWS := Lib.hid hWs
            have hsz := HB3d.out.size
            have HD0 := Lib.hid (HD.out.lt.below HB3d.out)
            have hus := Tryd.underlying114
            clear hW hWs d5
            go_wp2_with fail
            go_loopw [7] (fun i wr => RpRel W (fun x => G x ∧ x < w.heap.size) lp p a g d c L i wr) (fun i _ => T - (intOf i).toNat)
            case atStart => exact ⟨0, 0, c, d, Nat.zero_le _, rfl, .inl ⟨rfl, rfl⟩, by rw [HG0.out]; exact HL3d.out, HD0.out.mono (fun _ h => .inl h), rfl, Nat.le_refl _, Nat.le_refl _, Kept.refl _ _⟩
            case round =>
              obtain ⟨k, er, ck, dk, hk, rfl, hput, hlk, hdk, hfl, hwl, hck, hkp⟩ := hrel
              obtain ⟨wo, rfl⟩ : ∃ wo : World, wo = wr := ⟨_, rfl⟩
              rw [HPL2.out] at hk
              obtain ⟨m0, _, _, m3, _, _, m6, mf⟩ := hlk.cells
              simp only at m3 m6
              have f6 := mf 6
              have HLK := Lib.hid hlk
              have HDK := Lib.hid hdk
              have HPUT := Lib.hid hput
              have HKP := Lib.hid hkp
              have hso := hkp.size
              clear hlk hdk hput hkp mf
              by_cases hgo : k < T ∧ er = 0
              · as_aux_lemma =>
                obtain ⟨hlt2, he⟩ := hgo
                have e0 : ((er : Int) == 0) = true := by rw [beq_iff_eq]; omega
                obtain ⟨q, hx⟩ : ∃ q, L[k]? = some q := ⟨_, List.getElem?_eq_getElem (by have := HPL2.out; omega)⟩
                obtain ⟨gq, c', u, hv, _, hgl, hgg, hrg, hou, hug⟩ := (HP3d.out.kept HKP.out (fun x hx h => by
                  have h1 := hx.1
                  have : w.drew.heap.size = w.heap.size := rfl
                  rcases h with h | h
                  · have := h.2; omega
                  · omega)).at_ hx
                injection hv with e4 e5 e6
                subst e4 e6
                have hqr := HRT.out q (List.mem_of_getElem? hx)
                obtain ⟨pe, ps, pi, pt, pd⟩ := q
                simp only at hou
                obtain ⟨Au, nu, cu, rfl, hnu, hcu, _⟩ := hou.shape'
                have hib : (Tryd.prog.info? 114).map (·.size) = some (partCells ⟨pe, ps, pi, pt, pd⟩ (.slice Au nu cu)).length := by kernel_rfl
                have hdrop : L.drop k = ⟨pe, ps, pi, pt, pd⟩ :: L.drop (k + 1) := by
                  obtain ⟨h1, h2⟩ := List.getElem?_eq_some_iff.1 hx
                  rw [List.drop_eq_getElem_cons h1, h2]
                have hpst : WalMath.putParts dk g.at_ k (L.drop k) = if (write dk (g.at_ + k : Nat) (StampMath.lay ⟨pe, ps, pi, pt, pd⟩)).2 = 0 then WalMath.putParts (write dk (g.at_ + k : Nat) (StampMath.lay ⟨pe, ps, pi, pt, pd⟩)).1 g.at_ (k + 1) (L.drop (k + 1)) else write dk (g.at_ + k : Nat) (StampMath.lay ⟨pe, ps, pi, pt, pd⟩) := by rw [hdrop]; rfl
                have hputk : WalMath.putParts d g.at_ 0 L = WalMath.putParts dk g.at_ k (L.drop k) := by
                  rcases HPUT.out with h | h
                  · exact h.2
                  · exact absurd he h.1
                rw [hpst] at hputk
                have hlay := refLay_ok ⟨pe, ps, pi, pt, pd⟩ Au cu wo hqr hou.bs
                simp only at hlay
                rw [hnu] at hlay
                have hll : (StampMath.lay ⟨pe, ps, pi, pt, pd⟩).length = 64 := StampMath.lay_length _ hqr.2.2.2.2.2.2.2.2
                obtain ⟨Y, hY⟩ : ∃ Y, StampMath.lay ⟨pe, ps, pi, pt, pd⟩ = Y := ⟨_, rfl⟩
                rw [hY] at hlay hll hputk
                have HRG := Lib.hid hrg
                have HLAY := Lib.hid hlay
                have HPST := Lib.hid hputk
                have HLL := Lib.hid hll
                have s1 : IntKind.i64.wrap ((g.at_ : Int) + (k : Int)) = (g.at_ : Int) + (k : Int) := by rw [IntKind.wrap_i64]; omega
                clear hrg hou hqr hx hug e5 hdrop hpst hlay hY hputk hll hnu HPUT he
                go_wp2_with (refine wpList_load_mid rfl 114 (.tmp 71) rfl gq (k * 5) rfl (partCells ⟨pe, ps, pi, pt, pd⟩ (.slice Au nu cu)) _ HRG.out hus rfl hib ?_)
                refine HLAY.out.mono ?_
                rintro e w5 ⟨v5, rfl, ho5, hb5⟩
                obtain ⟨A5, c5, rfl, hc5⟩ := own_shape ho5
                have ho5' : Own8 w5 wo.heap.size (.slice A5 64 c5) Y := by unfold Own8; rw [HLL.out]; exact ho5
                have HLO := Lib.hid (HLK.out.below hb5).drew
                have HO5 := Lib.hid ho5'
                have HB5 := Lib.hid hb5
                have hs5 := hb5.size
                clear ho5 ho5' hb5 HLAY m0 m3 m6 f6
                go_wp2_with fail
                refine wp_region_mix [(true, 0), (true, 1), (true, 2), (true, 3), (true, 4), (true, 5), (true, 6), (true, 7), (true, 8), (true, 9), (true, 10), (true, 11), (false, 12), (true, 13), (true, 14), (false, 15)] 16 (fun w' => w'.cell? ⟨lp, 0, none⟩ = some (.pointer (some ⟨p, 0, none⟩)) ∧ w'.cell? ⟨lp, 3, none⟩ = some (.int .i64 (g.at_ : Nat))) (by kernel_rfl) (by kernel_rfl) (by rintro _ ⟨_, _⟩ ⟨_, _⟩ _ rfl h; exact h) (⟨HLO.out.cells.1, HLO.out.cells.2.2.2.1⟩) ?_
                simp only [pickM, List.getElem?_cons_succ, List.getElem?_cons_zero]
                iterate 12 ((refine wpMix_take (v := ?_) ?_ ?_; rotate_left; · (refine Or.inl ⟨by rfl, ?_⟩; intro w' hSw; obtain ⟨s0, s3⟩ := hSw; go_simp; (try with_reducible rfl))); (try simp only [Act.put, List.setIfInBounds_toArray, List.set_cons_zero, List.set_cons_succ]))
                refine wpMix_do rfl fun K hK => ?_
                go_simp
                have hwr := refWrite_yes w5.drew (fun x => ((G x ∧ x < w.heap.size) ∨ W.heap.size ≤ x) ∧ x < wo.heap.size) p dk ck (g.at_ + k) A5 c5 Y ((HDK.out.lt.below HB5.out).kept (Kept.refl (fun _ => False) w5).drew (fun _ _ h => h)) (by omega) (by omega) HLL.out HO5.out.bs.drew (fun ad had h => by
                  have h8 : (Value.slice A5 64 c5).ownBlock = some ad.block := by rw [had]; rfl
                  have := (HO5.out.lt _ h8).1
                  have := h.2
                  omega) (by omega)
                have hwl2 := write_len dk (g.at_ + k : Nat) Y
                obtain ⟨wd, hwd⟩ : ∃ wd, write dk (g.at_ + k : Nat) Y = wd := ⟨_, rfl⟩
                have hps := HPST.out
                rw [hwd] at hwr hps hwl2
                rw [Int.natCast_add] at hwr
                obtain ⟨dn, cd⟩ := wd
                simp only at hwr hps hwl2
                refine hwr.mono ?_
                rintro e w6 ⟨rfl, hd6, hk6⟩
                have hl6 := HLO.out.kept hk6 (fun h => by
                  rcases h.1 with h | h
                  · exact HG.out h.1
                  · omega)
                have c60 := hl6.cells.1
                have c63 := hl6.cells.2.2.2.1
                have c66 := hl6.cells.2.2.2.2.2.2.1
                have f66 := hl6.cells.2.2.2.2.2.2.2 6
                simp only at c63 c66
                have hkp6 : Kept (fun x => (G x ∧ x < w.heap.size) ∨ x = lp) W w6 := ((HKP.out.then_below HB5.out).drew).trans hk6 (fun x hx => hx.1.elim (fun h => .inl (.inl h)) .inr)
                have hd6' : RDiskAt w6 (fun x => (G x ∧ x < w.heap.size) ∨ W.heap.size ≤ x) p dn (ck + 1) := hd6.mono (fun x hx => hx.elim (fun h => h.1) (fun h => .inr (by have : w5.drew.heap.size = w5.heap.size := rfl; omega)))
                have hset : Kept (fun x => x = lp) w6 (w6.setCell ⟨lp, 6, none⟩ (.int .i64 (cd : Nat))) := (Kept.refl (fun x => x = lp) w6).setCell (p := ⟨lp, 6, none⟩) (.inl rfl) _
                have hl7 := hl6.setErr (cd : Nat) cd rfl
                have hd7 := hd6'.kept hset (fun x hx e => by
                  subst e
                  rcases hx with h | h
                  · exact HG.out h.1
                  · omega)
                have hkp7 : Kept (fun x => (G x ∧ x < w.heap.size) ∨ x = lp) W (w6.setCell ⟨lp, 6, none⟩ (.int .i64 (cd : Nat))) := hkp6.setCell (p := ⟨lp, 6, none⟩) (.inl (.inr rfl)) _
                have c70 := hl7.cells.1
                have c73 := hl7.cells.2.2.2.1
                simp only at c73
                have HL7 := Lib.hid hl7
                have HD7 := Lib.hid hd7
                have HKP7 := Lib.hid hkp7
                have HPS := Lib.hid hps
                have HWL2 := Lib.hid hwl2
                clear hl6 hkp6 hd6' hset hl7 hd7 hkp7 hps hwl2 hwr hd6 hk6 hwd HPST HDK
                refine hK.out _ _ (fun _ => ⟨c60, c63⟩) ?_
                clear hK K
                (try simp only [Act.put, List.setIfInBounds_toArray, List.set_cons_zero, List.set_cons_succ])
                iterate 2 ((refine wpMix_take (v := ?_) ?_ ?_; rotate_left; · (refine Or.inl ⟨by rfl, ?_⟩; intro w' hSw; obtain ⟨s0, s3⟩ := hSw; go_simp; (try with_reducible rfl))); (try simp only [Act.put, List.setIfInBounds_toArray, List.set_cons_zero, List.set_cons_succ]))
                refine wpMix_do rfl fun K hK => ?_
                go_simp
                refine hK.out _ _ (fun _ => ⟨c70, c73⟩) ?_
                clear hK K c60 c63 c66 f66 c70 c73
                (try simp only [Act.put, List.setIfInBounds_toArray, List.set_cons_zero, List.set_cons_succ])
                refine wpMix_nil ?_
                go_wp2_with fail
                go_roundw
                case rel =>
                  refine ⟨k + 1, cd, ck + 1, dn, by have := HPL2.out; omega, by go_num, ?_, HL7.out, HD7.out, by have := HWL2.out.1; omega, by have := HWL2.out.2; omega, by omega, HKP7.out⟩
                  have hps := HPS.out
                  by_cases hcd : cd = 0
                  · rw [if_pos hcd] at hps
                    exact .inl ⟨hcd, hps⟩
                  · rw [if_neg hcd] at hps
                    exact .inr ⟨hcd, hps⟩
                case measure => simp [intOf]; omega
              · have hkpw : Kept (fun x => G x ∨ x = lp) w wo := (Kept.of_below HB3d.out).trans HKP.out (fun x hx => .inl (hx.imp (fun h => h.1) id))
                have HKPW := Lib.hid hkpw
                have hdw : ∀ (wx : World) (dx : Dk) (cx : Nat), RDiskAt wx (fun x => (G x ∧ x < w.heap.size) ∨ W.heap.size ≤ x) p dx cx → RDiskAt wx (fun x => G x ∨ w.heap.size ≤ x) p dx cx := fun wx dx cx h => h.mono (fun x hx => hx.elim (fun h => .inl h.1) (fun h => .inr (by omega)))
                have HDW := Lib.hid hdw
                clear hkpw hdw
                by_cases he : er = 0
                · as_aux_lemma =>
                  obtain rfl : k = T := by omega
                  have e0 : ((er : Int) == 0) = true := by rw [beq_iff_eq]; omega
                  have hpp : WalMath.put d g.at_ L = flush dk := by
                    unfold WalMath.put
                    rcases HPUT.out with h | h
                    · rw [h.2, List.drop_of_length_le (by have := HPL2.out; omega)]
                      rfl
                    · exact absurd he h.1
                  have hap := HAP2.out
                  rw [hpp] at hap
                  have HAP3 := Lib.hid hap
                  clear hpp hap HPUT HAP2 hgo he
                  go_wp2_with fail
                  refine (refFlush_any wo _ p dk ck HDK.out (by omega)).mono ?_
                  rintro e w7 ⟨rfl, hd7, hk7⟩
                  have hl7 := HLK.out.kept hk7 (fun h => by
                    rcases h with h | h
                    · exact HG.out h.1
                    · omega)
                  have hkp7 : Kept (fun x => G x ∨ x = lp) w w7 := HKPW.out.trans hk7 (fun x hx => hx.elim (fun h => .inl (.inl h.1)) (fun h => .inr (by omega)))
                  obtain ⟨wf, hwf⟩ : ∃ wf, flush dk = wf := ⟨_, rfl⟩
                  have hap := HAP3.out
                  rw [hwf] at hap hd7 ⊢
                  obtain ⟨df, cf⟩ := wf
                  simp only at hap hd7 ⊢
                  have j0 := hl7.cells.1
                  have j6 := hl7.cells.2.2.2.2.2.2.1
                  have jf := hl7.cells.2.2.2.2.2.2.2 6
                  simp only at j6
                  have hset : Kept (fun x => x = lp) w7 (w7.setCell ⟨lp, 6, none⟩ (.int .i64 (cf : Nat))) := (Kept.refl (fun x => x = lp) w7).setCell (p := ⟨lp, 6, none⟩) (.inl rfl) _
                  have hl8 := hl7.setErr (cf : Nat) cf rfl
                  have hd8 := (HDW.out _ _ _ hd7).kept hset (fun x hx e => by
                    subst e
                    rcases hx with h | h
                    · exact HG.out h
                    · omega)
                  have hkp8 : Kept (fun x => G x ∨ x = lp) w (w7.setCell ⟨lp, 6, none⟩ (.int .i64 (cf : Nat))) := hkp7.setCell (p := ⟨lp, 6, none⟩) (.inl (.inr rfl)) _
                  have HL8 := Lib.hid hl8
                  have HD8 := Lib.hid hd8
                  have HKP8 := Lib.hid hkp8
                  have HAP4 := Lib.hid hap
                  clear hd7 hk7 hl7 hkp7 hset hl8 hd8 hkp8 hap hwf HAP3 HDK HLK HKP HKPW HDW m0 m3 m6 f6
                  by_cases hcf : cf = 0
                  · as_aux_lemma =>
                    have n7 : ((cf : Int) != 0) = false := by rw [bne_eq_false_iff_eq]; omega
                    have e7 : ((cf : Int) == 0) = true := by rw [beq_iff_eq]; omega
                    have s1 : IntKind.i64.wrap ((g.at_ : Int) + (k : Int)) = (g.at_ : Int) + (k : Int) := by rw [IntKind.wrap_i64]; omega
                    have s2 : IntKind.i64.wrap ((g.next : Int) + (k : Int)) = (g.next : Int) + (k : Int) := by rw [IntKind.wrap_i64]; omega
                    have hap := HAP4.out
                    rw [if_pos hcf] at hap
                    have HAP5 := Lib.hid hap
                    have HCF := Lib.hid hcf
                    clear hap hcf HAP4
                    go_wp2_with fail
                    obtain ⟨w8, hw8⟩ : ∃ w8, w7.setCell ⟨lp, 6, none⟩ (.int .i64 (cf : Nat)) = w8 := ⟨_, rfl⟩
                    rw [hw8] at HL8 HD8 HKP8 ⊢
                    have HL8d := Lib.hid HL8.out.drew
                    have j3 := HL8d.out.cells.2.2.2.1
                    have j5 := HL8d.out.cells.2.2.2.2.2.1
                    have f3 := HL8d.out.cells.2.2.2.2.2.2.2 3
                    simp only at j3 j5
                    clear hw8 j0 j6 jf
                    refine wp_region_mix [(true, 0), (true, 1), (true, 2), (true, 3), (true, 4), (true, 6), (true, 7), (true, 9), (true, 10), (true, 11), (true, 12), (true, 13), (true, 14), (true, 15), (false, 5), (true, 8), (true, 16), (true, 17), (false, 18), (false, 19), (true, 20), (false, 21)] 21 (fun w' => w'.cell? ⟨lp, 5, none⟩ = some (.int .i64 (g.next : Nat)) ∧ True) (by kernel_rfl) (by kernel_rfl) (by rintro _ ⟨_, _⟩ ⟨_, _⟩ _ rfl h; exact h) (⟨j5, trivial⟩) ?_
                    simp only [pickM, List.getElem?_cons_succ, List.getElem?_cons_zero]
                    iterate 14 ((refine wpMix_take (v := ?_) ?_ ?_; rotate_left; · (refine Or.inl ⟨by rfl, ?_⟩; intro w' hSw; obtain ⟨s5, -⟩ := hSw; go_simp; (try with_reducible rfl))); (try simp only [Act.put, List.setIfInBounds_toArray, List.set_cons_zero, List.set_cons_succ]))
                    refine wpMix_do rfl fun K hK => ?_
                    go_simp
                    refine hK.out _ _ (fun _ => ⟨j5, trivial⟩) ?_
                    clear hK K
                    (try simp only [Act.put, List.setIfInBounds_toArray, List.set_cons_zero, List.set_cons_succ])
                    iterate 3 ((refine wpMix_take (v := ?_) ?_ ?_; rotate_left; · (refine Or.inl ⟨by rfl, ?_⟩; intro w' hSw; obtain ⟨s5, -⟩ := hSw; go_simp; (try with_reducible rfl))); (try simp only [Act.put, List.setIfInBounds_toArray, List.set_cons_zero, List.set_cons_succ]))
                    have hl9 := HL8d.out.setAt ((g.at_ : Int) + (k : Int)) (g.at_ + k) (by omega)
                    have k5 := hl9.cells.2.2.2.2.2.1
                    have g5 := hl9.cells.2.2.2.2.2.2.2 5
                    simp only at k5
                    have HL9 := Lib.hid hl9
                    have k5' : ((w8.setCell ⟨lp, 3, none⟩ (.int .i64 ((g.at_ : Int) + (k : Int)))).drew).cell? ⟨lp, 5, none⟩ = some (.int .i64 (g.next : Nat)) := k5
                    have g5' : ((w8.setCell ⟨lp, 3, none⟩ (.int .i64 ((g.at_ : Int) + (k : Int)))).drew).frozen? ⟨lp, 5, none⟩ = false := g5
                    clear hl9
                    refine wpMix_do rfl fun K hK => ?_
                    go_simp
                    refine hK.out _ _ (fun _ => ⟨k5, trivial⟩) ?_
                    clear hK K
                    (try simp only [Act.put, List.setIfInBounds_toArray, List.set_cons_zero, List.set_cons_succ])
                    refine wpMix_do rfl fun K hK => ?_
                    go_simp
                    refine hK.out _ _ (fun _ => ⟨k5, trivial⟩) ?_
                    clear hK K
                    (try simp only [Act.put, List.setIfInBounds_toArray, List.set_cons_zero, List.set_cons_succ])
                    iterate 1 ((refine wpMix_take (v := ?_) ?_ ?_; rotate_left; · (refine Or.inl ⟨by rfl, ?_⟩; intro w' hSw; obtain ⟨s5, -⟩ := hSw; go_simp; (try with_reducible rfl))); (try simp only [Act.put, List.setIfInBounds_toArray, List.set_cons_zero, List.set_cons_succ]))
                    refine wpMix_do rfl fun K hK => ?_
                    go_simp
                    refine hK.out _ _ (fun h => absurd h (by decide)) ?_
                    clear hK K
                    (try simp only [Act.put, List.setIfInBounds_toArray, List.set_cons_zero, List.set_cons_succ])
                    refine wpMix_nil ?_
                    go_wp2_with fail
                    go_ret
                    rw [HAP5.out]
                    have hfin := HL9.out.setNext ((g.next : Int) + (k : Int)) (g.next + k) (by omega)
                    have hcf := HCF.out
                    have h1' := h1
                    refine ⟨rfl, ?_, ⟨ck + 1, by omega, ?_⟩, ?_⟩
                    · simp only at hfin ⊢
                      rw [h1, ← hcf]
                      exact hfin
                    · have hset : ∀ (u : World) (i : Nat) (y : Value), Kept (fun x => x = lp) u (u.setCell ⟨lp, i, none⟩ y) := fun u i y => (Kept.refl (fun x => x = lp) u).setCell (p := ⟨lp, i, none⟩) (.inl rfl) y
                      have hno : ∀ x, (G x ∨ w.heap.size ≤ x) → ¬ x = lp := fun x hx e => by
                        subst e
                        rcases hx with h | h
                        · exact HG.out h
                        · omega
                      exact ((HD8.out.kept (Kept.refl (fun _ => False) w8).drew (fun _ _ h => h)).kept (hset _ 3 _) hno).kept (hset _ 5 _) hno
                    · exact ((HKP8.out.drew).setCell (p := ⟨lp, 3, none⟩) (.inl (.inr rfl)) _).setCell (p := ⟨lp, 5, none⟩) (.inl (.inr rfl)) _
                  · as_aux_lemma =>
                    have n7 : ((cf : Int) != 0) = true := by rw [bne_iff_ne]; omega
                    have hap := HAP4.out
                    rw [if_neg hcf] at hap
                    have HAP5 := Lib.hid hap
                    clear hap hcf HAP4
                    go_wp2_with fail
                    go_ret
                    rw [HAP5.out]
                    exact ⟨rfl, HL8.out, ⟨ck + 1, by omega, HD8.out⟩, HKP8.out⟩
                · as_aux_lemma =>
                  have e0 : ((er : Int) == 0) = false := by rw [beq_eq_false_iff_ne]; omega
                  have n0 : ((er : Int) != 0) = true := by rw [bne_iff_ne]; omega
                  have hpp : WalMath.put d g.at_ L = (dk, er) := by
                    unfold WalMath.put
                    rcases HPUT.out with h | h
                    · exact absurd h.1 he
                    · rw [h.2, if_neg he]
                  have hap := HAP2.out
                  rw [hpp, if_neg he] at hap
                  have HAP3 := Lib.hid hap
                  clear hpp hap HPUT HAP2 hgo he
                  by_cases hkT : k < T
                  all_goals
                    go_wp2_with fail
                    go_ret
                    rw [HAP3.out]
                    exact ⟨rfl, HLK.out, ⟨ck, by omega, HDW.out _ _ _ HDK.out⟩, HKPW.out⟩
  · have e : WalMath.append g d b = (g, d, g.err) := by
      unfold WalMath.append
      rw [if_pos h1]
    have HE := Lib.hid e
    have n1 : ((g.err : Int) != 0) = true := by rw [bne_iff_ne]; omega
    clear e
    go_enter Tryd.func41, Tryd.ntmps41
    go_wp2_with fail
    go_ret
    rw [HE.out]
    exact RAppPost.same rfl HL.out HD.out (Below.refl _ _)
end Go.Proofs.YtckihiiimomgfaaDoor
