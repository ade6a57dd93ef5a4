/- The walk of the statement on what every row of calls to a disk answers: DiskPlays, where there is a disk. -/
import Derived.Test.YtckihiiimomgfaaDiskPlay
import Derived.Deep.CutBlock
import Derived.Deep.CutRange
namespace Go.Proofs.Ytckihiiimomgfaa
open Go.RowKit DiskMath
def Dp4 (W : World) (n p q c : Nat) (F G : Nat → Prop) (d : Dk) (i : Value) (wr : World) : Prop := ∃ k : Nat, i = .int .i64 (k : Int) ∧ k ≤ n ∧ Two W wr F G p q d d c
/-- behind one call of a row -/
def DpCut (W : World) (n p q j : Nat) (s : Value) (wr : World) : Prop := ∃ (c : Nat) (F G : Nat → Prop) (d : Dk), s = .bool true ∧ c ≤ j + 1 ∧ d.waits.length ≤ j + 1 ∧ d.fast.length = n ∧ Two W wr F G p q d d c
/-- bytes of the call's own, apart from both disks -/
def DpBytes (W wo : World) (F G : Nat → Prop) (p q : Nat) (d : Dk) (c : Nat) (s : Value) (wr : World) : Prop := ∃ l : List UInt8, l.length ≤ 100 ∧ Own8 wr wo.heap.size s l ∧ Below wo.heap.size wo wr ∧ Two W wr F G p q d d c
set_option maxRecDepth 100000 in
set_option maxHeartbeats 100000000 in
theorem diskPlays_yes (x : Int) (n : Nat) (A : Option Addr) (c : Nat) (ds : List D7) (w : World) (hx : (x = n ∧ 1 ≤ n ∧ n ≤ 8) ∨ (8 < x ∧ x ≤ 65536 ∧ n = 8)) (_hc : ds.length ≤ c) (hm : c ≤ maxLen) (hr : D7s w A ds) :
    Calls Try.prog 5 #[.int .i64 x, .slice A ds.length c] w fun e w' => e = .returned (.bool true) ∧ Below w.heap.size w w' := by
  have hcm : c ≤ 9223372036854775807 := by unfold maxLen at hm; omega
  obtain ⟨N, hN⟩ : ∃ N, ds.length = N := ⟨_, rfl⟩
  rw [hN] at _hc ⊢
  have HN := Lib.hid hN
  have HR := Lib.hid hr
  have hn1 : 1 ≤ n := by omega
  have hn8 : n ≤ 8 := by omega
  clear hN hm hr
  go_enter Try.func5, Try.ntmps5
  go_upto_region 1 with (fail)
  go_cut [26] (fun s wx => s = .bool (decide (8 < x)) ∧ wx = w)
  case first =>
    as_aux_lemma =>
      by_cases h8 : 8 < x
      · have h6 : x ≤ 65536 := by omega
        have hd : decide (8 < x) = true := decide_eq_true h8
        go_wp2_with fail
        go_meet
        exact ⟨by rw [hd], rfl⟩
      · have hd : decide (8 < x) = false := decide_eq_false h8
        go_wp2_with fail
        go_meet
        exact ⟨by rw [hd], rfl⟩
  case rest =>
  as_aux_lemma =>
    obtain ⟨rfl, rfl⟩ := hcut
    go_upto_if 26 with (fail)
    obtain ⟨W, rfl⟩ : ∃ W : World, W = wc := ⟨_, rfl⟩
    go_cut [0] (fun s wx => s = .int .i64 (n : Int) ∧ W = wx)
    case first =>
      as_aux_lemma =>
        rcases hx with ⟨rfl, h1, h8⟩ | ⟨h1, h2, rfl⟩
        · have hd : decide (8 < (n : Int)) = false := decide_eq_false (by omega)
          go_wp2_with fail
          go_meet
          exact ⟨rfl, rfl⟩
        · have hd : decide (8 < x) = true := decide_eq_true h1
          go_wp2_with fail
          go_meet
          exact ⟨rfl, rfl⟩
    case rest =>
      as_aux_lemma =>
        obtain ⟨rfl, hW⟩ := hcut
        subst hW
        clear hx
        go_wp2_with fail
        refine (diskNew_yes n _ hn1 (by omega)).mono ?_
        rintro e w1 ⟨rfl, hd1, hb1⟩
        have HD1 := Lib.hid hd1.lt
        have HB1 := Lib.hid hb1
        have hs1 := hb1.size
        clear hd1 hb1
        go_wp2_with fail
        refine (refNew_yes n w1 hn1 (by omega)).mono ?_
        rintro e w2 ⟨rfl, hd2, hb2⟩
        have hs2 := hb2.size
        have HT := Lib.hid (show Two W w2 (fun k => W.heap.size ≤ k ∧ k < w1.heap.size) (fun k => w1.heap.size ≤ k ∧ k < w2.heap.size) (W.heap.size + 2) w1.heap.size (DiskMath.new n) (DiskMath.new n) 0 from
          ⟨HD1.out.below hb2, hd2.lt, fun k hk => ⟨hk.1, by omega⟩, fun k hk => ⟨by omega, hk.2⟩, fun k hf hg => by omega, below_then HB1.out hb2⟩)
        obtain ⟨p, hp⟩ : ∃ p, W.heap.size + 2 = p := ⟨_, rfl⟩
        obtain ⟨q, hq⟩ : ∃ q, w1.heap.size = q := ⟨_, rfl⟩
        rw [hp, hq] at HT
        rw [hp, hq]
        clear hd2 hb2 HD1 HB1
        go_wp2_with fail
        go_loopw [9] (fun i wr => DpRel W n p q i wr) (fun i _ => 40 - (intOf i).toNat)
        case atStart => exact ⟨0, 0, _, _, _, rfl, by decide, Nat.le_refl _, by simp [DiskMath.new], by simp [DiskMath.new], HT.out⟩
        case round =>
          as_aux_lemma =>
            clear HT
            obtain ⟨j, cc, F, G, d, rfl, hj, hcc, hwl, hfl, ht⟩ := hrel
            obtain ⟨wo, rfl⟩ : ∃ wo : World, wo = wr := ⟨_, rfl⟩
            by_cases hgo : j < N ∧ j < 40
            · obtain ⟨hlt, h40⟩ := hgo
              obtain ⟨z, hz⟩ : ∃ z, ds[j]? = some z := ⟨_, List.getElem?_eq_getElem (by have := HN.out; omega)⟩
              obtain ⟨ad, Ab, cb, Al, cl, rfl, hadw, hda, halw⟩ := HR.out.at_ ht.bel hz
              obtain ⟨dk, di, dn, db, dw, dl⟩ := z
              have hsz := ht.bel.size
              have hcells : ∀ w' : World, Kept (fun k => F k ∨ G k ∨ wo.heap.size ≤ k) wo w' → w'.cell? (ad.add (j * 6)) = some (.int .i64 dk) ∧ w'.cell? ⟨(ad.add (j * 6)).block, (ad.add (j * 6)).off + 1, none⟩ = some (.int .i64 di) ∧ w'.cell? ⟨(ad.add (j * 6)).block, (ad.add (j * 6)).off + 2, none⟩ = some (.int .i64 dn) ∧ w'.cell? ⟨(ad.add (j * 6)).block, (ad.add (j * 6)).off + 4, none⟩ = some (.bool dw) ∧ w'.cell? ⟨(ad.add (j * 6)).block, (ad.add (j * 6)).off + 5, none⟩ = some (.slice Al dl.length cl) := fun w' hk => by
                have hn : ¬ (F ad.block ∨ G ad.block ∨ wo.heap.size ≤ ad.block) := fun h => by
                  rcases h with h | h | h
                  · have := (ht.ownF _ h).1; omega
                  · have := (ht.ownG _ h).1; omega
                  · omega
                have hc : ∀ k, w'.cell? (ad.add k) = wo.cell? (ad.add k) := fun k => hk.cell (by rw [addr_block]; omega) (by rw [addr_block]; exact hn)
                refine ⟨(hc _).trans hda.c0, ?_, ?_, ?_, ?_⟩
                · rw [← addr_fld _ _ 1 (by decide)]; exact (hc _).trans hda.c1
                · rw [← addr_fld _ _ 2 (by decide)]; exact (hc _).trans hda.c2
                · rw [← addr_fld _ _ 4 (by decide)]; exact (hc _).trans hda.c4
                · rw [← addr_fld _ _ 5 (by decide)]; exact (hc _).trans hda.c5
              have c3 := hda.c3
              simp only at c3
              rw [addr_fld _ _ 3 (by decide)] at c3
              have HC := Lib.hid hcells
              have HT := Lib.hid ht
              have hcut := cut_bs Ab cb 100 db wo hda.hb.1 hda.hb.2.1 (by decide)
              obtain ⟨l0, hl0⟩ : ∃ l0, db.take 100 = l0 := ⟨_, rfl⟩
              have hbs0 : Bs wo Ab l0 := by rw [← hl0]; exact hda.hb.2.2.take 100
              have hl0l : l0.length ≤ 100 := by rw [← hl0]; exact List.length_take_le _ _
              rw [hl0] at hcut
              have HCUT := Lib.hid hcut
              have HB0 := Lib.hid hbs0
              have HI := Lib.hid hda.hi
              have HNN := Lib.hid hda.hn
              have HL := Lib.hid hda.hl
              have HAL := Lib.hid halw
              clear hcells ht hcut hl0 hbs0 hda halw hz
              go_wp2_with fail
              refine HCUT.out.mono ?_
              rintro e w' ⟨rfl, rfl⟩
              clear HCUT
              go_wp2_with fail
              refine (copy_any Ab cb l0 _ (by omega) HB0.out).mono ?_
              rintro e w3 ⟨v3, rfl, ho3, hb3⟩
              have hcw := (HC.out w3 (Kept.of_below hb3)).2.2.2.1
              have HO3 := Lib.hid (show Own8 w3 _ v3 l0 from ho3)
              have HB3 := Lib.hid hb3
              clear ho3 hb3
              obtain ⟨A3, c3', rfl, hc3, hcm3⟩ := HO3.out.shape
              go_upto_if 72 with (fail)
              go_cut [10] from 47 to 238 (fun s wx => DpBytes W wo F G p q d cc s wx)
              case first =>
                cases dw
                · as_aux_lemma =>
                    go_wp2_with fail
                    go_meet
                    exact ⟨l0, hl0l, HO3.out, HB3.out, HT.out.below HB3.out⟩
                · as_aux_lemma =>
                    go_wp2_with fail
                    refine (refSector_any A3 c3' l0 _ hc3 hcm3 HO3.out.bs).mono ?_
                    rintro e w4 ⟨v4, rfl, ho4, hb4⟩
                    have HO4 := Lib.hid (ho4.base HB3.out.size)
                    have HB4 := Lib.hid (below_then HB3.out hb4)
                    clear ho4 hb4
                    go_wp2_with fail
                    go_meet
                    exact ⟨secOf l0, by rw [secOf_length]; decide, HO4.out, HB4.out, HT.out.below HB4.out⟩
              case rest =>
                as_aux_lemma =>
                  obtain ⟨l, hll, hol, hbl, htl⟩ := hcut
                  obtain ⟨wb, rfl⟩ : ∃ wb : World, wb = wc := ⟨_, rfl⟩
                  obtain ⟨A4, c4, rfl, hc4, hcm4⟩ := hol.shape
                  have HOL := Lib.hid hol
                  have HBL := Lib.hid hbl
                  have HTL := Lib.hid htl
                  have hk0 := (HC.out wb (Kept.of_below hbl)).1
                  clear hol hbl htl HO3 HB3 hcw hc3 hcm3 hl0l HB0
                  obtain ⟨m4, hm4⟩ : ∃ m4, l.length = m4 := ⟨_, rfl⟩
                  rw [hm4] at HOL
                  rw [hm4]
                  have HM4 := Lib.hid hm4
                  clear hm4
                  go_upto_block 2 with (fail)
                  go_cut [11] from 47 to 238 (fun s wx => DpCut W n p q j s wx)
                  case first =>
                    have HKB := Lib.hid (Kept.of_below (F := fun k => F k ∨ G k ∨ wo.heap.size ≤ k) HBL.out)
                    have HT0 := Lib.hid HTL.out.drew
                    have HOL0 := Lib.hid (show Own8 wb.drew wo.heap.size (.slice A4 m4 c4) l from HOL.out.drew)
                    have HOF := Lib.hid (show ∀ g, (Value.slice A4 m4 c4).ownBlock = some g → ¬ (F g ∨ G g) from fun g hg h => by
                      have h1 := (HOL.out.lt g hg).1
                      rcases h with h | h
                      · have := (HTL.out.ownF g h).2; have := (HT.out.ownF g h).2; omega
                      · have := (HT.out.ownG g h).2; omega)
                    by_cases h0 : dk = 0
                    · subst h0
                      go_upto_region 18 with (fail)
                      go_cut [11] from 47 to 238 (fun s wx => s = .bool true ∧ ∃ c F' G' d', c ≤ j + 1 ∧ d'.waits.length ≤ j + 1 ∧ d'.fast.length = n ∧ Two W wx F' G' p q d' d' c ∧ Own8 wx wo.heap.size (.slice A4 m4 c4) l ∧ ∀ g, (Value.slice A4 m4 c4).ownBlock = some g → ¬ F' g ∧ ¬ G' g)
                      case first =>
                        by_cases hv : 0 ≤ di ∧ di < n ∧ l.length = 64
                        · as_aux_lemma =>
                            obtain ⟨iw, hiwe⟩ := Int.eq_ofNat_of_zero_le hv.1
                            subst hiwe
                            have hiw : iw < n := by omega
                            obtain rfl : m4 = 64 := by have := HM4.out; omega
                            have HL64 := Lib.hid HM4.out
                            obtain ⟨fc, hfc⟩ : ∃ fc, (write d iw l).2 = fc := ⟨_, rfl⟩
                            have hff : ((fc : Int) == (fc : Int)) = true := by simp
                            have HFC := Lib.hid hfc
                            clear hfc
                            refine wp_region_mix [(true, 0), (true, 1), (true, 2), (true, 3), (true, 4), (true, 5), (true, 6), (true, 8), (true, 9), (true, 10), (true, 11), (true, 12), (true, 13), (true, 14), (false, 7), (false, 15), (true, 16), (true, 17)] 18 (fun w' => w'.cell? ⟨(ad.add (j * 6)).block, (ad.add (j * 6)).off + 1, none⟩ = some (.int .i64 (iw : Int)) ∧ True) (by kernel_rfl) (by kernel_rfl) (by rintro _ ⟨_, _⟩ ⟨_, _⟩ _ rfl h; exact h) ⟨(HC.out _ HKB.out.drew).2.1, trivial⟩ ?_
                            simp only [pickM, List.getElem?_cons_succ, List.getElem?_cons_zero]
                            iterate 14 ((refine wpMix_take (v := ?_) (Or.inl ⟨by rfl, ?_⟩) ?_; rotate_left; · intro w' hSw; obtain ⟨s1, -⟩ := hSw; go_simp; (try with_reducible rfl)); (try simp only [Act.put, List.setIfInBounds_toArray, List.set_cons_zero, List.set_cons_succ]))
                            refine wpMix_do rfl fun K hK => ?_
                            go_simp
                            refine (diskWrite_own wb.drew F p wo.heap.size d iw (.slice A4 64 c4) l HT0.out.dk (by rw [hfl]; exact hiw) HL64.out HOL0.out (fun g hg h => HOF.out g hg (.inl h)) (by omega)).mono ?_
                            rintro e w5 ⟨rfl, hd5, hk5⟩
                            have hkk5 := HKB.out.drew.trans hk5 (fun k hk => .inl (.inl hk))
                            have HT5 := Lib.hid (HT0.out.stepF hk5 hd5 (fun k h => h))
                            have HOL5 := Lib.hid (HOL0.out.keep hk5 (fun g hg h => HOF.out g hg (.inl h)))
                            have hs5 : wb.heap.size ≤ w5.heap.size := hk5.size
                            rw [HFC.out]
                            refine hK.out _ _ (fun _ => ⟨(HC.out _ hkk5).2.1, trivial⟩) ?_
                            clear hK K
                            (try simp only [Act.put, List.setIfInBounds_toArray, List.set_cons_zero, List.set_cons_succ])
                            refine wpMix_do rfl fun K hK => ?_
                            go_simp
                            refine (refWrite_yes w5 G q d cc iw A4 c4 l HT5.out.rd (by omega) (by rw [hfl]; exact hiw) HL64.out HOL5.out.bs (fun a2 he hg => HOF.out a2.block (by rw [he]; rfl) (.inr hg)) (by omega)).mono ?_
                            rintro e w6 ⟨rfl, hd6, hk6⟩
                            have hkk6 := hkk5.trans hk6 (fun k hk => .inl (.inr (.inl hk)))
                            have HT6 := Lib.hid (HT5.out.stepG hk6 hd6 (fun k h => h))
                            have HOL6 := Lib.hid (HOL5.out.keep hk6 (fun g hg h => HOF.out g hg (.inr h)))
                            have hs6 : w5.heap.size ≤ w6.heap.size := hk6.size
                            rw [HFC.out]
                            refine hK.out _ _ (fun _ => ⟨(HC.out _ hkk6).2.1, trivial⟩) ?_
                            clear hK K
                            (try simp only [Act.put, List.setIfInBounds_toArray, List.set_cons_zero, List.set_cons_succ])
                            iterate 2 ((refine wpMix_take (v := ?_) (Or.inl ⟨by rfl, ?_⟩) ?_; rotate_left; · intro w' hSw; obtain ⟨-, -⟩ := hSw; go_simp; (try with_reducible rfl)); (try simp only [Act.put, List.setIfInBounds_toArray, List.set_cons_zero, List.set_cons_succ]))
                            refine wpMix_nil ?_
                            go_wp2_with fail
                            go_meet
                            exact ⟨rfl, cc + 1, _, _, (write d iw l).1, by omega, by have := (write_wf (d := d) (i := iw) (b := l)).2; omega, by rw [(write_wf (d := d) (i := iw) (b := l)).1]; exact hfl, HT6.out, HOL6.out, fun g hg => by
                              have h1 := HOF.out g hg
                              have h2 := (HOL0.out.lt g hg).2
                              have h3 : g < wb.heap.size := h2
                              refine ⟨fun h => ?_, fun h => ?_⟩
                              · rcases h.1 with h4 | h4
                                · exact h1 (.inl h4)
                                · have h5 : wb.heap.size ≤ g := h4; omega
                              · rcases h.1 with h4 | h4
                                · exact h1 (.inr h4)
                                · omega⟩
                        · as_aux_lemma =>
                            refine wp_region_mix [(true, 0), (true, 1), (true, 2), (true, 3), (true, 4), (true, 5), (true, 6), (true, 8), (true, 9), (true, 10), (true, 11), (true, 12), (true, 13), (true, 14), (false, 7), (false, 15), (true, 16), (true, 17)] 18 (fun w' => w'.cell? ⟨(ad.add (j * 6)).block, (ad.add (j * 6)).off + 1, none⟩ = some (.int .i64 di) ∧ True) (by kernel_rfl) (by kernel_rfl) (by rintro _ ⟨_, _⟩ ⟨_, _⟩ _ rfl h; exact h) ⟨(HC.out _ HKB.out.drew).2.1, trivial⟩ ?_
                            simp only [pickM, List.getElem?_cons_succ, List.getElem?_cons_zero]
                            iterate 14 ((refine wpMix_take (v := ?_) (Or.inl ⟨by rfl, ?_⟩) ?_; rotate_left; · intro w' hSw; obtain ⟨s1, -⟩ := hSw; go_simp; (try with_reducible rfl)); (try simp only [Act.put, List.setIfInBounds_toArray, List.set_cons_zero, List.set_cons_succ]))
                            refine wpMix_do rfl fun K hK => ?_
                            go_simp
                            refine (diskWrite_no wb.drew F p d di A4 m4 c4 HT0.out.dk (by rw [hfl]; have := HM4.out; omega)).mono ?_
                            rintro e w5 ⟨rfl, rfl⟩
                            have hkk5 := HKB.out.drew
                            refine hK.out _ _ (fun _ => ⟨(HC.out _ hkk5).2.1, trivial⟩) ?_
                            clear hK K
                            (try simp only [Act.put, List.setIfInBounds_toArray, List.set_cons_zero, List.set_cons_succ])
                            refine wpMix_do rfl fun K hK => ?_
                            go_simp
                            refine (refWrite_no wb.drew G q d cc di A4 m4 c4 HT0.out.rd (by rw [hfl]; have := HM4.out; omega)).mono ?_
                            rintro e w6 ⟨rfl, rfl⟩
                            have hkk6 := HKB.out.drew
                            refine hK.out _ _ (fun _ => ⟨(HC.out _ hkk6).2.1, trivial⟩) ?_
                            clear hK K
                            (try simp only [Act.put, List.setIfInBounds_toArray, List.set_cons_zero, List.set_cons_succ])
                            iterate 2 ((refine wpMix_take (v := ?_) (Or.inl ⟨by rfl, ?_⟩) ?_; rotate_left; · intro w' hSw; obtain ⟨-, -⟩ := hSw; go_simp; (try with_reducible rfl)); (try simp only [Act.put, List.setIfInBounds_toArray, List.set_cons_zero, List.set_cons_succ]))
                            refine wpMix_nil ?_
                            go_wp2_with fail
                            go_meet
                            exact ⟨rfl, cc, F, G, d, by omega, by omega, hfl, HT0.out, HOL0.out, fun g hg => ⟨fun h => HOF.out g hg (.inl h), fun h => HOF.out g hg (.inr h)⟩⟩
                      case rest =>
                        as_aux_lemma =>
                          obtain ⟨rfl, c', F', G', d', hc1, hc2, hc3, ht6, ho6, hof6⟩ := hcut
                          obtain ⟨w6, rfl⟩ : ∃ w6 : World, w6 = wc := ⟨_, rfl⟩
                          have HT6 := Lib.hid ht6
                          have HO6 := Lib.hid ho6
                          have HF6 := Lib.hid hof6
                          have HOV := Lib.hid (Over.start ho6)
                          have hcm4 : m4 ≤ 100 := by have := HM4.out; omega
                          clear ht6 ho6 hof6
                          go_wp2_with fail
                          go_loopw [12] (fun i wz => OvRel w6 A4 m4 i wz) (fun i _ => m4 - (intOf i).toNat)
                          case atStart => exact ⟨0, Nat.zero_le _, rfl, HOV.out⟩
                          case round =>
                            clear HOV
                            obtain ⟨k, hk, rfl, hov⟩ := hrel
                            by_cases hkm : k < m4
                            · obtain ⟨g6, x6, hA6, hcx, hz0, hz1, hfx⟩ := hov.cell k hkm
                              have HOV := Lib.hid hov
                              have hkmi : (k : Int) < (m4 : Int) := by omega
                              have hk0i : (0 : Int) ≤ (k : Int) := by omega
                              clear hov
                              subst hA6
                              go_wp2_with fail
                              go_roundw
                              case rel => exact ⟨k + 1, by omega, by go_num, HOV.out.set (by omega) rfl _ (by omega) (by omega)⟩
                              case measure => simp [intOf]; omega
                            · have HKS := Lib.hid hov.kept
                              clear hov
                              go_wp2_with fail
                              go_meet
                              refine ⟨c', F', G', d', rfl, hc1, hc2, hc3, HT6.out.kept HKS.out ?_⟩
                              rintro g ⟨hm0, a2, hA, rfl⟩
                              subst hA
                              have h1 := (HO6.out.lt a2.block rfl).1
                              have h2 := HF6.out a2.block rfl
                              exact ⟨h2.1, h2.2, by omega⟩
                    · have e0 : (dk == 0) = false := beq_eq_false_iff_ne.2 h0
                      clear h0
                      by_cases h1 : dk = 1
                      · as_aux_lemma =>
                          subst h1
                          obtain ⟨fc, hfc⟩ : ∃ fc, (flush d).2 = fc := ⟨_, rfl⟩
                          have hff : ((fc : Int) == (fc : Int)) = true := by simp
                          have HFC := Lib.hid hfc
                          clear hfc
                          go_wp2_with fail
                          refine (diskFlush_any wb F p d HTL.out.dk).mono ?_
                          rintro e w5 ⟨rfl, hd5, hk5⟩
                          rw [HFC.out]
                          have HT5 := Lib.hid (HTL.out.stepF hk5 hd5 (fun k h => .inl h))
                          clear hd5 hk5
                          go_wp2_with fail
                          refine (refFlush_any w5 G q d cc HT5.out.rd (by omega)).mono ?_
                          rintro e w6 ⟨rfl, hd6, hk6⟩
                          rw [HFC.out]
                          have HT6 := Lib.hid (HT5.out.stepG hk6 hd6 (fun k h => .inl h))
                          clear hd6 hk6
                          go_wp2_with fail
                          go_meet
                          exact ⟨cc + 1, _, _, (flush d).1, rfl, by omega, by have := (flush_len d).2; omega, by rw [(flush_len d).1]; exact hfl, HT6.out⟩
                      · have e1 : (dk == 1) = false := beq_eq_false_iff_ne.2 h1
                        clear h1
                        by_cases h2 : dk = 2
                        · subst h2
                          have c1 := (HC.out wb HKB.out).2.1
                          by_cases hv : 0 ≤ di ∧ di < n
                          · as_aux_lemma =>
                              obtain ⟨iw, hiwe⟩ := Int.eq_ofNat_of_zero_le hv.1
                              subst hiwe
                              have hiw : iw < n := by omega
                              go_wp2_with fail
                              refine (diskRead_yes wb F p d iw HTL.out.dk (by rw [hfl]; exact hiw)).mono ?_
                              rintro e w5 ⟨v5, s, rfl, hs, hs64, ho5, hb5⟩
                              obtain ⟨A5, c5, rfl, _⟩ := own_shape ho5
                              have ho5' : Own8 w5 wb.heap.size (.slice A5 64 c5) s := by unfold Own8; rw [hs64]; exact ho5
                              have c15 := (HC.out w5 (HKB.out.then_below hb5)).2.1
                              have HT5 := Lib.hid (HTL.out.below hb5)
                              have HS := Lib.hid (show _ ∧ _ from ⟨hs, hs64⟩)
                              have HO5 := Lib.hid ho5'
                              have HB5 := Lib.hid hb5
                              clear hs hs64 ho5 ho5' hb5 c1
                              go_wp2_with fail
                              refine (refRead_yes w5 G q d cc iw HT5.out.rd (by rw [hfl]; exact hiw)).mono ?_
                              rintro e w6 ⟨v6, s', rfl, hs', hs64', ho6, hb6⟩
                              obtain rfl : s = s' := view_at HS.out.1 hs'
                              obtain ⟨A6, n6, c6, rfl, hn6, _, _⟩ := ho6.shape'
                              obtain rfl : n6 = 64 := by omega
                              have hsm := same_at A5 A6 c5 c6 64 64 s s w6 hs64' hs64' (by decide) (by decide) (HO5.out.bs.below hb6) ho6.bs
                              rw [sameB_self] at hsm
                              have HSM := Lib.hid hsm
                              have HT6 := Lib.hid (HT5.out.below hb6)
                              have HO6 := Lib.hid (HO5.out.below hb6)
                              clear hs' hs64' ho6 hb6 hn6 hsm c15
                              go_wp2_with fail
                              refine HSM.out.mono ?_
                              rintro e w7 ⟨rfl, hb7⟩
                              have HT7 := Lib.hid (HT6.out.below hb7)
                              have HO7 := Lib.hid (HO6.out.below hb7)
                              have HOV := Lib.hid (Over.start (HO6.out.below hb7))
                              clear hb7 HSM
                              go_wp2_with fail
                              go_loopw [17] (fun i wz => OvRel w7 A5 64 i wz) (fun i _ => 64 - (intOf i).toNat)
                              case atStart => exact ⟨0, Nat.zero_le _, rfl, HOV.out⟩
                              case round =>
                                clear HOV
                                obtain ⟨k, hk, rfl, hov⟩ := hrel
                                by_cases hkm : k < 64
                                · obtain ⟨g6, x6, hA6, hcx, hz0, hz1, hfx⟩ := hov.cell k hkm
                                  have HOV := Lib.hid hov
                                  have hkmi : (k : Int) < (64 : Int) := by omega
                                  have hk0i : (0 : Int) ≤ (k : Int) := by omega
                                  clear hov
                                  subst hA6
                                  go_wp2_with fail
                                  go_roundw
                                  case rel => exact ⟨k + 1, by omega, by go_num, HOV.out.set (by omega) rfl _ (by omega) (by omega)⟩
                                  case measure => simp [intOf]; omega
                                · have HKS := Lib.hid hov.kept
                                  clear hov
                                  go_wp2_with fail
                                  go_meet
                                  refine ⟨cc, F, G, d, rfl, by omega, by omega, hfl, HT7.out.kept HKS.out ?_⟩
                                  rintro g ⟨hm0, a2, hA, rfl⟩
                                  subst hA
                                  have h1 := (HO7.out.lt a2.block rfl).1
                                  have h2 := HTL.out.bel.size
                                  exact ⟨fun h => by have := (HTL.out.ownF _ h).2; omega, fun h => by have := (HTL.out.ownG _ h).2; omega, by omega⟩
                          · as_aux_lemma =>
                              go_wp2_with fail
                              refine (diskRead_no wb F p d di HTL.out.dk (by rw [hfl]; omega)).mono ?_
                              rintro e w5 ⟨rfl, rfl⟩
                              go_wp2_with fail
                              refine (refRead_no wb G q d cc di HTL.out.rd (by rw [hfl]; omega)).mono ?_
                              rintro e w6 ⟨rfl, rfl⟩
                              have hsm := same_at none none 0 0 0 0 [] [] wb rfl rfl (by decide) (by decide) (Bs.nil _ _) (Bs.nil _ _)
                              rw [sameB_self] at hsm
                              have HSM := Lib.hid hsm
                              clear hsm c1
                              go_wp2_with fail
                              refine HSM.out.mono ?_
                              rintro e w7 ⟨rfl, hb7⟩
                              have HT7 := Lib.hid (HTL.out.below hb7)
                              have HOV := Lib.hid (Over.start (Own8.nil w7 0))
                              clear hb7 HSM
                              go_wp2_with fail
                              go_loopw [17] (fun i wz => i = .int .i64 0 ∧ wz = w7) (fun _ _ => 0)
                              case atStart => exact ⟨rfl, rfl⟩
                              case round =>
                                obtain ⟨rfl, rfl⟩ := hrel
                                go_wp2_with fail
                                go_meet
                                exact ⟨cc, F, G, d, rfl, by omega, by omega, hfl, HT7.out⟩
                        · have e2 : (dk == 2) = false := beq_eq_false_iff_ne.2 h2
                          clear h2
                          by_cases h3 : dk = 3
                          · as_aux_lemma =>
                              subst h3
                              obtain ⟨fc, hfc⟩ : ∃ fc, (arm d dn).2 = fc := ⟨_, rfl⟩
                              have hff : ((fc : Int) == (fc : Int)) = true := by simp
                              have HFC := Lib.hid hfc
                              clear hfc
                              have har : (arm d dn).1.waits = d.waits ∧ (arm d dn).1.fast = d.fast := by
                                unfold arm
                                split
                                · exact ⟨rfl, rfl⟩
                                · split <;> exact ⟨rfl, rfl⟩
                              have HAR := Lib.hid har
                              clear har
                              go_wp2_with fail
                              refine wp_region_mix [(true, 0), (true, 1), (true, 2), (true, 3), (true, 4), (true, 5), (true, 7), (true, 8), (true, 9), (true, 10), (true, 11), (true, 12), (false, 6), (false, 13), (true, 14), (true, 15)] 16 (fun w' => w'.cell? ⟨(ad.add (j * 6)).block, (ad.add (j * 6)).off + 2, none⟩ = some (.int .i64 dn) ∧ True) (by kernel_rfl) (by kernel_rfl) (by rintro _ ⟨_, _⟩ ⟨_, _⟩ _ rfl h; exact h) ⟨(HC.out _ HKB.out.drew).2.2.1, trivial⟩ ?_
                              simp only [pickM, List.getElem?_cons_succ, List.getElem?_cons_zero]
                              iterate 12 ((refine wpMix_take (v := ?_) (Or.inl ⟨by rfl, ?_⟩) ?_; rotate_left; · intro w' hSw; obtain ⟨s1, -⟩ := hSw; go_simp; (try with_reducible rfl)); (try simp only [Act.put, List.setIfInBounds_toArray, List.set_cons_zero, List.set_cons_succ]))
                              refine wpMix_do rfl fun K hK => ?_
                              go_simp
                              refine (diskArm_any wb.drew F p d dn HNN.out.1 HNN.out.2 HT0.out.dk).mono ?_
                              rintro e w5 ⟨rfl, hd5, hk5, _⟩
                              have hkk5 := HKB.out.drew.trans hk5 (fun k hk => .inl (.inl hk))
                              have HT5 := Lib.hid (HT0.out.stepF hk5 hd5 (fun k h => .inl h))
                              rw [HFC.out]
                              refine hK.out _ _ (fun _ => ⟨(HC.out _ hkk5).2.2.1, trivial⟩) ?_
                              clear hK K
                              (try simp only [Act.put, List.setIfInBounds_toArray, List.set_cons_zero, List.set_cons_succ])
                              refine wpMix_do rfl fun K hK => ?_
                              go_simp
                              refine (refArm_any w5 G q d cc dn HNN.out.1 HNN.out.2 HT5.out.rd).mono ?_
                              rintro e w6 ⟨rfl, hd6, hk6, _⟩
                              have hkk6 := hkk5.trans hk6 (fun k hk => .inl (.inr (.inl hk)))
                              have HT6 := Lib.hid (HT5.out.stepG hk6 hd6 (fun k h => .inl h))
                              rw [HFC.out]
                              refine hK.out _ _ (fun _ => ⟨(HC.out _ hkk6).2.2.1, trivial⟩) ?_
                              clear hK K
                              (try simp only [Act.put, List.setIfInBounds_toArray, List.set_cons_zero, List.set_cons_succ])
                              iterate 2 ((refine wpMix_take (v := ?_) (Or.inl ⟨by rfl, ?_⟩) ?_; rotate_left; · intro w' hSw; obtain ⟨-, -⟩ := hSw; go_simp; (try with_reducible rfl)); (try simp only [Act.put, List.setIfInBounds_toArray, List.set_cons_zero, List.set_cons_succ]))
                              refine wpMix_nil ?_
                              go_wp2_with fail
                              go_meet
                              exact ⟨cc, _, _, (arm d dn).1, rfl, by omega, by rw [HAR.out.1]; omega, by rw [HAR.out.2]; exact hfl, HT6.out⟩
                          · as_aux_lemma =>
                              have e3 : (dk == 3) = false := beq_eq_false_iff_ne.2 h3
                              clear h3
                              have c5 := (HC.out wb HKB.out).2.2.2.2
                              have hblk : ∀ a2, Al = some a2 → dl ≠ [] → a2.block < W.heap.size := fun a2 he hn => by
                                obtain ⟨a3, e3, h3, _⟩ := HAL.out.at_ (k := 0) (List.length_pos_iff.2 hn)
                                rw [he] at e3; injection e3 with e3; subst e3; exact h3
                              have HBK := Lib.hid hblk
                              clear hblk
                              go_wp2_with fail
                              refine (diskCrash_any wb F p d Al cl dl HTL.out.dk HL.out.1 HL.out.2.1 (HAL.out.below HTL.out.bel) (fun a2 he hn hf => by have := HBK.out a2 he hn; have := (HTL.out.ownF _ hf).1; omega)).mono ?_
                              rintro e w5 ⟨rfl, hd5, hk5⟩
                              have c55 := (HC.out w5 (HKB.out.trans hk5 (fun k hk => .inl (.inl hk)))).2.2.2.2
                              have HT5 := Lib.hid (HTL.out.stepF hk5 hd5 (fun k h => .inl h))
                              clear hd5 hk5 c5
                              go_wp2_with fail
                              refine (refCrash_any w5 G q d cc Al cl dl HT5.out.rd HL.out.1 HL.out.2.1 (HAL.out.below HT5.out.bel) (fun a2 he hn hg => by have := HBK.out a2 he hn; have := (HTL.out.ownG _ hg).1; omega)).mono ?_
                              rintro e w6 ⟨rfl, hd6, hk6⟩
                              have HT6 := Lib.hid (HT5.out.stepG hk6 hd6 (fun k h => h))
                              clear hd6 hk6 c55
                              go_wp2_with fail
                              go_meet
                              exact ⟨cc, _, _, crash d dl, rfl, by omega, by rw [(crash_len d dl).2.1]; simp, by rw [(crash_len d dl).1]; exact hfl, HT6.out⟩
                  case rest =>
                    as_aux_lemma =>
                      obtain ⟨c', F', G', d', rfl, hc1, hc2, hc3, ht6⟩ := hcut
                      obtain ⟨w6, rfl⟩ : ∃ w6 : World, w6 = wc := ⟨_, rfl⟩
                      obtain ⟨Aw, cw, hq1, hq4⟩ := ht6.rd.says
                      obtain ⟨wl, hwl'⟩ : ∃ wl, d'.waits.length = wl := ⟨_, rfl⟩
                      obtain ⟨dd, hdd⟩ : ∃ dd, d'.dead = dd := ⟨_, rfl⟩
                      rw [hwl'] at hq1
                      rw [hdd] at hq4
                      have hcW := fun w' (h : DiskAt w' F' p d') => diskWaits_any w' F' p d' h
                      have hcP := fun w' (h : DiskAt w' F' p d') => diskPower_any w' F' p d' h
                      have hcL := fun w' (h : DiskAt w' F' p d') => diskLen_at w' F' p d' h
                      rw [hwl'] at hcW
                      rw [hdd] at hcP
                      rw [hc3] at hcL
                      have HCW := Lib.hid hcW
                      have HCP := Lib.hid hcP
                      have HCL := Lib.hid hcL
                      have n1 : ((wl : Int) != (wl : Int)) = false := by simp
                      have n2 : ((!dd) != (!dd)) = false := by simp
                      have n3 : ((n : Int) != (n : Int)) = false := by simp
                      have HT6 := Lib.hid ht6
                      have HT7 := Lib.hid ht6.drew
                      have HQ := Lib.hid (show _ ∧ _ from ⟨hq1, hq4⟩)
                      clear ht6 hcW hcP hcL hwl' hdd hq1 hq4 HOL HBL HTL HT hk0
                      go_wp2_with fail
                      refine wp_region_mix [(true, 0), (true, 1), (true, 2), (true, 3), (true, 5), (true, 6), (true, 7), (true, 8), (true, 9), (false, 4), (true, 10), (true, 11), (true, 12), (true, 13), (true, 15), (true, 16), (true, 17), (true, 18), (true, 19), (false, 14), (true, 20), (true, 21), (true, 22), (true, 23), (true, 25), (false, 24), (true, 26), (true, 27)] 28 (fun w' => w'.cell? ⟨q, 1, none⟩ = some (.slice Aw wl cw) ∧ w'.cell? ⟨q, 4, none⟩ = some (.bool dd)) (by kernel_rfl) (by kernel_rfl) (by rintro _ ⟨_, _⟩ ⟨_, _⟩ _ rfl h; exact h) HQ.out ?_
                      simp only [pickM, List.getElem?_cons_succ, List.getElem?_cons_zero]
                      iterate 9 ((refine wpMix_take (v := ?_) (Or.inl ⟨by rfl, ?_⟩) ?_; rotate_left; · intro w' hSw; obtain ⟨s1, s2⟩ := hSw; go_simp; (try with_reducible rfl)); (try simp only [Act.put, List.setIfInBounds_toArray, List.set_cons_zero, List.set_cons_succ]))
                      refine wpMix_do rfl fun K hK => ?_
                      go_simp
                      refine (HCW.out _ HT7.out.dk).mono ?_
                      rintro e w' ⟨rfl, rfl⟩
                      refine hK.out _ _ (fun _ => HQ.out) ?_
                      clear hK K
                      (try simp only [Act.put, List.setIfInBounds_toArray, List.set_cons_zero, List.set_cons_succ])
                      iterate 9 ((refine wpMix_take (v := ?_) (Or.inl ⟨by rfl, ?_⟩) ?_; rotate_left; · intro w' hSw; obtain ⟨s1, s2⟩ := hSw; go_simp; (try with_reducible rfl)); (try simp only [Act.put, List.setIfInBounds_toArray, List.set_cons_zero, List.set_cons_succ]))
                      refine wpMix_do rfl fun K hK => ?_
                      go_simp
                      refine (HCP.out _ HT7.out.dk).mono ?_
                      rintro e w' ⟨rfl, rfl⟩
                      refine hK.out _ _ (fun _ => HQ.out) ?_
                      clear hK K
                      (try simp only [Act.put, List.setIfInBounds_toArray, List.set_cons_zero, List.set_cons_succ])
                      iterate 5 ((refine wpMix_take (v := ?_) (Or.inl ⟨by rfl, ?_⟩) ?_; rotate_left; · intro w' hSw; obtain ⟨s1, s2⟩ := hSw; go_simp; (try with_reducible rfl)); (try simp only [Act.put, List.setIfInBounds_toArray, List.set_cons_zero, List.set_cons_succ]))
                      refine wpMix_do rfl fun K hK => ?_
                      go_simp
                      refine (HCL.out _ HT7.out.dk).mono ?_
                      rintro e w' ⟨rfl, rfl⟩
                      refine hK.out _ _ (fun _ => HQ.out) ?_
                      clear hK K
                      (try simp only [Act.put, List.setIfInBounds_toArray, List.set_cons_zero, List.set_cons_succ])
                      iterate 2 ((refine wpMix_take (v := ?_) (Or.inl ⟨by rfl, ?_⟩) ?_; rotate_left; · intro w' hSw; obtain ⟨-, -⟩ := hSw; go_simp; (try with_reducible rfl)); (try simp only [Act.put, List.setIfInBounds_toArray, List.set_cons_zero, List.set_cons_succ]))
                      refine wpMix_nil ?_
                      clear HCW HCP HCL HT7 HQ n1 n2 n3
                      go_wp2_with fail
                      go_loopw [18] (fun i wz => Dp4 W n p q c' F' G' d' i wz) (fun i _ => n - (intOf i).toNat)
                      case atStart => exact ⟨0, rfl, Nat.zero_le _, HT6.out.drew⟩
                      case round =>
                        clear HT6
                        obtain ⟨k, rfl, hk, ht⟩ := hrel
                        obtain ⟨wz, rfl⟩ : ∃ wz : World, wz = wr := ⟨_, rfl⟩
                        have HZ := Lib.hid ht
                        clear ht
                        by_cases hkn : k < n
                        · as_aux_lemma =>
                            go_wp2_with fail
                            refine (diskRead_yes wz F' p d' k HZ.out.dk (by rw [hc3]; exact hkn)).mono ?_
                            rintro e w8 ⟨v8, s, rfl, hs, hs64, ho8, hb8⟩
                            obtain ⟨A8, c8, rfl, _⟩ := own_shape ho8
                            have ho8' : Own8 w8 wz.heap.size (.slice A8 64 c8) s := by unfold Own8; rw [hs64]; exact ho8
                            have HZ8 := Lib.hid (HZ.out.below hb8)
                            have HS := Lib.hid (show _ ∧ _ from ⟨hs, hs64⟩)
                            have HO8 := Lib.hid ho8'
                            clear hs hs64 ho8 ho8' hb8
                            go_wp2_with fail
                            refine (refNow_any w8 G' q d' c' k HZ8.out.rd (by rw [hc3]; exact hkn)).mono ?_
                            rintro e w9 ⟨v9, s', rfl, hs', hs64', ho9, hb9⟩
                            obtain rfl : s = s' := view_at HS.out.1 hs'
                            obtain ⟨A9, n9, c9, rfl, hn9, _, _⟩ := ho9.shape'
                            obtain rfl : n9 = 64 := by omega
                            have hsm := same_at A8 A9 c8 c9 64 64 s s w9 hs64' hs64' (by decide) (by decide) (HO8.out.bs.below hb9) ho9.bs
                            rw [sameB_self] at hsm
                            have HSM := Lib.hid hsm
                            have HZ9 := Lib.hid (HZ8.out.below hb9)
                            clear hs' hs64' ho9 hb9 hn9 hsm
                            go_wp2_with fail
                            refine HSM.out.mono ?_
                            rintro e w10 ⟨rfl, hb10⟩
                            have HZ10 := Lib.hid (HZ9.out.below hb10)
                            clear hb10 HSM
                            go_wp2_with fail
                            go_roundw
                            case rel => exact ⟨k + 1, by go_num, by omega, HZ10.out⟩
                            case measure => simp [intOf]; omega
                        · go_wp2_with fail
                          go_roundw
                          case rel => exact ⟨j + 1, c', F', G', d', by go_num, by omega, hc1, hc2, hc3, HZ.out⟩
                          case measure => simp [intOf]; omega
            · have hx : ¬ j < N ∨ (j < N ∧ ¬ j < 40) := by omega
              have HT := Lib.hid ht
              clear hgo ht
              rcases hx with hx | ⟨hx, hy⟩
              all_goals
                as_aux_lemma =>
                  go_wp2_with fail
                  refine (diskLives_any _).mono ?_
                  rintro e w8 ⟨rfl, hb8⟩
                  have HB8 := Lib.hid (HT.out.bel.trans (hb8.mono HT.out.bel.size))
                  clear hb8
                  go_wp2_with fail
                  go_ret
                  exact ⟨rfl, HB8.out⟩
end Go.Proofs.Ytckihiiimomgfaa
