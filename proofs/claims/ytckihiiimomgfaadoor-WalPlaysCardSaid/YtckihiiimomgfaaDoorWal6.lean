/- The contract of wal.Append. -/
import Derived.Test.YtckihiiimomgfaaDoorWal5
namespace Go.Proofs.YtckihiiimomgfaaDoor
open Go.RowKit DiskMath
def AppPost (F : Nat → Prop) (lp p a : Nat) (r : WalMath.Lg × Dk × Nat) (w : World) (e : Ending) (w' : World) : Prop :=
  e = .returned (.int .i64 (r.2.2 : Nat)) ∧ LogB w' lp p a r.1 ∧ DiskAt w' (fun x => F x ∨ w.heap.size ≤ x) p r.2.1 ∧ Kept (fun x => F x ∨ x = lp) w w'
theorem AppPost.same {F : Nat → Prop} {lp p a : Nat} {g : WalMath.Lg} {d : Dk} {k : Nat} {w w' : World} {e : Ending} (he : e = .returned (.int .i64 (k : Nat))) (hl : LogB w lp p a g) (hd : DiskAt w F p d) (hb : Below w.heap.size w w') : AppPost F lp p a (g, d, k) w e w' :=
  ⟨he, hl.below hb, (hd.below hb).mono (fun _ h => .inl h), Kept.of_below hb⟩
set_option maxRecDepth 100000 in
set_option maxHeartbeats 4000000 in
theorem walAppend_any (w : World) (F : Nat → Prop) (lp p a : Nat) (g : WalMath.Lg) (d : Dk) (A : Option Addr) (c : Nat) (b : List UInt8) (hl : LogB w lp p a g) (hd : DiskAt w F p d) (ht : Halves w) (hF : ¬ F lp) (hFh : ¬ F 0)
    (hbc : b.length ≤ c) (hcm : c ≤ maxLen) (hbs : Bs w A b) (hb47 : b.length ≤ 140737488355328) (hat : g.at_ ≤ g.to) (hto : g.to ≤ d.fast.length) (hd16 : d.fast.length ≤ 65536) (hep : g.epoch ≤ 4294967295) (hnx : g.next ≤ 4294967295 + 65536) (hw : d.waits.length < 98000) :
    Calls Tryd.prog 33 #[.pointer (some ⟨lp, 0, none⟩), .slice A b.length c] w (AppPost F lp p a (WalMath.append g d b) w) := by
  obtain ⟨_, _, c2, c3, c4, c5, c6, cf⟩ := hl.cells
  obtain ⟨nb, hnb⟩ : ∃ nb, b.length = nb := ⟨_, rfl⟩
  have HL := Lib.hid hl
  have HD := Lib.hid hd
  have HT := Lib.hid ht
  have HBS := Lib.hid hbs
  have HCM := Lib.hid hcm
  have HF := Lib.hid (show _ ∧ _ from ⟨hF, hFh⟩)
  have hlt := hl.lt
  rw [hnb] at hbc hb47 ⊢
  have HNB := Lib.hid hnb
  clear hd ht hbs hcm hF hFh hnb hl
  by_cases h1 : g.err = 0
  · by_cases h2 : 65536 < nb
    · have e : WalMath.append g d b = (g, d, 5) := by
        unfold WalMath.append
        rw [if_neg (by omega), HNB.out, if_pos h2]
      have HE := Lib.hid e
      have n1 : ((g.err : Int) != 0) = false := by rw [bne_eq_false_iff_eq]; omega
      clear e
      go_enter Tryd.func33, Tryd.ntmps33
      go_wp2_with fail
      refine (walOk_any w lp p a g HL.out).mono ?_
      rintro e w' ⟨rfl, rfl⟩
      go_wp2_with fail
      go_ret
      rw [HE.out]
      exact AppPost.same rfl HL.out HD.out (Below.refl _ _)
    · by_cases h3 : 4294967295 < g.next
      · have e : WalMath.append g d b = (g, d, 8) := by
          unfold WalMath.append
          rw [if_neg (by omega), HNB.out, if_neg h2, if_pos (by omega)]
        have HE := Lib.hid e
        have n1 : ((g.err : Int) != 0) = false := by rw [bne_eq_false_iff_eq]; omega
        have n3 : (4294967295 : Int) < (g.next : Int) := by omega
        clear e
        go_enter Tryd.func33, Tryd.ntmps33
        go_wp2_with fail
        refine (walOk_any w lp p a g HL.out).mono ?_
        rintro e w' ⟨rfl, rfl⟩
        go_wp2_with fail
        go_ret
        rw [HE.out]
        exact AppPost.same rfl HL.out HD.out (Below.refl _ _)
      · skip
        have n1 : ((g.err : Int) != 0) = false := by rw [bne_eq_false_iff_eq]; omega
        have hnx' : g.next ≤ 4294967295 := by omega
        have htl : StampMath.totalOf nb ≤ 1725 := by unfold StampMath.totalOf; omega
        have htp := StampMath.totalOf_pos nb
        obtain ⟨T, hT⟩ : ∃ T, StampMath.totalOf nb = T := ⟨_, rfl⟩
        have hap : WalMath.append g d b = if 4294967295 < g.next + (T - 1) then (g, d, 8) else if g.to - g.at_ < T then (g, d, 8)
            else if (WalMath.put d g.at_ (StampMath.parts g.epoch g.next b)).2 = 0 then ({ g with at_ := g.at_ + T, next := g.next + T }, (WalMath.put d g.at_ (StampMath.parts g.epoch g.next b)).1, 0)
            else ({ g with err := (WalMath.put d g.at_ (StampMath.parts g.epoch g.next b)).2 }, (WalMath.put d g.at_ (StampMath.parts g.epoch g.next b)).1, (WalMath.put d g.at_ (StampMath.parts g.epoch g.next b)).2) := by
          unfold WalMath.append
          rw [if_neg (by omega), HNB.out, if_neg h2, hT]
        have HAP := Lib.hid hap
        rw [hT] at htl htp
        have hsk : ∀ w' : World, Below w.heap.size w w' → w'.cell? ⟨lp, 4, none⟩ = some (.int .i64 (g.epoch : Nat)) ∧ w'.cell? ⟨lp, 5, none⟩ = some (.int .i64 (g.next : Nat)) := fun w' hb => by
          obtain ⟨_, _, _, _, c4, c5, _⟩ := (HL.out.below hb).cells
          exact ⟨c4, c5⟩
        have HSK := Lib.hid hsk
        clear hap hsk
        by_cases h4 : 4294967295 < g.next + (T - 1)
        · have hcode : splitCode g.epoch g.next nb = 8 := by
            unfold splitCode
            rw [if_neg (by omega), if_neg h2, hT, if_pos (by omega)]
          have hsp : ∀ w' : World, Calls Tryd.prog 50 #[.int .i64 g.epoch, .int .i64 g.next, .slice A nb c] w' fun e w'' => e = .returned (.tuple #[.slice none 0 0, .int .i64 8]) ∧ w' = w'' := fun w' => by
            have := split_no g.epoch g.next A nb c w' (by omega) (by omega) hb47 (by rw [hcode]; decide)
            rwa [hcode] at this
          have HSP := Lib.hid hsp
          rw [if_pos h4] at HAP
          clear hsp hcode hT h4
          go_enter Tryd.func33, Tryd.ntmps33
          go_wp2_with fail
          refine (walOk_any w lp p a g HL.out).mono ?_
          rintro e w' ⟨rfl, rfl⟩
          go_wp2_with fail
          refine wp_region_mix [(true, 0), (true, 1), (true, 2), (true, 3), (true, 4), (true, 5), (true, 6), (true, 7), (true, 8), (false, 9), (true, 10), (true, 11), (true, 12), (true, 13), (true, 14)] 15 (fun w' => w'.cell? ⟨lp, 4, none⟩ = some (.int .i64 (g.epoch : Nat)) ∧ w'.cell? ⟨lp, 5, none⟩ = some (.int .i64 (g.next : Nat))) (by kernel_rfl) (by kernel_rfl) (by rintro _ ⟨_, _⟩ ⟨_, _⟩ _ rfl h; exact h) (HSK.out _ (Below.refl _ _).drew) ?_
          simp only [pickM, List.getElem?_cons_succ, List.getElem?_cons_zero]
          (refine wpMix_take (v := ?_) ?_ ?_; rotate_left; · (refine Or.inl ⟨by rfl, ?_⟩; intro w' hSw; obtain ⟨s4, s5⟩ := hSw; go_simp; (try with_reducible rfl)))
          (try simp only [Act.put, List.setIfInBounds_toArray, List.set_cons_zero, List.set_cons_succ])
          (refine wpMix_take (v := ?_) ?_ ?_; rotate_left; · (refine Or.inl ⟨by rfl, ?_⟩; intro w' hSw; obtain ⟨s4, s5⟩ := hSw; go_simp; (try with_reducible rfl)))
          (try simp only [Act.put, List.setIfInBounds_toArray, List.set_cons_zero, List.set_cons_succ])
          (refine wpMix_take (v := ?_) ?_ ?_; rotate_left; · (refine Or.inl ⟨by rfl, ?_⟩; intro w' hSw; obtain ⟨s4, s5⟩ := hSw; go_simp; (try with_reducible rfl)))
          (try simp only [Act.put, List.setIfInBounds_toArray, List.set_cons_zero, List.set_cons_succ])
          (refine wpMix_take (v := ?_) ?_ ?_; rotate_left; · (refine Or.inl ⟨by rfl, ?_⟩; intro w' hSw; obtain ⟨s4, s5⟩ := hSw; go_simp; (try with_reducible rfl)))
          (try simp only [Act.put, List.setIfInBounds_toArray, List.set_cons_zero, List.set_cons_succ])
          (refine wpMix_take (v := ?_) ?_ ?_; rotate_left; · (refine Or.inl ⟨by rfl, ?_⟩; intro w' hSw; obtain ⟨s4, s5⟩ := hSw; go_simp; (try with_reducible rfl)))
          (try simp only [Act.put, List.setIfInBounds_toArray, List.set_cons_zero, List.set_cons_succ])
          (refine wpMix_take (v := ?_) ?_ ?_; rotate_left; · (refine Or.inl ⟨by rfl, ?_⟩; intro w' hSw; obtain ⟨s4, s5⟩ := hSw; go_simp; (try with_reducible rfl)))
          (try simp only [Act.put, List.setIfInBounds_toArray, List.set_cons_zero, List.set_cons_succ])
          (refine wpMix_take (v := ?_) ?_ ?_; rotate_left; · (refine Or.inl ⟨by rfl, ?_⟩; intro w' hSw; obtain ⟨s4, s5⟩ := hSw; go_simp; (try with_reducible rfl)))
          (try simp only [Act.put, List.setIfInBounds_toArray, List.set_cons_zero, List.set_cons_succ])
          (refine wpMix_take (v := ?_) ?_ ?_; rotate_left; · (refine Or.inl ⟨by rfl, ?_⟩; intro w' hSw; obtain ⟨s4, s5⟩ := hSw; go_simp; (try with_reducible rfl)))
          (try simp only [Act.put, List.setIfInBounds_toArray, List.set_cons_zero, List.set_cons_succ])
          (refine wpMix_take (v := ?_) ?_ ?_; rotate_left; · (refine Or.inl ⟨by rfl, ?_⟩; intro w' hSw; obtain ⟨s4, s5⟩ := hSw; go_simp; (try with_reducible rfl)))
          (try simp only [Act.put, List.setIfInBounds_toArray, List.set_cons_zero, List.set_cons_succ])
          refine wpMix_do rfl fun K hK => ?_
          go_simp
          refine (HSP.out _).mono ?_
          rintro e w3 ⟨rfl, hw3⟩
          refine hK.out _ _ (fun _ => by subst hw3; exact HSK.out _ (Below.refl _ _).drew) ?_
          subst hw3
          clear hK K HSP
          (try simp only [Act.put, List.setIfInBounds_toArray, List.set_cons_zero, List.set_cons_succ])
          (refine wpMix_take (v := ?_) ?_ ?_; rotate_left; · (refine Or.inl ⟨by rfl, ?_⟩; intro w' hSw; obtain ⟨s4, s5⟩ := hSw; go_simp; (try with_reducible rfl)))
          (try simp only [Act.put, List.setIfInBounds_toArray, List.set_cons_zero, List.set_cons_succ])
          (refine wpMix_take (v := ?_) ?_ ?_; rotate_left; · (refine Or.inl ⟨by rfl, ?_⟩; intro w' hSw; obtain ⟨s4, s5⟩ := hSw; go_simp; (try with_reducible rfl)))
          (try simp only [Act.put, List.setIfInBounds_toArray, List.set_cons_zero, List.set_cons_succ])
          (refine wpMix_take (v := ?_) ?_ ?_; rotate_left; · (refine Or.inl ⟨by rfl, ?_⟩; intro w' hSw; obtain ⟨s4, s5⟩ := hSw; go_simp; (try with_reducible rfl)))
          (try simp only [Act.put, List.setIfInBounds_toArray, List.set_cons_zero, List.set_cons_succ])
          (refine wpMix_take (v := ?_) ?_ ?_; rotate_left; · (refine Or.inl ⟨by rfl, ?_⟩; intro w' hSw; obtain ⟨s4, s5⟩ := hSw; go_simp; (try with_reducible rfl)))
          (try simp only [Act.put, List.setIfInBounds_toArray, List.set_cons_zero, List.set_cons_succ])
          (refine wpMix_take (v := ?_) ?_ ?_; rotate_left; · (refine Or.inl ⟨by rfl, ?_⟩; intro w' hSw; obtain ⟨s4, s5⟩ := hSw; go_simp; (try with_reducible rfl)))
          (try simp only [Act.put, List.setIfInBounds_toArray, List.set_cons_zero, List.set_cons_succ])
          refine wpMix_nil ?_
          go_wp2_with fail
          go_ret
          rw [HAP.out]
          exact AppPost.same rfl HL.out HD.out (Below.refl _ _).drew
        · have hsp := split_yes g.epoch g.next A c b w.drew (by omega) (by omega) (by omega) (by rw [HNB.out, hT]; omega) (by rw [HNB.out]; omega) (by rw [HNB.out]; omega) HCM.out HBS.out.drew
          rw [HNB.out] at hsp
          have hpl : (StampMath.parts g.epoch g.next b).length = T := by rw [StampMath.parts_length, HNB.out, hT]
          have hright : ∀ q ∈ StampMath.parts g.epoch g.next b, StampMath.right q := fun q hq => by
            unfold StampMath.parts at hq
            obtain ⟨i, hi, rfl⟩ := List.mem_map.1 hq
            rw [HNB.out, hT] at hi
            have := List.mem_range.1 hi
            exact StampMath.part_right (by omega) (by omega) (by omega) (by omega) (by rw [HNB.out, hT]; omega) (by rw [HNB.out, hT]; omega)
          rw [if_neg h4] at HAP
          obtain ⟨L, hL⟩ : ∃ L, StampMath.parts g.epoch g.next b = L := ⟨_, rfl⟩
          rw [hL] at hsp hpl hright HAP
          have HSP := Lib.hid hsp
          have HPL := Lib.hid hpl
          have HRI := Lib.hid hright
          clear hsp hpl hright hL hT h4
          go_enter Tryd.func33, Tryd.ntmps33
          go_wp2_with fail
          refine (walOk_any w lp p a g HL.out).mono ?_
          rintro e w' ⟨rfl, rfl⟩
          go_wp2_with fail
          refine wp_region_mix [(true, 0), (true, 1), (true, 2), (true, 3), (true, 4), (true, 5), (true, 6), (true, 7), (true, 8), (false, 9), (true, 10), (true, 11), (true, 12), (true, 13), (true, 14)] 15 (fun w' => w'.cell? ⟨lp, 4, none⟩ = some (.int .i64 (g.epoch : Nat)) ∧ w'.cell? ⟨lp, 5, none⟩ = some (.int .i64 (g.next : Nat))) (by kernel_rfl) (by kernel_rfl) (by rintro _ ⟨_, _⟩ ⟨_, _⟩ _ rfl h; exact h) (HSK.out _ (Below.refl _ _).drew) ?_
          simp only [pickM, List.getElem?_cons_succ, List.getElem?_cons_zero]
          (refine wpMix_take (v := ?_) ?_ ?_; rotate_left; · (refine Or.inl ⟨by rfl, ?_⟩; intro w' hSw; obtain ⟨s4, s5⟩ := hSw; go_simp; (try with_reducible rfl)))
          (try simp only [Act.put, List.setIfInBounds_toArray, List.set_cons_zero, List.set_cons_succ])
          (refine wpMix_take (v := ?_) ?_ ?_; rotate_left; · (refine Or.inl ⟨by rfl, ?_⟩; intro w' hSw; obtain ⟨s4, s5⟩ := hSw; go_simp; (try with_reducible rfl)))
          (try simp only [Act.put, List.setIfInBounds_toArray, List.set_cons_zero, List.set_cons_succ])
          (refine wpMix_take (v := ?_) ?_ ?_; rotate_left; · (refine Or.inl ⟨by rfl, ?_⟩; intro w' hSw; obtain ⟨s4, s5⟩ := hSw; go_simp; (try with_reducible rfl)))
          (try simp only [Act.put, List.setIfInBounds_toArray, List.set_cons_zero, List.set_cons_succ])
          (refine wpMix_take (v := ?_) ?_ ?_; rotate_left; · (refine Or.inl ⟨by rfl, ?_⟩; intro w' hSw; obtain ⟨s4, s5⟩ := hSw; go_simp; (try with_reducible rfl)))
          (try simp only [Act.put, List.setIfInBounds_toArray, List.set_cons_zero, List.set_cons_succ])
          (refine wpMix_take (v := ?_) ?_ ?_; rotate_left; · (refine Or.inl ⟨by rfl, ?_⟩; intro w' hSw; obtain ⟨s4, s5⟩ := hSw; go_simp; (try with_reducible rfl)))
          (try simp only [Act.put, List.setIfInBounds_toArray, List.set_cons_zero, List.set_cons_succ])
          (refine wpMix_take (v := ?_) ?_ ?_; rotate_left; · (refine Or.inl ⟨by rfl, ?_⟩; intro w' hSw; obtain ⟨s4, s5⟩ := hSw; go_simp; (try with_reducible rfl)))
          (try simp only [Act.put, List.setIfInBounds_toArray, List.set_cons_zero, List.set_cons_succ])
          (refine wpMix_take (v := ?_) ?_ ?_; rotate_left; · (refine Or.inl ⟨by rfl, ?_⟩; intro w' hSw; obtain ⟨s4, s5⟩ := hSw; go_simp; (try with_reducible rfl)))
          (try simp only [Act.put, List.setIfInBounds_toArray, List.set_cons_zero, List.set_cons_succ])
          (refine wpMix_take (v := ?_) ?_ ?_; rotate_left; · (refine Or.inl ⟨by rfl, ?_⟩; intro w' hSw; obtain ⟨s4, s5⟩ := hSw; go_simp; (try with_reducible rfl)))
          (try simp only [Act.put, List.setIfInBounds_toArray, List.set_cons_zero, List.set_cons_succ])
          (refine wpMix_take (v := ?_) ?_ ?_; rotate_left; · (refine Or.inl ⟨by rfl, ?_⟩; intro w' hSw; obtain ⟨s4, s5⟩ := hSw; go_simp; (try with_reducible rfl)))
          (try simp only [Act.put, List.setIfInBounds_toArray, List.set_cons_zero, List.set_cons_succ])
          refine wpMix_do rfl fun K hK => ?_
          go_simp
          refine HSP.out.mono ?_
          rintro e w3 ⟨v3, rfl, hp3, hb3⟩
          have hb3' : Below w.heap.size w w3 := (Below.refl _ _).drew.trans hb3
          obtain ⟨A3, c3', rfl, hc3'⟩ := hp3.shape
          rw [HPL.out] at hp3 ⊢
          refine hK.out _ _ (fun _ => HSK.out _ hb3') ?_
          have HP3 := Lib.hid hp3
          have HB3 := Lib.hid hb3'
          clear hK K HSP hp3 hb3 hb3' hc3'
          (try simp only [Act.put, List.setIfInBounds_toArray, List.set_cons_zero, List.set_cons_succ])
          (refine wpMix_take (v := ?_) ?_ ?_; rotate_left; · (refine Or.inl ⟨by rfl, ?_⟩; intro w' hSw; obtain ⟨s4, s5⟩ := hSw; go_simp; (try with_reducible rfl)))
          (try simp only [Act.put, List.setIfInBounds_toArray, List.set_cons_zero, List.set_cons_succ])
          (refine wpMix_take (v := ?_) ?_ ?_; rotate_left; · (refine Or.inl ⟨by rfl, ?_⟩; intro w' hSw; obtain ⟨s4, s5⟩ := hSw; go_simp; (try with_reducible rfl)))
          (try simp only [Act.put, List.setIfInBounds_toArray, List.set_cons_zero, List.set_cons_succ])
          (refine wpMix_take (v := ?_) ?_ ?_; rotate_left; · (refine Or.inl ⟨by rfl, ?_⟩; intro w' hSw; obtain ⟨s4, s5⟩ := hSw; go_simp; (try with_reducible rfl)))
          (try simp only [Act.put, List.setIfInBounds_toArray, List.set_cons_zero, List.set_cons_succ])
          (refine wpMix_take (v := ?_) ?_ ?_; rotate_left; · (refine Or.inl ⟨by rfl, ?_⟩; intro w' hSw; obtain ⟨s4, s5⟩ := hSw; go_simp; (try with_reducible rfl)))
          (try simp only [Act.put, List.setIfInBounds_toArray, List.set_cons_zero, List.set_cons_succ])
          (refine wpMix_take (v := ?_) ?_ ?_; rotate_left; · (refine Or.inl ⟨by rfl, ?_⟩; intro w' hSw; obtain ⟨s4, s5⟩ := hSw; go_simp; (try with_reducible rfl)))
          (try simp only [Act.put, List.setIfInBounds_toArray, List.set_cons_zero, List.set_cons_succ])
          refine wpMix_nil ?_
          have hl3 := HL.out.below HB3.out
          have HL3 := Lib.hid hl3
          clear hl3
          go_wp2_with fail
          refine (walRoom_any w3 lp p a g HL3.out hat (by omega)).mono ?_
          rintro e w4 ⟨rfl, hb4⟩
          have HB4 := Lib.hid (below_then HB3.out hb4)
          have HP4 := Lib.hid (HP3.out.below hb4)
          clear hb4 HP3
          by_cases h5 : g.to - g.at_ < T
          · rw [if_pos h5] at HAP
            have d5 : decide (g.to - g.at_ < T) = true := decide_eq_true h5
            go_wp2_with fail
            go_ret
            rw [HAP.out]
            exact AppPost.same rfl HL.out HD.out HB4.out
          · rw [if_neg h5] at HAP
            have d5 : decide (g.to - g.at_ < T) = false := decide_eq_false h5
            have hpu := walPut_any w4 (fun x => F x ∧ x < w.heap.size) (fun x => w.heap.size ≤ x) lp p a g d A3 T c3' L (HL.out.below HB4.out) (HD.out.lt.below HB4.out) (HT.out.below HB4.out) (fun h => HF.out.1 h.1) (fun h => HF.out.2 h.1) HPL.out (by omega) HP4.out (fun x h1 h2 => by omega) HRI.out (by omega) hd16 (by omega)
            obtain ⟨wd, hwd⟩ : ∃ wd, WalMath.put d g.at_ L = wd := ⟨_, rfl⟩
            rw [hwd] at hpu HAP
            obtain ⟨dn, cd⟩ := wd
            simp only at HAP
            have HPU := Lib.hid hpu
            clear hpu hwd
            go_wp2_with fail
            refine HPU.out.mono ?_
            rintro e w5 ⟨rfl, hd5, hk5⟩
            simp only at hd5
            have hl5 := (HL.out.below HB4.out).kept hk5 (fun h => HF.out.1 h.1)
            have hk5' : Kept F w w5 := (Kept.of_below HB4.out).trans hk5 (fun x hx => .inl hx.1)
            obtain ⟨_, _, _, _, _, _, _, cf5⟩ := hl5.cells
            have f3 := cf5 3
            have f5 := cf5 5
            have f6 := cf5 6
            obtain ⟨_, _, _, e3, e4, e5, e6, _⟩ := hl5.cells
            have hs5 := hk5'.size
            have hd5' : DiskAt w5 (fun x => F x ∨ w.heap.size ≤ x) p dn := hd5.mono (fun x hx => hx.elim (fun h => .inl h.1) (fun h => .inr (by have := HB4.out.size; omega)))
            have hnl : ∀ x, (F x ∨ w.heap.size ≤ x) → ¬ x = lp := fun x hx e => by
              subst e
              rcases hx with h | h
              · exact HF.out.1 h
              · omega
            have hset : ∀ (u : World) (i : Nat) (y : Value), Kept (fun x => x = lp) u (u.setCell ⟨lp, i, none⟩ y) := fun u i y => (Kept.refl (fun x => x = lp) u).setCell (p := ⟨lp, i, none⟩) (.inl rfl) y
            have HL5 := Lib.hid hl5
            have HD5 := Lib.hid hd5'
            have HK5 := Lib.hid hk5'
            have HNL := Lib.hid hnl
            have HSET := Lib.hid hset
            clear hd5 hk5 hl5 hd5' hk5' hnl hset HPU cf5 cf c2 c3 c4 c5 c6
            by_cases h6 : cd = 0
            · subst h6
              rw [if_pos rfl] at HAP
              go_wp2_with fail
              go_ret
              rw [HAP.out]
              refine ⟨rfl, ?_, ((HD5.out.kept (HSET.out _ 6 _) HNL.out).kept (HSET.out _ 3 _) HNL.out).kept (HSET.out _ 5 _) HNL.out, (((HK5.out.mono (G := fun x => F x ∨ x = lp) (fun _ _ h => .inl h)).trans (HSET.out _ 6 _) (fun x hx => .inl (.inr hx))).trans (HSET.out _ 3 _) (fun x hx => .inl (.inr hx))).trans (HSET.out _ 5 _) (fun x hx => .inl (.inr hx))⟩
              have hfin := ((HL5.out.setErr 0 0 rfl).setAt ((g.at_ : Int) + (T : Int)) (g.at_ + T) (by omega)).setNext ((g.next : Int) + (T : Int)) (g.next + T) (by omega)
              simp only at hfin ⊢
              rw [h1]
              exact hfin
            · rw [if_neg h6] at HAP
              have n6 : ((cd : Int) != 0) = true := by rw [bne_iff_ne]; omega
              clear h6
              go_wp2_with fail
              go_ret
              rw [HAP.out]
              exact ⟨rfl, HL5.out.setErr _ _ rfl, HD5.out.kept (HSET.out _ 6 _) HNL.out, (HK5.out.mono (G := fun x => F x ∨ x = lp) (fun _ _ h => .inl h)).trans (HSET.out _ 6 _) (fun x hx => .inl (.inr hx))⟩
  · have e : WalMath.append g d b = (g, d, g.err) := by
      unfold WalMath.append
      rw [if_pos h1]
    have HE := Lib.hid e
    have n1 : ((g.err : Int) != 0) = true := by rw [bne_iff_ne]; omega
    clear e
    go_enter Tryd.func33, Tryd.ntmps33
    go_wp2_with fail
    refine (walOk_any w lp p a g HL.out).mono ?_
    rintro e w' ⟨rfl, rfl⟩
    go_wp2_with fail
    go_ret
    rw [HE.out]
    exact AppPost.same rfl HL.out HD.out (Below.refl _ _)
end Go.Proofs.YtckihiiimomgfaaDoor
