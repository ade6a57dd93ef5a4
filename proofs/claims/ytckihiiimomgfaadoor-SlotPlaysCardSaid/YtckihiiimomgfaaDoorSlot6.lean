/- The contract of slot.Save. Printed by gen_slotsave.py. -/
import Derived.Test.YtckihiiimomgfaaDoorSlot5
import Derived.Test.YtckihiiimomgfaaDoorGWire
namespace Go.Proofs.YtckihiiimomgfaaDoor
open Go.RowKit DiskMath
/-- a save's record -/
def slEnc (k : Nat) (b : List UInt8) : List UInt8 := WireMath.put k ++ bytesOf b
theorem slEnc_length (k : Nat) (b : List UInt8) (hk : k ≤ 4611686018427387904) (hb : b.length ≤ 65520) : (slEnc k b).length ≤ 65536 := by
  unfold slEnc bytesOf
  have h1 := WireMath.put_le 8 k (by omega)
  have h2 := WireMath.put_le 2 b.length (by omega)
  simp only [List.length_append]
  omega
def SavPost (F : Nat → Prop) (sp p fr : Nat) (r : SlotMath.Sl × Dk × Nat) (w : World) (e : Ending) (w' : World) : Prop :=
  e = .returned (.int .i64 (r.2.2 : Nat)) ∧ SlotB w' sp p fr r.1 ∧ DiskAt w' (fun x => F x ∨ w.heap.size ≤ x) p r.2.1 ∧ Kept (fun x => F x ∨ x = sp) w w'
theorem SavPost.same {F : Nat → Prop} {sp p fr : Nat} {s : SlotMath.Sl} {d : Dk} {k : Nat} {w w' : World} {e : Ending} (he : e = .returned (.int .i64 (k : Nat))) (hl : SlotB w sp p fr s) (hd : DiskAt w F p d) (hb : Below w.heap.size w w') : SavPost F sp p fr (s, d, k) w e w' :=
  ⟨he, hl.below hb, (hd.below hb).mono (fun _ h => .inl h), Kept.of_below hb⟩
set_option maxRecDepth 100000 in
set_option maxHeartbeats 1000000 in
theorem slotSave_any (w : World) (F : Nat → Prop) (sp p fr : Nat) (s : SlotMath.Sl) (d : Dk) (A : Option Addr) (c : Nat) (b : List UInt8) (hs : SlotB w sp p fr s) (hd : DiskAt w F p d) (ht : Halves w) (hF : ¬ F sp) (hFh : ¬ F 0) (hsh : sp ≠ 0)
    (hbs : Bs w A b) (hb47 : b.length ≤ 140737488355328) (hla : s.last ≤ 1) (hf : fr + 2 * s.size ≤ d.fast.length) (hd16 : d.fast.length ≤ 65536) (hep : s.epoch ≤ 4294967295) (hsq : s.seq ≤ 4294967295 + 65536) (hnu : s.number ≤ 4611686018427387904) (hw : d.waits.length < 98000) :
    Calls Tryd.prog 16 #[.pointer (some ⟨sp, 0, none⟩), .slice A b.length c] w (SavPost F sp p fr (SlotMath.save slEnc fr s d b) w) := by
  obtain ⟨_, _, _, _, c4, c5, _, c7, _⟩ := hs.cells
  have hlt := hs.lt
  obtain ⟨nb, hnb⟩ : ∃ nb, b.length = nb := ⟨_, rfl⟩
  obtain ⟨size, ep, sq, nu, la, er⟩ := s
  simp only at *
  have hsk : ∀ w' : World, Below w.heap.size w w' → w'.cell? ⟨sp, 3, none⟩ = some (.int .i64 (ep : Nat)) ∧ w'.cell? ⟨sp, 4, none⟩ = some (.int .i64 (sq : Nat)) ∧ w'.cell? ⟨sp, 5, none⟩ = some (.int .i64 (nu : Nat)) := fun w' hb => by
    obtain ⟨_, _, _, c3, c4, c5, _⟩ := (hs.below hb).cells
    exact ⟨c3, c4, c5⟩
  have hsv : SlotMath.save slEnc fr ⟨size, ep, sq, nu, la, er⟩ d b = SlotMath.save slEnc fr ⟨size, ep, sq, nu, la, er⟩ d b := rfl
  conv at hsv => rhs; unfold SlotMath.save
  simp only at hsv
  have HSK := Lib.hid hsk
  have HS := Lib.hid hs
  have HD := Lib.hid hd
  have HT := Lib.hid ht
  have HBS := Lib.hid hbs
  have HF := Lib.hid (show _ ∧ _ ∧ _ from ⟨hF, hFh, hsh⟩)
  rw [hnb] at hb47 hsv ⊢
  have HNB := Lib.hid hnb
  clear hd ht hbs hF hFh hsh hnb hs hsk
  by_cases h1 : er = 0
  · subst h1
    rw [if_neg (by omega)] at hsv
    by_cases h2 : 65520 < nb
    · rw [if_pos h2] at hsv
      have HE := Lib.hid hsv
      have n1 : (((0 : Nat) : Int) != 0) = false := rfl
      clear hsv
      go_enter Tryd.func16, Tryd.ntmps16
      go_wp2_with fail
      refine (slotOk_any w sp p fr _ HS.out).mono ?_
      rintro e w' ⟨rfl, rfl⟩
      go_wp2_with fail
      go_ret
      rw [HE.out]
      exact SavPost.same rfl HS.out HD.out (Below.refl _ _)
    · rw [if_neg h2] at hsv
      have n1 : (((0 : Nat) : Int) != 0) = false := rfl
      by_cases h3 : 4611686018427387904 ≤ nu
      · rw [if_pos (.inl h3)] at hsv
        have HE := Lib.hid hsv
        have d3 : decide (4611686018427387904 ≤ (nu : Int)) = true := decide_eq_true (by omega)
        clear hsv
        go_enter Tryd.func16, Tryd.ntmps16
        go_wp2_with fail
        refine (slotOk_any w sp p fr _ HS.out).mono ?_
        rintro e w' ⟨rfl, rfl⟩
        go_wp2_with fail
        go_ret
        rw [HE.out]
        exact SavPost.same rfl HS.out HD.out (Below.refl _ _)
      · have d3 : decide (4611686018427387904 ≤ (nu : Int)) = false := decide_eq_false (by omega)
        by_cases h3b : 4294967295 < sq
        · rw [if_pos (.inr h3b)] at hsv
          have HE := Lib.hid hsv
          have d4 : decide (4294967295 < (sq : Int)) = true := decide_eq_true (by omega)
          clear hsv
          go_enter Tryd.func16, Tryd.ntmps16
          go_wp2_with fail
          refine (slotOk_any w sp p fr _ HS.out).mono ?_
          rintro e w' ⟨rfl, rfl⟩
          go_wp2_with fail
          go_ret
          rw [HE.out]
          exact SavPost.same rfl HS.out HD.out (Below.refl _ _)
        · rw [if_neg (by omega)] at hsv
          have d4 : decide (4294967295 < (sq : Int)) = false := decide_eq_false (by omega)
          have HSV := Lib.hid hsv
          have q1 : IntKind.i64.wrap ((nu : Int) + 1) = (nu : Int) + 1 := by rw [IntKind.wrap_i64]; omega
          have q2 : IntKind.u64.wrap ((nu : Int) + 1) = (nu : Int) + 1 := by rw [IntKind.wrap_u64]; omega
          clear hsv
          go_enter Tryd.func16, Tryd.ntmps16
          go_wp2_with fail
          refine (slotOk_any w sp p fr _ HS.out).mono ?_
          rintro e w' ⟨rfl, rfl⟩
          go_wp2_with fail
          refine wp_region_mix [(true, 1), (true, 2), (true, 3), (true, 4), (true, 5), (true, 6), (true, 8), (false, 0), (false, 7), (false, 9), (false, 10), (true, 11)] 12 (fun w' => w'.cell? ⟨sp, 5, none⟩ = some (.int .i64 (nu : Nat)) ∧ True) (by kernel_rfl) (by kernel_rfl) (by rintro _ ⟨_, _⟩ ⟨_, _⟩ _ rfl h; exact h) ⟨(HSK.out _ (Below.refl _ _).drew).2.2, trivial⟩ ?_
          simp only [pickM, List.getElem?_cons_succ, List.getElem?_cons_zero]
          (refine wpMix_take (v := ?_) ?_ ?_; rotate_left; · (refine Or.inl ⟨by rfl, ?_⟩; intro w' hSw; obtain ⟨s5, -⟩ := hSw; go_simp; (try with_reducible rfl)))
          (try simp only [Act.put, List.setIfInBounds_toArray, List.set_cons_zero, List.set_cons_succ])
          (refine wpMix_take (v := ?_) ?_ ?_; rotate_left; · (refine Or.inl ⟨by rfl, ?_⟩; intro w' hSw; obtain ⟨s5, -⟩ := hSw; go_simp; (try with_reducible rfl)))
          (try simp only [Act.put, List.setIfInBounds_toArray, List.set_cons_zero, List.set_cons_succ])
          (refine wpMix_take (v := ?_) ?_ ?_; rotate_left; · (refine Or.inl ⟨by rfl, ?_⟩; intro w' hSw; obtain ⟨s5, -⟩ := hSw; go_simp; (try with_reducible rfl)))
          (try simp only [Act.put, List.setIfInBounds_toArray, List.set_cons_zero, List.set_cons_succ])
          (refine wpMix_take (v := ?_) ?_ ?_; rotate_left; · (refine Or.inl ⟨by rfl, ?_⟩; intro w' hSw; obtain ⟨s5, -⟩ := hSw; go_simp; (try with_reducible rfl)))
          (try simp only [Act.put, List.setIfInBounds_toArray, List.set_cons_zero, List.set_cons_succ])
          (refine wpMix_take (v := ?_) ?_ ?_; rotate_left; · (refine Or.inl ⟨by rfl, ?_⟩; intro w' hSw; obtain ⟨s5, -⟩ := hSw; go_simp; (try with_reducible rfl)))
          (try simp only [Act.put, List.setIfInBounds_toArray, List.set_cons_zero, List.set_cons_succ])
          (refine wpMix_take (v := ?_) ?_ ?_; rotate_left; · (refine Or.inl ⟨by rfl, ?_⟩; intro w' hSw; obtain ⟨s5, -⟩ := hSw; go_simp; (try with_reducible rfl)))
          (try simp only [Act.put, List.setIfInBounds_toArray, List.set_cons_zero, List.set_cons_succ])
          (refine wpMix_take (v := ?_) ?_ ?_; rotate_left; · (refine Or.inl ⟨by rfl, ?_⟩; intro w' hSw; obtain ⟨s5, -⟩ := hSw; go_simp; (try with_reducible rfl)))
          (try simp only [Act.put, List.setIfInBounds_toArray, List.set_cons_zero, List.set_cons_succ])
          refine wpMix_do rfl fun K hK => ?_
          go_simp
          refine (wrNew_any _).mono ?_
          rintro e w1 ⟨rfl, hwr1, hb1⟩
          have hb1' : Below w.heap.size w w1 := (Below.refl _ _).drew.trans hb1
          have hgl : w.heap.size ≤ w.drew.heap.size := Nat.le_refl _
          refine hK.out _ _ (fun _ => ⟨(HSK.out _ hb1').2.2, trivial⟩) ?_
          have HWR1 := Lib.hid hwr1
          have HB1 := Lib.hid hb1'
          have hs1 := hb1.size
          clear hK K hwr1 hb1 hb1'
          (try simp only [Act.put, List.setIfInBounds_toArray, List.set_cons_zero, List.set_cons_succ])
          refine wpMix_do rfl fun K hK => ?_
          go_simp
          have hu := wrU_any w.drew.heap.size w.drew.heap.size (nu + 1) (.slice none 0 0) [] w1 HWR1.out (by omega) (by simp) hs1
          rw [Int.natCast_add] at hu
          refine hu.mono ?_
          rintro e w2 ⟨rfl, v2, hwr2, hk2, hf2⟩
          have hlt2 := hwr2.lt
          have hb2 : Below w.heap.size w w2 := HB1.out.trans (hk2.below (B := w.heap.size) (fun x _ hx => by
            rcases hx with rfl | hx
            · exact Nat.le_refl _
            · simp [Value.ownBlock] at hx) HB1.out.size)
          refine hK.out _ _ (fun _ => ⟨(HSK.out _ hb2).2.2, trivial⟩) ?_
          have hge2 : ∀ x, wrF w.drew.heap.size v2 x → w.heap.size ≤ x := fun x hx => by
            rcases hf2 x hx with hx | hx
            · rcases hx with rfl | hx
              · exact Nat.le_refl _
              · simp [Value.ownBlock] at hx
            · exact Nat.le_trans HB1.out.size hx
          have HWR2 := Lib.hid hwr2
          have HB2 := Lib.hid hb2
          have HGE2 := Lib.hid hge2
          have hs2 := hk2.size
          clear hK K hu hwr2 hk2 hf2 hb2 hge2 hlt2
          (try simp only [Act.put, List.setIfInBounds_toArray, List.set_cons_zero, List.set_cons_succ])
          refine wpMix_do rfl fun K hK => ?_
          go_simp
          have hpl : (WireMath.put (nu + 1)).length ≤ 9 := WireMath.put_le 8 (nu + 1) (by omega)
          have hby := wrBytes_any w.drew.heap.size w.drew.heap.size v2 ([] ++ WireMath.put (nu + 1)) A c b w2 HWR2.out (by simp; omega) (by rw [HNB.out]; omega) (by omega) (HBS.out.below HB2.out) (fun ad hA hne hf => by
            obtain ⟨ad', e', hlt', _⟩ := HBS.out.at_ (k := 0) (List.length_pos_iff.2 hne)
            rw [hA] at e'
            injection e' with e'
            subst e'
            have := HGE2.out _ hf
            omega)
          rw [HNB.out, List.nil_append] at hby
          refine hby.mono ?_
          rintro e w3 ⟨rfl, v3, hwr3, hk3, hf3⟩
          have hb3 : Below w.heap.size w w3 := HB2.out.trans (hk3.below (B := w.heap.size) (fun x _ hx => HGE2.out x hx) HB2.out.size)
          refine hK.out _ _ (fun _ => ⟨(HSK.out _ hb3).2.2, trivial⟩) ?_
          have HWR3 := Lib.hid hwr3
          have HB3 := Lib.hid hb3
          clear hK K hby hwr3 hk3 hf3 hb3
          (try simp only [Act.put, List.setIfInBounds_toArray, List.set_cons_zero, List.set_cons_succ])
          refine wpMix_do rfl fun K hK => ?_
          go_simp
          have hel : (slEnc (nu + 1) b).length ≤ 65536 := slEnc_length (nu + 1) b (by omega) (by rw [HNB.out]; omega)
          have hdn := wrDone_any w.drew.heap.size w.drew.heap.size v3 (WireMath.put (nu + 1) ++ bytesOf b) w3 HWR3.out (by have := hel; unfold slEnc at this; omega)
          refine hdn.mono ?_
          rintro e w4 ⟨v4, rfl, ho4, hb4⟩
          have hb4' := below_then HB3.out hb4
          refine hK.out _ _ (fun _ => ⟨(HSK.out _ hb4').2.2, trivial⟩) ?_
          obtain ⟨R, hR⟩ : ∃ R, slEnc (nu + 1) b = R := ⟨_, rfl⟩
          have ho4' : Own8 w4 w3.heap.size v4 R := by rw [← hR]; exact ho4
          rw [hR] at hel HSV
          obtain ⟨A4, nr, c4, rfl, hnr, hc4, hm4⟩ := ho4'.shape'
          rw [hnr] at hel HSV
          have HO4 := Lib.hid ho4'
          have HB4 := Lib.hid hb4'
          have HNR := Lib.hid hnr
          have HHE := Lib.hid (HD.out.below hb4')
          clear hK K hdn ho4 ho4' hb4 hb4' hR hnr hpl HWR1 HWR2 HWR3 HGE2
          (try simp only [Act.put, List.setIfInBounds_toArray, List.set_cons_zero, List.set_cons_succ])
          (refine wpMix_take (v := ?_) ?_ ?_; rotate_left; · (refine Or.inl ⟨by rfl, ?_⟩; intro w' hSw; obtain ⟨s5, -⟩ := hSw; go_simp; (try with_reducible rfl)))
          (try simp only [Act.put, List.setIfInBounds_toArray, List.set_cons_zero, List.set_cons_succ])
          refine wpMix_nil ?_
          have htl : StampMath.totalOf nr ≤ 1725 := by unfold StampMath.totalOf; omega
          have htp := StampMath.totalOf_pos nr
          obtain ⟨T, hT⟩ : ∃ T, StampMath.totalOf nr = T := ⟨_, rfl⟩
          rw [hT] at htl htp HSV
          go_wp2_with fail
          by_cases h4 : 4294967295 < sq + (T - 1)
          · have hcode : splitCode ep sq nr = 8 := by
              unfold splitCode
              rw [if_neg (by omega), if_neg (by omega), hT, if_pos (by omega)]
            have hsp : ∀ w' : World, Calls Tryd.prog 50 #[.int .i64 ep, .int .i64 sq, .slice A4 nr c4] w' fun e w'' => e = .returned (.tuple #[.slice none 0 0, .int .i64 8]) ∧ w' = w'' := fun w' => by
              have := split_no ep sq A4 nr c4 w' (by omega) (by omega) (by omega) (by rw [hcode]; decide)
              rwa [hcode] at this
            have HSP := Lib.hid hsp
            rw [if_pos h4] at HSV
            clear hsp hcode hT h4
            refine wp_region_mix [(true, 0), (true, 1), (true, 2), (true, 3), (true, 4), (true, 5), (true, 6), (true, 7), (true, 8), (false, 9), (true, 10), (true, 11), (true, 12), (true, 13), (true, 14)] 15 (fun w' => w'.cell? ⟨sp, 3, none⟩ = some (.int .i64 (ep : Nat)) ∧ w'.cell? ⟨sp, 4, none⟩ = some (.int .i64 (sq : Nat))) (by kernel_rfl) (by kernel_rfl) (by rintro _ ⟨_, _⟩ ⟨_, _⟩ _ rfl h; exact h) ⟨(HSK.out _ HB4.out.drew).1, (HSK.out _ HB4.out.drew).2.1⟩ ?_
            simp only [pickM, List.getElem?_cons_succ, List.getElem?_cons_zero]
            (refine wpMix_take (v := ?_) ?_ ?_; rotate_left; · (refine Or.inl ⟨by rfl, ?_⟩; intro w' hSw; obtain ⟨s3, s4⟩ := hSw; go_simp; (try with_reducible rfl)))
            (try simp only [Act.put, List.setIfInBounds_toArray, List.set_cons_zero, List.set_cons_succ])
            (refine wpMix_take (v := ?_) ?_ ?_; rotate_left; · (refine Or.inl ⟨by rfl, ?_⟩; intro w' hSw; obtain ⟨s3, s4⟩ := hSw; go_simp; (try with_reducible rfl)))
            (try simp only [Act.put, List.setIfInBounds_toArray, List.set_cons_zero, List.set_cons_succ])
            (refine wpMix_take (v := ?_) ?_ ?_; rotate_left; · (refine Or.inl ⟨by rfl, ?_⟩; intro w' hSw; obtain ⟨s3, s4⟩ := hSw; go_simp; (try with_reducible rfl)))
            (try simp only [Act.put, List.setIfInBounds_toArray, List.set_cons_zero, List.set_cons_succ])
            (refine wpMix_take (v := ?_) ?_ ?_; rotate_left; · (refine Or.inl ⟨by rfl, ?_⟩; intro w' hSw; obtain ⟨s3, s4⟩ := hSw; go_simp; (try with_reducible rfl)))
            (try simp only [Act.put, List.setIfInBounds_toArray, List.set_cons_zero, List.set_cons_succ])
            (refine wpMix_take (v := ?_) ?_ ?_; rotate_left; · (refine Or.inl ⟨by rfl, ?_⟩; intro w' hSw; obtain ⟨s3, s4⟩ := hSw; go_simp; (try with_reducible rfl)))
            (try simp only [Act.put, List.setIfInBounds_toArray, List.set_cons_zero, List.set_cons_succ])
            (refine wpMix_take (v := ?_) ?_ ?_; rotate_left; · (refine Or.inl ⟨by rfl, ?_⟩; intro w' hSw; obtain ⟨s3, s4⟩ := hSw; go_simp; (try with_reducible rfl)))
            (try simp only [Act.put, List.setIfInBounds_toArray, List.set_cons_zero, List.set_cons_succ])
            (refine wpMix_take (v := ?_) ?_ ?_; rotate_left; · (refine Or.inl ⟨by rfl, ?_⟩; intro w' hSw; obtain ⟨s3, s4⟩ := hSw; go_simp; (try with_reducible rfl)))
            (try simp only [Act.put, List.setIfInBounds_toArray, List.set_cons_zero, List.set_cons_succ])
            (refine wpMix_take (v := ?_) ?_ ?_; rotate_left; · (refine Or.inl ⟨by rfl, ?_⟩; intro w' hSw; obtain ⟨s3, s4⟩ := hSw; go_simp; (try with_reducible rfl)))
            (try simp only [Act.put, List.setIfInBounds_toArray, List.set_cons_zero, List.set_cons_succ])
            (refine wpMix_take (v := ?_) ?_ ?_; rotate_left; · (refine Or.inl ⟨by rfl, ?_⟩; intro w' hSw; obtain ⟨s3, s4⟩ := hSw; go_simp; (try with_reducible rfl)))
            (try simp only [Act.put, List.setIfInBounds_toArray, List.set_cons_zero, List.set_cons_succ])
            refine wpMix_do rfl fun K hK => ?_
            go_simp
            refine (HSP.out _).mono ?_
            rintro e w5 ⟨rfl, hw5⟩
            refine hK.out _ _ (fun _ => by subst hw5; exact ⟨(HSK.out _ HB4.out.drew).1, (HSK.out _ HB4.out.drew).2.1⟩) ?_
            subst hw5
            clear hK K HSP
            (try simp only [Act.put, List.setIfInBounds_toArray, List.set_cons_zero, List.set_cons_succ])
            (refine wpMix_take (v := ?_) ?_ ?_; rotate_left; · (refine Or.inl ⟨by rfl, ?_⟩; intro w' hSw; obtain ⟨s3, s4⟩ := hSw; go_simp; (try with_reducible rfl)))
            (try simp only [Act.put, List.setIfInBounds_toArray, List.set_cons_zero, List.set_cons_succ])
            (refine wpMix_take (v := ?_) ?_ ?_; rotate_left; · (refine Or.inl ⟨by rfl, ?_⟩; intro w' hSw; obtain ⟨s3, s4⟩ := hSw; go_simp; (try with_reducible rfl)))
            (try simp only [Act.put, List.setIfInBounds_toArray, List.set_cons_zero, List.set_cons_succ])
            (refine wpMix_take (v := ?_) ?_ ?_; rotate_left; · (refine Or.inl ⟨by rfl, ?_⟩; intro w' hSw; obtain ⟨s3, s4⟩ := hSw; go_simp; (try with_reducible rfl)))
            (try simp only [Act.put, List.setIfInBounds_toArray, List.set_cons_zero, List.set_cons_succ])
            (refine wpMix_take (v := ?_) ?_ ?_; rotate_left; · (refine Or.inl ⟨by rfl, ?_⟩; intro w' hSw; obtain ⟨s3, s4⟩ := hSw; go_simp; (try with_reducible rfl)))
            (try simp only [Act.put, List.setIfInBounds_toArray, List.set_cons_zero, List.set_cons_succ])
            (refine wpMix_take (v := ?_) ?_ ?_; rotate_left; · (refine Or.inl ⟨by rfl, ?_⟩; intro w' hSw; obtain ⟨s3, s4⟩ := hSw; go_simp; (try with_reducible rfl)))
            (try simp only [Act.put, List.setIfInBounds_toArray, List.set_cons_zero, List.set_cons_succ])
            refine wpMix_nil ?_
            go_wp2_with fail
            go_ret
            rw [HSV.out]
            exact SavPost.same rfl HS.out HD.out HB4.out.drew
          · have hsp := split_yes ep sq A4 c4 R w4.drew (by omega) (by omega) (by omega) (by rw [HNR.out, hT]; omega) (by rw [HNR.out]; omega) (by rw [HNR.out]; omega) hm4 HO4.out.bs.drew
            rw [HNR.out] at hsp
            have hpl : (StampMath.parts ep sq R).length = T := by rw [StampMath.parts_length, HNR.out, hT]
            have hright : ∀ q ∈ StampMath.parts ep sq R, StampMath.right q := fun q hq => by
              unfold StampMath.parts at hq
              obtain ⟨i, hi, rfl⟩ := List.mem_map.1 hq
              rw [HNR.out, hT] at hi
              have := List.mem_range.1 hi
              exact StampMath.part_right (by omega) (by omega) (by omega) (by omega) (by rw [HNR.out, hT]; omega) (by rw [HNR.out, hT]; omega)
            rw [if_neg h4] at HSV
            obtain ⟨L, hL⟩ : ∃ L, StampMath.parts ep sq R = L := ⟨_, rfl⟩
            rw [hL] at hsp hpl hright HSV
            have HSP := Lib.hid hsp
            have HPL := Lib.hid hpl
            have HRI := Lib.hid hright
            clear hsp hpl hright hL hT h4
            refine wp_region_mix [(true, 0), (true, 1), (true, 2), (true, 3), (true, 4), (true, 5), (true, 6), (true, 7), (true, 8), (false, 9), (true, 10), (true, 11), (true, 12), (true, 13), (true, 14)] 15 (fun w' => w'.cell? ⟨sp, 3, none⟩ = some (.int .i64 (ep : Nat)) ∧ w'.cell? ⟨sp, 4, none⟩ = some (.int .i64 (sq : Nat))) (by kernel_rfl) (by kernel_rfl) (by rintro _ ⟨_, _⟩ ⟨_, _⟩ _ rfl h; exact h) ⟨(HSK.out _ HB4.out.drew).1, (HSK.out _ HB4.out.drew).2.1⟩ ?_
            simp only [pickM, List.getElem?_cons_succ, List.getElem?_cons_zero]
            (refine wpMix_take (v := ?_) ?_ ?_; rotate_left; · (refine Or.inl ⟨by rfl, ?_⟩; intro w' hSw; obtain ⟨s3, s4⟩ := hSw; go_simp; (try with_reducible rfl)))
            (try simp only [Act.put, List.setIfInBounds_toArray, List.set_cons_zero, List.set_cons_succ])
            (refine wpMix_take (v := ?_) ?_ ?_; rotate_left; · (refine Or.inl ⟨by rfl, ?_⟩; intro w' hSw; obtain ⟨s3, s4⟩ := hSw; go_simp; (try with_reducible rfl)))
            (try simp only [Act.put, List.setIfInBounds_toArray, List.set_cons_zero, List.set_cons_succ])
            (refine wpMix_take (v := ?_) ?_ ?_; rotate_left; · (refine Or.inl ⟨by rfl, ?_⟩; intro w' hSw; obtain ⟨s3, s4⟩ := hSw; go_simp; (try with_reducible rfl)))
            (try simp only [Act.put, List.setIfInBounds_toArray, List.set_cons_zero, List.set_cons_succ])
            (refine wpMix_take (v := ?_) ?_ ?_; rotate_left; · (refine Or.inl ⟨by rfl, ?_⟩; intro w' hSw; obtain ⟨s3, s4⟩ := hSw; go_simp; (try with_reducible rfl)))
            (try simp only [Act.put, List.setIfInBounds_toArray, List.set_cons_zero, List.set_cons_succ])
            (refine wpMix_take (v := ?_) ?_ ?_; rotate_left; · (refine Or.inl ⟨by rfl, ?_⟩; intro w' hSw; obtain ⟨s3, s4⟩ := hSw; go_simp; (try with_reducible rfl)))
            (try simp only [Act.put, List.setIfInBounds_toArray, List.set_cons_zero, List.set_cons_succ])
            (refine wpMix_take (v := ?_) ?_ ?_; rotate_left; · (refine Or.inl ⟨by rfl, ?_⟩; intro w' hSw; obtain ⟨s3, s4⟩ := hSw; go_simp; (try with_reducible rfl)))
            (try simp only [Act.put, List.setIfInBounds_toArray, List.set_cons_zero, List.set_cons_succ])
            (refine wpMix_take (v := ?_) ?_ ?_; rotate_left; · (refine Or.inl ⟨by rfl, ?_⟩; intro w' hSw; obtain ⟨s3, s4⟩ := hSw; go_simp; (try with_reducible rfl)))
            (try simp only [Act.put, List.setIfInBounds_toArray, List.set_cons_zero, List.set_cons_succ])
            (refine wpMix_take (v := ?_) ?_ ?_; rotate_left; · (refine Or.inl ⟨by rfl, ?_⟩; intro w' hSw; obtain ⟨s3, s4⟩ := hSw; go_simp; (try with_reducible rfl)))
            (try simp only [Act.put, List.setIfInBounds_toArray, List.set_cons_zero, List.set_cons_succ])
            (refine wpMix_take (v := ?_) ?_ ?_; rotate_left; · (refine Or.inl ⟨by rfl, ?_⟩; intro w' hSw; obtain ⟨s3, s4⟩ := hSw; go_simp; (try with_reducible rfl)))
            (try simp only [Act.put, List.setIfInBounds_toArray, List.set_cons_zero, List.set_cons_succ])
            refine wpMix_do rfl fun K hK => ?_
            go_simp
            refine HSP.out.mono ?_
            rintro e w5 ⟨v5, rfl, hp5, hb5⟩
            have hb5' : Below w.heap.size w w5 := below_then HB4.out ((Below.refl _ _).drew.trans hb5)
            obtain ⟨A5, c5, rfl, hc5⟩ := hp5.shape
            rw [HPL.out] at hp5 ⊢
            refine hK.out _ _ (fun _ => ⟨(HSK.out _ hb5').1, (HSK.out _ hb5').2.1⟩) ?_
            have HP5 := Lib.hid hp5
            have HB5 := Lib.hid hb5'
            have hw45 : w.heap.size ≤ w4.drew.heap.size := HB4.out.size
            clear hK K HSP hp5 hb5 hb5' hc5
            (try simp only [Act.put, List.setIfInBounds_toArray, List.set_cons_zero, List.set_cons_succ])
            (refine wpMix_take (v := ?_) ?_ ?_; rotate_left; · (refine Or.inl ⟨by rfl, ?_⟩; intro w' hSw; obtain ⟨s3, s4⟩ := hSw; go_simp; (try with_reducible rfl)))
            (try simp only [Act.put, List.setIfInBounds_toArray, List.set_cons_zero, List.set_cons_succ])
            (refine wpMix_take (v := ?_) ?_ ?_; rotate_left; · (refine Or.inl ⟨by rfl, ?_⟩; intro w' hSw; obtain ⟨s3, s4⟩ := hSw; go_simp; (try with_reducible rfl)))
            (try simp only [Act.put, List.setIfInBounds_toArray, List.set_cons_zero, List.set_cons_succ])
            (refine wpMix_take (v := ?_) ?_ ?_; rotate_left; · (refine Or.inl ⟨by rfl, ?_⟩; intro w' hSw; obtain ⟨s3, s4⟩ := hSw; go_simp; (try with_reducible rfl)))
            (try simp only [Act.put, List.setIfInBounds_toArray, List.set_cons_zero, List.set_cons_succ])
            (refine wpMix_take (v := ?_) ?_ ?_; rotate_left; · (refine Or.inl ⟨by rfl, ?_⟩; intro w' hSw; obtain ⟨s3, s4⟩ := hSw; go_simp; (try with_reducible rfl)))
            (try simp only [Act.put, List.setIfInBounds_toArray, List.set_cons_zero, List.set_cons_succ])
            (refine wpMix_take (v := ?_) ?_ ?_; rotate_left; · (refine Or.inl ⟨by rfl, ?_⟩; intro w' hSw; obtain ⟨s3, s4⟩ := hSw; go_simp; (try with_reducible rfl)))
            (try simp only [Act.put, List.setIfInBounds_toArray, List.set_cons_zero, List.set_cons_succ])
            refine wpMix_nil ?_
            have hs5 := HS.out.below HB5.out
            obtain ⟨_, _, k2, _, _, _, _, _, _⟩ := hs5.cells
            simp only at k2
            by_cases h5 : size < T
            · rw [if_pos h5] at HSV
              have d5 : decide (size < T) = true := decide_eq_true h5
              clear hs5
              go_wp2_with fail
              go_ret
              rw [HSV.out]
              exact SavPost.same rfl HS.out HD.out HB5.out
            · rw [if_neg h5] at HSV
              have d5 : decide (size < T) = false := decide_eq_false h5
              have hosz : (1 - la) * size ≤ size := by
                have : (1 - la) * size ≤ 1 * size := Nat.mul_le_mul_right _ (by omega)
                omega
              have hpu := slotPut_any w5 (fun x => F x ∧ x < w.heap.size) (fun x => w4.drew.heap.size ≤ x) sp p fr ⟨size, ep, sq, nu, la, 0⟩ d A5 T c5 L hs5 (HD.out.lt.below HB5.out) (HT.out.below HB5.out) (fun h => HF.out.1 h.1) (fun h => HF.out.2.1 h.1) HF.out.2.2 HPL.out (by omega) HP5.out (fun x h1 h2 => by omega) (by omega) HRI.out hla (by simp only; omega) (by simp only; omega) (by omega) (by simp only; omega) (by omega) (by omega)
              simp only at hpu
              obtain ⟨wd, hwd⟩ : ∃ wd, WalMath.put d (fr + (1 - la) * size) L = wd := ⟨_, rfl⟩
              rw [hwd] at hpu HSV
              obtain ⟨dn, cd⟩ := wd
              simp only at HSV
              have HPU := Lib.hid hpu
              clear hpu hwd hs5
              go_wp2_with fail
              refine HPU.out.mono ?_
              rintro e w6 ⟨rfl, hs6, hd6, hk6⟩
              simp only at hd6
              have hk6' : Kept (fun x => F x ∨ x = sp) w w6 := (Kept.of_below HB5.out).trans hk6 (fun x hx => by
                rcases hx with hx | hx
                · exact .inl (.inl hx.1)
                · exact .inl (.inr hx))
              obtain ⟨_, _, _, _, e4, e5, e6, e7, cf6⟩ := hs6.cells
              simp only at e4 e5 e6 e7
              have f5 := cf6 5
              have f6 := cf6 6
              have f7 := cf6 7
              have hd6' : DiskAt w6 (fun x => F x ∨ w.heap.size ≤ x) p dn := hd6.mono (fun x hx => hx.elim (fun h => .inl h.1) (fun h => .inr (by have := HB5.out.size; omega)))
              have hnl : ∀ x, (F x ∨ w.heap.size ≤ x) → ¬ x = sp := fun x hx e => by
                subst e
                rcases hx with h | h
                · exact HF.out.1 h
                · omega
              have hset : ∀ (u : World) (i : Nat) (y : Value), Kept (fun x => x = sp) u (u.setCell ⟨sp, i, none⟩ y) := fun u i y => (Kept.refl (fun x => x = sp) u).setCell (p := ⟨sp, i, none⟩) (.inl rfl) y
              have HS6 := Lib.hid hs6
              have HD6 := Lib.hid hd6'
              have HK6 := Lib.hid hk6'
              have HNL := Lib.hid hnl
              have HSET := Lib.hid hset
              clear hd6 hk6 hs6 hd6' hk6' hnl hset HPU cf6
              by_cases h6 : cd = 0
              · subst h6
                rw [if_pos rfl] at HSV
                have hnu1 : IntKind.i64.wrap ((nu : Int) + 1) = (nu : Int) + 1 := by rw [IntKind.wrap_i64]; omega
                go_wp2_with fail
                go_ret
                rw [HSV.out]
                refine ⟨rfl, ?_, ((HD6.out.kept (HSET.out _ 7 _) HNL.out).kept (HSET.out _ 5 _) HNL.out).kept (HSET.out _ 6 _) HNL.out, ((HK6.out.trans (HSET.out _ 7 _) (fun x hx => .inl (.inr hx))).trans (HSET.out _ 5 _) (fun x hx => .inl (.inr hx))).trans (HSET.out _ 6 _) (fun x hx => .inl (.inr hx))⟩
                have hfin := ((HS6.out.setErr 0 0 rfl).setNumber ((nu : Int) + 1) (nu + 1) (by omega)).setLast (1 - (la : Int)) (1 - la) (by omega)
                exact hfin
              · rw [if_neg h6] at HSV
                have n6 : ((cd : Int) != 0) = true := by rw [bne_iff_ne]; omega
                clear h6
                go_wp2_with fail
                go_ret
                rw [HSV.out]
                exact ⟨rfl, HS6.out.setErr _ _ rfl, HD6.out.kept (HSET.out _ 7 _) HNL.out, HK6.out.trans (HSET.out _ 7 _) (fun x hx => .inl (.inr hx))⟩
  · rw [if_pos h1] at hsv
    have HE := Lib.hid hsv
    have n1 : ((er : Int) != 0) = true := by rw [bne_iff_ne]; omega
    clear hsv
    go_enter Tryd.func16, Tryd.ntmps16
    go_wp2_with fail
    refine (slotOk_any w sp p fr _ HS.out).mono ?_
    rintro e w' ⟨rfl, rfl⟩
    go_wp2_with fail
    go_ret
    rw [HE.out]
    exact SavPost.same rfl HS.out HD.out (Below.refl _ _)
end Go.Proofs.YtckihiiimomgfaaDoor
