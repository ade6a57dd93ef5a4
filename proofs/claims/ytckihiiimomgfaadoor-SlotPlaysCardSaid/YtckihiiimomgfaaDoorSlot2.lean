/- The contract of slot.parts. Printed by gen_slotparts.py. -/
import Derived.Test.YtckihiiimomgfaaDoorSlot1
namespace Go.Proofs.YtckihiiimomgfaaDoor
open Go.RowKit DiskMath
set_option maxRecDepth 100000 in
set_option maxHeartbeats 1000000 in
theorem slotParts_any (w : World) (F : Nat → Prop) (sp p fr i : Nat) (s : SlotMath.Sl) (d : Dk) (hs : SlotB w sp p fr s) (hd : DiskAt w F p d) (ht : Halves w) (hi : i ≤ 1) (hf : fr + 2 * s.size ≤ d.fast.length) (hd16 : d.fast.length ≤ 65536) :
    Calls Tryd.prog 71 #[.pointer (some ⟨sp, 0, none⟩), .int .i64 i] w (SpPost (SlotMath.slotParts (view d) (fr + i * s.size) s.size) w) := by
  obtain ⟨c0, _, c2, _⟩ := hs.cells
  have hlt := hs.lt
  have hsk : ∀ w' : World, Below w.heap.size w w' → w'.cell? ⟨sp, 0, none⟩ = some (.pointer (some ⟨p, 0, none⟩)) ∧ w'.cell? ⟨sp, 2, none⟩ = some (.int .i64 (s.size : Nat)) := fun w' hb => by
    obtain ⟨c0, _, c2, _⟩ := (hs.below hb).cells
    exact ⟨c0, c2⟩
  have hbeg := fun (w' : World) (hb : Below w.heap.size w w') => slotBegin_any w' sp p fr i s (hs.below hb) hi (by omega) (by omega)
  obtain ⟨size, ep, sq, nu0, la, er⟩ := s
  simp only at *
  have hisz : i * size ≤ size := by
    have : i * size ≤ 1 * size := Nat.mul_le_mul_right _ hi
    omega
  obtain ⟨a, ha⟩ : ∃ a, fr + i * size = a := ⟨_, rfl⟩
  rw [ha] at hbeg ⊢
  have hal : a + size ≤ d.fast.length := by omega
  have hrd : ∀ (w' : World) (k : Nat), k < size → Below w.heap.size w w' → _ := fun w' k hk hb => diskRead_yes w' F p d (a + k) (hd.below hb) (by omega)
  obtain ⟨S, hS⟩ : ∃ S, view d = S := ⟨_, rfl⟩
  rw [hS] at hrd ⊢
  have HSK := Lib.hid hsk
  have HBEG := Lib.hid hbeg
  have HRDA := Lib.hid hrd
  have HT := Lib.hid ht
  have hib : (Tryd.prog.info? 130).map (·.size) = some 5 := by kernel_rfl
  obtain ⟨Z, hZl, hzv⟩ := info_part_zero3
  have HZL := Lib.hid hZl
  obtain ⟨i0x, hi0, hz0, hz1, hz2⟩ := info_parts info_part
  have ha16 : a ≤ 65536 := by omega
  have hsz16 : size ≤ 65536 := by omega
  clear hs hd ht hsk hbeg hrd hS hZl hisz ha hal hf hd16
  go_enter Tryd.func71, Tryd.ntmps71
  go_wp2_with fail
  go_loopw [5, 14] (fun v i wr => SrRel w S a size v i wr) (fun _ i _ => size - (intOf i).toNat)
  case atStart => exact ⟨0, [], Nat.zero_le _, rfl, rfl, fun p h => by simp at h, PRow.nil _ _ _, Below.refl _ _⟩
  case round =>
    obtain ⟨k, l, hk, rfl, hra, hfi, hrow, hb⟩ := hrel
    obtain ⟨wo, rfl⟩ : ∃ wo : World, wo = wr := ⟨_, rfl⟩
    obtain ⟨A5, c5, rfl, hc5⟩ := hrow.shape
    have hll := (SlotMath.readAll_some hra).1
    rw [hll] at hrow hc5 ⊢
    have HRA := Lib.hid hra
    have HFI := Lib.hid hfi
    have HROW := Lib.hid hrow
    have HB := Lib.hid hb
    have hsz := hb.size
    clear hra hfi hrow hb hll
    by_cases hlt2 : k < size
    · have s1 : IntKind.i64.wrap ((a : Int) + (k : Int)) = (a : Int) + (k : Int) := by rw [IntKind.wrap_i64]; omega
      have hrd := fun w' h => HRDA.out w' k hlt2 h
      simp only [Int.natCast_add] at hrd
      have HRD := Lib.hid hrd
      clear hrd
      go_wp2_with fail
      refine wp_region_mix [(true, 0), (true, 1), (true, 2), (true, 3), (true, 4), (true, 5), (true, 7), (false, 6), (true, 8), (false, 9), (true, 10), (true, 11), (true, 12), (true, 13), (true, 14)] 15 (fun w' => w'.cell? ⟨sp, 0, none⟩ = some (.pointer (some ⟨p, 0, none⟩)) ∧ w'.cell? ⟨sp, 2, none⟩ = some (.int .i64 (size : Nat))) (by kernel_rfl) (by kernel_rfl) (by rintro _ ⟨_, _⟩ ⟨_, _⟩ _ rfl h; exact h) (HSK.out _ HB.out.drew) ?_
      simp only [pickM, List.getElem?_cons_succ, List.getElem?_cons_zero]
      (refine wpMix_take (v := ?_) ?_ ?_; rotate_left; · (first | (refine Or.inr ⟨by rfl, by rfl⟩) | (refine Or.inl ⟨by rfl, ?_⟩; intro w' hSw; obtain ⟨s0, s2⟩ := hSw; go_simp; (try with_reducible rfl))))
      (try simp only [Act.put, List.setIfInBounds_toArray, List.set_cons_zero, List.set_cons_succ])
      (refine wpMix_take (v := ?_) ?_ ?_; rotate_left; · (first | (refine Or.inr ⟨by rfl, by rfl⟩) | (refine Or.inl ⟨by rfl, ?_⟩; intro w' hSw; obtain ⟨s0, s2⟩ := hSw; go_simp; (try with_reducible rfl))))
      (try simp only [Act.put, List.setIfInBounds_toArray, List.set_cons_zero, List.set_cons_succ])
      (refine wpMix_take (v := ?_) ?_ ?_; rotate_left; · (first | (refine Or.inr ⟨by rfl, by rfl⟩) | (refine Or.inl ⟨by rfl, ?_⟩; intro w' hSw; obtain ⟨s0, s2⟩ := hSw; go_simp; (try with_reducible rfl))))
      (try simp only [Act.put, List.setIfInBounds_toArray, List.set_cons_zero, List.set_cons_succ])
      (refine wpMix_take (v := ?_) ?_ ?_; rotate_left; · (first | (refine Or.inr ⟨by rfl, by rfl⟩) | (refine Or.inl ⟨by rfl, ?_⟩; intro w' hSw; obtain ⟨s0, s2⟩ := hSw; go_simp; (try with_reducible rfl))))
      (try simp only [Act.put, List.setIfInBounds_toArray, List.set_cons_zero, List.set_cons_succ])
      (refine wpMix_take (v := ?_) ?_ ?_; rotate_left; · (first | (refine Or.inr ⟨by rfl, by rfl⟩) | (refine Or.inl ⟨by rfl, ?_⟩; intro w' hSw; obtain ⟨s0, s2⟩ := hSw; go_simp; (try with_reducible rfl))))
      (try simp only [Act.put, List.setIfInBounds_toArray, List.set_cons_zero, List.set_cons_succ])
      (refine wpMix_take (v := ?_) ?_ ?_; rotate_left; · (first | (refine Or.inr ⟨by rfl, by rfl⟩) | (refine Or.inl ⟨by rfl, ?_⟩; intro w' hSw; obtain ⟨s0, s2⟩ := hSw; go_simp; (try with_reducible rfl))))
      (try simp only [Act.put, List.setIfInBounds_toArray, List.set_cons_zero, List.set_cons_succ])
      (refine wpMix_take (v := ?_) ?_ ?_; rotate_left; · (first | (refine Or.inr ⟨by rfl, by rfl⟩) | (refine Or.inl ⟨by rfl, ?_⟩; intro w' hSw; obtain ⟨s0, s2⟩ := hSw; go_simp; (try with_reducible rfl))))
      (try simp only [Act.put, List.setIfInBounds_toArray, List.set_cons_zero, List.set_cons_succ])
      refine wpMix_do rfl fun K hK => ?_
      go_simp
      refine (HBEG.out _ HB.out.drew).mono ?_
      rintro e w1 ⟨rfl, hb1⟩
      have hb1' : Below wo.heap.size wo w1 := (Below.refl _ _).drew.trans hb1
      refine hK.out _ _ (fun _ => HSK.out _ (below_then HB.out hb1')) ?_
      clear hK K
      (try simp only [Act.put, List.setIfInBounds_toArray, List.set_cons_zero, List.set_cons_succ])
      (refine wpMix_take (v := ?_) ?_ ?_; rotate_left; · (first | (refine Or.inr ⟨by rfl, by rfl⟩) | (refine Or.inl ⟨by rfl, ?_⟩; intro w' hSw; obtain ⟨s0, s2⟩ := hSw; go_simp; (try with_reducible rfl))))
      (try simp only [Act.put, List.setIfInBounds_toArray, List.set_cons_zero, List.set_cons_succ])
      refine wpMix_do rfl fun K hK => ?_
      go_simp
      refine (HRD.out w1 (below_then HB.out hb1')).mono ?_
      rintro e w2 ⟨v2, b, rfl, hvb, hbl, ho2, hb2⟩
      have hb2' := below_then hb1' hb2
      refine hK.out _ _ (fun _ => HSK.out _ (below_then HB.out hb2')) ?_
      obtain ⟨A2, c2, rfl, hc2⟩ := own_shape ho2
      have hcm2 := own_capm ho2
      have ho2' : Own8 w2 w1.heap.size (.slice A2 64 c2) b := by unfold Own8; rw [hbl]; exact ho2
      have hgd : S.getD (a + k) [] = b := by rw [List.getD_eq_getElem?_getD, hvb]; rfl
      have HO2 := Lib.hid ho2'
      have HB2 := Lib.hid hb2'
      have HGD := Lib.hid hgd
      have HBL := Lib.hid hbl
      have hs2 := hb2'.size
      clear hK K hb1 hb1' hb2 hb2' hvb ho2 ho2' hgd hbl
      (try simp only [Act.put, List.setIfInBounds_toArray, List.set_cons_zero, List.set_cons_succ])
      (refine wpMix_take (v := ?_) ?_ ?_; rotate_left; · (first | (refine Or.inr ⟨by rfl, by rfl⟩) | (refine Or.inl ⟨by rfl, ?_⟩; intro w' hSw; obtain ⟨s0, s2⟩ := hSw; go_simp; (try with_reducible rfl))))
      (try simp only [Act.put, List.setIfInBounds_toArray, List.set_cons_zero, List.set_cons_succ])
      (refine wpMix_take (v := ?_) ?_ ?_; rotate_left; · (first | (refine Or.inr ⟨by rfl, by rfl⟩) | (refine Or.inl ⟨by rfl, ?_⟩; intro w' hSw; obtain ⟨s0, s2⟩ := hSw; go_simp; (try with_reducible rfl))))
      (try simp only [Act.put, List.setIfInBounds_toArray, List.set_cons_zero, List.set_cons_succ])
      (refine wpMix_take (v := ?_) ?_ ?_; rotate_left; · (first | (refine Or.inr ⟨by rfl, by rfl⟩) | (refine Or.inl ⟨by rfl, ?_⟩; intro w' hSw; obtain ⟨s0, s2⟩ := hSw; go_simp; (try with_reducible rfl))))
      (try simp only [Act.put, List.setIfInBounds_toArray, List.set_cons_zero, List.set_cons_succ])
      (refine wpMix_take (v := ?_) ?_ ?_; rotate_left; · (first | (refine Or.inr ⟨by rfl, by rfl⟩) | (refine Or.inl ⟨by rfl, ?_⟩; intro w' hSw; obtain ⟨s0, s2⟩ := hSw; go_simp; (try with_reducible rfl))))
      (try simp only [Act.put, List.setIfInBounds_toArray, List.set_cons_zero, List.set_cons_succ])
      (refine wpMix_take (v := ?_) ?_ ?_; rotate_left; · (first | (refine Or.inr ⟨by rfl, by rfl⟩) | (refine Or.inl ⟨by rfl, ?_⟩; intro w' hSw; obtain ⟨s0, s2⟩ := hSw; go_simp; (try with_reducible rfl))))
      (try simp only [Act.put, List.setIfInBounds_toArray, List.set_cons_zero, List.set_cons_succ])
      refine wpMix_nil ?_
      go_wp2_with fail
      cases hn : StampMath.read (S.getD (a + k) []) with
      | none =>
        have HN := Lib.hid hn
        refine (stampRead_none A2 c2 64 b w2 HBL.out hc2 hcm2 (by decide) HO2.out.bs (HT.out.below (below_then HB.out HB2.out)) (by rw [← HGD.out]; exact HN.out)).mono ?_
        rintro e w3 ⟨rfl, hb3⟩
        have HB3 := Lib.hid (below_then HB2.out hb3)
        have hs3 := hb3.size
        have hre : SlotMath.slotParts S a size = none := by
          rcases Nat.eq_zero_or_pos k with hk0 | hk0
          · subst hk0; exact SlotMath.slotParts_none (by simpa using HN.out)
          · obtain ⟨p0, hp0⟩ : ∃ p0, l[0]? = some p0 := ⟨_, List.getElem?_eq_getElem (by have := (SlotMath.readAll_some HRA.out).1; omega)⟩
            obtain ⟨h1, h2⟩ := HFI.out p0 hp0
            obtain ⟨T0, hT0⟩ := Int.eq_ofNat_of_zero_le (show 0 ≤ p0.total by omega)
            rw [SlotMath.slotParts_eq (T := T0) (by have := (SlotMath.readAll_some HRA.out).2 0 p0 hp0; simpa using this) hT0 (by omega) (by omega)]
            exact SlotMath.readAll_none (k := k) (by omega) HN.out
        have HRE := Lib.hid hre
        clear hb3 hre hn
        go_wp2_with (refine wpList_store_new rfl 130 (.tmp 9) (.tmp 35) rfl rfl (partCells ⟨0, 0, 0, 0, []⟩ (.slice none 0 0)) rfl rfl (by show Z.toArray.size = _; rw [List.size_toArray, HZL.out]; rfl) hib (fun u hu => by simp at hu; rcases hu with rfl | rfl <;> rfl) ?_; intro w4 hr4 hb4 hs4; have HR4 := Lib.hid hr4; have HB4 := Lib.hid hb4; clear hr4 hb4 hs4)
        have hs9 : ∀ w' : World, Below w4.heap.size w4 w' → w'.cell? ⟨w3.heap.size, 3, none⟩ = some (.int .i64 0) ∧ w'.cell? ⟨sp, 2, none⟩ = some (.int .i64 (size : Nat)) := fun w' hb => ⟨by rw [(HR4.out.below hb).cell]; rfl, (HSK.out _ (below_then HB.out (below_then HB3.out (below_then HB4.out hb)))).2⟩
        obtain ⟨g9, hg9⟩ : ∃ g9, w3.heap.size = g9 := ⟨_, rfl⟩
        rw [hg9] at hs9 ⊢
        have HS9 := Lib.hid hs9
        clear hs9
        go_wp2_with fail
        refine wp_region_mix [(true, 0), (true, 1), (true, 2), (true, 3), (true, 4), (true, 5), (true, 6), (true, 7), (true, 8), (true, 9), (true, 10), (true, 11), (true, 12), (true, 13), (true, 14)] 15 (fun w' => w'.cell? ⟨g9, 3, none⟩ = some (.int .i64 0) ∧ w'.cell? ⟨sp, 2, none⟩ = some (.int .i64 (size : Nat))) (by kernel_rfl) (by kernel_rfl) (by rintro _ ⟨_, _⟩ ⟨_, _⟩ _ rfl h; exact h) (HS9.out _ (Below.refl _ _).drew) ?_
        simp only [pickM, List.getElem?_cons_succ, List.getElem?_cons_zero]
        (refine wpMix_take (v := ?_) ?_ ?_; rotate_left; · (first | (refine Or.inr ⟨by rfl, by rfl⟩) | (refine Or.inl ⟨by rfl, ?_⟩; intro w' hSw; obtain ⟨s0, s2⟩ := hSw; go_simp; (try with_reducible rfl))))
        (try simp only [Act.put, List.setIfInBounds_toArray, List.set_cons_zero, List.set_cons_succ])
        (refine wpMix_take (v := ?_) ?_ ?_; rotate_left; · (first | (refine Or.inr ⟨by rfl, by rfl⟩) | (refine Or.inl ⟨by rfl, ?_⟩; intro w' hSw; obtain ⟨s0, s2⟩ := hSw; go_simp; (try with_reducible rfl))))
        (try simp only [Act.put, List.setIfInBounds_toArray, List.set_cons_zero, List.set_cons_succ])
        (refine wpMix_take (v := ?_) ?_ ?_; rotate_left; · (first | (refine Or.inr ⟨by rfl, by rfl⟩) | (refine Or.inl ⟨by rfl, ?_⟩; intro w' hSw; obtain ⟨s0, s2⟩ := hSw; go_simp; (try with_reducible rfl))))
        (try simp only [Act.put, List.setIfInBounds_toArray, List.set_cons_zero, List.set_cons_succ])
        (refine wpMix_take (v := ?_) ?_ ?_; rotate_left; · (first | (refine Or.inr ⟨by rfl, by rfl⟩) | (refine Or.inl ⟨by rfl, ?_⟩; intro w' hSw; obtain ⟨s0, s2⟩ := hSw; go_simp; (try with_reducible rfl))))
        (try simp only [Act.put, List.setIfInBounds_toArray, List.set_cons_zero, List.set_cons_succ])
        (refine wpMix_take (v := ?_) ?_ ?_; rotate_left; · (first | (refine Or.inr ⟨by rfl, by rfl⟩) | (refine Or.inl ⟨by rfl, ?_⟩; intro w' hSw; obtain ⟨s0, s2⟩ := hSw; go_simp; (try with_reducible rfl))))
        (try simp only [Act.put, List.setIfInBounds_toArray, List.set_cons_zero, List.set_cons_succ])
        (refine wpMix_take (v := ?_) ?_ ?_; rotate_left; · (first | (refine Or.inr ⟨by rfl, by rfl⟩) | (refine Or.inl ⟨by rfl, ?_⟩; intro w' hSw; obtain ⟨s0, s2⟩ := hSw; go_simp; (try with_reducible rfl))))
        (try simp only [Act.put, List.setIfInBounds_toArray, List.set_cons_zero, List.set_cons_succ])
        (refine wpMix_take (v := ?_) ?_ ?_; rotate_left; · (first | (refine Or.inr ⟨by rfl, by rfl⟩) | (refine Or.inl ⟨by rfl, ?_⟩; intro w' hSw; obtain ⟨s0, s2⟩ := hSw; go_simp; (try with_reducible rfl))))
        (try simp only [Act.put, List.setIfInBounds_toArray, List.set_cons_zero, List.set_cons_succ])
        (refine wpMix_take (v := ?_) ?_ ?_; rotate_left; · (first | (refine Or.inr ⟨by rfl, by rfl⟩) | (refine Or.inl ⟨by rfl, ?_⟩; intro w' hSw; obtain ⟨s0, s2⟩ := hSw; go_simp; (try with_reducible rfl))))
        (try simp only [Act.put, List.setIfInBounds_toArray, List.set_cons_zero, List.set_cons_succ])
        (refine wpMix_take (v := ?_) ?_ ?_; rotate_left; · (first | (refine Or.inr ⟨by rfl, by rfl⟩) | (refine Or.inl ⟨by rfl, ?_⟩; intro w' hSw; obtain ⟨s0, s2⟩ := hSw; go_simp; (try with_reducible rfl))))
        (try simp only [Act.put, List.setIfInBounds_toArray, List.set_cons_zero, List.set_cons_succ])
        (refine wpMix_take (v := ?_) ?_ ?_; rotate_left; · (first | (refine Or.inr ⟨by rfl, by rfl⟩) | (refine Or.inl ⟨by rfl, ?_⟩; intro w' hSw; obtain ⟨s0, s2⟩ := hSw; go_simp; (try with_reducible rfl))))
        (try simp only [Act.put, List.setIfInBounds_toArray, List.set_cons_zero, List.set_cons_succ])
        (refine wpMix_take (v := ?_) ?_ ?_; rotate_left; · (first | (refine Or.inr ⟨by rfl, by rfl⟩) | (refine Or.inl ⟨by rfl, ?_⟩; intro w' hSw; obtain ⟨s0, s2⟩ := hSw; go_simp; (try with_reducible rfl))))
        (try simp only [Act.put, List.setIfInBounds_toArray, List.set_cons_zero, List.set_cons_succ])
        (refine wpMix_take (v := ?_) ?_ ?_; rotate_left; · (first | (refine Or.inr ⟨by rfl, by rfl⟩) | (refine Or.inl ⟨by rfl, ?_⟩; intro w' hSw; obtain ⟨s0, s2⟩ := hSw; go_simp; (try with_reducible rfl))))
        (try simp only [Act.put, List.setIfInBounds_toArray, List.set_cons_zero, List.set_cons_succ])
        (refine wpMix_take (v := ?_) ?_ ?_; rotate_left; · (first | (refine Or.inr ⟨by rfl, by rfl⟩) | (refine Or.inl ⟨by rfl, ?_⟩; intro w' hSw; obtain ⟨s0, s2⟩ := hSw; go_simp; (try with_reducible rfl))))
        (try simp only [Act.put, List.setIfInBounds_toArray, List.set_cons_zero, List.set_cons_succ])
        (refine wpMix_take (v := ?_) ?_ ?_; rotate_left; · (first | (refine Or.inr ⟨by rfl, by rfl⟩) | (refine Or.inl ⟨by rfl, ?_⟩; intro w' hSw; obtain ⟨s0, s2⟩ := hSw; go_simp; (try with_reducible rfl))))
        (try simp only [Act.put, List.setIfInBounds_toArray, List.set_cons_zero, List.set_cons_succ])
        (refine wpMix_take (v := ?_) ?_ ?_; rotate_left; · (first | (refine Or.inr ⟨by rfl, by rfl⟩) | (refine Or.inl ⟨by rfl, ?_⟩; intro w' hSw; obtain ⟨s0, s2⟩ := hSw; go_simp; (try with_reducible rfl))))
        (try simp only [Act.put, List.setIfInBounds_toArray, List.set_cons_zero, List.set_cons_succ])
        refine wpMix_nil ?_
        go_wp2_with fail
        go_ret
        rw [HRE.out]
        exact ⟨rfl, (below_then HB.out (below_then HB3.out HB4.out)).drew⟩
      | some q =>
        have HN := Lib.hid hn
        have hqr := (StampMath.read_some hn).1
        refine (stampRead_some A2 c2 64 b q w2 HBL.out hc2 hcm2 HO2.out.bs (HT.out.below (below_then HB.out HB2.out)) (by rw [← HGD.out]; exact HN.out)).mono ?_
        rintro e w3 ⟨B, d3, rfl, ho3, hb3⟩
        obtain ⟨pe, ps, pi, pt, pd⟩ := q
        obtain ⟨T, hT⟩ := Int.eq_ofNat_of_zero_le (show 0 ≤ pt by have := hqr.2.2.2.2.1; simp only at this; omega)
        subst hT
        have hT1 : 1 ≤ T := by have := hqr.2.2.2.2.1; simp only at this; omega
        have hT2 : T ≤ 65535 := by have := hqr.2.2.2.2.2.1; simp only at this; omega
        obtain ⟨nu, hnu⟩ : ∃ nu, pd.length = nu := ⟨_, rfl⟩
        simp only at ho3 ⊢
        rw [hnu] at ho3 ⊢
        have ho3' : Own8 w3 w2.heap.size (.slice B nu d3) pd := by unfold Own8; rw [hnu]; exact ho3
        have HO3 := Lib.hid ho3'
        have HB3 := Lib.hid (below_then HB2.out hb3)
        have hs3 := hb3.size
        clear hb3 hn hqr ho3 ho3' hnu
        go_wp2_with (refine wpList_store_new rfl 130 (.tmp 9) (.tmp 35) rfl rfl (partCells ⟨pe, ps, pi, T, pd⟩ (.slice B nu d3)) rfl rfl (by show Z.toArray.size = _; rw [List.size_toArray, HZL.out]; rfl) hib (fun u hu => by simp at hu; rcases hu with rfl | rfl | rfl | rfl | rfl <;> rfl) ?_; intro w4 hr4 hb4 hs4; have HR4 := Lib.hid hr4; have HB4 := Lib.hid hb4; clear hr4 hb4 hs4)
        have hs9 : ∀ w' : World, Below w4.heap.size w4 w' → w'.cell? ⟨w3.heap.size, 3, none⟩ = some (.int .i64 (T : Int)) ∧ w'.cell? ⟨sp, 2, none⟩ = some (.int .i64 (size : Nat)) := fun w' hb => ⟨by rw [(HR4.out.below hb).cell]; rfl, (HSK.out _ (below_then HB.out (below_then HB3.out (below_then HB4.out hb)))).2⟩
        have hcw : ∀ w' : World, Below w4.heap.size w4 w' → RowV w' w3.heap.size 130 (partCells ⟨pe, ps, pi, T, pd⟩ (.slice B nu d3)) := fun w' hb => HR4.out.below hb
        obtain ⟨g9, hg9⟩ : ∃ g9, w3.heap.size = g9 := ⟨_, rfl⟩
        rw [hg9] at hs9 hcw ⊢
        have HS9 := Lib.hid hs9
        have HCW := Lib.hid hcw
        clear hs9 hcw
        go_wp2_with fail
        have hB4 := below_then HB3.out HB4.out
        have HBX := Lib.hid hB4
        have hsx := hB4.size
        clear hB4
        by_cases hk0 : k = 0
        · have e0 : ((k : Int) == 0) = true := by subst hk0; rfl
          by_cases hbig : size < T
          · have dbig : decide (size < T) = true := decide_eq_true hbig
            have HRE := Lib.hid (show SlotMath.slotParts S a size = none from by subst hk0; exact SlotMath.slotParts_big (by simpa using HN.out) rfl hbig)
            clear hk0 hbig
            refine wp_region_mix [(true, 0), (true, 1), (true, 2), (true, 3), (true, 4), (true, 5), (true, 6), (true, 7), (true, 8), (true, 9), (true, 10), (true, 11), (true, 12), (true, 13), (true, 14)] 15 (fun w' => w'.cell? ⟨g9, 3, none⟩ = some (.int .i64 (T : Int)) ∧ w'.cell? ⟨sp, 2, none⟩ = some (.int .i64 (size : Nat))) (by kernel_rfl) (by kernel_rfl) (by rintro _ ⟨_, _⟩ ⟨_, _⟩ _ rfl h; exact h) (HS9.out _ (Below.refl _ _).drew) ?_
            simp only [pickM, List.getElem?_cons_succ, List.getElem?_cons_zero]
            (refine wpMix_take (v := ?_) ?_ ?_; rotate_left; · (first | (refine Or.inr ⟨by rfl, by rfl⟩) | (refine Or.inl ⟨by rfl, ?_⟩; intro w' hSw; obtain ⟨s0, s2⟩ := hSw; go_simp; (try with_reducible rfl))))
            (try simp only [Act.put, List.setIfInBounds_toArray, List.set_cons_zero, List.set_cons_succ])
            (refine wpMix_take (v := ?_) ?_ ?_; rotate_left; · (first | (refine Or.inr ⟨by rfl, by rfl⟩) | (refine Or.inl ⟨by rfl, ?_⟩; intro w' hSw; obtain ⟨s0, s2⟩ := hSw; go_simp; (try with_reducible rfl))))
            (try simp only [Act.put, List.setIfInBounds_toArray, List.set_cons_zero, List.set_cons_succ])
            (refine wpMix_take (v := ?_) ?_ ?_; rotate_left; · (first | (refine Or.inr ⟨by rfl, by rfl⟩) | (refine Or.inl ⟨by rfl, ?_⟩; intro w' hSw; obtain ⟨s0, s2⟩ := hSw; go_simp; (try with_reducible rfl))))
            (try simp only [Act.put, List.setIfInBounds_toArray, List.set_cons_zero, List.set_cons_succ])
            (refine wpMix_take (v := ?_) ?_ ?_; rotate_left; · (first | (refine Or.inr ⟨by rfl, by rfl⟩) | (refine Or.inl ⟨by rfl, ?_⟩; intro w' hSw; obtain ⟨s0, s2⟩ := hSw; go_simp; (try with_reducible rfl))))
            (try simp only [Act.put, List.setIfInBounds_toArray, List.set_cons_zero, List.set_cons_succ])
            (refine wpMix_take (v := ?_) ?_ ?_; rotate_left; · (first | (refine Or.inr ⟨by rfl, by rfl⟩) | (refine Or.inl ⟨by rfl, ?_⟩; intro w' hSw; obtain ⟨s0, s2⟩ := hSw; go_simp; (try with_reducible rfl))))
            (try simp only [Act.put, List.setIfInBounds_toArray, List.set_cons_zero, List.set_cons_succ])
            (refine wpMix_take (v := ?_) ?_ ?_; rotate_left; · (first | (refine Or.inr ⟨by rfl, by rfl⟩) | (refine Or.inl ⟨by rfl, ?_⟩; intro w' hSw; obtain ⟨s0, s2⟩ := hSw; go_simp; (try with_reducible rfl))))
            (try simp only [Act.put, List.setIfInBounds_toArray, List.set_cons_zero, List.set_cons_succ])
            (refine wpMix_take (v := ?_) ?_ ?_; rotate_left; · (first | (refine Or.inr ⟨by rfl, by rfl⟩) | (refine Or.inl ⟨by rfl, ?_⟩; intro w' hSw; obtain ⟨s0, s2⟩ := hSw; go_simp; (try with_reducible rfl))))
            (try simp only [Act.put, List.setIfInBounds_toArray, List.set_cons_zero, List.set_cons_succ])
            (refine wpMix_take (v := ?_) ?_ ?_; rotate_left; · (first | (refine Or.inr ⟨by rfl, by rfl⟩) | (refine Or.inl ⟨by rfl, ?_⟩; intro w' hSw; obtain ⟨s0, s2⟩ := hSw; go_simp; (try with_reducible rfl))))
            (try simp only [Act.put, List.setIfInBounds_toArray, List.set_cons_zero, List.set_cons_succ])
            (refine wpMix_take (v := ?_) ?_ ?_; rotate_left; · (first | (refine Or.inr ⟨by rfl, by rfl⟩) | (refine Or.inl ⟨by rfl, ?_⟩; intro w' hSw; obtain ⟨s0, s2⟩ := hSw; go_simp; (try with_reducible rfl))))
            (try simp only [Act.put, List.setIfInBounds_toArray, List.set_cons_zero, List.set_cons_succ])
            (refine wpMix_take (v := ?_) ?_ ?_; rotate_left; · (first | (refine Or.inr ⟨by rfl, by rfl⟩) | (refine Or.inl ⟨by rfl, ?_⟩; intro w' hSw; obtain ⟨s0, s2⟩ := hSw; go_simp; (try with_reducible rfl))))
            (try simp only [Act.put, List.setIfInBounds_toArray, List.set_cons_zero, List.set_cons_succ])
            (refine wpMix_take (v := ?_) ?_ ?_; rotate_left; · (first | (refine Or.inr ⟨by rfl, by rfl⟩) | (refine Or.inl ⟨by rfl, ?_⟩; intro w' hSw; obtain ⟨s0, s2⟩ := hSw; go_simp; (try with_reducible rfl))))
            (try simp only [Act.put, List.setIfInBounds_toArray, List.set_cons_zero, List.set_cons_succ])
            (refine wpMix_take (v := ?_) ?_ ?_; rotate_left; · (first | (refine Or.inr ⟨by rfl, by rfl⟩) | (refine Or.inl ⟨by rfl, ?_⟩; intro w' hSw; obtain ⟨s0, s2⟩ := hSw; go_simp; (try with_reducible rfl))))
            (try simp only [Act.put, List.setIfInBounds_toArray, List.set_cons_zero, List.set_cons_succ])
            (refine wpMix_take (v := ?_) ?_ ?_; rotate_left; · (first | (refine Or.inr ⟨by rfl, by rfl⟩) | (refine Or.inl ⟨by rfl, ?_⟩; intro w' hSw; obtain ⟨s0, s2⟩ := hSw; go_simp; (try with_reducible rfl))))
            (try simp only [Act.put, List.setIfInBounds_toArray, List.set_cons_zero, List.set_cons_succ])
            (refine wpMix_take (v := ?_) ?_ ?_; rotate_left; · (first | (refine Or.inr ⟨by rfl, by rfl⟩) | (refine Or.inl ⟨by rfl, ?_⟩; intro w' hSw; obtain ⟨s0, s2⟩ := hSw; go_simp; (try with_reducible rfl))))
            (try simp only [Act.put, List.setIfInBounds_toArray, List.set_cons_zero, List.set_cons_succ])
            (refine wpMix_take (v := ?_) ?_ ?_; rotate_left; · (first | (refine Or.inr ⟨by rfl, by rfl⟩) | (refine Or.inl ⟨by rfl, ?_⟩; intro w' hSw; obtain ⟨s0, s2⟩ := hSw; go_simp; (try with_reducible rfl))))
            (try simp only [Act.put, List.setIfInBounds_toArray, List.set_cons_zero, List.set_cons_succ])
            refine wpMix_nil ?_
            go_wp2_with fail
            go_ret
            rw [HRE.out]
            exact ⟨rfl, (below_then HB.out HBX.out).drew⟩
          · have dbig : decide (size < T) = false := decide_eq_false hbig
            have hf0 : ∀ p0, (l ++ [(⟨pe, ps, pi, T, pd⟩ : StampMath.Part)])[0]? = some p0 → (k : Int) < p0.total ∧ p0.total ≤ (size : Int) := fun p0 h => by
              have hl0 : l = [] := List.length_eq_zero_iff.1 (by have := (SlotMath.readAll_some HRA.out).1; omega)
              subst hl0
              simp at h
              subst h
              simp only
              omega
            have HF0 := Lib.hid hf0
            clear hk0 hbig hf0
            refine wp_region_mix [(true, 0), (true, 1), (true, 2), (true, 3), (true, 4), (true, 5), (true, 6), (true, 7), (true, 8), (true, 9), (true, 10), (true, 11), (true, 12), (true, 13), (true, 14)] 15 (fun w' => w'.cell? ⟨g9, 3, none⟩ = some (.int .i64 (T : Int)) ∧ w'.cell? ⟨sp, 2, none⟩ = some (.int .i64 (size : Nat))) (by kernel_rfl) (by kernel_rfl) (by rintro _ ⟨_, _⟩ ⟨_, _⟩ _ rfl h; exact h) (HS9.out _ (Below.refl _ _).drew) ?_
            simp only [pickM, List.getElem?_cons_succ, List.getElem?_cons_zero]
            (refine wpMix_take (v := ?_) ?_ ?_; rotate_left; · (first | (refine Or.inr ⟨by rfl, by rfl⟩) | (refine Or.inl ⟨by rfl, ?_⟩; intro w' hSw; obtain ⟨s0, s2⟩ := hSw; go_simp; (try with_reducible rfl))))
            (try simp only [Act.put, List.setIfInBounds_toArray, List.set_cons_zero, List.set_cons_succ])
            (refine wpMix_take (v := ?_) ?_ ?_; rotate_left; · (first | (refine Or.inr ⟨by rfl, by rfl⟩) | (refine Or.inl ⟨by rfl, ?_⟩; intro w' hSw; obtain ⟨s0, s2⟩ := hSw; go_simp; (try with_reducible rfl))))
            (try simp only [Act.put, List.setIfInBounds_toArray, List.set_cons_zero, List.set_cons_succ])
            (refine wpMix_take (v := ?_) ?_ ?_; rotate_left; · (first | (refine Or.inr ⟨by rfl, by rfl⟩) | (refine Or.inl ⟨by rfl, ?_⟩; intro w' hSw; obtain ⟨s0, s2⟩ := hSw; go_simp; (try with_reducible rfl))))
            (try simp only [Act.put, List.setIfInBounds_toArray, List.set_cons_zero, List.set_cons_succ])
            (refine wpMix_take (v := ?_) ?_ ?_; rotate_left; · (first | (refine Or.inr ⟨by rfl, by rfl⟩) | (refine Or.inl ⟨by rfl, ?_⟩; intro w' hSw; obtain ⟨s0, s2⟩ := hSw; go_simp; (try with_reducible rfl))))
            (try simp only [Act.put, List.setIfInBounds_toArray, List.set_cons_zero, List.set_cons_succ])
            (refine wpMix_take (v := ?_) ?_ ?_; rotate_left; · (first | (refine Or.inr ⟨by rfl, by rfl⟩) | (refine Or.inl ⟨by rfl, ?_⟩; intro w' hSw; obtain ⟨s0, s2⟩ := hSw; go_simp; (try with_reducible rfl))))
            (try simp only [Act.put, List.setIfInBounds_toArray, List.set_cons_zero, List.set_cons_succ])
            (refine wpMix_take (v := ?_) ?_ ?_; rotate_left; · (first | (refine Or.inr ⟨by rfl, by rfl⟩) | (refine Or.inl ⟨by rfl, ?_⟩; intro w' hSw; obtain ⟨s0, s2⟩ := hSw; go_simp; (try with_reducible rfl))))
            (try simp only [Act.put, List.setIfInBounds_toArray, List.set_cons_zero, List.set_cons_succ])
            (refine wpMix_take (v := ?_) ?_ ?_; rotate_left; · (first | (refine Or.inr ⟨by rfl, by rfl⟩) | (refine Or.inl ⟨by rfl, ?_⟩; intro w' hSw; obtain ⟨s0, s2⟩ := hSw; go_simp; (try with_reducible rfl))))
            (try simp only [Act.put, List.setIfInBounds_toArray, List.set_cons_zero, List.set_cons_succ])
            (refine wpMix_take (v := ?_) ?_ ?_; rotate_left; · (first | (refine Or.inr ⟨by rfl, by rfl⟩) | (refine Or.inl ⟨by rfl, ?_⟩; intro w' hSw; obtain ⟨s0, s2⟩ := hSw; go_simp; (try with_reducible rfl))))
            (try simp only [Act.put, List.setIfInBounds_toArray, List.set_cons_zero, List.set_cons_succ])
            (refine wpMix_take (v := ?_) ?_ ?_; rotate_left; · (first | (refine Or.inr ⟨by rfl, by rfl⟩) | (refine Or.inl ⟨by rfl, ?_⟩; intro w' hSw; obtain ⟨s0, s2⟩ := hSw; go_simp; (try with_reducible rfl))))
            (try simp only [Act.put, List.setIfInBounds_toArray, List.set_cons_zero, List.set_cons_succ])
            (refine wpMix_take (v := ?_) ?_ ?_; rotate_left; · (first | (refine Or.inr ⟨by rfl, by rfl⟩) | (refine Or.inl ⟨by rfl, ?_⟩; intro w' hSw; obtain ⟨s0, s2⟩ := hSw; go_simp; (try with_reducible rfl))))
            (try simp only [Act.put, List.setIfInBounds_toArray, List.set_cons_zero, List.set_cons_succ])
            (refine wpMix_take (v := ?_) ?_ ?_; rotate_left; · (first | (refine Or.inr ⟨by rfl, by rfl⟩) | (refine Or.inl ⟨by rfl, ?_⟩; intro w' hSw; obtain ⟨s0, s2⟩ := hSw; go_simp; (try with_reducible rfl))))
            (try simp only [Act.put, List.setIfInBounds_toArray, List.set_cons_zero, List.set_cons_succ])
            (refine wpMix_take (v := ?_) ?_ ?_; rotate_left; · (first | (refine Or.inr ⟨by rfl, by rfl⟩) | (refine Or.inl ⟨by rfl, ?_⟩; intro w' hSw; obtain ⟨s0, s2⟩ := hSw; go_simp; (try with_reducible rfl))))
            (try simp only [Act.put, List.setIfInBounds_toArray, List.set_cons_zero, List.set_cons_succ])
            (refine wpMix_take (v := ?_) ?_ ?_; rotate_left; · (first | (refine Or.inr ⟨by rfl, by rfl⟩) | (refine Or.inl ⟨by rfl, ?_⟩; intro w' hSw; obtain ⟨s0, s2⟩ := hSw; go_simp; (try with_reducible rfl))))
            (try simp only [Act.put, List.setIfInBounds_toArray, List.set_cons_zero, List.set_cons_succ])
            (refine wpMix_take (v := ?_) ?_ ?_; rotate_left; · (first | (refine Or.inr ⟨by rfl, by rfl⟩) | (refine Or.inl ⟨by rfl, ?_⟩; intro w' hSw; obtain ⟨s0, s2⟩ := hSw; go_simp; (try with_reducible rfl))))
            (try simp only [Act.put, List.setIfInBounds_toArray, List.set_cons_zero, List.set_cons_succ])
            (refine wpMix_take (v := ?_) ?_ ?_; rotate_left; · (first | (refine Or.inr ⟨by rfl, by rfl⟩) | (refine Or.inl ⟨by rfl, ?_⟩; intro w' hSw; obtain ⟨s0, s2⟩ := hSw; go_simp; (try with_reducible rfl))))
            (try simp only [Act.put, List.setIfInBounds_toArray, List.set_cons_zero, List.set_cons_succ])
            refine wpMix_nil ?_
            have hlm : (l ++ [(⟨pe, ps, pi, T, pd⟩ : StampMath.Part)]).length = k + 1 := by simp; exact (SlotMath.readAll_some HRA.out).1
            obtain ⟨p0, hp0⟩ : ∃ p0, (l ++ [(⟨pe, ps, pi, T, pd⟩ : StampMath.Part)])[0]? = some p0 := ⟨_, List.getElem?_eq_getElem (by omega)⟩
            obtain ⟨h01, h02⟩ := HF0.out p0 hp0
            have hra' := SlotMath.readAll_snoc HRA.out HN.out
            have hr0 := (SlotMath.readAll_some hra').2 0 p0 hp0
            rw [Nat.add_zero] at hr0
            obtain ⟨p0e, p0s, p0i, p0t, p0d⟩ := p0
            obtain ⟨T0, hT0⟩ := Int.eq_ofNat_of_zero_le (show 0 ≤ p0t by simp only at h01; omega)
            subst hT0
            simp only at h01 h02
            have HRA' := Lib.hid hra'
            have HLM := Lib.hid hlm
            have HP0 := Lib.hid hp0
            have HPE := Lib.hid (show SlotMath.slotParts S a size = SlotMath.readAll S a T0 from SlotMath.slotParts_eq hr0 rfl (by omega) (by omega))
            have q0 : w4.cell? ⟨g9, 0, none⟩ = some (.int .i64 pe) := ((HCW.out _ (Below.refl _ _)).cell 0).trans rfl
            have q1 : w4.cell? ⟨g9, 1, none⟩ = some (.int .i64 ps) := ((HCW.out _ (Below.refl _ _)).cell 1).trans rfl
            have q2 : w4.cell? ⟨g9, 2, none⟩ = some (.int .i64 pi) := ((HCW.out _ (Below.refl _ _)).cell 2).trans rfl
            have q3 : w4.cell? ⟨g9, 3, none⟩ = some (.int .i64 (T : Int)) := ((HCW.out _ (Below.refl _ _)).cell 3).trans rfl
            have q4 : w4.cell? ⟨g9, 4, none⟩ = some (.slice B nu d3) := ((HCW.out _ (Below.refl _ _)).cell 4).trans rfl
            have hrow4 : PRow w4 130 (fun x => w.heap.size ≤ x) (.slice A5 k c5) l := HROW.out.below HBX.out
            have ho34 : Own8 w4 0 (.slice B nu d3) pd := (HO3.out.base (Nat.zero_le _)).below HB4.out
            have HROW4 := Lib.hid hrow4
            have HO34 := Lib.hid ho34
            clear hra' hr0 hlm hp0 hrow4 ho34
            by_cases hend : k + 1 = T0
            · have hen : ((k : Int) == (T0 : Int) - 1) = true := by rw [beq_iff_eq]; omega
              have HRE := Lib.hid (show SlotMath.slotParts S a size = some (l ++ [⟨pe, ps, pi, T, pd⟩]) from by rw [HPE.out, ← hend]; exact HRA'.out)
              have HEND := Lib.hid hend
              clear hend
              go_wp2_with (
                at_builtin
                refine wpList_pushPd rfl (.tmp 52) (.tmp 54) 99 rfl 130 i0x (.agg #[.int .i64 0, .int .i64 0, .int .i64 0, .int .i64 0, .slice none 0 0]) Tryd.underlying99 hi0 hz0 hz1 hz2 rfl (by decide) (fun x => w.heap.size ≤ x) (.slice A5 k c5) (.slice B nu d3) l ⟨pe, ps, pi, T, pd⟩ rfl HROW4.out rfl rfl HO34.out (fun x hx => by have := (HO3.out.lt x hx).1; omega) (by have := (SlotMath.readAll_some HRA.out).1; omega) ?_
                intro v5 w5 hp5 hk5 hv5
                have hp5' : PRow w5 130 (fun x => w.heap.size ≤ x) v5 (l ++ [⟨pe, ps, pi, T, pd⟩]) := hp5.mono (fun x hx => hx.elim id (fun h => by omega))
                obtain ⟨g5, c5', u5, rfl, hc5', _, _, hrg5, _, _⟩ := hp5'.at_ HP0.out
                rw [HLM.out] at hp5' hc5' ⊢
                have r3 : w5.cell? ⟨g5, 3, none⟩ = some (.int .i64 (T0 : Int)) := by
                  have := hrg5 3 (.int .i64 (T0 : Int)) rfl
                  simpa using this
                have HP5 := Lib.hid hp5'
                have HB5 := Lib.hid (show Below w.heap.size w w5 from (below_then HB.out HBX.out).trans (hk5.below (B := w.heap.size) (fun x _ e => by obtain ⟨xs, _, h2, _⟩ := HROW.out; exact h2 x e) (by omega)))
                clear hp5 hk5 hv5 hp5' hrg5)
              go_ret
              rw [HRE.out]
              exact ⟨_, _, _, HLM.out, hc5', rfl, HP5.out, HB5.out⟩
            · have hen : ((k : Int) == (T0 : Int) - 1) = false := by rw [beq_eq_false_iff_ne]; omega
              go_wp2_with (
                at_builtin
                refine wpList_pushPd rfl (.tmp 52) (.tmp 54) 99 rfl 130 i0x (.agg #[.int .i64 0, .int .i64 0, .int .i64 0, .int .i64 0, .slice none 0 0]) Tryd.underlying99 hi0 hz0 hz1 hz2 rfl (by decide) (fun x => w.heap.size ≤ x) (.slice A5 k c5) (.slice B nu d3) l ⟨pe, ps, pi, T, pd⟩ rfl HROW4.out rfl rfl HO34.out (fun x hx => by have := (HO3.out.lt x hx).1; omega) (by have := (SlotMath.readAll_some HRA.out).1; omega) ?_
                intro v5 w5 hp5 hk5 hv5
                have hp5' : PRow w5 130 (fun x => w.heap.size ≤ x) v5 (l ++ [⟨pe, ps, pi, T, pd⟩]) := hp5.mono (fun x hx => hx.elim id (fun h => by omega))
                obtain ⟨g5, c5', u5, rfl, hc5', _, _, hrg5, _, _⟩ := hp5'.at_ HP0.out
                rw [HLM.out] at hp5' hc5' ⊢
                have r3 : w5.cell? ⟨g5, 3, none⟩ = some (.int .i64 (T0 : Int)) := by
                  have := hrg5 3 (.int .i64 (T0 : Int)) rfl
                  simpa using this
                have HP5 := Lib.hid hp5'
                have HB5 := Lib.hid (show Below w.heap.size w w5 from (below_then HB.out HBX.out).trans (hk5.below (B := w.heap.size) (fun x _ e => by obtain ⟨xs, _, h2, _⟩ := HROW.out; exact h2 x e) (by omega)))
                clear hp5 hk5 hv5 hp5' hrg5)
              go_roundw
              case rel =>
                refine ⟨k + 1, l ++ [⟨pe, ps, pi, T, pd⟩], by omega, by go_num, HRA'.out, fun p' hp' => ?_, HP5.out, HB5.out⟩
                rw [HP0.out] at hp'
                injection hp' with hp'
                subst hp'
                simp only
                omega
              case measure => simp [intOf]; omega
        · have e0 : ((k : Int) == 0) = false := by rw [beq_eq_false_iff_ne]; omega
          have hf0 : ∀ p0, (l ++ [(⟨pe, ps, pi, T, pd⟩ : StampMath.Part)])[0]? = some p0 → (k : Int) < p0.total ∧ p0.total ≤ (size : Int) := fun p0 h => by
            rw [List.getElem?_append_left (by have := (SlotMath.readAll_some HRA.out).1; omega)] at h
            exact HFI.out p0 h
          have HF0 := Lib.hid hf0
          clear hk0 hf0
          refine wp_region_mix [(true, 0), (true, 1), (true, 2), (true, 3), (true, 4), (true, 5), (true, 6), (true, 7), (true, 8), (true, 9), (true, 10), (true, 11), (true, 12), (true, 13), (true, 14)] 15 (fun w' => w'.cell? ⟨g9, 3, none⟩ = some (.int .i64 (T : Int)) ∧ w'.cell? ⟨sp, 2, none⟩ = some (.int .i64 (size : Nat))) (by kernel_rfl) (by kernel_rfl) (by rintro _ ⟨_, _⟩ ⟨_, _⟩ _ rfl h; exact h) (HS9.out _ (Below.refl _ _).drew) ?_
          simp only [pickM, List.getElem?_cons_succ, List.getElem?_cons_zero]
          (refine wpMix_take (v := ?_) ?_ ?_; rotate_left; · (first | (refine Or.inr ⟨by rfl, by rfl⟩) | (refine Or.inl ⟨by rfl, ?_⟩; intro w' hSw; obtain ⟨s0, s2⟩ := hSw; go_simp; (try with_reducible rfl))))
          (try simp only [Act.put, List.setIfInBounds_toArray, List.set_cons_zero, List.set_cons_succ])
          (refine wpMix_take (v := ?_) ?_ ?_; rotate_left; · (first | (refine Or.inr ⟨by rfl, by rfl⟩) | (refine Or.inl ⟨by rfl, ?_⟩; intro w' hSw; obtain ⟨s0, s2⟩ := hSw; go_simp; (try with_reducible rfl))))
          (try simp only [Act.put, List.setIfInBounds_toArray, List.set_cons_zero, List.set_cons_succ])
          (refine wpMix_take (v := ?_) ?_ ?_; rotate_left; · (first | (refine Or.inr ⟨by rfl, by rfl⟩) | (refine Or.inl ⟨by rfl, ?_⟩; intro w' hSw; obtain ⟨s0, s2⟩ := hSw; go_simp; (try with_reducible rfl))))
          (try simp only [Act.put, List.setIfInBounds_toArray, List.set_cons_zero, List.set_cons_succ])
          (refine wpMix_take (v := ?_) ?_ ?_; rotate_left; · (first | (refine Or.inr ⟨by rfl, by rfl⟩) | (refine Or.inl ⟨by rfl, ?_⟩; intro w' hSw; obtain ⟨s0, s2⟩ := hSw; go_simp; (try with_reducible rfl))))
          (try simp only [Act.put, List.setIfInBounds_toArray, List.set_cons_zero, List.set_cons_succ])
          (refine wpMix_take (v := ?_) ?_ ?_; rotate_left; · (first | (refine Or.inr ⟨by rfl, by rfl⟩) | (refine Or.inl ⟨by rfl, ?_⟩; intro w' hSw; obtain ⟨s0, s2⟩ := hSw; go_simp; (try with_reducible rfl))))
          (try simp only [Act.put, List.setIfInBounds_toArray, List.set_cons_zero, List.set_cons_succ])
          (refine wpMix_take (v := ?_) ?_ ?_; rotate_left; · (first | (refine Or.inr ⟨by rfl, by rfl⟩) | (refine Or.inl ⟨by rfl, ?_⟩; intro w' hSw; obtain ⟨s0, s2⟩ := hSw; go_simp; (try with_reducible rfl))))
          (try simp only [Act.put, List.setIfInBounds_toArray, List.set_cons_zero, List.set_cons_succ])
          (refine wpMix_take (v := ?_) ?_ ?_; rotate_left; · (first | (refine Or.inr ⟨by rfl, by rfl⟩) | (refine Or.inl ⟨by rfl, ?_⟩; intro w' hSw; obtain ⟨s0, s2⟩ := hSw; go_simp; (try with_reducible rfl))))
          (try simp only [Act.put, List.setIfInBounds_toArray, List.set_cons_zero, List.set_cons_succ])
          (refine wpMix_take (v := ?_) ?_ ?_; rotate_left; · (first | (refine Or.inr ⟨by rfl, by rfl⟩) | (refine Or.inl ⟨by rfl, ?_⟩; intro w' hSw; obtain ⟨s0, s2⟩ := hSw; go_simp; (try with_reducible rfl))))
          (try simp only [Act.put, List.setIfInBounds_toArray, List.set_cons_zero, List.set_cons_succ])
          (refine wpMix_take (v := ?_) ?_ ?_; rotate_left; · (first | (refine Or.inr ⟨by rfl, by rfl⟩) | (refine Or.inl ⟨by rfl, ?_⟩; intro w' hSw; obtain ⟨s0, s2⟩ := hSw; go_simp; (try with_reducible rfl))))
          (try simp only [Act.put, List.setIfInBounds_toArray, List.set_cons_zero, List.set_cons_succ])
          (refine wpMix_take (v := ?_) ?_ ?_; rotate_left; · (first | (refine Or.inr ⟨by rfl, by rfl⟩) | (refine Or.inl ⟨by rfl, ?_⟩; intro w' hSw; obtain ⟨s0, s2⟩ := hSw; go_simp; (try with_reducible rfl))))
          (try simp only [Act.put, List.setIfInBounds_toArray, List.set_cons_zero, List.set_cons_succ])
          (refine wpMix_take (v := ?_) ?_ ?_; rotate_left; · (first | (refine Or.inr ⟨by rfl, by rfl⟩) | (refine Or.inl ⟨by rfl, ?_⟩; intro w' hSw; obtain ⟨s0, s2⟩ := hSw; go_simp; (try with_reducible rfl))))
          (try simp only [Act.put, List.setIfInBounds_toArray, List.set_cons_zero, List.set_cons_succ])
          (refine wpMix_take (v := ?_) ?_ ?_; rotate_left; · (first | (refine Or.inr ⟨by rfl, by rfl⟩) | (refine Or.inl ⟨by rfl, ?_⟩; intro w' hSw; obtain ⟨s0, s2⟩ := hSw; go_simp; (try with_reducible rfl))))
          (try simp only [Act.put, List.setIfInBounds_toArray, List.set_cons_zero, List.set_cons_succ])
          (refine wpMix_take (v := ?_) ?_ ?_; rotate_left; · (first | (refine Or.inr ⟨by rfl, by rfl⟩) | (refine Or.inl ⟨by rfl, ?_⟩; intro w' hSw; obtain ⟨s0, s2⟩ := hSw; go_simp; (try with_reducible rfl))))
          (try simp only [Act.put, List.setIfInBounds_toArray, List.set_cons_zero, List.set_cons_succ])
          (refine wpMix_take (v := ?_) ?_ ?_; rotate_left; · (first | (refine Or.inr ⟨by rfl, by rfl⟩) | (refine Or.inl ⟨by rfl, ?_⟩; intro w' hSw; obtain ⟨s0, s2⟩ := hSw; go_simp; (try with_reducible rfl))))
          (try simp only [Act.put, List.setIfInBounds_toArray, List.set_cons_zero, List.set_cons_succ])
          (refine wpMix_take (v := ?_) ?_ ?_; rotate_left; · (first | (refine Or.inr ⟨by rfl, by rfl⟩) | (refine Or.inl ⟨by rfl, ?_⟩; intro w' hSw; obtain ⟨s0, s2⟩ := hSw; go_simp; (try with_reducible rfl))))
          (try simp only [Act.put, List.setIfInBounds_toArray, List.set_cons_zero, List.set_cons_succ])
          refine wpMix_nil ?_
          have hlm : (l ++ [(⟨pe, ps, pi, T, pd⟩ : StampMath.Part)]).length = k + 1 := by simp; exact (SlotMath.readAll_some HRA.out).1
          obtain ⟨p0, hp0⟩ : ∃ p0, (l ++ [(⟨pe, ps, pi, T, pd⟩ : StampMath.Part)])[0]? = some p0 := ⟨_, List.getElem?_eq_getElem (by omega)⟩
          obtain ⟨h01, h02⟩ := HF0.out p0 hp0
          have hra' := SlotMath.readAll_snoc HRA.out HN.out
          have hr0 := (SlotMath.readAll_some hra').2 0 p0 hp0
          rw [Nat.add_zero] at hr0
          obtain ⟨p0e, p0s, p0i, p0t, p0d⟩ := p0
          obtain ⟨T0, hT0⟩ := Int.eq_ofNat_of_zero_le (show 0 ≤ p0t by simp only at h01; omega)
          subst hT0
          simp only at h01 h02
          have HRA' := Lib.hid hra'
          have HLM := Lib.hid hlm
          have HP0 := Lib.hid hp0
          have HPE := Lib.hid (show SlotMath.slotParts S a size = SlotMath.readAll S a T0 from SlotMath.slotParts_eq hr0 rfl (by omega) (by omega))
          have q0 : w4.cell? ⟨g9, 0, none⟩ = some (.int .i64 pe) := ((HCW.out _ (Below.refl _ _)).cell 0).trans rfl
          have q1 : w4.cell? ⟨g9, 1, none⟩ = some (.int .i64 ps) := ((HCW.out _ (Below.refl _ _)).cell 1).trans rfl
          have q2 : w4.cell? ⟨g9, 2, none⟩ = some (.int .i64 pi) := ((HCW.out _ (Below.refl _ _)).cell 2).trans rfl
          have q3 : w4.cell? ⟨g9, 3, none⟩ = some (.int .i64 (T : Int)) := ((HCW.out _ (Below.refl _ _)).cell 3).trans rfl
          have q4 : w4.cell? ⟨g9, 4, none⟩ = some (.slice B nu d3) := ((HCW.out _ (Below.refl _ _)).cell 4).trans rfl
          have hrow4 : PRow w4 130 (fun x => w.heap.size ≤ x) (.slice A5 k c5) l := HROW.out.below HBX.out
          have ho34 : Own8 w4 0 (.slice B nu d3) pd := (HO3.out.base (Nat.zero_le _)).below HB4.out
          have HROW4 := Lib.hid hrow4
          have HO34 := Lib.hid ho34
          clear hra' hr0 hlm hp0 hrow4 ho34
          by_cases hend : k + 1 = T0
          · have hen : ((k : Int) == (T0 : Int) - 1) = true := by rw [beq_iff_eq]; omega
            have HRE := Lib.hid (show SlotMath.slotParts S a size = some (l ++ [⟨pe, ps, pi, T, pd⟩]) from by rw [HPE.out, ← hend]; exact HRA'.out)
            have HEND := Lib.hid hend
            clear hend
            go_wp2_with (
              at_builtin
              refine wpList_pushPd rfl (.tmp 52) (.tmp 54) 99 rfl 130 i0x (.agg #[.int .i64 0, .int .i64 0, .int .i64 0, .int .i64 0, .slice none 0 0]) Tryd.underlying99 hi0 hz0 hz1 hz2 rfl (by decide) (fun x => w.heap.size ≤ x) (.slice A5 k c5) (.slice B nu d3) l ⟨pe, ps, pi, T, pd⟩ rfl HROW4.out rfl rfl HO34.out (fun x hx => by have := (HO3.out.lt x hx).1; omega) (by have := (SlotMath.readAll_some HRA.out).1; omega) ?_
              intro v5 w5 hp5 hk5 hv5
              have hp5' : PRow w5 130 (fun x => w.heap.size ≤ x) v5 (l ++ [⟨pe, ps, pi, T, pd⟩]) := hp5.mono (fun x hx => hx.elim id (fun h => by omega))
              obtain ⟨g5, c5', u5, rfl, hc5', _, _, hrg5, _, _⟩ := hp5'.at_ HP0.out
              rw [HLM.out] at hp5' hc5' ⊢
              have r3 : w5.cell? ⟨g5, 3, none⟩ = some (.int .i64 (T0 : Int)) := by
                have := hrg5 3 (.int .i64 (T0 : Int)) rfl
                simpa using this
              have HP5 := Lib.hid hp5'
              have HB5 := Lib.hid (show Below w.heap.size w w5 from (below_then HB.out HBX.out).trans (hk5.below (B := w.heap.size) (fun x _ e => by obtain ⟨xs, _, h2, _⟩ := HROW.out; exact h2 x e) (by omega)))
              clear hp5 hk5 hv5 hp5' hrg5)
            go_ret
            rw [HRE.out]
            exact ⟨_, _, _, HLM.out, hc5', rfl, HP5.out, HB5.out⟩
          · have hen : ((k : Int) == (T0 : Int) - 1) = false := by rw [beq_eq_false_iff_ne]; omega
            go_wp2_with (
              at_builtin
              refine wpList_pushPd rfl (.tmp 52) (.tmp 54) 99 rfl 130 i0x (.agg #[.int .i64 0, .int .i64 0, .int .i64 0, .int .i64 0, .slice none 0 0]) Tryd.underlying99 hi0 hz0 hz1 hz2 rfl (by decide) (fun x => w.heap.size ≤ x) (.slice A5 k c5) (.slice B nu d3) l ⟨pe, ps, pi, T, pd⟩ rfl HROW4.out rfl rfl HO34.out (fun x hx => by have := (HO3.out.lt x hx).1; omega) (by have := (SlotMath.readAll_some HRA.out).1; omega) ?_
              intro v5 w5 hp5 hk5 hv5
              have hp5' : PRow w5 130 (fun x => w.heap.size ≤ x) v5 (l ++ [⟨pe, ps, pi, T, pd⟩]) := hp5.mono (fun x hx => hx.elim id (fun h => by omega))
              obtain ⟨g5, c5', u5, rfl, hc5', _, _, hrg5, _, _⟩ := hp5'.at_ HP0.out
              rw [HLM.out] at hp5' hc5' ⊢
              have r3 : w5.cell? ⟨g5, 3, none⟩ = some (.int .i64 (T0 : Int)) := by
                have := hrg5 3 (.int .i64 (T0 : Int)) rfl
                simpa using this
              have HP5 := Lib.hid hp5'
              have HB5 := Lib.hid (show Below w.heap.size w w5 from (below_then HB.out HBX.out).trans (hk5.below (B := w.heap.size) (fun x _ e => by obtain ⟨xs, _, h2, _⟩ := HROW.out; exact h2 x e) (by omega)))
              clear hp5 hk5 hv5 hp5' hrg5)
            go_roundw
            case rel =>
              refine ⟨k + 1, l ++ [⟨pe, ps, pi, T, pd⟩], by omega, by go_num, HRA'.out, fun p' hp' => ?_, HP5.out, HB5.out⟩
              rw [HP0.out] at hp'
              injection hp' with hp'
              subst hp'
              simp only
              omega
            case measure => simp [intOf]; omega
    · obtain rfl : k = size := by omega
      have hre : SlotMath.slotParts S a k = none := by
        rcases Nat.eq_zero_or_pos k with hk0 | hk0
        · subst hk0
          cases hr : StampMath.read (S.getD a []) with
          | none => exact SlotMath.slotParts_none hr
          | some p0 =>
            have := (StampMath.read_some hr).1.2.2.2.2.1
            exact SlotMath.slotParts_big (T := p0.total.toNat) hr (by omega) (by omega)
        · obtain ⟨p0, hp0⟩ : ∃ p0, l[0]? = some p0 := ⟨_, List.getElem?_eq_getElem (by have := (SlotMath.readAll_some HRA.out).1; omega)⟩
          have := HFI.out p0 hp0
          omega
      have HRE := Lib.hid hre
      clear hre
      go_wp2_with fail
      go_ret
      rw [HRE.out]
      exact ⟨rfl, HB.out⟩
end Go.Proofs.YtckihiiimomgfaaDoor
