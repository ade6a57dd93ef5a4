/- The contract of slot.put. Printed by gen_slotput.py. -/
import Derived.Test.YtckihiiimomgfaaDoorSlot4
namespace Go.Proofs.YtckihiiimomgfaaDoor
open Go.RowKit DiskMath
def SptPost (F : Nat → Prop) (sp p fr : Nat) (s : SlotMath.Sl) (r : Dk × Nat) (w : World) (e : Ending) (w' : World) : Prop := e = .returned (.int .i64 (r.2 : Nat)) ∧ SlotB w' sp p fr s ∧ DiskAt w' (fun x => F x ∨ w.heap.size ≤ x) p r.1 ∧ Kept (fun x => F x ∨ x = sp) w w'
set_option maxRecDepth 100000 in
set_option maxHeartbeats 1000000 in
theorem slotPut_any (w : World) (F G : Nat → Prop) (sp p fr : Nat) (s : SlotMath.Sl) (d : Dk) (A : Option Addr) (n c : Nat) (L : List StampMath.Part) (hs : SlotB w sp p fr s) (hd : DiskAt w F p d) (ht : Halves w) (hF : ¬ F sp) (hFh : ¬ F 0) (hsh : sp ≠ 0)
    (hn : L.length = n) (hn0 : n ≤ 65535) (hr : PRow w 130 G (.slice A n c) L) (hG : ∀ k, G k → ¬ F k) (hGs : ¬ G sp) (hright : ∀ q ∈ L, StampMath.right q) (hla : s.last ≤ 1) (hsq : s.seq ≤ 4294967295 + 65536) (hto : fr + (1 - s.last) * s.size + n ≤ d.fast.length) (hfr : fr ≤ 65536) (hsz : s.size ≤ 65536) (hd16 : d.fast.length ≤ 65536) (hw : d.waits.length + n < 100000) :
    Calls Tryd.prog 51 #[.pointer (some ⟨sp, 0, none⟩), .slice A n c] w (SptPost F sp p fr { s with seq := s.seq + n } (WalMath.put d (fr + (1 - s.last) * s.size) L) w) := by
  obtain ⟨_, _, _, _, c4, _, _, _, cf⟩ := hs.cells
  have f4 := cf 4
  have hspl := hs.lt
  have hk1 : Kept (fun x => x = sp) w (w.setCell ⟨sp, 4, none⟩ (.int .i64 ((s.seq : Int) + (n : Int)))) := (Kept.refl (fun x => x = sp) w).setCell (p := ⟨sp, 4, none⟩) (.inl rfl) _
  have hs1 := hs.setSeq ((s.seq : Int) + (n : Int)) (s.seq + n) (by omega)
  have hd1 := hd.kept hk1 (fun x hx e => hF (by rw [← e]; exact hx))
  have hr1 := hr.kept hk1 (fun x hx e => hGs (by rw [← e]; exact hx))
  have ht1 : Halves (w.setCell ⟨sp, 4, none⟩ (.int .i64 ((s.seq : Int) + (n : Int)))) := ⟨by have := ht.1; have := hk1.size; omega, fun i hi => (hk1.cell (by simp only; exact ht.1) (fun e => hsh e.symm)).trans (ht.2 i hi)⟩
  have hz1 : (w.setCell ⟨sp, 4, none⟩ (.int .i64 ((s.seq : Int) + (n : Int)))).heap.size = w.heap.size := by simp
  obtain ⟨W1, hW1⟩ : ∃ W1, w.setCell ⟨sp, 4, none⟩ (.int .i64 ((s.seq : Int) + (n : Int))) = W1 := ⟨_, rfl⟩
  rw [hW1] at hk1 hs1 hd1 hr1 ht1 hz1
  obtain ⟨o, ho⟩ : ∃ o, 1 - s.last = o := ⟨_, rfl⟩
  have ho1 : o ≤ 1 := by omega
  obtain ⟨at_, ha⟩ : ∃ a, fr + o * s.size = a := ⟨_, rfl⟩
  rw [ho, ha] at hto
  rw [ho, ha]
  have hsk : ∀ w' : World, Kept F W1 w' → w'.cell? ⟨sp, 0, none⟩ = some (.pointer (some ⟨p, 0, none⟩)) ∧ w'.cell? ⟨sp, 6, none⟩ = some (.int .i64 (s.last : Nat)) := fun w' hk => by
    obtain ⟨c0, _, _, _, _, _, c6, _⟩ := (hs1.kept hk hF).cells
    exact ⟨c0, c6⟩
  have hhv : ∀ w' : World, Kept F W1 w' → Halves w' := fun w' hk => ⟨by have := ht1.1; have := hk.size; omega, fun i hi => (hk.cell (by simp only; exact ht1.1) (by simpa using hFh)).trans (ht1.2 i hi)⟩
  have hbeg : ∀ w' : World, Kept F W1 w' → Calls Tryd.prog 79 #[.pointer (some ⟨sp, 0, none⟩), .int .i64 (o : Int)] w' fun e w'' => e = .returned (.int .i64 (at_ : Nat)) ∧ Below w'.heap.size w' w'' := fun w' hk => by
    have := slotBegin_any w' sp p fr o _ (hs1.kept hk hF) ho1 hfr hsz
    rwa [ha] at this
  have hfin : ∀ (r : Dk × Nat) (e : Ending) (w' : World), e = .returned (.int .i64 (r.2 : Nat)) → DiskAt w' (fun x => F x ∨ W1.heap.size ≤ x) p r.1 → Kept F W1 w' → SptPost F sp p fr { s with seq := s.seq + n } r w e w' := fun r e w' he hd' hk' => by
    rw [hz1] at hd'
    exact ⟨he, hs1.kept hk' hF, hd', (hk1.mono (G := fun x => F x ∨ x = sp) (fun _ _ h => .inr h)).trans hk' (fun x hx => .inl (.inl hx))⟩
  obtain ⟨size, ep, sq, nu0, la, er⟩ := s
  simp only at *
  have e1 : (1 : Int) - (la : Int) = (o : Int) := by omega
  have e2 : IntKind.i64.wrap (o : Int) = (o : Int) := by rw [IntKind.wrap_i64]; omega
  have hat16 : at_ ≤ 65536 := by omega
  have HSK := Lib.hid hsk
  have HHV := Lib.hid hhv
  have HBEG := Lib.hid hbeg
  have HFIN := Lib.hid hfin
  have HD := Lib.hid hd1
  have HR := Lib.hid hr1
  have HN := Lib.hid hn
  have HGF := Lib.hid hG
  have HRT := Lib.hid hright
  have HW1 := Lib.hid hW1
  clear hs hs1 hd hd1 ht ht1 hr hr1 hn hG hGs hright hsk hhv hbeg hfin hF hFh hsh hk1 hz1 cf ha ho hW1
  have hus := Tryd.underlying130
  obtain ⟨Z, hZl, hzv⟩ := info_part_zero3
  have HZL := Lib.hid hZl
  clear hZl
  go_enter Tryd.func51, Tryd.ntmps51
  go_wp2_with fail
  rw [HW1.out]
  go_loopw [21] (fun i wr => PuRel W1 F p d at_ L i wr) (fun i _ => n - (intOf i).toNat)
  case atStart => exact ⟨0, d, Nat.zero_le _, rfl, rfl, HD.out.mono (fun _ h => .inl h), rfl, Nat.le_refl _, Kept.refl _ _⟩
  case round =>
    obtain ⟨k, dk, hk, rfl, hput, hdk, hfl, hwl, hkp⟩ := hrel
    obtain ⟨wo, rfl⟩ : ∃ wo : World, wo = wr := ⟨_, rfl⟩
    rw [HN.out] at hk
    have HDK := Lib.hid hdk
    have HKP := Lib.hid hkp
    have HPUT := Lib.hid hput
    have hsz := hkp.size
    clear hdk hkp hput
    by_cases hlt : k < n
    · obtain ⟨q, hx⟩ : ∃ q, L[k]? = some q := ⟨_, List.getElem?_eq_getElem (by have := HN.out; omega)⟩
      obtain ⟨g, c', u, hv, _, hgl, hgg, hrg, hou, hug⟩ := (HR.out.kept HKP.out HGF.out).at_ hx
      injection hv with e4 e5 e6
      subst e4 e6
      have hqr := HRT.out q (List.mem_of_getElem? hx)
      obtain ⟨pe, ps, pi, pt, pd⟩ := q
      simp only at hou
      obtain ⟨Au, nu, cu, rfl, hnu, hcu, _⟩ := hou.shape'
      have hib : (Tryd.prog.info? 130).map (·.size) = some (partCells ⟨pe, ps, pi, pt, pd⟩ (.slice Au nu cu)).length := by kernel_rfl
      have hdrop : L.drop k = ⟨pe, ps, pi, pt, pd⟩ :: L.drop (k + 1) := by
        obtain ⟨h1, h2⟩ := List.getElem?_eq_some_iff.1 hx
        rw [List.drop_eq_getElem_cons h1, h2]
      have hpst : WalMath.putParts dk at_ k (L.drop k) = if (write dk (at_ + k : Nat) (StampMath.lay ⟨pe, ps, pi, pt, pd⟩)).2 = 0 then WalMath.putParts (write dk (at_ + k : Nat) (StampMath.lay ⟨pe, ps, pi, pt, pd⟩)).1 at_ (k + 1) (L.drop (k + 1)) else write dk (at_ + k : Nat) (StampMath.lay ⟨pe, ps, pi, pt, pd⟩) := by rw [hdrop]; rfl
      have HRG := Lib.hid hrg
      have HOU := Lib.hid hou
      have HQR := Lib.hid hqr
      have HPST := Lib.hid hpst
      have HNU := Lib.hid hnu
      have hlay : ∀ w2, Below wo.heap.size wo w2 → _ := fun w2 hb => stampLay_ok ⟨pe, ps, pi, pt, pd⟩ Au cu w2 hqr (hou.bs.below hb) (HHV.out _ (HKP.out.then_below hb))
      simp only at hlay
      rw [hnu] at hlay
      have HLAY := Lib.hid hlay
      clear hrg hou hqr hx hug e5 hdrop hpst hlay
      go_wp2_with (first
        | refine wpList_load_mid rfl 130 (.tmp 24) rfl g (k * 5) rfl (partCells ⟨pe, ps, pi, pt, pd⟩ (.slice Au nu cu)) _ HRG.out hus rfl hib ?_
        | refine wpList_store_new rfl 130 (.tmp 6) (.tmp 25) rfl rfl (partCells ⟨pe, ps, pi, pt, pd⟩ (.slice Au nu cu)) rfl rfl (by show Z.toArray.size = _; rw [List.size_toArray, HZL.out]; rfl) hib (fun u hu => by simp at hu; rcases hu with rfl | rfl | rfl | rfl | rfl <;> rfl) ?_; intro w2 hr2 hb2 hs2; have HR2 := Lib.hid hr2; have HB2 := Lib.hid hb2; have k0 := hr2.cell 0; have k1 := hr2.cell 1; have k2 := hr2.cell 2; have k3 := hr2.cell 3; have k4 := hr2.cell 4; simp only [List.getElem?_cons_zero, List.getElem?_cons_succ] at k0 k1 k2 k3 k4; clear hr2 hb2)
      refine (HLAY.out _ HB2.out).mono ?_
      rintro e w3 ⟨g3, rfl, hg3, hblk, hb3⟩
      have hll : (StampMath.lay ⟨pe, ps, pi, pt, pd⟩).length = 64 := StampMath.lay_length _ HQR.out.2.2.2.2.2.2.2.2
      obtain ⟨Y, hY⟩ : ∃ Y, StampMath.lay ⟨pe, ps, pi, pt, pd⟩ = Y := ⟨_, rfl⟩
      rw [hY] at hblk hll HPST
      have HB3 := Lib.hid (below_then HB2.out hb3)
      have HBLK := Lib.hid hblk
      have HY := Lib.hid hY
      have HLL := Lib.hid hll
      have hs3 := hb3.size
      have s1 : IntKind.i64.wrap ((at_ : Int) + (k : Int)) = (at_ : Int) + (k : Int) := by rw [IntKind.wrap_i64]; omega
      clear hblk hb3 hY hll k0 k1 k2 k3 k4 HLAY
      go_wp2_with fail
      refine wp_region_mix [(true, 0), (true, 1), (true, 2), (true, 3), (true, 4), (true, 5), (true, 6), (true, 7), (true, 8), (true, 9), (true, 11), (true, 13), (false, 10), (true, 12), (false, 14), (true, 15)] 16 (fun w' => w'.cell? ⟨sp, 0, none⟩ = some (.pointer (some ⟨p, 0, none⟩)) ∧ w'.cell? ⟨sp, 6, none⟩ = some (.int .i64 (la : Nat))) (by kernel_rfl) (by kernel_rfl) (by rintro _ ⟨_, _⟩ ⟨_, _⟩ _ rfl h; exact h) (HSK.out _ (HKP.out.then_below HB3.out).drew) ?_
      simp only [pickM, List.getElem?_cons_succ, List.getElem?_cons_zero]
      (refine wpMix_take (v := ?_) ?_ ?_; rotate_left; · (refine Or.inl ⟨by rfl, ?_⟩; intro w' hSw; obtain ⟨s0, s6⟩ := hSw; go_simp; (try with_reducible rfl)))
      (try simp only [Act.put, List.setIfInBounds_toArray, List.set_cons_zero, List.set_cons_succ])
      (refine wpMix_take (v := ?_) ?_ ?_; rotate_left; · (refine Or.inl ⟨by rfl, ?_⟩; intro w' hSw; obtain ⟨s0, s6⟩ := hSw; go_simp; (try with_reducible rfl)))
      (try simp only [Act.put, List.setIfInBounds_toArray, List.set_cons_zero, List.set_cons_succ])
      (refine wpMix_take (v := ?_) ?_ ?_; rotate_left; · (refine Or.inl ⟨by rfl, ?_⟩; intro w' hSw; obtain ⟨s0, s6⟩ := hSw; go_simp; (try with_reducible rfl)))
      (try simp only [Act.put, List.setIfInBounds_toArray, List.set_cons_zero, List.set_cons_succ])
      (refine wpMix_take (v := ?_) ?_ ?_; rotate_left; · (refine Or.inl ⟨by rfl, ?_⟩; intro w' hSw; obtain ⟨s0, s6⟩ := hSw; go_simp; (try with_reducible rfl)))
      (try simp only [Act.put, List.setIfInBounds_toArray, List.set_cons_zero, List.set_cons_succ])
      (refine wpMix_take (v := ?_) ?_ ?_; rotate_left; · (refine Or.inl ⟨by rfl, ?_⟩; intro w' hSw; obtain ⟨s0, s6⟩ := hSw; go_simp; (try with_reducible rfl)))
      (try simp only [Act.put, List.setIfInBounds_toArray, List.set_cons_zero, List.set_cons_succ])
      (refine wpMix_take (v := ?_) ?_ ?_; rotate_left; · (refine Or.inl ⟨by rfl, ?_⟩; intro w' hSw; obtain ⟨s0, s6⟩ := hSw; go_simp; (try with_reducible rfl)))
      (try simp only [Act.put, List.setIfInBounds_toArray, List.set_cons_zero, List.set_cons_succ])
      (refine wpMix_take (v := ?_) ?_ ?_; rotate_left; · (refine Or.inl ⟨by rfl, ?_⟩; intro w' hSw; obtain ⟨s0, s6⟩ := hSw; go_simp; (try with_reducible rfl)))
      (try simp only [Act.put, List.setIfInBounds_toArray, List.set_cons_zero, List.set_cons_succ])
      (refine wpMix_take (v := ?_) ?_ ?_; rotate_left; · (refine Or.inl ⟨by rfl, ?_⟩; intro w' hSw; obtain ⟨s0, s6⟩ := hSw; go_simp; (try with_reducible rfl)))
      (try simp only [Act.put, List.setIfInBounds_toArray, List.set_cons_zero, List.set_cons_succ])
      (refine wpMix_take (v := ?_) ?_ ?_; rotate_left; · (refine Or.inl ⟨by rfl, ?_⟩; intro w' hSw; obtain ⟨s0, s6⟩ := hSw; go_simp; (try with_reducible rfl)))
      (try simp only [Act.put, List.setIfInBounds_toArray, List.set_cons_zero, List.set_cons_succ])
      (refine wpMix_take (v := ?_) ?_ ?_; rotate_left; · (refine Or.inl ⟨by rfl, ?_⟩; intro w' hSw; obtain ⟨s0, s6⟩ := hSw; go_simp; (try with_reducible rfl)))
      (try simp only [Act.put, List.setIfInBounds_toArray, List.set_cons_zero, List.set_cons_succ])
      (refine wpMix_take (v := ?_) ?_ ?_; rotate_left; · (refine Or.inl ⟨by rfl, ?_⟩; intro w' hSw; obtain ⟨s0, s6⟩ := hSw; go_simp; (try with_reducible rfl)))
      (try simp only [Act.put, List.setIfInBounds_toArray, List.set_cons_zero, List.set_cons_succ])
      (refine wpMix_take (v := ?_) ?_ ?_; rotate_left; · (refine Or.inl ⟨by rfl, ?_⟩; intro w' hSw; obtain ⟨s0, s6⟩ := hSw; go_simp; (try with_reducible rfl)))
      (try simp only [Act.put, List.setIfInBounds_toArray, List.set_cons_zero, List.set_cons_succ])
      refine wpMix_do rfl fun K hK => ?_
      go_simp
      have hkp3 := (HKP.out.then_below HB3.out).drew
      refine (HBEG.out _ hkp3).mono ?_
      rintro e w3b ⟨rfl, hb3b⟩
      have hkp3b := hkp3.then_below hb3b
      refine hK.out _ _ (fun _ => HSK.out _ hkp3b) ?_
      clear hK K
      (try simp only [Act.put, List.setIfInBounds_toArray, List.set_cons_zero, List.set_cons_succ])
      (refine wpMix_take (v := ?_) ?_ ?_; rotate_left; · (refine Or.inl ⟨by rfl, ?_⟩; intro w' hSw; obtain ⟨s0, s6⟩ := hSw; go_simp; (try with_reducible rfl)))
      (try simp only [Act.put, List.setIfInBounds_toArray, List.set_cons_zero, List.set_cons_succ])
      refine wpMix_do rfl fun K hK => ?_
      go_simp
      have hwr := diskWrite_yes w3b (fun x => (F x ∨ W1.heap.size ≤ x) ∧ x < wo.heap.size) p dk (at_ + k) g3 0 64 Y (((HDK.out.lt.below HB3.out).kept (Kept.refl (fun _ => False) w3).drew (fun _ _ h => h)).below hb3b) (by omega) HLL.out (Nat.le_refl _) (HBLK.out.bs.drew.below hb3b) (fun h => by have := h.2; have := HB2.out.size; omega) (by omega)
      have hwl2 := write_len dk (at_ + k : Nat) Y
      obtain ⟨wd, hwd⟩ : ∃ wd, write dk (at_ + k : Nat) Y = wd := ⟨_, rfl⟩
      rw [hwd] at hwr HPST hwl2
      rw [Int.natCast_add] at hwr
      obtain ⟨dn, cd⟩ := wd
      simp only at hwr HPST hwl2
      refine hwr.mono ?_
      rintro e w4 ⟨rfl, hd4, hk4⟩
      have hkp4 : Kept F W1 w4 := hkp3b.trans hk4 (fun x hx => hx.1)
      refine hK.out _ _ (fun _ => HSK.out _ hkp4) ?_
      have hd4' : DiskAt w4 (fun x => F x ∨ W1.heap.size ≤ x) p dn := hd4.mono (fun x hx => hx.elim (fun h => h.1) (fun h => .inr (by have := hkp3b.size; omega)))
      have HD4 := Lib.hid hd4'
      have HKP4 := Lib.hid hkp4
      have HWL2 := Lib.hid hwl2
      clear hK K hwr hd4 hk4 hd4' hkp4 hkp3 hkp3b hb3b hwl2 HDK hwd
      (try simp only [Act.put, List.setIfInBounds_toArray, List.set_cons_zero, List.set_cons_succ])
      (refine wpMix_take (v := ?_) ?_ ?_; rotate_left; · (refine Or.inl ⟨by rfl, ?_⟩; intro w' hSw; obtain ⟨s0, s6⟩ := hSw; go_simp; (try with_reducible rfl)))
      (try simp only [Act.put, List.setIfInBounds_toArray, List.set_cons_zero, List.set_cons_succ])
      refine wpMix_nil ?_
      by_cases h0 : cd = 0
      · subst h0
        rw [if_pos rfl] at HPST
        go_wp2_with fail
        go_roundw
        case rel => exact ⟨k + 1, dn, by have := HN.out; omega, by go_num, by rw [HPUT.out, HPST.out], HD4.out, by have := HWL2.out.1; omega, by have := HWL2.out.2; omega, HKP4.out⟩
        case measure => simp [intOf]; omega
      · rw [if_neg h0] at HPST
        have hne : ((cd : Int) != 0) = true := by rw [bne_iff_ne]; omega
        have hpp : WalMath.put d at_ L = (dn, cd) := by
          unfold WalMath.put
          rw [HPUT.out, HPST.out, if_neg h0]
        have HPP := Lib.hid hpp
        clear hpp HPST HPUT h0
        go_wp2_with fail
        go_ret
        rw [HPP.out]
        exact HFIN.out _ _ _ rfl HD4.out HKP4.out
    · obtain rfl : k = n := by omega
      have hpp : WalMath.put d at_ L = flush dk := by
        unfold WalMath.put
        rw [HPUT.out, List.drop_of_length_le (by have := HN.out; omega)]
        rfl
      have HPP := Lib.hid hpp
      have c0 := (HSK.out _ HKP.out).1
      clear hpp HPUT
      go_wp2_with fail
      refine (diskFlush_any wo _ p dk HDK.out).mono ?_
      rintro e w5 ⟨rfl, hd5, hk5⟩
      have HD5 := Lib.hid hd5
      have HK5 := Lib.hid (HKP.out.trans hk5 (fun x hx => hx))
      clear hd5 hk5 c0
      go_wp2_with fail
      go_ret
      rw [HPP.out]
      exact HFIN.out _ _ _ rfl HD5.out HK5.out
end Go.Proofs.YtckihiiimomgfaaDoor
