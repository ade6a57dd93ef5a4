/- The contracts of the document's disk: Write, Flush. -/
import Derived.Test.YtckihiiimomgfaaDoorRefDisk3
namespace Go.Proofs.YtckihiiimomgfaaDoor
open Go.RowKit DiskMath
theorem info_rwrite : (Tryd.prog.info? 117).map (fun i => (i.zero, i.size, i.bytes)) = some (some (.agg #[.int .i64 0, .slice none 0 0]), 2, 32) := by kernel_rfl
set_option maxHeartbeats 400000 in
theorem refWrite_no (w : World) (G : Nat → Prop) (p : Nat) (d : Dk) (c : Nat) (i : Int) (A : Option Addr) (m cb : Nat) (h : RDiskAt w G p d c) (hi : i < 0 ∨ (d.fast.length : Int) ≤ i ∨ m ≠ 64) :
    Calls Tryd.prog 60 #[.pointer (some ⟨p, 0, none⟩), .int .i64 i, .slice A m cb] w fun e w' => e = .returned (.int .i64 2) ∧ w = w' := by
  obtain ⟨hp, vf, vw, ar, lf, h⟩ := h
  obtain ⟨c0, _⟩ := h.cells
  obtain ⟨Af, cf, rfl, _⟩ := h.fast.shape
  obtain ⟨n, hn⟩ : ∃ n, d.fast.length = n := ⟨_, rfl⟩
  rw [hn] at c0 hi
  clear h hn
  by_cases h1 : i < 0
  · clear hi
    go_enter Tryd.func60, Tryd.ntmps60
    go_wp2_with fail
    go_ret
    exact ⟨rfl, rfl⟩
  · have h1' : 0 ≤ i := by omega
    by_cases h2 : (n : Int) ≤ i
    · clear hi h1
      go_enter Tryd.func60, Tryd.ntmps60
      go_wp2_with fail
      go_ret
      exact ⟨rfl, rfl⟩
    · have h3 : ((m : Int) == 64) = false := by rw [beq_eq_false_iff_ne]; omega
      have h4 : ((m : Int) != 64) = true := by rw [bne, h3]; rfl
      have h5 : ¬ ((m : Int) = 64) := by omega
      have h6 : i < (n : Int) := by omega
      clear hi h1 h2
      go_enter Tryd.func60, Tryd.ntmps60
      go_wp2_with fail
      go_ret
      exact ⟨rfl, rfl⟩
set_option maxHeartbeats 1000000 in
theorem refWrite_yes (w : World) (G : Nat → Prop) (p : Nat) (d : Dk) (c : Nat) (i : Nat) (A : Option Addr) (cb : Nat) (b : List UInt8) (h : RDiskAt w G p d c) (hc : c < 1000000) (hi : i < d.fast.length) (hl : b.length = 64) (hr : Bs w A b) (hA : ∀ ad, A = some ad → ¬ G ad.block) (hf : d.waits.length < 100000) :
    Calls Tryd.prog 60 #[.pointer (some ⟨p, 0, none⟩), .int .i64 (i : Int), .slice A 64 cb] w fun e w' => e = .returned (.int .i64 ((write d i b).2 : Nat)) ∧ RDiskAt w' (fun k => G k ∨ w.heap.size ≤ k) p (write d i b).1 (c + 1) ∧ Kept G w w' := by
  have HST := Lib.hid (refStep_any w G p d c h hc)
  obtain ⟨hp, vf0, vw0, ar0, lf0, h⟩ := h
  obtain ⟨c0, _⟩ := h.cells
  obtain ⟨Af, cf, rfl, _⟩ := h.fast.shape
  obtain ⟨n, hn⟩ : ∃ n, d.fast.length = n := ⟨_, rfl⟩
  rw [hn] at c0 hi
  have hwr : write d i b = if (DiskMath.step d).2 then ({ (DiskMath.step d).1 with waits := d.waits ++ [(i, b)] }, 0) else ((DiskMath.step d).1, 7) := by
    unfold write
    rw [if_pos ⟨by omega, by omega, hl⟩]
    simp
  have HW := Lib.hid hwr
  have HN := Lib.hid hn
  have HR := Lib.hid hr
  have HA := Lib.hid hA
  have HF := Lib.hid hf
  have HL := Lib.hid hl
  have h1 : (0 : Int) ≤ (i : Int) := by omega
  have h3 : (i : Int) < n := by omega
  clear h hn hwr hr hA hf hl hc
  go_enter Tryd.func60, Tryd.ntmps60
  go_wp2_with fail
  refine HST.out.mono ?_
  rintro e w1 ⟨rfl, hd1, hk1, hs1⟩
  clear HST
  by_cases hd : (DiskMath.step d).2 = true
  · have hst := (step_fst d).2.1
    have hfs := (step_fst d).1
    obtain ⟨_, vf, vw, ar, lf, hb1⟩ := hd1
    obtain ⟨_, c1, _, _, _, _⟩ := hb1.cells
    obtain ⟨Aw, cw, rfl, _⟩ := hb1.waits.shape
    have hb : Bs w1 A b := hk1.bs HR.out (fun ad e _ => HA.out ad e)
    have hcp := copy_any A cb b w1 (by rw [HL.out]; decide) hb
    rw [HL.out] at hcp
    have hlw : (DiskMath.step d).1.waits.length < 100000 := by rw [hst]; exact HF.out
    obtain ⟨d1, hd1e⟩ : ∃ d1, (DiskMath.step d).1 = d1 := ⟨_, rfl⟩
    rw [hd1e] at hb1 c1 hlw hst hfs
    obtain ⟨m, hm⟩ : ∃ m, d1.waits.length = m := ⟨_, rfl⟩
    have hb1' : RDiskB w1 G p vf (.slice Aw m cw) ar lf d1 (c + 1) := by rw [← hm]; exact hb1
    rw [hm] at c1 hlw
    have HB1 := Lib.hid hb1'
    have HCP := Lib.hid hcp
    have HK1 := Lib.hid hk1
    have HS1 := Lib.hid hs1
    have HD := Lib.hid hd
    have HST := Lib.hid hst
    have HFS := Lib.hid hfs
    have HD1 := Lib.hid hd1e
    have HM := Lib.hid hm
    rw [hd]
    clear hb1 hb1' hcp hk1 hs1 hd hst hfs hd1e hm hb
    go_wp2_with fail
    refine HCP.out.mono ?_
    rintro e w2 ⟨v2, rfl, ho2, hb2⟩
    clear HCP
    obtain ⟨A2, c2, rfl, hc2⟩ := own_shape ho2
    have hd2 : RDiskAt w2 G p d1 (c + 1) := RDiskAt.below ⟨hp, _, _, _, _, HB1.out⟩ hb2
    have hp1 : p < w1.heap.size := heap_lt HB1.out.blk
    have hb22 : RDiskB w2 G p vf (.slice Aw m cw) ar lf d1 (c + 1) := by
      have hk := Kept.of_below (F := fun _ => False) hb2
      have h := HB1.out
      exact ⟨hk.heap h.blk (fun h => h), h.fast.below hb2, h.waits.kept hk (fun _ _ h => h), h.pos, h.max, h.sec, h.wsec, h.few, h.arm, h.cnt⟩
    have ho2' : Own8 w2 w1.heap.size (.slice A2 64 c2) b := by unfold Own8; rw [HL.out]; exact ho2
    obtain ⟨xs, hxo, hxG, hxe⟩ := hb22.waits
    rw [HM.out] at hxo
    obtain ⟨iw, hiw, hzw, hsw, hbw⟩ := info_parts info_rwrite
    have HXO := Lib.hid hxo
    have HXE := Lib.hid hxe
    have HXG := Lib.hid hxG
    have HB2 := Lib.hid hb2
    have HB22 := Lib.hid hb22
    have HO2 := Lib.hid ho2'
    clear hd2 hb22 ho2 ho2' hxo hxe hxG hb2
    go_wp2_with (
      at_builtin
      refine wpList_push rfl (.tmp 32) (.tmp 37) 59 rfl 0 117 iw (.agg #[.int .i64 0, .slice none 0 0]) 2 32 Tryd.underlying59 hiw hzw hsw hbw rfl (by decide) (.slice Aw m cw) m xs rfl HXO.out [.int .i64 (i : Int), .slice A2 64 c2] rfl rfl rfl (fun u hu => by simp at hu; rcases hu with rfl | rfl <;> rfl) (by unfold maxLen; omega) (by omega) (Nat.zero_le _) ?_
      intro v4 w4 ho4 hk4 hv4
      obtain ⟨A4, c4, rfl, hc4⟩ := own_shape ho4
      have hne : ¬ (Value.slice Aw m cw).ownBlock = some p := fun e => own_ne HXO.out HB22.out.blk (by decide) e
      have hbx4 := hk4.heap HB22.out.blk hne
      have c04 : w4.cell? ⟨p, 1, none⟩ = some (.slice Aw m cw) := block_cell hbx4
      have f04 : w4.frozen? ⟨p, 1, none⟩ = false := block_free hbx4
      have HO4 := Lib.hid ho4
      have HK4 := Lib.hid hk4
      have HV4 := Lib.hid hv4
      have HBX4 := Lib.hid hbx4
      clear ho4 hk4 hv4 hbx4 hne)
    go_ret
    rw [HW.out, HD.out, if_pos rfl, HD1.out, ← HST.out]
    have hnw8 : NoT w2 (fun k => (Value.slice Aw m cw).ownBlock = some k) 5 := NoT.own HXO.out (by decide)
    have hnwr : NoT w2 (fun k => (Value.slice Aw m cw).ownBlock = some k) 29 := NoT.own HXO.out (by decide)
    have hkp : Kept (fun k => k = p) w4 (w4.setCell ⟨p, 1, none⟩ (.slice A4 (m + 1) c4)) := (Kept.refl (fun k => k = p) w4).setCell (p := ⟨p, 1, none⟩) (.inl rfl) _
    have np : ∀ {T : TypeId}, 61 ≠ T → NoT w4 (fun k => k = p) T := fun hne => NoT.of HBX4.out hne
    have hs12 := HB2.out.size
    have hs01 : w1.heap.size = w.heap.size := HS1.out
    refine ⟨rfl, ⟨.inl hp, vf, .slice A4 (m + 1) c4, ar, lf, set_block HBX4.out 1 _, ?_, ?_, HB22.out.pos, HB22.out.max, HB22.out.sec, ?_, ?_, HB22.out.arm, HB22.out.cnt⟩, ?_⟩
    · exact ((HB22.out.fast.other HK4.out hnwr hnw8).other hkp (np (by decide)) (np (by decide))).mono (fun _ h => .inl h)
    · refine ⟨xs ++ [.int .i64 (i : Int), .slice A2 64 c2], ?_, fun g hg => ?_, fun j x hj => ?_⟩
      · rw [List.length_append, HM.out]
        exact own_noT HO4.out hkp (np (by decide))
      · rcases HV4.out g hg with e | e
        · exact .inl (HXG.out g e)
        · right; omega
      · have hxl : xs.length = m * 2 := HXO.out.1
        by_cases hjl : j < d1.waits.length
        · rw [List.getElem?_append_left hjl] at hj
          obtain ⟨u, a1, a2, a3, a4⟩ := HXE.out j x hj
          have := HM.out
          exact ⟨u, by rw [List.getElem?_append_left (by omega)]; exact a1, by rw [List.getElem?_append_left (by omega)]; exact a2, own_noT (own_noT a3 HK4.out hnw8) hkp (np (by decide)), fun g hg => .inl (a4 g hg)⟩
        · have hje : j = m := by
            have := (List.getElem?_eq_some_iff.1 hj).1
            have := HM.out
            simp at *
            omega
          subst hje
          rw [List.getElem?_append_right (by have := HM.out; omega)] at hj
          have hx : x = (i, b) := by
            have := HM.out
            simp [this] at hj
            exact hj.symm
          subst hx
          exact ⟨.slice A2 64 c2, by rw [List.getElem?_append_right (by omega), show 2 * j - xs.length = 0 by omega]; rfl, by rw [List.getElem?_append_right (by omega), show 2 * j + 1 - xs.length = 1 by omega]; rfl,
            own_base (own_noT (own_noT HO2.out HK4.out hnw8) hkp (np (by decide))) (Nat.zero_le _), fun g hg => by have := (HO2.out.lt g hg).1; right; omega⟩
    · intro x hx
      show x.1 < d1.fast.length ∧ _
      rcases List.mem_append.1 hx with hx | hx
      · exact HB22.out.wsec x hx
      · simp at hx; subst hx; exact ⟨by rw [HFS.out, HN.out]; exact hi, HL.out⟩
    · show (d1.waits ++ [(i, b)]).length ≤ 100000
      rw [List.length_append, HM.out]; simp; omega
    · have k1 : Kept G w w2 := HK1.out.then_below HB2.out
      have k2 := k1.trans HK4.out (fun k hk => .inl (HXG.out k hk))
      exact k2.trans hkp (fun k hk => by subst hk; exact .inl hp)
  · have hd' : (DiskMath.step d).2 = false := by simpa using hd
    have HD := Lib.hid hd'
    have HD1 := Lib.hid hd1
    have HK1 := Lib.hid hk1
    rw [hd']
    clear hd hd' hd1 hk1 hs1
    go_wp2_with fail
    go_ret
    rw [HW.out, HD.out]
    exact ⟨rfl, HD1.out.mono (fun _ h => .inl h), HK1.out⟩
theorem RDiskB.setFast {w : World} {G : Nat → Prop} {p g cf i : Nat} {vf vw u : Value} {ar : Bool} {lf : Int} {d : Dk} {c : Nat} {b : Sector} (h : RDiskB w G p vf vw ar lf d c) (hv : vf = .slice (some ⟨g, 0, none⟩) d.fast.length cf) (hi : i < d.fast.length) (hu : Own8 w 0 u b) (hG : ∀ k, u.ownBlock = some k → G k) (hb : b.length = 64) :
    RDiskB (w.setCell ⟨g, i, none⟩ u) G p vf vw ar lf { d with fast := d.fast.set i b } c := by
  subst hv
  have hk : Kept (fun k => k = g) w (w.setCell ⟨g, i, none⟩ u) := (Kept.refl (fun k => k = g) w).setCell (p := ⟨g, i, none⟩) (.inl rfl) u
  obtain ⟨vs, a, _⟩ := h.fast
  have hgt : ∃ cs, w.heap[g]? = some (.cells cs 29 (0, 0)) := by
    rcases a.2 with ⟨e, _⟩ | ⟨g', cap, cur, e, _, hb, _⟩
    · injection e with e; cases e
    · injection e with e; injection e with e; injection e with e; subst e; exact ⟨cur, hb⟩
  obtain ⟨cs, hgb⟩ := hgt
  have hpg : ¬ p = g := fun e => by
    subst e
    have h1 := h.blk
    rw [hgb] at h1
    simp at h1
  refine ⟨hk.heap h.blk hpg, ?_, h.waits.other hk (NoT.of hgb (by decide)) (NoT.of hgb (by decide)), by simpa using h.pos, by simpa using h.max, fun s hs => ?_, fun x hx => ?_, h.few, h.arm, h.cnt⟩
  · exact h.fast.set rfl hi hu hG
  · rcases List.mem_or_eq_of_mem_set hs with h1 | rfl
    · exact h.sec s h1
    · exact hb
  · show x.1 < (d.fast.set i b).length ∧ _
    rw [List.length_set]
    exact h.wsec x hx
def RFlRel (w : World) (G : Nat → Prop) (p : Nat) (vf vw : Value) (ar : Bool) (lf : Int) (d : Dk) (c : Nat) (i : Value) (wr : World) : Prop :=
  ∃ k : Nat, k ≤ d.waits.length ∧ i = .int .i64 (k : Int) ∧ RDiskB wr G p vf vw ar lf { d with fast := sets d.fast (d.waits.take k) } c ∧ Kept G w wr
set_option maxHeartbeats 1000000 in
theorem refFlush_any (w : World) (G : Nat → Prop) (p : Nat) (d : Dk) (c : Nat) (h : RDiskAt w G p d c) (hc : c < 1000000) :
    Calls Tryd.prog 61 #[.pointer (some ⟨p, 0, none⟩)] w fun e w' => e = .returned (.int .i64 ((flush d).2 : Nat)) ∧ RDiskAt w' G p (flush d).1 (c + 1) ∧ Kept G w w' := by
  have HST := Lib.hid (refStep_any w G p d c h hc)
  have hp : G p := h.1
  have hfl : flush d = if (DiskMath.step d).2 then ({ (DiskMath.step d).1 with fast := view d, waits := [] }, 0) else ((DiskMath.step d).1, 7) := rfl
  have hview : view d = sets (DiskMath.step d).1.fast (DiskMath.step d).1.waits := by rw [(step_fst d).1, (step_fst d).2.1]; rfl
  have HW := Lib.hid hfl
  have HV := Lib.hid hview
  clear h hc hfl hview
  go_enter Tryd.func61, Tryd.ntmps61
  go_wp2_with fail
  refine HST.out.mono ?_
  rintro e w1 ⟨rfl, hd1, hk1, hs1⟩
  clear HST
  by_cases hd : (DiskMath.step d).2 = true
  · obtain ⟨_, vf, vw, ar, lf, hb1⟩ := hd1
    obtain ⟨Aw, cw, rfl, _⟩ := hb1.waits.shape
    obtain ⟨Af, cf, rfl, _⟩ := hb1.fast.shape
    obtain ⟨d1, hd1e⟩ : ∃ d1, (DiskMath.step d).1 = d1 := ⟨_, rfl⟩
    rw [hd1e] at hb1 HV
    obtain ⟨m, hm⟩ : ∃ m, d1.waits.length = m := ⟨_, rfl⟩
    obtain ⟨n, hn⟩ : ∃ n, d1.fast.length = n := ⟨_, rfl⟩
    rw [hm, hn] at hb1
    have hfew := hb1.few
    rw [hm] at hfew
    have hmax := hb1.max
    rw [hn] at hmax
    have HB1 := Lib.hid hb1
    have HK1 := Lib.hid hk1
    have HD := Lib.hid hd
    have HD1 := Lib.hid hd1e
    have HM := Lib.hid hm
    have HN := Lib.hid hn
    rw [hd]
    clear hb1 hk1 hs1 hd hd1e hm hn
    go_wp2_with fail
    go_loopw [3] (fun i wr => RFlRel w G p (.slice Af n cf) (.slice Aw m cw) ar lf d1 (c + 1) i wr) (fun i _ => m - (intOf i).toNat)
    case atStart => exact ⟨0, Nat.zero_le _, rfl, HB1.out, HK1.out⟩
    case round =>
      clear HB1 HK1
      obtain ⟨k, hk, rfl, hbk, hkk⟩ := hrel
      obtain ⟨wo, rfl⟩ : ∃ wo : World, wo = wr := ⟨_, rfl⟩
      rw [HM.out] at hk
      obtain ⟨c0, c1, _, _, _, _⟩ := hbk.cells
      have f1 := hbk.cells.2.2.2.2.2 1
      by_cases hlt : k < m
      · obtain ⟨⟨a, b⟩, hx⟩ : ∃ x, d1.waits[k]? = some x := ⟨_, List.getElem?_eq_getElem (by have := HM.out; omega)⟩
        obtain ⟨gw, cw', u, hvw, _, _, _, hca, hcu, hou, hGu⟩ := hbk.waits.at_ hx
        obtain ⟨haf, hb64⟩ := hbk.wsec (a, b) (List.mem_of_getElem? hx)
        have hfl : (sets d1.fast (d1.waits.take k)).length = n := by rw [sets_length]; exact HN.out
        obtain ⟨s0, hs0⟩ : ∃ s, (sets d1.fast (d1.waits.take k))[a]? = some s := ⟨_, List.getElem?_eq_getElem haf⟩
        obtain ⟨gf, cf', u0, hvf, _, hgf, _, hcf, _, _⟩ := hbk.fast.at_ hs0
        injection hvw with e1 e2 e3
        subst e1
        injection hvf with e4 e5 e6
        subst e4 e6
        obtain ⟨Au, nu, cu, rfl, hnu, _, _⟩ := hou.shape'
        simp only at hca hcu haf hb64 hnu
        obtain rfl : nu = 64 := by rw [← hnu]; exact hb64
        have han : a < n := by rw [← hfl]; exact haf
        have hani : (a : Int) < (n : Int) := by omega
        have ha0 : (0 : Int) ≤ (a : Int) := by omega
        have hkm : (k : Int) < (m : Int) := by omega
        have hk0 : (0 : Int) ≤ (k : Int) := by omega
        have ff : wo.frozen? ⟨gf, a, none⟩ = false := by
          obtain ⟨vs, ho, _⟩ := hbk.fast
          rcases ho.2 with ⟨e, _⟩ | ⟨g', cap, cur, e, _, hb, _⟩
          · injection e with e; cases e
          · injection e with e; injection e with e; injection e with e; subst e; exact block_free hb
        have hGf : G gf := by obtain ⟨vs, _, h2, _⟩ := hbk.fast; exact h2 gf rfl
        have hcell : wo.cell? ⟨gf, a, none⟩ = some u0 := hcf
        have hnx := (show RDiskB wo.drew G p (.slice (some ⟨gf, 0, none⟩) n cf) (.slice (some ⟨gw, 0, none⟩) m cw) ar lf { d1 with fast := sets d1.fast (d1.waits.take k) } (c + 1) from by
          have hk := (Kept.refl (fun _ => False) wo).drew
          exact ⟨hk.heap hbk.blk (fun h => h), hbk.fast.kept hk (fun _ _ h => h), hbk.waits.kept hk (fun _ _ h => h), hbk.pos, hbk.max, hbk.sec, hbk.wsec, hbk.few, hbk.arm, hbk.cnt⟩).setFast (g := gf) (cf := cf) (i := a) (b := b) (u := .slice Au 64 cu) (by rw [hfl]) haf hou.drew hGu hb64
        have hsn : sets d1.fast (d1.waits.take (k + 1)) = (sets d1.fast (d1.waits.take k)).set a b := by
          rw [List.take_add_one, hx]
          exact sets_snoc _ _ _
        have HNX := Lib.hid hnx
        have HSN := Lib.hid hsn
        have HKK := Lib.hid hkk
        obtain ⟨V0, hV0⟩ : ∃ V0, u0 = V0 := ⟨_, rfl⟩
        clear hnx hsn hx hbk hkk hs0 hou hGu haf hb64 hfl hnu e2 e3 e5 f1 hcf hV0
        go_wp2_with fail
        refine wp_region_headS 21 21 (fun w' => w'.cell? ⟨p, 0, none⟩ = some (.slice (some ⟨gf, 0, none⟩) n cf) ∧ w'.cell? ⟨p, 1, none⟩ = some (.slice (some ⟨gw, 0, none⟩) m cw) ∧ w'.cell? ⟨gw, k * 2, none⟩ = some (.int .i64 (a : Int)) ∧ w'.cell? ⟨gw, k * 2 + 1, none⟩ = some (.slice Au 64 cu)) (by kernel_rfl) (by kernel_rfl) (by rintro _ ⟨_, _⟩ ⟨_, _⟩ _ rfl h; exact h) ⟨c0, c1, hca, hcu⟩ ?_
        iterate 21 (refine wpHeadS_step (v := ?_) (Or.inl ⟨by rfl, ?_⟩) ?_; rotate_left; · intro w' hSw; obtain ⟨s1, s2, s3, s4⟩ := hSw; go_simp; (try with_reducible rfl))
        refine wpHeadS_nil (wpTailS_end (by decide) ?_)
        simp only [Act.put, List.setIfInBounds_toArray, List.set_cons_zero, List.set_cons_succ]
        go_wp2_with fail
        go_roundw
        case rel =>
          refine ⟨k + 1, by have := HM.out; omega, by go_num, by rw [HSN.out]; exact HNX.out, ?_⟩
          exact (HKK.out.drew).setCell (p := ⟨gf, a, none⟩) (.inl hGf) _
        case measure => simp [intOf]; omega
      · obtain rfl : k = m := by omega
        have hbs : RDiskB wo G p (.slice Af n cf) (.slice Aw k cw) ar lf { d1 with fast := view d } (c + 1) := by
          have h := hbk
          rw [List.take_of_length_le (by have := HM.out; omega), ← HV.out] at h
          exact h
        obtain ⟨r1, _⟩ := hbs.setP 1 (.slice none 0 0)
        have hb2 := set_block hbs.blk 1 (.slice none 0 0)
        have HBS := Lib.hid hbs
        have HR1 := Lib.hid r1
        have HB2 := Lib.hid hb2
        have HKK := Lib.hid hkk
        clear hbk hbs hkk hlt hk r1 hb2
        go_wp2_with fail
        go_ret
        rw [HW.out, HD.out, if_pos rfl, HD1.out]
        exact ⟨rfl, ⟨hp, .slice Af n cf, .slice none 0 0, ar, lf, HB2.out, HR1.out, RWaits.nil _ _, HBS.out.pos, HBS.out.max, HBS.out.sec, fun x hx => by simp at hx, by simp, HBS.out.arm, HBS.out.cnt⟩, HKK.out.setCell (p := ⟨p, 1, none⟩) (.inl hp) _⟩
  · have hd' : (DiskMath.step d).2 = false := by simpa using hd
    have HD := Lib.hid hd'
    have HD1 := Lib.hid hd1
    have HK1 := Lib.hid hk1
    rw [hd']
    clear hd hd' hd1 hk1 hs1
    go_wp2_with fail
    go_ret
    rw [HW.out, HD.out]
    exact ⟨rfl, HD1.out, HK1.out⟩
end Go.Proofs.YtckihiiimomgfaaDoor
