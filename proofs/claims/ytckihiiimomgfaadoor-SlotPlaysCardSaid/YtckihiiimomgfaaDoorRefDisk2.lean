/- The contracts of the document's disk: Step, Arm, Now, Read. -/
import Derived.Test.YtckihiiimomgfaaDoorRefDisk
import Derived.Test.YtckihiiimomgfaaDoorSec
namespace Go.Proofs.YtckihiiimomgfaaDoor
open Go.RowKit DiskMath
theorem wrap64_bounds (z : Int) : -9223372036854775808 ≤ wrap64 z ∧ wrap64 z ≤ 9223372036854775807 := by unfold wrap64; omega
set_option maxHeartbeats 1000000 in
theorem refStep_any (w : World) (G : Nat → Prop) (p : Nat) (d : Dk) (c : Nat) (h : RDiskAt w G p d c) (hc : c < 1000000) :
    Calls Tryd.prog 89 #[.pointer (some ⟨p, 0, none⟩)] w fun e w' => e = .returned (.bool (DiskMath.step d).2) ∧ RDiskAt w' G p (DiskMath.step d).1 (c + 1) ∧ Kept G w w' ∧ w'.heap.size = w.heap.size := by
  obtain ⟨hp, vf, vw, ar, lf, h⟩ := h
  obtain ⟨_, _, c2, c3, c4, f⟩ := h.cells
  have f3 := f 3
  have f4 := f 4
  obtain ⟨⟨hl0, hl1⟩, ha1, ha2⟩ := h.arm
  have hkp : ∀ (i : Nat) (u : Value) (w1 : World), Kept G w w1 → Kept G w (w1.setCell ⟨p, i, none⟩ u) := fun i u w1 hk => hk.setCell (p := ⟨p, i, none⟩) (.inl hp) u
  obtain ⟨fast, waits, armed, dead⟩ := d
  simp only at c4 ha1 ha2
  have HH := Lib.hid h
  have HKP := Lib.hid hkp
  have HC := Lib.hid hc
  clear h f hkp hc
  cases dead
  · rcases ha2 rfl with ⟨rfl, rfl⟩ | ⟨rfl, hz, ha⟩
    · have hs : DiskMath.step ⟨fast, waits, 0, false⟩ = (⟨fast, waits, 0, false⟩, true) := by unfold DiskMath.step; simp
      rw [hs]
      clear ha1 ha2 hl0 hl1
      go_enter Tryd.func89, Tryd.ntmps89
      go_wp2_with fail
      go_ret
      exact ⟨rfl, ⟨hp, vf, vw, false, _, HH.out.set3 _ _ rfl rfl rfl (c + 1) (by have := HC.out; omega) ⟨wrap64_bounds _, (fun h => by cases h), fun _ => .inl ⟨rfl, rfl⟩⟩⟩, HKP.out 3 _ w (Kept.refl _ _), by simp⟩
    · by_cases hl : lf = 0
      · subst hl
        have ha' : armed = 1 := by have := HC.out; omega
        subst ha'
        have hs : DiskMath.step ⟨fast, waits, 1, false⟩ = (⟨fast, waits, 0, true⟩, false) := by unfold DiskMath.step; simp
        rw [hs]
        clear ha1 ha2 hl0 hl1 ha hz
        go_enter Tryd.func89, Tryd.ntmps89
        go_wp2_with fail
        go_ret
        have h4 := HH.out.set4 true ⟨fast, waits, 0, true⟩ rfl rfl rfl (c + 1) (by have := HC.out; omega) ⟨⟨by decide, by decide⟩, fun _ => rfl, fun h => by cases h⟩
        exact ⟨rfl, ⟨hp, vf, vw, true, _, h4.set3 (-1) ⟨fast, waits, 0, true⟩ rfl rfl rfl (c + 1) (by have := HC.out; omega) ⟨⟨by decide, by decide⟩, fun _ => rfl, fun h => by cases h⟩⟩, HKP.out 3 _ _ (HKP.out 4 _ w (Kept.refl _ _)), by simp⟩
      · have hlp : 1 ≤ lf := by omega
        have hle : (lf == 0) = false := by rw [beq_eq_false_iff_ne]; exact hl
        have hs : DiskMath.step ⟨fast, waits, armed, false⟩ = (⟨fast, waits, armed - 1, false⟩, true) := by
          unfold DiskMath.step
          have h1 : 0 < armed := by omega
          have h2 : (armed == 1) = false := by rw [beq_eq_false_iff_ne]; have := HC.out; omega
          rw [if_pos h1]
          simp [h2]
        rw [hs]
        have HA := Lib.hid ha
        have HHL := Lib.hid (show _ ∧ _ from ⟨hl0, hl1⟩)
        clear ha1 ha2 ha hz hl
        go_enter Tryd.func89, Tryd.ntmps89
        go_wp2_with fail
        go_ret
        refine ⟨rfl, ⟨hp, vf, vw, true, lf - 1, HH.out.set3 (lf - 1) ⟨fast, waits, armed - 1, false⟩ rfl rfl rfl (c + 1) (by have := HC.out; omega) ⟨⟨by omega, by omega⟩, (fun h => by cases h), fun _ => .inr ⟨rfl, by omega, ?_⟩⟩⟩, HKP.out 3 _ w (Kept.refl _ _), by simp⟩
        have ha := HA.out
        rcases ha with ha | ⟨ha, hb⟩
        · left; show ((armed - 1 : Nat) : Int) = _; omega
        · right; refine ⟨?_, by omega⟩; show ((armed - 1 : Nat) : Int) = _; omega
  · obtain rfl : armed = 0 := ha1 rfl
    have hs : DiskMath.step ⟨fast, waits, 0, true⟩ = (⟨fast, waits, 0, true⟩, false) := by unfold DiskMath.step; simp
    rw [hs]
    clear ha1 ha2 hl0 hl1
    have fin : ∀ (w1 : World) (x : Int), RDiskB w1 G p vf vw ar lf ⟨fast, waits, 0, true⟩ (c + 1) → Kept G w w1 → w1.heap.size = w.heap.size → -9223372036854775808 ≤ x ∧ x ≤ 9223372036854775807 →
        RDiskAt (w1.setCell ⟨p, 3, none⟩ (.int .i64 x)) G p ⟨fast, waits, 0, true⟩ (c + 1) ∧ Kept G w (w1.setCell ⟨p, 3, none⟩ (.int .i64 x)) ∧ (w1.setCell ⟨p, 3, none⟩ (.int .i64 x)).heap.size = w.heap.size := fun w1 x h hk hs hb =>
      ⟨⟨hp, vf, vw, ar, _, h.set3 x _ rfl rfl rfl (c + 1) (by have := HC.out; omega) ⟨hb, fun _ => rfl, fun h => by cases h⟩⟩, HKP.out 3 _ w1 hk, by simpa using hs⟩
    have h0 : RDiskB w G p vf vw ar lf ⟨fast, waits, 0, true⟩ (c + 1) := by
      have h := HH.out
      exact ⟨h.blk, h.fast, h.waits, h.pos, h.max, h.sec, h.wsec, h.few, ⟨h.arm.1, fun _ => rfl, fun h => by cases h⟩, by have := HC.out; omega⟩
    have h4 := h0.set4 true ⟨fast, waits, 0, true⟩ rfl rfl rfl (c + 1) (by have := HC.out; omega) ⟨h0.arm.1, fun _ => rfl, fun h => by cases h⟩
    have H0 := Lib.hid h0
    have H4 := Lib.hid h4
    have FIN := Lib.hid fin
    clear fin h0 h4
    cases ar
    · go_enter Tryd.func89, Tryd.ntmps89
      go_wp2_with fail
      go_ret
      exact ⟨rfl, FIN.out w _ H0.out (Kept.refl _ _) rfl (wrap64_bounds _)⟩
    · by_cases hl : lf = 0
      · subst hl
        go_enter Tryd.func89, Tryd.ntmps89
        go_wp2_with fail
        go_ret
        exact ⟨rfl, FIN.out _ _ H4.out (HKP.out 4 _ w (Kept.refl _ _)) (by simp) ⟨by decide, by decide⟩⟩
      · have hle : (lf == 0) = false := by rw [beq_eq_false_iff_ne]; exact hl
        clear hl
        go_enter Tryd.func89, Tryd.ntmps89
        go_wp2_with fail
        go_ret
        exact ⟨rfl, FIN.out w _ H0.out (Kept.refl _ _) rfl (wrap64_bounds _)⟩
set_option maxHeartbeats 1000000 in
theorem refArm_any (w : World) (G : Nat → Prop) (p : Nat) (d : Dk) (c : Nat) (x : Int) (hx0 : -9223372036854775808 ≤ x) (hx1 : x ≤ 9223372036854775807) (h : RDiskAt w G p d c) :
    Calls Tryd.prog 25 #[.pointer (some ⟨p, 0, none⟩), .int .i64 x] w fun e w' => e = .returned (.int .i64 ((arm d x).2 : Nat)) ∧ RDiskAt w' G p (arm d x).1 c ∧ Kept G w w' ∧ w'.heap.size = w.heap.size := by
  obtain ⟨hp, vf, vw, ar, lf, h⟩ := h
  obtain ⟨_, _, c2, c3, c4, f⟩ := h.cells
  have f2 := f 2
  have f3 := f 3
  obtain ⟨fast, waits, armed, dead⟩ := d
  simp only at c4
  have HH := Lib.hid h
  clear h f
  go_enter Tryd.func25, Tryd.ntmps25
  by_cases hn : x < 0
  · have ha : arm ⟨fast, waits, armed, dead⟩ x = (⟨fast, waits, armed, dead⟩, 2) := by unfold arm; rw [if_pos hn]
    have HA := Lib.hid ha
    clear ha
    go_wp2_with fail
    go_ret
    rw [HA.out]
    exact ⟨rfl, ⟨hp, vf, vw, ar, lf, HH.out⟩, Kept.refl _ _, rfl⟩
  · cases dead
    · have ha : ∃ m : Nat, arm ⟨fast, waits, armed, false⟩ x = (⟨fast, waits, m, false⟩, 0) ∧ ((m : Int) = x + 1 ∨ ((m : Int) = x ∧ 9223372036854775807 ≤ x + c)) := by
        unfold arm
        rw [if_neg hn]
        by_cases hm : x = 9223372036854775807
        · exact ⟨9223372036854775807, by simp [hm], .inr ⟨by omega, by omega⟩⟩
        · exact ⟨(x + 1).toNat, by simp [hm], .inl (by omega)⟩
      obtain ⟨m, ha, hm⟩ := ha
      have HA := Lib.hid ha
      have HM := Lib.hid hm
      have HX := Lib.hid (show _ ∧ _ from ⟨hx0, hx1⟩)
      have hx2 : 0 ≤ x := by omega
      clear ha hm hn hx0
      go_wp2_with fail
      go_ret
      rw [HA.out]
      have hc := HH.out.cnt
      have h2 : RDiskB (w.setCell ⟨p, 2, none⟩ (.bool true)) G p vf vw true lf ⟨fast, waits, armed, true⟩ c → True := fun _ => trivial
      clear h2
      obtain ⟨r1, r2⟩ := HH.out.setP 2 (.bool true)
      have hb2 := set_block HH.out.blk 2 (.bool true)
      have hk : Kept (fun k => k = p) (w.setCell ⟨p, 2, none⟩ (.bool true)) ((w.setCell ⟨p, 2, none⟩ (.bool true)).setCell ⟨p, 3, none⟩ (.int .i64 x)) := (Kept.refl (fun k => k = p) _).setCell (p := ⟨p, 3, none⟩) (.inl rfl) _
      refine ⟨rfl, ⟨hp, vf, vw, true, x, set_block hb2 3 _, r1.other hk (NoT.of hb2 (by decide)) (NoT.of hb2 (by decide)), r2.other hk (NoT.of hb2 (by decide)) (NoT.of hb2 (by decide)), HH.out.pos, HH.out.max, HH.out.sec, HH.out.wsec, HH.out.few, ⟨HX.out, (fun h => by cases h), fun _ => .inr ⟨rfl, hx2, HM.out⟩⟩, hc⟩, ?_, by simp⟩
      exact ((Kept.refl G w).setCell (p := ⟨p, 2, none⟩) (.inl hp) _).setCell (p := ⟨p, 3, none⟩) (.inl hp) _
    · have ha : arm ⟨fast, waits, armed, true⟩ x = (⟨fast, waits, armed, true⟩, 7) := by unfold arm; rw [if_neg hn]; simp
      have HA := Lib.hid ha
      clear ha
      go_wp2_with fail
      go_ret
      rw [HA.out]
      exact ⟨rfl, ⟨hp, vf, vw, ar, lf, HH.out⟩, Kept.refl _ _, rfl⟩
def NowRel (w : World) (G : Nat → Prop) (d : Dk) (i : Nat) (b k : Value) : Prop := ∃ (j : Nat) (s : Sector), k = .int .i64 (j : Int) ∧ j ≤ d.waits.length ∧ (sets d.fast (d.waits.take j))[i]? = some s ∧ s.length = 64 ∧ Own8 w 0 b s ∧ ∀ g, b.ownBlock = some g → G g
set_option maxHeartbeats 1000000 in
theorem refNow_any (w : World) (G : Nat → Prop) (p : Nat) (d : Dk) (c i : Nat) (h : RDiskAt w G p d c) (hi : i < d.fast.length) :
    Calls Tryd.prog 31 #[.pointer (some ⟨p, 0, none⟩), .int .i64 (i : Int)] w fun e w' => ∃ v s, e = .returned v ∧ (view d)[i]? = some s ∧ s.length = 64 ∧ Own8 w' w.heap.size v s ∧ Below w.heap.size w w' := by
  obtain ⟨hp, vf, vw, ar, lf, h⟩ := h
  obtain ⟨c0, c1, _, _, _, _⟩ := h.cells
  obtain ⟨s0, hs0⟩ : ∃ s, d.fast[i]? = some s := ⟨_, List.getElem?_eq_getElem hi⟩
  have hs064 := h.sec s0 (List.mem_of_getElem? hs0)
  obtain ⟨gf, cf, u0, rfl, hcf, _, _, hcu0, hou0, hg0⟩ := h.fast.at_ hs0
  obtain ⟨A0, n0, c0', rfl, hn0, _, _⟩ := hou0.shape'
  obtain ⟨n, hn⟩ : ∃ n, d.fast.length = n := ⟨_, rfl⟩
  obtain ⟨Aw, cw, rfl, hcw⟩ := h.waits.shape
  obtain ⟨m, hm⟩ : ∃ m, d.waits.length = m := ⟨_, rfl⟩
  rw [hn] at c0 hi hcf
  rw [hm] at c1 hcw
  have hfew := h.few
  rw [hm] at hfew
  have hmax := h.max
  rw [hn] at hmax
  have hw := h.waits
  have hws := h.wsec
  rw [hm] at hw
  have HM := Lib.hid hm
  have HW := Lib.hid hw
  have HWS := Lib.hid hws
  have HREL := Lib.hid (show NowRel w G d i (.slice A0 n0 c0') (.int .i64 (0 : Nat)) from ⟨0, s0, rfl, Nat.zero_le _, by simpa [sets] using hs0, hs064, hou0, hg0⟩)
  have hi1 : (i : Int) < (n : Int) := by omega
  clear h hs0 hs064 hou0 hg0 hn hm hw hws hn0
  go_enter Tryd.func31, Tryd.ntmps31
  go_wp2_with fail
  go_loop [5, 6] (fun b k => NowRel w G d i b k) (fun _ k => m - (intOf k).toNat)
  case atStart => exact HREL.out
  case round =>
    clear HREL
    obtain ⟨j, s, rfl, hj, hs, hs64, hb, hbG⟩ := hrel
    obtain ⟨Ab, cb, rfl, hcb, hcbm⟩ := hb.shape
    rw [hs64] at hb hbG ⊢
    rw [HM.out] at hj
    have HS := Lib.hid hs
    have HS64 := Lib.hid hs64
    have HB := Lib.hid hb
    have HBG := Lib.hid hbG
    clear hs hs64 hb hbG
    by_cases hlt : j < m
    · obtain ⟨⟨a, x⟩, hx⟩ : ∃ x, d.waits[j]? = some x := ⟨_, List.getElem?_eq_getElem (by have := HM.out; omega)⟩
      obtain ⟨gw, cw', u, hv, _, _, _, hca, hcx, hou, hGu⟩ := HW.out.at_ hx
      obtain ⟨Au, nu, cu, rfl, hnu, _, _⟩ := hou.shape'
      have hxs := HWS.out (a, x) (List.mem_of_getElem? hx)
      injection hv with e1 e2 e3
      subst e1
      have hsn : sets d.fast (d.waits.take (j + 1)) = (sets d.fast (d.waits.take j)).set a x := by
        rw [List.take_add_one, hx]
        exact sets_snoc _ _ _
      have HX := Lib.hid hx
      have HSN := Lib.hid hsn
      have HOU := Lib.hid hou
      have HGU := Lib.hid hGu
      have HXS := Lib.hid hxs
      simp only at hca hcx
      clear hx hsn hou hGu hxs e2 e3 hnu
      by_cases hai : a = i
      · subst hai
        go_wp2_with fail
        go_round
        case rel =>
          refine ⟨j + 1, x, by go_num, by have := HM.out; omega, ?_, HXS.out.2, HOU.out, HGU.out⟩
          rw [HSN.out, List.getElem?_set, if_pos rfl, if_pos]
          have := (List.getElem?_eq_some_iff.1 HS.out).1
          exact this
        case measure => simp [intOf]; omega
      · have hne : ((a : Int) == (i : Int)) = false := by rw [beq_eq_false_iff_ne]; omega
        clear hai
        go_wp2_with fail
        go_round
        case rel =>
          refine ⟨j + 1, s, by go_num, by have := HM.out; omega, ?_, HS64.out, HB.out, HBG.out⟩
          rw [HSN.out, List.getElem?_set, if_neg (by rw [beq_eq_false_iff_ne] at hne; omega)]
          exact HS.out
        case measure => simp [intOf]; omega
    · have hjm : j = m := by omega
      have hv : (view d)[i]? = some s := by
        have h := HS.out
        rw [List.take_of_length_le (by have := HM.out; omega)] at h
        exact h
      have HV := Lib.hid hv
      have hcp := copy_any Ab cb s w (by rw [HS64.out]; decide) HB.out.bs
      rw [HS64.out] at hcp
      have HCP := Lib.hid hcp
      clear hv hcp
      go_wp2_with fail
      refine HCP.out.mono ?_
      rintro e w' ⟨v, rfl, ho, hb⟩
      have HO := Lib.hid ho
      have HBB := Lib.hid hb
      clear ho hb
      go_wp2_with fail
      go_ret
      exact ⟨v, s, rfl, HV.out, HS64.out, by unfold Own8; rw [HS64.out]; exact HO.out, HBB.out⟩
theorem view_at {d : Dk} {i : Nat} {s t : Sector} (h : (view d)[i]? = some s) (h' : (view d)[i]? = some t) : s = t := by rw [h] at h'; exact Option.some.inj h'
end Go.Proofs.YtckihiiimomgfaaDoor
