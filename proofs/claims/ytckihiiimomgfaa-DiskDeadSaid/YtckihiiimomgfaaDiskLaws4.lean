/- The walk of the statement that without power nothing is done: DiskDead. -/
import Derived.Test.YtckihiiimomgfaaDiskLaws2
namespace Go.Proofs.Ytckihiiimomgfaa
open Go.RowKit DiskMath
def DeadRel (W : World) (G : Nat → Prop) (p : Nat) (d : Dk) (v i : Value) (wr : World) : Prop := ∃ (k : Nat) (F : Nat → Prop), i = .int .i64 (k : Int) ∧ k ≤ 20 ∧ Was W wr F G p d v (view d)
theorem write_dead {d : Dk} {i : Nat} {b : Sector} (hi : i < d.fast.length) (hb : b.length = 64) (ha : d.armed = 0) (hd : d.dead = true) : write d i b = (d, 7) := by
  have hs : DiskMath.step d = (d, false) := by unfold DiskMath.step; rw [if_neg (by omega), hd]; rfl
  unfold write
  rw [if_pos ⟨by omega, by omega, hb⟩, hs]
  simp
theorem flush_dead {d : Dk} (ha : d.armed = 0) (hd : d.dead = true) : flush d = (d, 7) := by
  have hs : DiskMath.step d = (d, false) := by unfold DiskMath.step; rw [if_neg (by omega), hd]; rfl
  unfold flush
  rw [hs]
  rfl
set_option maxRecDepth 100000 in
set_option maxHeartbeats 4000000 in
theorem diskDead_walk (A : Option Addr) (c : Nat) (ds : List D7) (A1 : Option Addr) (c1 : Nat) (es : List D7) (x : Int) (w : World) (hc : ds.length ≤ c) (hm : c ≤ maxLen) (hr : D7s w A ds) (_hc1 : es.length ≤ c1) (hm1 : c1 ≤ maxLen) (hr1 : D7s w A1 es) (hx0 : -9223372036854775808 ≤ x) (hx1 : x ≤ 9223372036854775807) :
    Calls Try.prog 6 #[.slice A ds.length c, .slice A1 es.length c1, .int .i64 x] w fun e w' => e = .returned (.bool true) ∧ Below w.heap.size w w' := by
  have HPL := Lib.hid (played_any A c ds w hc hm hr)
  have HR1 := Lib.hid hr1
  obtain ⟨n1, hn1⟩ : ∃ n, es.length = n := ⟨_, rfl⟩
  rw [hn1] at _hc1 ⊢
  have HN1 := Lib.hid hn1
  have hcm1 : c1 ≤ 9223372036854775807 := by unfold maxLen at hm1; omega
  have HX := Lib.hid (show _ ∧ _ from ⟨hx0, hx1⟩)
  clear hc hm hr hr1 hn1 hm1 hx0 hx1
  go_enter Try.func6, Try.ntmps6
  go_wp2_with fail
  refine HPL.out.mono ?_
  rintro e w1 ⟨p, d, F, rfl, ho, hw⟩
  have HO := Lib.hid ho
  clear ho
  have har : arm d 0 = ({ d with armed := 1 }, 0) := by unfold arm; rw [if_neg (by decide), HO.out.dead]; rfl
  go_wp2_with fail
  refine (diskArm_any w1 F p d 0 (by decide) (by decide) HO.out.disk).mono ?_
  rintro e w2a ⟨rfl, hd2a, hk2a, _⟩
  rw [har] at hd2a ⊢
  go_wp2_with fail
  have hfl : flush { d with armed := 1 } = ({ d with armed := 0, dead := true }, 7) := by
    unfold flush DiskMath.step
    simp
  refine (diskFlush_any w2a F p { d with armed := 1 } hd2a).mono ?_
  rintro e w2 ⟨rfl, hd2, hk2⟩
  rw [hfl] at hd2 ⊢
  have hk2 := hk2a.trans hk2 (fun k hk => .inl hk)
  have hs2 := hk2.size
  obtain ⟨d2, hd2e⟩ : ∃ d2 : Dk, ({ d with armed := 0, dead := true } : Dk) = d2 := ⟨_, rfl⟩
  have h20 : d2.fast.length = 8 ∧ d2.armed = 0 ∧ d2.dead = true ∧ d2.waits.length ≤ 30 := by
    rw [← hd2e]; exact ⟨HO.out.len, rfl, rfl, hw⟩
  rw [hd2e] at hd2
  have HW := Lib.hid (show Was w w2 F (fun _ => False) p d2 (.slice none 0 0) ((view d2).take 0) from ⟨hd2, fun k hk => ⟨(HO.out.own k hk).1, by have := (HO.out.own k hk).2; omega⟩, Rows8.nil _ _, fun _ h => h.elim, HO.out.bel.trans (hk2.below (B := w.heap.size) (fun k _ hf => (HO.out.own k hf).1) HO.out.bel.size)⟩)
  have H20 := Lib.hid h20
  clear hd2 hk2 hk2a hd2a har hfl hd2e h20 hs2 hw HO
  have hpw := diskPower_any w2 F p d2 HW.out.disk
  rw [H20.out.2.2.1] at hpw
  have HPW := Lib.hid hpw
  clear hpw
  go_wp2_with fail
  refine HPW.out.mono ?_
  rintro e w' ⟨rfl, rfl⟩
  clear HPW
  go_wp2_with fail
  go_loopw [8, 9] (fun v i wr => WasRel w F p d2 v i wr) (fun _ i _ => 8 - (intOf i).toNat)
  case atStart => exact ⟨0, _, rfl, by decide, HW.out⟩
  case round =>
    clear HW
    obtain ⟨k, G, rfl, hk8, hw⟩ := hrel
    obtain ⟨wo, rfl⟩ : ∃ wo : World, wo = wr := ⟨_, rfl⟩
    obtain ⟨A6, c6, rfl, _⟩ := hw.rows.shape
    obtain ⟨Lk, hLk⟩ : ∃ Lk, (view d2).take k = Lk := ⟨_, rfl⟩
    rw [hLk] at hw ⊢
    obtain ⟨n6, hn6⟩ : ∃ n6, Lk.length = n6 := ⟨_, rfl⟩
    rw [hn6] at hw ⊢
    have hls : Lk.length ≤ 1000000 := by rw [← hLk, List.length_take]; omega
    have HW := Lib.hid hw
    have HLK := Lib.hid hLk
    clear hw hLk hn6
    by_cases hlt : k < 8
    · go_wp2_with fail
      refine (diskRead_yes wo F p d2 k HW.out.disk (by rw [H20.out.1]; exact hlt)).mono ?_
      rintro e w3 ⟨v3, s, rfl, hs, hs64, ho3, hb3⟩
      obtain ⟨A3, c3, rfl, _⟩ := own_shape ho3
      have ho3' : Own8 w3 wo.heap.size (.slice A3 64 c3) s := by unfold Own8; rw [hs64]; exact ho3
      have HO3 := Lib.hid ho3'
      have HB3 := Lib.hid hb3
      have HS := Lib.hid hs
      have hG3 : ∀ g, (Value.slice A3 64 c3).ownBlock = some g → G g ∨ (wo.heap.size ≤ g ∧ g < w3.heap.size) := fun g hg => .inr (ho3'.lt g hg)
      have HG3 := Lib.hid hG3
      clear hs hs64 ho3 ho3' hb3 hG3
      go_wp2_with (at_builtin; refine wpList_pushR rfl (.tmp 46) (.tmp 48) rfl (fun x => G x ∨ (wo.heap.size ≤ x ∧ x < w3.heap.size)) (.slice A6 n6 c6) (.slice A3 64 c3) Lk s rfl ((HW.out.rows.below HB3.out).mono (fun _ h => .inl h)) rfl rfl (HO3.out.base (Nat.zero_le _)) HG3.out hls ?_; intro v4 w4 hr4 hk4 hv4; have HR4 := Lib.hid hr4; have HK4 := Lib.hid hk4; clear hr4 hk4 hv4)
      go_roundw
      case rel => exact ⟨k + 1, _, by go_num, by omega, by rw [take_snoc' HS.out, HLK.out]; exact HW.out.push HB3.out HR4.out HK4.out⟩
      case measure => simp [intOf]; omega
    · have hk : k = 8 := by omega
      have hall : Lk = view d2 := by rw [← HLK.out]; exact List.take_of_length_le (by rw [view_length, H20.out.1]; omega)
      have hw8 := HW.out
      rw [hall] at hw8
      have HW8 := Lib.hid hw8
      clear HW hw8 hall hk hls
      go_wp2_with fail
      refine (diskWaits_any wo F p d2 HW8.out.disk).mono ?_
      rintro e w3 ⟨rfl, rfl⟩
      obtain ⟨nw, hnw⟩ : ∃ nw, d2.waits.length = nw := ⟨_, rfl⟩
      rw [hnw]
      have HNW := Lib.hid hnw
      clear hnw
      go_wp2_with fail
      go_loopw [13] (fun i wr => DeadRel w G p d2 (.slice A6 n6 c6) i wr) (fun i _ => 20 - (intOf i).toNat)
      case atStart => exact ⟨0, F, rfl, by decide, HW8.out⟩
      case round =>
        clear HW8
        obtain ⟨j, F2, rfl, hj, hw⟩ := hrel
        obtain ⟨wy, rfl⟩ : ∃ wy : World, wy = wr := ⟨_, rfl⟩
        have HW := Lib.hid hw
        by_cases hgo : j < n1 ∧ j < 20
        · obtain ⟨hlt, h20⟩ := hgo
          obtain ⟨z, hz⟩ : ∃ z, es[j]? = some z := ⟨_, List.getElem?_eq_getElem (by have := HN1.out; omega)⟩
          obtain ⟨ad, Ab, cb, Al, cl, rfl, hadw, hda, _⟩ := HR1.out.at_ hw.bel hz
          obtain ⟨dk, di, dn, db, dw, dl⟩ := z
          have hsz := hw.bel.size
          have hk0 : ∀ w', Kept F2 wy w' → w'.cell? (ad.add (j * 6)) = some (.int .i64 dk) := fun w' hk => by
            have hn : ¬ F2 ad.block := fun h => by have := (HW.out.ownF _ h).1; omega
            exact (hk.cell (by rw [addr_block]; omega) (by rw [addr_block]; exact hn)).trans hda.c0
          have c0 := hda.c0
          have c1' := hda.c1
          have c3 := hda.c3
          simp only at c0 c1' c3
          rw [addr_fld _ _ 1 (by decide)] at c1'
          rw [addr_fld _ _ 3 (by decide)] at c3
          obtain ⟨iw, hiw, hiw7⟩ : ∃ iw : Nat, max 0 (min di 7) = (iw : Int) ∧ iw < 8 := ⟨(max 0 (min di 7)).toNat, by omega, by omega⟩
          have hwi := within_any di 0 7 wy (by decide)
          simp only [hiw] at hwi
          have HWI := Lib.hid hwi
          have HK0 := Lib.hid hk0
          have HDA := Lib.hid hda
          clear hw hz hda hk0 hiw hwi
          by_cases h0 : dk = 0
          · subst h0
            go_wp2_with fail
            refine HWI.out.mono ?_
            rintro e w' ⟨rfl, rfl⟩
            go_wp2_with fail
            refine (refSector_any Ab cb db _ HDA.out.hb.1 HDA.out.hb.2.1 HDA.out.hb.2.2).mono ?_
            rintro e w4 ⟨v4, rfl, ho4, hb4⟩
            have HO4 := Lib.hid ho4
            have HW4 := Lib.hid (HW.out.below hb4)
            have hs4 := hb4.size
            have hk4 : Kept F2 wy w4 := Kept.of_below hb4
            clear ho4 hb4
            go_wp2_with fail
            have hwr := write_dead (d := d2) (i := iw) (b := secOf db) (by rw [H20.out.1]; exact hiw7) (secOf_length _) H20.out.2.1 H20.out.2.2.1
            refine (diskWrite_own w4 F2 p _ d2 iw v4 (secOf db) HW4.out.disk (by rw [H20.out.1]; exact hiw7) (secOf_length _) HO4.out (fun g hg h => by have h1 := (HO4.out.lt g hg).1; have h2 := (HW.out.ownF g h).2; omega) (by have := H20.out.2.2.2; omega)).mono ?_
            rintro e w5 ⟨rfl, hd5, hk5⟩
            rw [hwr] at hd5 ⊢
            have HW5 := Lib.hid (HW4.out.step hk5 hd5 (fun k h => h))
            have c05 := HK0.out w5 (hk4.trans hk5 (fun k hk => .inl hk))
            clear hd5 hk5 hk4 hwr c0 c1' c3
            go_wp2_with fail
            go_roundw
            case rel => exact ⟨j + 1, _, by go_num, by omega, HW5.out⟩
            case measure => simp [intOf]; omega
          · have e0 : (dk == 0) = false := beq_eq_false_iff_ne.2 h0
            clear h0
            by_cases h1 : dk = 1
            · subst h1
              go_wp2_with fail
              refine HWI.out.mono ?_
              rintro e w' ⟨rfl, rfl⟩
              go_wp2_with fail
              have hwr := flush_dead H20.out.2.1 H20.out.2.2.1
              refine (diskFlush_any _ F2 p d2 HW.out.disk).mono ?_
              rintro e w5 ⟨rfl, hd5, hk5⟩
              rw [hwr] at hd5 ⊢
              have HW5 := Lib.hid (HW.out.step hk5 hd5 (fun k h => .inl h))
              clear hd5 hk5 hwr c0 c1' c3
              go_wp2_with fail
              go_roundw
              case rel => exact ⟨j + 1, _, by go_num, by omega, HW5.out⟩
              case measure => simp [intOf]; omega
            · have e1 : (dk == 1) = false := beq_eq_false_iff_ne.2 h1
              clear h1
              go_wp2_with fail
              refine HWI.out.mono ?_
              rintro e w' ⟨rfl, rfl⟩
              go_wp2_with fail
              go_roundw
              case rel => exact ⟨j + 1, _, by go_num, by omega, HW.out⟩
              case measure => simp [intOf]; omega
        · have hx : ¬ j < n1 ∨ (j < n1 ∧ ¬ j < 20) := by omega
          clear hgo hw
          rcases hx with hx | ⟨hx, hy⟩
          all_goals
            go_wp2_with fail
            go_loopw [15] (fun i wr => FastRel w F2 G p d2 (.slice A6 n6 c6) i wr) (fun i _ => 8 - (intOf i).toNat)
            case atStart => exact ⟨0, rfl, by decide, HW.out⟩
            case round =>
              clear HW
              obtain ⟨k2, rfl, hk28, hw⟩ := hrel
              obtain ⟨wz, rfl⟩ : ∃ wz : World, wz = wr := ⟨_, rfl⟩
              have HW := Lib.hid hw
              clear hw
              by_cases hlt2 : k2 < 8
              · go_wp2_with fail
                refine (diskRead_yes wz _ p d2 k2 HW.out.disk (by rw [H20.out.1]; exact hlt2)).mono ?_
                rintro e w5 ⟨v5, s, rfl, hs, hs64, ho5, hb5⟩
                obtain ⟨A5, c5, rfl, _⟩ := own_shape ho5
                have ho5' : Own8 w5 wz.heap.size (.slice A5 64 c5) s := by unfold Own8; rw [hs64]; exact ho5
                have hw5 := HW.out.below hb5
                obtain ⟨g6, c6', u, hv6, _, hg6, _, hcu, hou, _⟩ := hw5.rows.at_ hs
                obtain ⟨Au, cu, rfl, _⟩ := hou.shape
                injection hv6 with e1 e2 e3
                subst e1
                have hn6 : n6 = 8 := by rw [e2, view_length]; exact H20.out.1
                clear e2 e3
                rw [hs64] at hcu hou
                have hsm := same_at A5 Au c5 cu 64 64 s s w5 hs64 hs64 (by decide) (by decide) ho5'.bs hou.bs
                rw [sameB_self] at hsm
                have HSM := Lib.hid hsm
                have HW5 := Lib.hid hw5
                have hk6 : k2 < n6 := by omega
                have hk6i : (k2 : Int) < (n6 : Int) := by omega
                clear hs hs64 ho5 ho5' hb5 hw5 hou hsm hn6
                go_wp2_with fail
                refine HSM.out.mono ?_
                rintro e w7 ⟨rfl, hb7⟩
                have HW7 := Lib.hid (HW5.out.below hb7)
                clear hb7 HSM
                go_wp2_with fail
                go_roundw
                case rel => exact ⟨k2 + 1, by go_num, by omega, HW7.out⟩
                case measure => simp [intOf]; omega
              · have hcw := diskWaits_any wz _ p d2 HW.out.disk
                rw [HNW.out] at hcw
                have HCW := Lib.hid hcw
                clear hcw
                go_wp2_with fail
                refine HCW.out.mono ?_
                rintro e w8 ⟨rfl, rfl⟩
                clear HCW
                obtain ⟨hx0, hx1⟩ := HX.out
                by_cases hxn : x < 0
                · go_wp2_with fail
                  refine (diskCrash_any wz _ p d2 none 0 [] HW.out.disk (Nat.le_refl 0) (by decide) (fun j z hj => by simp at hj) (fun ad he => by cases he)).mono ?_
                  rintro e w9 ⟨rfl, hd9, hk9⟩
                  have HW9 := Lib.hid (HW.out.step hk9 hd9 (fun k h => .inl h))
                  have hpw := diskPower_any w9 _ p _ HW9.out.disk
                  have hp : (!(crash d2 []).dead) = true := rfl
                  rw [hp] at hpw
                  have HPW := Lib.hid hpw
                  have hfl := flush_ok (d := crash d2 []) rfl rfl
                  have HFL := Lib.hid hfl
                  clear hd9 hk9 hpw hp hfl
                  go_wp2_with fail
                  refine HPW.out.mono ?_
                  rintro e w' ⟨rfl, rfl⟩
                  clear HPW
                  go_wp2_with fail
                  refine (diskFlush_any w9 _ p _ HW9.out.disk).mono ?_
                  rintro e w10 ⟨rfl, hd10, hk10⟩
                  rw [HFL.out] at hd10 ⊢
                  have HW10 := Lib.hid (HW9.out.step hk10 hd10 (fun k h => .inl h))
                  clear hd10 hk10
                  go_wp2_with fail
                  refine (diskLives_any _).mono ?_
                  rintro e w11 ⟨rfl, hb11⟩
                  have HB11 := Lib.hid (HW10.out.bel.trans (hb11.mono HW10.out.bel.size))
                  clear hb11
                  go_wp2_with fail
                  go_ret
                  exact ⟨rfl, HB11.out⟩
                · have hnn : 0 ≤ x := by omega
                  have har : arm d2 x = (d2, 7) := by unfold arm; rw [if_neg (by omega), H20.out.2.2.1]; rfl
                  have HAR := Lib.hid har
                  clear har hxn
                  go_wp2_with fail
                  refine (diskArm_any wz _ p d2 x hx0 hx1 HW.out.disk).mono ?_
                  rintro e wa ⟨rfl, hda, hka, _⟩
                  rw [HAR.out] at hda ⊢
                  have HWA := Lib.hid (HW.out.step hka hda (fun k h => .inl h))
                  clear hda hka
                  go_wp2_with fail
                  refine (diskCrash_any wa _ p d2 none 0 [] HWA.out.disk (Nat.le_refl 0) (by decide) (fun j z hj => by simp at hj) (fun ad he => by cases he)).mono ?_
                  rintro e w9 ⟨rfl, hd9, hk9⟩
                  have HW9 := Lib.hid (HWA.out.step hk9 hd9 (fun k h => .inl h))
                  have hpw := diskPower_any w9 _ p _ HW9.out.disk
                  have hp : (!(crash d2 []).dead) = true := rfl
                  rw [hp] at hpw
                  have HPW := Lib.hid hpw
                  have hfl := flush_ok (d := crash d2 []) rfl rfl
                  have HFL := Lib.hid hfl
                  clear hd9 hk9 hpw hp hfl
                  go_wp2_with fail
                  refine HPW.out.mono ?_
                  rintro e w' ⟨rfl, rfl⟩
                  clear HPW
                  go_wp2_with fail
                  refine (diskFlush_any w9 _ p _ HW9.out.disk).mono ?_
                  rintro e w10 ⟨rfl, hd10, hk10⟩
                  rw [HFL.out] at hd10 ⊢
                  have HW10 := Lib.hid (HW9.out.step hk10 hd10 (fun k h => .inl h))
                  clear hd10 hk10
                  go_wp2_with fail
                  refine (diskLives_any _).mono ?_
                  rintro e w11 ⟨rfl, hb11⟩
                  have HB11 := Lib.hid (HW10.out.bel.trans (hb11.mono HW10.out.bel.size))
                  clear hb11
                  go_wp2_with fail
                  go_ret
                  exact ⟨rfl, HB11.out⟩
end Go.Proofs.Ytckihiiimomgfaa
