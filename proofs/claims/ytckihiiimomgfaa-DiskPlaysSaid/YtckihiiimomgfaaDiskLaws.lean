/- The walks that the disk's statements share: lives, played. -/
import Derived.Test.YtckihiiimomgfaaSec
import Derived.Test.YtckihiiimomgfaaOpenDo7
import Derived.Test.YtckihiiimomgfaaTakeS
namespace Go.Proofs.Ytckihiiimomgfaa
open Go.RowKit DiskMath
theorem write_ok {d : Dk} {i : Nat} {b : Sector} (hi : i < d.fast.length) (hb : b.length = 64) (ha : d.armed = 0) (hd : d.dead = false) : write d i b = ({ d with waits := d.waits ++ [(i, b)] }, 0) := by
  have hs : DiskMath.step d = (d, true) := by unfold DiskMath.step; rw [if_neg (by omega), hd]; rfl
  unfold write
  rw [if_pos ⟨by omega, by omega, hb⟩, hs]
  simp
theorem flush_ok {d : Dk} (ha : d.armed = 0) (hd : d.dead = false) : flush d = ({ d with fast := view d, waits := [] }, 0) := by
  have hs : DiskMath.step d = (d, true) := by unfold DiskMath.step; rw [if_neg (by omega), hd]; rfl
  unfold flush
  rw [hs]
  rfl
def sec7 : List UInt8 := secOf [7]
set_option maxHeartbeats 1000000 in
theorem diskLives_any (w : World) : Calls Try.prog 17 #[] w fun e w' => e = .returned (.bool true) ∧ Below w.heap.size w w' := by
  go_enter Try.func17, Try.ntmps17
  go_wp2_with fail
  refine (diskNew_yes 1 w (by decide) (by decide)).mono ?_
  rintro e w1 ⟨rfl, hd1, hb1⟩
  have HD1 := Lib.hid hd1.lt
  have HB1 := Lib.hid hb1
  have hs1 := hb1.size
  clear hd1 hb1
  go_wp2_with fail
  refine (refSector_any (some ⟨w1.heap.size, 0, none⟩) 1 [7] _ (by decide) (by decide) (Bs.lit w1 [7] _ _ _ rfl)).mono ?_
  rintro e w2 ⟨v2, rfl, ho2, hb2⟩
  have HO2 := Lib.hid ho2
  have hb12 : Below w1.heap.size w1 w2 := (below_alloc w1 _).trans (hb2.mono (by simp))
  have HB2 := Lib.hid hb12
  have hs2 := hb12.size
  clear ho2 hb2 hb12
  go_wp2_with fail
  have hwr : write (DiskMath.new 1) (0 : Nat) (secOf [7]) = ({ DiskMath.new 1 with waits := [(0, secOf [7])] }, 0) := write_ok (by decide) (secOf_length _) rfl rfl
  refine (diskWrite_own w2 _ (w.heap.size + 2) _ (DiskMath.new 1) 0 v2 (secOf [7]) (HD1.out.below HB2.out) (by decide) (secOf_length _) HO2.out (fun g hg h => by have := (HO2.out.lt g hg).1; simp at this; omega) (by decide)).mono ?_
  rintro e w3 ⟨rfl, hd3, hk3⟩
  rw [hwr] at hd3 ⊢
  have HD3 := Lib.hid hd3
  have HK3 := Lib.hid hk3
  have hs3 := hk3.size
  clear hd3 hk3 hwr
  go_wp2_with fail
  refine (diskRead_yes w3 _ (w.heap.size + 2) _ 0 HD3.out (by decide)).mono ?_
  rintro e w4 ⟨v4, s, rfl, hs, hs64, ho4, hb4⟩
  obtain rfl : s = sec7 := by
    have : (DiskMath.view { DiskMath.new 1 with waits := [(0, secOf [7])] })[0]? = some sec7 := rfl
    rw [this] at hs
    exact (Option.some.inj hs).symm
  rcases ho4.2 with ⟨_, h0⟩ | ⟨g, cap, cur, rfl, hbg, hg, hn, _⟩
  · omega
  have hc0 : w4.cell? ⟨g, 0, none⟩ = some (.int .u8 7) := by
    have := ho4.cells (g := g) rfl 0 (.int .u8 7) rfl
    rw [Addr.add_lit] at this
    exact this
  have HB4 := Lib.hid hb4
  clear ho4 hg hs hs64
  go_wp2_with fail
  go_ret
  refine ⟨rfl, ?_⟩
  have k1 := below_then HB1.out HB2.out
  have k2 := k1.trans (HK3.out.below (B := w.heap.size) (fun k _ hk => hk.1) (by omega))
  exact below_then k2 HB4.out
theorem write_wf {d : Dk} {i : Nat} {b : Sector} : (write d i b).1.fast.length = d.fast.length ∧ (write d i b).1.waits.length ≤ d.waits.length + 1 := by
  unfold write
  split
  · split
    · exact ⟨congrArg List.length (step_fst d).1, by simp⟩
    · exact ⟨congrArg List.length (step_fst d).1, by rw [(step_fst d).2.1]; omega⟩
  · exact ⟨rfl, Nat.le_succ _⟩
theorem flush_len (d : Dk) : (flush d).1.fast.length = d.fast.length ∧ (flush d).1.waits.length ≤ d.waits.length := by
  unfold flush
  split
  · exact ⟨view_length d, by simp⟩
  · exact ⟨congrArg List.length (step_fst d).1, by rw [(step_fst d).2.1]; exact Nat.le_refl _⟩
theorem crash_len (d : Dk) (l : List Int) : (crash d l).fast.length = d.fast.length ∧ (crash d l).waits = [] ∧ (crash d l).armed = 0 ∧ (crash d l).dead = false := ⟨torn_length _ _ _, rfl, rfl, rfl⟩
/-- a disk of the call's own, quiet -/
structure Own8D (W w : World) (F : Nat → Prop) (p : Nat) (d : Dk) : Prop where
  disk : DiskAt w F p d
  len : d.fast.length = 8
  armed : d.armed = 0
  dead : d.dead = false
  own : ∀ k, F k → W.heap.size ≤ k ∧ k < w.heap.size
  bel : Below W.heap.size W w
def PdRel (W : World) (p : Nat) (i : Value) (wr : World) : Prop := ∃ (k : Nat) (F : Nat → Prop) (d : Dk), i = .int .i64 (k : Int) ∧ k ≤ 30 ∧ Own8D W wr F p d ∧ d.waits.length ≤ k
set_option maxHeartbeats 2000000 in
theorem played_any (A : Option Addr) (c : Nat) (ds : List D7) (w : World) (_hc : ds.length ≤ c) (hm : c ≤ maxLen) (hr : D7s w A ds) :
    Calls Try.prog 8 #[.slice A ds.length c] w fun e w' => ∃ p d F, e = .returned (.pointer (some ⟨p, 0, none⟩)) ∧ Own8D w w' F p d ∧ d.waits.length ≤ 30 := by
  have hcm : c ≤ 9223372036854775807 := by unfold maxLen at hm; omega
  obtain ⟨N, hN⟩ : ∃ N, ds.length = N := ⟨_, rfl⟩
  rw [hN] at _hc ⊢
  have HN := Lib.hid hN
  clear hN hm
  go_enter Try.func8, Try.ntmps8
  go_wp2_with fail
  refine (diskNew_yes 8 w (by decide) (by decide)).mono ?_
  rintro e w1 ⟨rfl, hd1, hb1⟩
  have HD1 := Lib.hid (show Own8D w w1 _ (w.heap.size + 2) (DiskMath.new 8) from ⟨hd1.lt, rfl, rfl, rfl, fun k hk => hk, hb1⟩)
  clear hd1 hb1
  go_wp2_with fail
  go_loopw [5] (fun i wr => PdRel w (w.heap.size + 2) i wr) (fun i _ => 30 - (intOf i).toNat)
  case atStart => exact ⟨0, _, _, rfl, by decide, HD1.out, Nat.zero_le _⟩
  case round =>
    clear HD1
    obtain ⟨j, F, d, rfl, hj, ho, hw⟩ := hrel
    obtain ⟨wo, rfl⟩ : ∃ wo : World, wo = wr := ⟨_, rfl⟩
    by_cases hgo : j < N ∧ j < 30
    · obtain ⟨hlt, h30⟩ := hgo
      obtain ⟨x, hx⟩ : ∃ x, ds[j]? = some x := ⟨_, List.getElem?_eq_getElem (by have := HN.out; omega)⟩
      obtain ⟨ad, Ab, cb, Al, cl, rfl, hadw, hda, halw⟩ := hr.at_ ho.bel hx
      obtain ⟨dk, di, dn, db, dw, dl⟩ := x
      have HO := Lib.hid ho
      have c0 := hda.c0
      have hob : di ≤ 9223372036854775807 := hda.hi.2
      have HDA := Lib.hid hda
      have hsz := ho.bel.size
      have HAL := Lib.hid (show Ns w Al dl from halw)
      clear ho hda hx halw
      simp only at c0
      by_cases h0 : dk = 0
      · subst h0
        have c1 := HDA.out.c1
        have c3 := HDA.out.c3
        simp only at c1 c3
        rw [addr_fld _ _ 1 (by decide)] at c1
        rw [addr_fld _ _ 3 (by decide)] at c3
        go_wp2_with fail
        have HK0 := Lib.hid (show ∀ w', Kept F wo w' → w'.cell? ⟨(ad.add (j * 6)).block, (ad.add (j * 6)).off + 1, none⟩ = some (.int .i64 di) ∧ w'.cell? ⟨(ad.add (j * 6)).block, (ad.add (j * 6)).off + 3, none⟩ = some (.slice Ab db.length cb) from fun w' hk => by
          have hn : ¬ F ad.block := fun h => by have := (HO.out.own _ h).1; omega
          exact ⟨(hk.cell (by rw [addr_block]; omega) (by rw [addr_block]; exact hn)).trans c1, (hk.cell (by rw [addr_block]; omega) (by rw [addr_block]; exact hn)).trans c3⟩)
        clear c1 c3
        obtain ⟨iw, hiw, hiw7⟩ : ∃ iw : Nat, max 0 (min di 7) = (iw : Int) ∧ iw < 8 := ⟨(max 0 (min di 7)).toNat, by omega, by omega⟩
        have hwi := fun w' : World => within_any di 0 7 w' (by decide)
        simp only [hiw] at hwi
        have HWI := Lib.hid hwi
        clear hiw hwi
        refine wp_region_takeS [0, 1, 2, 3, 4, 5, 7, 8, 9, 10, 11] [6, 12, 13] 14 (fun w' => w'.cell? ⟨(ad.add (j * 6)).block, (ad.add (j * 6)).off + 1, none⟩ = some (.int .i64 di) ∧ w'.cell? ⟨(ad.add (j * 6)).block, (ad.add (j * 6)).off + 3, none⟩ = some (.slice Ab db.length cb)) (by kernel_rfl) (by kernel_rfl) (by rintro _ ⟨_, _⟩ ⟨_, _⟩ _ rfl h; exact h) (HK0.out _ (Kept.drew (Kept.refl F wo))) ?_
        simp only [pick, List.getElem?_cons_succ, List.getElem?_cons_zero]
        iterate 11 (refine wpHeadI_step (v := ?_) (Or.inl ⟨by rfl, ?_⟩) ?_; rotate_left; · intro w' hSw; obtain ⟨s1, s2⟩ := hSw; go_simp; (try with_reducible rfl))
        refine wpHeadI_nil ?_
        simp only [Act.put, List.setIfInBounds_toArray, List.set_cons_zero, List.set_cons_succ]
        refine wpTailI_op (by decide) rfl fun K hK => ?_
        go_simp
        refine (HWI.out _).mono ?_
        rintro e w2 ⟨rfl, rfl⟩
        refine hK.out _ _ (HK0.out _ (Kept.refl F wo).drew) ?_
        clear hK K HWI
        try simp only [Act.put, List.setIfInBounds_toArray, List.set_cons_zero, List.set_cons_succ]
        refine wpTailI_op (by decide) rfl fun K hK => ?_
        go_simp
        refine (refSector_any Ab cb db wo.drew HDA.out.hb.1 HDA.out.hb.2.1 HDA.out.hb.2.2.drew).mono ?_
        rintro e w3 ⟨v3, rfl, ho3, hb3⟩
        have hk3 : Kept F wo w3 := (Kept.refl F wo).drew.then_below hb3
        have HO3 := Lib.hid ho3
        have HK3 := Lib.hid hk3
        have hs3 : wo.heap.size ≤ w3.heap.size := hb3.size
        have hd3 : DiskAt w3 F (w.heap.size + 2) d := HO.out.disk.kept (w' := w3) (G := fun _ => False) ((Kept.refl (fun _ => False) wo).drew.then_below hb3) (fun _ _ h => h)
        have HD3 := Lib.hid hd3
        refine hK.out _ _ (HK0.out _ hk3) ?_
        clear hK K ho3 hb3 hk3 hd3
        try simp only [Act.put, List.setIfInBounds_toArray, List.set_cons_zero, List.set_cons_succ]
        refine wpTailI_op (by decide) rfl fun K hK => ?_
        go_simp
        have hwr := write_ok (d := d) (i := iw) (b := secOf db) (by rw [HO.out.len]; exact hiw7) (secOf_length _) HO.out.armed HO.out.dead
        refine (diskWrite_own w3 F (w.heap.size + 2) _ d iw v3 (secOf db) HD3.out (by rw [HO.out.len]; exact hiw7) (secOf_length _) HO3.out (fun g hg h => by have h1 := (HO3.out.lt g hg).1; have h2 := (HO.out.own g h).2; have h3 : wo.heap.size ≤ g := h1; omega) (by omega)).mono ?_
        rintro e w4 ⟨rfl, hd4, hk4⟩
        rw [hwr] at hd4
        have hk4' := HK3.out.trans hk4 (fun k hk => .inl hk)
        have HD4 := Lib.hid hd4.lt
        have HK4 := Lib.hid hk4'
        refine hK.out _ _ (HK0.out _ hk4') ?_
        have hs4 := hk4.size
        clear hK K hd4 hk4 hk4' hwr
        try simp only [Act.put, List.setIfInBounds_toArray, List.set_cons_zero, List.set_cons_succ]
        refine wpTailI_nil ?_
        go_wp2_with fail
        go_roundw
        case rel =>
          refine ⟨j + 1, _, _, by go_num, by omega, ⟨HD4.out, HO.out.len, HO.out.armed, HO.out.dead, fun k hk => ⟨?_, hk.2⟩, HO.out.bel.trans (HK4.out.below (B := w.heap.size) (fun k _ hk => (HO.out.own k hk).1) hsz)⟩, by simp; omega⟩
          rcases hk.1 with h | h
          · exact (HO.out.own k h).1
          · omega
        case measure => simp [intOf]; omega
      · by_cases h1 : dk = 1
        · subst h1
          go_wp2_with fail
          have hwr := flush_ok HO.out.armed HO.out.dead
          refine (diskFlush_any wo F (w.heap.size + 2) d HO.out.disk).mono ?_
          rintro e w4 ⟨rfl, hd4, hk4⟩
          rw [hwr] at hd4
          have HD4 := Lib.hid hd4
          have HK4 := Lib.hid hk4
          have hs4 := hk4.size
          clear hd4 hk4 hwr
          go_wp2_with fail
          go_roundw
          case rel => exact ⟨j + 1, _, _, by go_num, by omega, ⟨HD4.out, by rw [← HO.out.len]; exact view_length d, HO.out.armed, HO.out.dead, fun k hk => ⟨(HO.out.own k hk).1, by have := (HO.out.own k hk).2; omega⟩, HO.out.bel.trans (HK4.out.below (B := w.heap.size) (fun k _ hk => (HO.out.own k hk).1) hsz)⟩, by simp⟩
          case measure => simp [intOf]; omega
        · by_cases h4 : dk = 4
          · subst h4
            have c5 := HDA.out.c5
            simp only at c5
            rw [addr_fld _ _ 5 (by decide)] at c5
            go_wp2_with fail
            refine (diskCrash_any wo F (w.heap.size + 2) d Al cl dl HO.out.disk HDA.out.hl.1 HDA.out.hl.2.1 HDA.out.hl.2.2 (fun a2 he hn hF => by
              obtain ⟨j0, hj0⟩ : ∃ j0, 0 < j0 ∧ j0 = dl.length := ⟨_, List.length_pos_iff.2 hn, rfl⟩
              obtain ⟨a3, e3, h3, _⟩ := HAL.out.at_ (k := 0) (by omega)
              rw [he] at e3
              injection e3 with e3
              subst e3
              have := (HO.out.own _ hF).1
              omega)).mono ?_
            rintro e w4 ⟨rfl, hd4, hk4⟩
            have HD4 := Lib.hid hd4
            have HK4 := Lib.hid hk4
            have hs4 := hk4.size
            have hcl := crash_len d dl
            have HCL := Lib.hid hcl
            clear hd4 hk4 hcl
            go_wp2_with fail
            go_roundw
            case rel => exact ⟨j + 1, _, _, by go_num, by omega, ⟨HD4.out, by rw [HCL.out.1]; exact HO.out.len, rfl, rfl, fun k hk => ⟨(HO.out.own k hk).1, by have := (HO.out.own k hk).2; omega⟩, HO.out.bel.trans (HK4.out.below (B := w.heap.size) (fun k _ hk => (HO.out.own k hk).1) hsz)⟩, by rw [HCL.out.2.1]; simp⟩
            case measure => simp [intOf]; omega
          · have e0 : (dk == 0) = false := beq_eq_false_iff_ne.2 h0
            have e1 : (dk == 1) = false := beq_eq_false_iff_ne.2 h1
            have e4 : (dk == 4) = false := beq_eq_false_iff_ne.2 h4
            clear h0 h1 h4
            go_wp2_with fail
            go_roundw
            case rel => exact ⟨j + 1, F, d, by go_num, by omega, HO.out, by omega⟩
            case measure => simp [intOf]; omega
    · have hx : ¬ j < N ∨ (j < N ∧ ¬ j < 30) := by omega
      have HO := Lib.hid ho
      clear hgo ho
      rcases hx with hx | ⟨hx, hy⟩
      all_goals
        go_wp2_with fail
        go_ret
        exact ⟨_, d, F, rfl, HO.out, by omega⟩
end Go.Proofs.Ytckihiiimomgfaa
