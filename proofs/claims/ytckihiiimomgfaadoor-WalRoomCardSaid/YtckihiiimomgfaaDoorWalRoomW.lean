/- The walk of the statement on a log's room: WalRoom. -/
import Derived.Test.YtckihiiimomgfaaDoorWalLaws
import Derived.Test.YtckihiiimomgfaaDoorOpenDo9
namespace Go.Proofs.YtckihiiimomgfaaDoor
open Go.RowKit DiskMath
/-- a log whose disk is on, nothing waiting -/
structure QuietL (n : Nat) (g : WalMath.Lg) (d : Dk) : Prop where
  tt : g.to = n
  next : g.next = g.at_
  le : g.at_ ≤ n
  epoch : g.epoch ≤ 4294967295
  err : g.err = 0
  armed : d.armed = 0
  dead : d.dead = false
  waits : d.waits = []
  len : d.fast.length = n
theorem put_quiet (a : Nat) : ∀ (ps : List StampMath.Part) (i : Nat) (d : Dk), d.armed = 0 → d.dead = false → a + i + ps.length ≤ d.fast.length → (∀ p ∈ ps, p.data.length ≤ 38) →
    (WalMath.putParts d a i ps).2 = 0 ∧ (WalMath.putParts d a i ps).1.armed = 0 ∧ (WalMath.putParts d a i ps).1.dead = false ∧ (WalMath.putParts d a i ps).1.fast.length = d.fast.length
  | [], i, d, h1, h2, _, _ => ⟨rfl, h1, h2, rfl⟩
  | p :: ps, i, d, h1, h2, h3, h4 => by
    have hs : DiskMath.step d = (d, true) := by unfold DiskMath.step; rw [if_neg (by omega), h2]; rfl
    have hw : write d (a + i : Nat) (StampMath.lay p) = ({ d with waits := d.waits ++ [(a + i, StampMath.lay p)] }, 0) := by
      simp only [List.length_cons] at h3
      unfold write
      rw [if_pos ⟨by omega, by omega, StampMath.lay_length p (h4 p (by simp))⟩, hs]
      simp
      omega
    have := put_quiet a ps (i + 1) { d with waits := d.waits ++ [(a + i, StampMath.lay p)] } h1 h2 (by simp only [List.length_cons] at h3 ⊢; omega) (fun q hq => h4 q (by simp [hq]))
    simp only [WalMath.putParts]
    rw [hw, if_pos rfl]
    exact this
theorem QuietL.append {n : Nat} {g : WalMath.Lg} {d : Dk} (h : QuietL n g d) (b : List UInt8) (hb : b.length ≤ 65536) (hn : n ≤ 65536) :
    (StampMath.totalOf b.length ≤ n - g.at_ → ∃ d', WalMath.append g d b = ({ g with at_ := g.at_ + StampMath.totalOf b.length, next := g.next + StampMath.totalOf b.length }, d', 0) ∧ QuietL n { g with at_ := g.at_ + StampMath.totalOf b.length, next := g.next + StampMath.totalOf b.length } d') ∧
    (n - g.at_ < StampMath.totalOf b.length → WalMath.append g d b = (g, d, 8)) := by
  have hp := StampMath.totalOf_pos b.length
  have ht : StampMath.totalOf b.length ≤ 1725 := by unfold StampMath.totalOf; omega
  have h1 := h.tt
  have h2 := h.next
  have h3 := h.le
  have h4 := h.err
  constructor
  · intro hr
    have hpl := StampMath.parts_length g.epoch g.next b
    obtain ⟨q1, q2, q3, q4⟩ := put_quiet g.at_ (StampMath.parts g.epoch g.next b) 0 d h.armed h.dead (by rw [hpl, h.len]; omega) (fun p hp => by
      unfold StampMath.parts at hp
      obtain ⟨i, _, rfl⟩ := List.mem_map.1 hp
      simp [StampMath.partOf]; omega)
    have hst : DiskMath.step (WalMath.putParts d g.at_ 0 (StampMath.parts g.epoch g.next b)).1 = ((WalMath.putParts d g.at_ 0 (StampMath.parts g.epoch g.next b)).1, true) := by unfold DiskMath.step; rw [if_neg (by omega), q3]; rfl
    have hpu : WalMath.put d g.at_ (StampMath.parts g.epoch g.next b) = ({ (WalMath.putParts d g.at_ 0 (StampMath.parts g.epoch g.next b)).1 with fast := view (WalMath.putParts d g.at_ 0 (StampMath.parts g.epoch g.next b)).1, waits := [] }, 0) := by
      unfold WalMath.put
      rw [if_pos q1]
      unfold flush
      rw [hst]
      rfl
    refine ⟨{ (WalMath.putParts d g.at_ 0 (StampMath.parts g.epoch g.next b)).1 with fast := view (WalMath.putParts d g.at_ 0 (StampMath.parts g.epoch g.next b)).1, waits := [] }, ?_, ⟨h1, by simp only; omega, by simp only; omega, h.epoch, h4, q2, q3, rfl, by simp only [view_length]; rw [q4, h.len]⟩⟩
    unfold WalMath.append
    rw [if_neg (by omega), if_neg (by omega), if_neg (by omega), if_neg (by omega), hpu]
    rfl
  · intro hr
    unfold WalMath.append
    rw [if_neg (by omega), if_neg (by omega), if_neg (by omega), if_pos (by omega)]
theorem new_quiet (n : Nat) : QuietL n ⟨n, 0, 1, 0, 0⟩ (DiskMath.new n) := ⟨rfl, rfl, Nat.zero_le _, show (1 : Nat) ≤ 4294967295 by decide, rfl, rfl, rfl, rfl, by simp [DiskMath.new]⟩
theorem new_record (n : Nat) : WalMath.record (view (DiskMath.new n)) n 0 0 = none := WalMath.far_none (fun p hn h => by
  exfalso
  have e : (view (DiskMath.new n)).getD 0 [] = StampMath.zeros := by
    show (List.replicate n StampMath.zeros).getD 0 [] = _
    rw [List.getD_eq_getElem?_getD, List.getElem?_replicate, if_pos hn]; rfl
  rw [e, StampMath.read_zeros] at h
  cases h)
theorem new_says' (n f : Nat) : WalMath.says (view (DiskMath.new n)) n f 0 0 = ([], 0, 0) := WalMath.says_none (new_record n)
def RmRel (W : World) (n lp p : Nat) (i : Value) (wr : World) : Prop := ∃ (k : Nat) (F : Nat → Prop) (g : WalMath.Lg) (d : Dk), i = .int .i64 (k : Int) ∧ k ≤ 12 ∧ LogB wr lp p 0 g ∧ DiskAt wr F p d ∧ QuietL n g d ∧ (∀ x, F x → W.heap.size ≤ x ∧ x < wr.heap.size) ∧ ¬ F lp ∧ W.heap.size ≤ lp ∧ Below W.heap.size W wr
set_option maxRecDepth 100000 in
set_option maxHeartbeats 1000000 in
theorem walRoom_walk (x : Int) (A : Option Addr) (c : Nat) (ds : List D9) (B : Option Addr) (cb : Nat) (b : List UInt8) (w : World) (_hc : ds.length ≤ c) (hm : c ≤ maxLen) (hr : D9s w A ds) (hbc : b.length ≤ cb) (hbm : cb ≤ maxLen) (hbs : Bs w B b) (ht : Halves w) :
    Calls Tryd.prog 5 #[.int .i64 x, .slice A ds.length c, .slice B b.length cb] w fun e w' => e = .returned (.bool true) ∧ Below w.heap.size w w' := by
  have hcm : c ≤ 9223372036854775807 := by unfold maxLen at hm; omega
  obtain ⟨N, hN⟩ : ∃ N, ds.length = N := ⟨_, rfl⟩
  obtain ⟨M, hM⟩ : ∃ M, b.length = M := ⟨_, rfl⟩
  obtain ⟨n, hn, hn1, hn20⟩ : ∃ n : Nat, max 1 (min x 20) = (n : Int) ∧ 1 ≤ n ∧ n ≤ 20 := ⟨(max 1 (min x 20)).toNat, by omega, by omega, by omega⟩
  have hcutb := fun w' (h : Bs w' B b) => cut_bs B cb 400 b w' hbc hbm (by decide)
  obtain ⟨b4, hb4⟩ : ∃ b4, b.take 400 = b4 := ⟨_, rfl⟩
  have hbs4 : ∀ w', Below w.heap.size w w' → Bs w' B b4 := fun w' h => by rw [← hb4]; exact (hbs.below h).take 400
  have hl4 : b4.length ≤ 400 ∧ b4.length ≤ cb := by rw [← hb4, List.length_take]; omega
  rw [hb4, hM] at hcutb
  rw [hN] at _hc ⊢
  rw [hM]
  have HN := Lib.hid hN
  have HR := Lib.hid hr
  have HT := Lib.hid ht
  have HCM := Lib.hid hbm
  have HBS := Lib.hid hbs
  have HBS4 := Lib.hid hbs4
  have HL4 := Lib.hid hl4
  have HCB := Lib.hid hcutb
  have hth := ht.1
  clear hN hm hr ht hbm hbs hbs4 hl4 hcutb hM hbc hb4
  go_enter Tryd.func5, Tryd.ntmps5
  go_wp2_with fail
  refine (within_any x 1 20 w (by decide)).mono ?_
  rintro e w' ⟨rfl, rfl⟩
  rw [hn]
  clear hn
  go_wp2_with fail
  refine (diskNew_yes n w hn1 (by omega)).mono ?_
  rintro e w1 ⟨rfl, hd1, hb1⟩
  have ho1 := walOpen_yes w1 _ (w.heap.size + 2) 0 n 1 0 (n + 1) (DiskMath.new n) hd1.lt (HT.out.below hb1) (by omega) (by simp [DiskMath.new]) (by simp [DiskMath.new]; omega) (by decide) (by decide) (by omega)
  rw [new_says'] at ho1
  have HO1 := Lib.hid ho1
  have HD1 := Lib.hid hd1.lt
  have HB1 := Lib.hid hb1
  have hs1 := hb1.size
  clear hd1 hb1 ho1
  go_wp2_with fail
  refine HO1.out.mono ?_
  rintro e w2 ⟨v2, rfl, hl2, _, hb2⟩
  have HL2 := Lib.hid hl2
  have HB2 := Lib.hid (below_then HB1.out hb2)
  have HD2 := Lib.hid (HD1.out.below hb2)
  have hs2 := hb2.size
  have hlp := hl2.lt
  clear hl2 hb2 HO1 HD1 HB1
  go_wp2_with fail
  obtain ⟨lp, hlpe⟩ : ∃ lp, w1.heap.size = lp := ⟨_, rfl⟩
  rw [hlpe] at HL2 hlp ⊢
  go_loopw [12] (fun i wr => RmRel w n lp (w.heap.size + 2) i wr) (fun i _ => 12 - (intOf i).toNat)
  case atStart => exact ⟨0, _, _, _, rfl, by decide, HL2.out, HD2.out, new_quiet n, fun x hx => ⟨hx.1, by omega⟩, fun h => by have := h.2; omega, by omega, HB2.out⟩
  case round =>
    clear HL2 HD2 HB2 hlp hlpe hs1 hs2
    obtain ⟨k, F, g, d, rfl, hk, hl, hd, hq, hF, hFl, hlw, hb⟩ := hrel
    obtain ⟨wo, rfl⟩ : ∃ wo : World, wo = wr := ⟨_, rfl⟩
    have hsz := hb.size
    have hlpo := hl.lt
    by_cases hgo : k < N ∧ k < 12
    · obtain ⟨hlt, h12⟩ := hgo
      obtain ⟨z, hz⟩ : ∃ z, ds[k]? = some z := ⟨_, List.getElem?_eq_getElem (by have := HN.out; omega)⟩
      obtain ⟨ad, Ab, cb', Al, cl, rfl, hadw, hda, _⟩ := HR.out.at_ hb hz
      obtain ⟨dk, dn, db, dl⟩ := z
      have c2 := hda.c2
      simp only at c2
      rw [addr_fld _ _ 2 (by decide)] at c2
      obtain ⟨q1, q2, q3⟩ := hda.hb
      simp only at q1 q2 q3
      have hcu := cut_bs Ab cb' 100 db wo q1 q2 (by decide)
      obtain ⟨mb, hmb⟩ : ∃ mb, db.length = mb := ⟨_, rfl⟩
      obtain ⟨l0, hl0⟩ : ∃ l0, db.take 100 = l0 := ⟨_, rfl⟩
      have hl1 : l0.length ≤ 100 ∧ l0.length ≤ cb' := by rw [← hl0, List.length_take]; omega
      have hl2 : Bs wo Ab l0 := by rw [← hl0]; exact q3.take 100
      obtain ⟨hl11, hl12⟩ := hl1
      rw [hmb, hl0] at hcu
      rw [hmb] at c2
      have hap := walAppend_any wo F lp (w.heap.size + 2) 0 g d Ab cb' l0 hl hd (HT.out.below hb) hFl (fun h => by have := (hF _ h).1; omega) hl12 q2 hl2 (by omega) (by have := hq.tt; have := hq.le; omega) (by have := hq.tt; have := hq.len; omega) (by have := hq.len; omega) hq.epoch (by have := hq.next; have := hq.le; omega) (by rw [hq.waits]; decide)
      obtain ⟨m0, hm0⟩ : ∃ m0, l0.length = m0 := ⟨_, rfl⟩
      rw [hm0] at hap hcu
      have HM0 := Lib.hid hm0
      rw [hm0] at hl11
      have HAP := Lib.hid hap
      have HCU := Lib.hid hcu
      have HQ := Lib.hid hq
      have HF := Lib.hid hF
      have HFL := Lib.hid hFl
      have HB := Lib.hid hb
      clear hda q1 q2 q3 hap hcu hz hl hd hq hF hFl hb hmb hl0 hl2 hl12 hm0
      go_wp2_with fail
      refine HCU.out.mono ?_
      rintro e w' ⟨rfl, rfl⟩
      go_wp2_with fail
      refine HAP.out.mono ?_
      rintro e w3 ⟨rfl, hl3, hd3, hk3⟩
      have hqa : QuietL n (WalMath.append g d l0).1 (WalMath.append g d l0).2.1 := by
        obtain ⟨h1, h2⟩ := HQ.out.append l0 (by rw [HM0.out]; omega) (by omega)
        rcases Nat.lt_or_ge (n - g.at_) (StampMath.totalOf l0.length) with h | h
        · rw [h2 h]; exact HQ.out
        · obtain ⟨d', h3, h4⟩ := h1 h
          rw [h3]; exact h4
      obtain ⟨ra, hra⟩ : ∃ ra, WalMath.append g d l0 = ra := ⟨_, rfl⟩
      rw [hra] at hl3 hd3 hqa ⊢
      have HRL := Lib.hid (show _ ∧ _ ∧ _ ∧ _ from ⟨hl3, hd3, hqa, hk3⟩)
      clear hl3 hd3 hqa hk3 hra HAP HCU HQ
      go_wp2_with fail
      go_roundw
      case rel =>
        obtain ⟨hl3, hd3, hqa, hk3⟩ := HRL.out
        have hs3 := hk3.size
        refine ⟨k + 1, _, _, _, by go_num, by omega, hl3, hd3.lt, hqa, fun x hx => ⟨?_, hx.2⟩, fun h => ?_, hlw, HB.out.trans (hk3.below (B := w.heap.size) (fun x _ hx => ?_) hsz)⟩
        · rcases hx.1 with h | h
          · exact (HF.out x h).1
          · omega
        · rcases h.1 with h | h
          · exact HFL.out h
          · omega
        · rcases hx with h | h
          · exact (HF.out x h).1
          · omega
      case measure => simp [intOf]; omega
    · have hx : ¬ k < N ∨ (k < N ∧ ¬ k < 12) := by omega
      have hcb := HCB.out wo (HBS.out.below hb)
      obtain ⟨hl41, hl42⟩ := HL4.out
      have hap := fun (w' : World) (hb' : Below wo.heap.size wo w') => walAppend_any w' F lp (w.heap.size + 2) 0 g d B cb b4 (hl.below hb') (hd.below hb') (HT.out.below (below_then hb hb')) hFl (fun h => by have := (hF _ h).1; omega) hl42 HCM.out (HBS4.out w' (below_then hb hb')) (by omega) (by have := hq.tt; have := hq.le; omega) (by have := hq.tt; have := hq.len; omega) (by have := hq.len; omega) hq.epoch (by have := hq.next; have := hq.le; omega) (by rw [hq.waits]; decide)
      have hqa := hq.append b4 (by omega) (by omega)
      obtain ⟨m4, hm4⟩ : ∃ m4, b4.length = m4 := ⟨_, rfl⟩
      rw [hm4] at hcb hl41 hl42 hap hqa
      obtain ⟨T, hT⟩ : ∃ T, StampMath.totalOf m4 = T := ⟨_, rfl⟩
      rw [hT] at hqa
      have hT1 : 1 ≤ T := by rw [← hT]; exact StampMath.totalOf_pos _
      have hT2 : T ≤ 11 := by rw [← hT]; unfold StampMath.totalOf; omega
      have hTm : ∀ m, 1 ≤ m → (m * 38 < m4 ↔ m < T) := fun m h => by rw [← hT]; unfold StampMath.totalOf; omega
      have HCB' := Lib.hid hcb
      have HTM := Lib.hid hTm
      have HQA := Lib.hid hqa
      have HL := Lib.hid hl
      have HD := Lib.hid hd
      have HQ := Lib.hid hq
      have HF := Lib.hid hF
      have HFL := Lib.hid hFl
      have HB := Lib.hid hb
      have HAP := Lib.hid hap
      have hat : g.at_ ≤ n := hq.le
      have htt := hq.tt
      have hnx := hq.next
      have her := hq.err
      clear hgo hap hcb hTm hqa hl hd hq hF hFl hb hT hm4 HCB HBS4 HBS HCM HL4
      rcases hx with hx | ⟨hx, hy⟩
      all_goals
        go_wp2_with fail
        refine HCB'.out.mono ?_
        rintro e w' ⟨rfl, rfl⟩
        go_wp2_with fail
        go_loop [13] (fun v => ∃ m : Nat, 1 ≤ m ∧ m ≤ T ∧ v = .int .i64 (m : Int)) (fun v => T - (intOf v).toNat)
        case atStart => exact ⟨1, Nat.le_refl _, hT1, rfl⟩
        case round =>
          obtain ⟨m, hm1, hm2, rfl⟩ := hrel
          have hmm := HTM.out m hm1
          by_cases hmt : m < T
          · have h38 : (m : Int) * 38 < (m4 : Int) := by have := hmm.2 hmt; omega
            clear hmm
            go_wp2_with fail
            go_round
            case rel => exact ⟨m + 1, by omega, by omega, by go_num⟩
            case measure => simp [intOf]; omega
          · have h38 : ¬ (m : Int) * 38 < (m4 : Int) := by have := (not_congr hmm).2 hmt; omega
            obtain rfl : m = T := by omega
            clear hmm hmt
            obtain ⟨to_, at_, ep, nx, er⟩ := g
            simp only at hat htt hnx her
            obtain rfl : to_ = n := htt
            obtain rfl : nx = at_ := hnx
            subst her
            obtain ⟨r, hr⟩ : ∃ r, to_ - nx = r := ⟨_, rfl⟩
            have hrm := walRoom_any wo lp (w.heap.size + 2) 0 _ HL.out hat (by simp only; omega)
            simp only at hrm HQA
            rw [hr] at hrm HQA
            have hr20 : r ≤ 20 := by omega
            have HRM := Lib.hid hrm
            have HRR := Lib.hid hr
            clear hrm hr
            go_wp2_with fail
            refine HRM.out.mono ?_
            rintro e w3 ⟨rfl, hb3⟩
            have HB3 := Lib.hid hb3
            have HL3 := Lib.hid (HL.out.below hb3)
            clear hb3 HRM
            go_wp2_with fail
            refine (walAt_any w3 lp _ 0 _ HL3.out).mono ?_
            rintro e w' ⟨rfl, rfl⟩
            go_wp2_with fail
            refine (walNext_any w3 lp _ 0 _ HL3.out).mono ?_
            rintro e w' ⟨rfl, rfl⟩
            have hap := HAP.out w3 HB3.out
            by_cases hroom : m ≤ r
            · obtain ⟨d', h3, h4⟩ := HQA.out.1 hroom
              rw [h3] at hap
              have HA := Lib.hid hap
              have d1 : decide (m ≤ r) = true := decide_eq_true hroom
              clear hap h3 h4 HAP HQA
              go_wp2_with fail
              refine HA.out.mono ?_
              rintro e w4 ⟨rfl, hl4, hd4, hk4⟩
              have hb4 : Below w.heap.size w w4 := (below_then HB.out HB3.out).trans (hk4.below (B := w.heap.size) (fun y _ hy => by
                rcases hy with hy | hy
                · exact (HF.out y hy).1
                · omega) (by have := HB3.out.size; have := HB.out.size; omega))
              have hA : ∀ w' : World, Below w4.heap.size w4 w' → Calls Tryd.prog 35 #[.pointer (some ⟨lp, 0, none⟩)] w' fun e w'' => e = .returned (.int .i64 ((nx : Int) + (m : Int))) ∧ w' = w'' := fun w' h => by
                have := walAt_any w' lp _ 0 _ (hl4.below h)
                simp only [Int.natCast_add] at this
                exact this
              have hX : ∀ w' : World, Below w4.heap.size w4 w' → Calls Tryd.prog 36 #[.pointer (some ⟨lp, 0, none⟩)] w' fun e w'' => e = .returned (.int .i64 ((nx : Int) + (m : Int))) ∧ w' = w'' := fun w' h => by
                have := walNext_any w' lp _ 0 _ (hl4.below h)
                simp only [Int.natCast_add] at this
                exact this
              obtain ⟨q, hq⟩ : ∃ q : Int, (r : Int) - (m : Int) = q := ⟨_, rfl⟩
              have hR : Calls Tryd.prog 34 #[.pointer (some ⟨lp, 0, none⟩)] w4 fun e w'' => e = .returned (.int .i64 q) ∧ Below w4.heap.size w4 w'' := by
                have := walRoom_any w4 lp _ 0 _ hl4 (by simp only; have := HRR.out; omega) (by simp only; omega)
                simp only at this
                rwa [show ((to_ - (nx + m) : Nat) : Int) = q by have := HRR.out; omega] at this
              have HA4 := Lib.hid hA
              have HX4 := Lib.hid hX
              have HR4 := Lib.hid hR
              have HQE := Lib.hid hq
              have HB4 := Lib.hid hb4
              clear hl4 hd4 hk4 hA hX hR hb4 HA HRR HL HD HQ HL3 hq
              go_wp2_with fail
              refine (HA4.out _ (Below.refl _ _)).mono ?_
              rintro e w' ⟨rfl, rfl⟩
              go_wp2_with fail
              refine (HX4.out _ (Below.refl _ _)).mono ?_
              rintro e w' ⟨rfl, rfl⟩
              go_wp2_with fail
              refine HR4.out.mono ?_
              rintro e w5 ⟨rfl, hb5⟩
              have HB5 := Lib.hid (below_then HB4.out hb5)
              clear hb5
              have hq := HQE.out
              have hqm : IntKind.i64.wrap ((r : Int) - (m : Int)) = q := by rw [IntKind.wrap_i64]; omega
              go_wp2_with fail
              clear hq hqm
              refine (walLives_any w5 (HT.out.below HB5.out)).mono ?_
              rintro e w6 ⟨rfl, hb6⟩
              have HB6 := Lib.hid (below_then HB5.out hb6)
              clear hb6
              go_wp2_with fail
              go_ret
              exact ⟨rfl, HB6.out⟩
            · have h3 := HQA.out.2 (by omega)
              rw [h3] at hap
              have HA := Lib.hid hap
              have d1 : decide (m ≤ r) = false := decide_eq_false hroom
              have hwt := HQ.out.waits
              clear hap h3 HAP HQA
              go_wp2_with fail
              refine HA.out.mono ?_
              rintro e w4 ⟨rfl, hl4, hd4, hk4⟩
              have hb4 : Below w.heap.size w w4 := (below_then HB.out HB3.out).trans (hk4.below (B := w.heap.size) (fun y _ hy => by
                rcases hy with hy | hy
                · exact (HF.out y hy).1
                · omega) (by have := HB3.out.size; have := HB.out.size; omega))
              have hW := diskWaits_any w4 _ _ _ hd4
              simp only [hwt, List.length_nil] at hW
              have HL4 := Lib.hid hl4
              have HW4 := Lib.hid hW
              have HB4 := Lib.hid hb4
              clear hl4 hd4 hk4 hb4 hW hwt HA HRR HL HD HQ HL3
              go_wp2_with fail
              refine (walAt_any w4 lp _ 0 _ HL4.out).mono ?_
              rintro e w' ⟨rfl, rfl⟩
              go_wp2_with fail
              refine (walNext_any w4 lp _ 0 _ HL4.out).mono ?_
              rintro e w' ⟨rfl, rfl⟩
              go_wp2_with fail
              refine HW4.out.mono ?_
              rintro e w' ⟨rfl, rfl⟩
              go_wp2_with fail
              refine (walLives_any w4 (HT.out.below HB4.out)).mono ?_
              rintro e w6 ⟨rfl, hb6⟩
              have HB6 := Lib.hid (below_then HB4.out hb6)
              clear hb6
              go_wp2_with fail
              go_ret
              exact ⟨rfl, HB6.out⟩
end Go.Proofs.YtckihiiimomgfaaDoor
