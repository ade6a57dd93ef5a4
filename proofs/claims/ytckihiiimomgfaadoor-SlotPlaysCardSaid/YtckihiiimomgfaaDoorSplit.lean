/- The contract of stamp.Split: a record's parts. -/
import Derived.Test.YtckihiiimomgfaaDoorPRow
import Derived.Test.YtckihiiimomgfaaDoorGMem
import Derived.Deep.DeepCutAuto
namespace Go.Proofs.YtckihiiimomgfaaDoor
open Go.RowKit
/-- which code a record's splitting has -/
def splitCode (epoch seq : Int) (n : Nat) : Nat :=
  if epoch < 0 ∨ 4294967295 < epoch ∨ seq < 0 ∨ 4294967295 < seq then 2 else if 65536 < n then 5 else if 4294967295 - ((StampMath.totalOf n : Nat) - 1 : Int) < seq then 8 else 0
theorem info_part : (Tryd.prog.info? 130).map (fun i => (i.zero, i.size, i.bytes)) = some (some (.agg #[.int .i64 0, .int .i64 0, .int .i64 0, .int .i64 0, .slice none 0 0]), 5, 56) := by kernel_rfl
theorem total_quo (n : Nat) (h : n ≤ 140737488355328) : (if ((n : Int) + 38 - 1) / 38 < 1 then (1 : Int) else ((n : Int) + 38 - 1) / 38) = (StampMath.totalOf n : Nat) := by
  unfold StampMath.totalOf
  split <;> omega
def SpRel (w : World) (epoch seq : Int) (d : List UInt8) (v i : Value) (wr : World) : Prop :=
  ∃ k : Nat, k ≤ StampMath.totalOf d.length ∧ i = .int .i64 (k : Int) ∧ PRow wr 130 (fun g => w.heap.size ≤ g) v ((StampMath.parts epoch seq d).take k) ∧ Below w.heap.size w wr
theorem Bs.dropMap {w : World} {A : Option Addr} {l : List UInt8} (h : Bs w A l) (a : Nat) : Bs w (Option.map (fun x => x.add a) A) (l.drop a) := fun j c hj => by
  rw [List.getElem?_drop] at hj
  obtain ⟨ad, rfl, hb, hc⟩ := h _ c hj
  exact ⟨ad.add a, rfl, by rw [addr_block]; exact hb, by rw [addr_add]; exact hc⟩
def SpCut (wo : World) (pd : List UInt8) (s : Value) (wx : World) : Prop := ∃ A' c', s = .slice A' pd.length c' ∧ Bs wo A' pd ∧ wx = wo
theorem slice_len {A : Option Addr} {a b c : Nat} (h : a = b) : Value.slice A a c = Value.slice A b c := by rw [h]
set_option maxRecDepth 100000 in
set_option maxHeartbeats 2000000 in
theorem split_pos (epoch seq : Int) (A : Option Addr) (c : Nat) (d : List UInt8) (w : World) (he0 : 0 ≤ epoch) (he1 : epoch ≤ 4294967295) (hs0 : 0 ≤ seq) (hs1 : seq ≤ 4294967295 - ((StampMath.totalOf d.length : Nat) - 1 : Int)) (hd : d.length ≤ 65536) (hc : d.length ≤ c) (hm : c ≤ maxLen) (hr : Bs w A d) (hc0 : 0 < c) :
    Calls Tryd.prog 50 #[.int .i64 epoch, .int .i64 seq, .slice A d.length c] w fun e w' => ∃ v, e = .returned (.tuple #[v, .int .i64 0]) ∧ PRow w' 130 (fun g => w.heap.size ≤ g) v (StampMath.parts epoch seq d) ∧ Below w.heap.size w w' := by
  have htot := total_quo d.length (by omega)
  have htp := StampMath.totalOf_pos d.length
  have htu : StampMath.totalOf d.length ≤ 1725 := by unfold StampMath.totalOf; omega
  have hpl := StampMath.parts_length epoch seq d
  obtain ⟨n, hn⟩ : ∃ n, d.length = n := ⟨_, rfl⟩
  obtain ⟨T, hT⟩ : ∃ T, StampMath.totalOf d.length = T := ⟨_, rfl⟩
  have hTn : ∀ i, i < T → (38 * i ≤ n ∧ (38 * i < n ∨ i = 0)) ∧ (i + 1 = T → n ≤ 38 * (i + 1)) ∧ (i + 1 < T → 38 * (i + 1) ≤ n) := by
    intro i hi; rw [← hT, ← hn] at *; unfold StampMath.totalOf at *; omega
  rw [hT] at htot hs1 htp htu hpl
  rw [hn] at htot hd hc ⊢
  have HTOT := Lib.hid htot
  clear htot
  have HN := Lib.hid hn
  have HT := Lib.hid hT
  have HTN := Lib.hid hTn
  have HR := Lib.hid hr
  have HPL := Lib.hid hpl
  have HE := Lib.hid (show _ ∧ _ from ⟨hd, hc⟩)
  have hcm : c ≤ 9223372036854775807 := by unfold maxLen at hm; omega
  obtain ⟨i0, hi0, hz0, hz1, hz2⟩ := info_parts info_part
  clear hn hT hTn hr hpl hm
  go_enter Tryd.func50, Tryd.ntmps50
  go_upto_region 1 with (fail)
  go_cut [8] (fun s wx => s = .int .i64 (T : Int) ∧ wx = w)
  case first =>
    have h1 : (0 : Int) ≤ (n : Int) := by omega
    have h2 : (n : Int) ≤ 65536 := by omega
    go_wp2_with fail
    all_goals
      go_meet
      refine ⟨?_, rfl⟩
      have h := HTOT.out
      refine congrArg (Value.int .i64) ?_
      split at h <;> omega
  case rest =>
    obtain ⟨rfl, hW⟩ := hcut
    subst hW
    obtain ⟨wc0, rfl⟩ : ∃ wc0 : World, wc0 = wc := ⟨_, rfl⟩
    go_wp2_with fail
    go_loopw [9, 44] (fun v i wr => SpRel wc0 epoch seq d v i wr) (fun _ i _ => T - (intOf i).toNat)
    case atStart => exact ⟨0, Nat.zero_le _, rfl, PRow.nil _ _ _, Below.refl _ _⟩
    case round =>
      obtain ⟨k, hk, rfl, hp, hb⟩ := hrel
      obtain ⟨wo, rfl⟩ : ∃ wo : World, wo = wr := ⟨_, rfl⟩
      rw [HT.out] at hk
      obtain ⟨A9, c9, rfl, _⟩ := hp.shape
      obtain ⟨ps, hps⟩ : ∃ ps, (StampMath.parts epoch seq d).take k = ps := ⟨_, rfl⟩
      rw [hps] at hp ⊢
      obtain ⟨n9, hn9⟩ : ∃ n9, ps.length = n9 := ⟨_, rfl⟩
      rw [hn9] at hp ⊢
      have hlen : ps.length ≤ 1000000 := by rw [← hps, List.length_take]; omega
      have hsz := hb.size
      have HP := Lib.hid hp
      have HB := Lib.hid hb
      have HPS := Lib.hid hps
      clear hp hb hps hn9
      by_cases hlt : k < T
      · obtain ⟨⟨q1, q0⟩, q2, q3⟩ := HTN.out k hlt
        have b1 : (k : Int) * 38 ≤ (n : Int) := by omega
        have b0 : (0 : Int) ≤ (k : Int) * 38 := by omega
        have b2 : (k : Int) ≤ 1725 := by omega
        obtain ⟨pd, hpd⟩ : ∃ pd, (d.drop (38 * k)).take 38 = pd := ⟨_, rfl⟩
        have hbs : Bs wo (Option.map (fun x => x.add (k * 38)) A) pd := by
          rw [← hpd, Nat.mul_comm 38 k]
          exact ((HR.out.below HB.out).dropMap (k * 38)).take 38
        have hpl : pd.length = min (n - 38 * k) 38 := by rw [← hpd, List.length_take, List.length_drop, HN.out]; omega
        have HBS := Lib.hid hbs
        have HPDL := Lib.hid hpl
        have HPD := Lib.hid hpd
        have hE := HE.out
        clear hbs hpl hpd
        have hck : ¬ c = k * 38 := by omega
        go_upto_region 12 with (fail)
        go_cut [11] (fun s wx => SpCut wo pd s wx)
        case first =>
          by_cases hk1 : k + 1 < T
          · have b3 : ((k : Int) + 1) * 38 ≤ (n : Int) := by have := q3 hk1; omega
            clear q2 q3 q0
            go_wp2_with fail
            all_goals
              go_meet
              have hpl := HPDL.out
              first
                | exact ⟨_, _, slice_len (by omega), HBS.out, rfl⟩
                | exact ⟨_, _, slice_len (by omega), by rw [List.length_eq_zero_iff.1 (show pd.length = 0 by omega)]; exact Bs.nil _ _, rfl⟩
          · have b3 : (n : Int) ≤ ((k : Int) + 1) * 38 := by have := q2 (by omega); omega
            clear q2 q3 q0
            go_wp2_with fail
            all_goals
              go_meet
              have hpl := HPDL.out
              first
                | exact ⟨_, _, slice_len (by omega), HBS.out, rfl⟩
                | exact ⟨_, _, slice_len (by omega), by rw [List.length_eq_zero_iff.1 (show pd.length = 0 by omega)]; exact Bs.nil _ _, rfl⟩
        case rest =>
          obtain ⟨A', c', rfl, hbs', hW⟩ := hcut
          subst hW
          obtain ⟨wo, rfl⟩ : ∃ wo : World, wo = wc := ⟨_, rfl⟩
          obtain ⟨n11, hn11⟩ : ∃ n11, pd.length = n11 := ⟨_, rfl⟩
          have hcl := clone_any A' c' pd wo (by have := HPDL.out; omega) hbs'
          rw [hn11] at hcl ⊢
          have HN11 := Lib.hid hn11
          have HCL := Lib.hid hcl
          clear hcl hbs' hn11 q1 q2 q3 q0
          go_wp2_with fail
          refine HCL.out.mono ?_
          rintro e w2 ⟨v2, rfl, ho2, hb2⟩
          obtain ⟨A2, c2, rfl, _⟩ := own_shape ho2
          have ho2' : Own8 w2 wo.heap.size (.slice A2 n11 c2) pd := by unfold Own8; rw [HN11.out]; exact ho2
          have hp2 : PRow w2 130 (fun g => wc0.heap.size ≤ g) (.slice A9 n9 c9) ps := HP.out.below hb2
          have HO2 := Lib.hid ho2'
          have HB2 := Lib.hid (HB.out.trans (hb2.mono hsz))
          have HP2 := Lib.hid hp2
          have hs2 := hb2.size
          have hsq : seq + (k : Int) ≤ 4294967295 := by omega
          have hpart : StampMath.partOf epoch seq d k = ⟨epoch, seq + (k : Int), (k : Int), (T : Int), pd⟩ := by
            unfold StampMath.partOf
            rw [HT.out, HPD.out]
          have HPART := Lib.hid hpart
          clear ho2 ho2' hp2 hb2 HCL hpart
          go_wp2_with (
            at_builtin
            refine wpList_pushP rfl (.tmp 60) (.tmp 70) 99 rfl 130 i0 (.agg #[.int .i64 0, .int .i64 0, .int .i64 0, .int .i64 0, .slice none 0 0]) Tryd.underlying99 hi0 hz0 hz1 hz2 rfl (by decide) (fun g => wc0.heap.size ≤ g) (.slice A9 n9 c9) (.slice A2 n11 c2) ps ⟨epoch, seq + (k : Int), (k : Int), (T : Int), pd⟩ rfl HP2.out rfl rfl (own_base HO2.out (Nat.zero_le _)) (fun g hg => by have := (HO2.out.lt g hg).1; omega) hlen ?_
            intro v4 w4 hp4 hk4 hv4
            have HP4 := Lib.hid hp4
            have HK4 := Lib.hid hk4
            clear hp4 hk4 hv4)
          go_roundw
          case rel =>
            refine ⟨k + 1, by have := HT.out; omega, by go_num, ?_, HB2.out.trans (HK4.out.below (B := wc0.heap.size) (fun g _ e => by obtain ⟨xs, _, h2, _⟩ := HP2.out; exact h2 g e) (by omega))⟩
            have e : (StampMath.parts epoch seq d).take (k + 1) = ps ++ [⟨epoch, seq + (k : Int), (k : Int), (T : Int), pd⟩] := by
              rw [List.take_add_one, HPS.out]
              congr 1
              unfold StampMath.parts
              rw [List.getElem?_map, List.getElem?_range (by rw [HT.out]; exact hlt), Option.map_some, HPART.out]
              rfl
            rw [e]
            exact HP4.out.mono (fun g hg => hg.elim id (fun h => by omega))
          case measure => simp [intOf]; omega
      · have hkT : k = T := by omega
        have hps : ps = StampMath.parts epoch seq d := by
          rw [← HPS.out]
          exact List.take_of_length_le (by rw [HPL.out, hkT]; exact Nat.le_refl _)
        have HPS2 := Lib.hid hps
        clear hkT hps
        go_wp2_with fail
        go_ret2
        exact ⟨_, rfl, by rw [← HPS2.out]; exact HP.out, HB.out⟩
set_option maxRecDepth 100000 in
set_option maxHeartbeats 2000000 in
theorem split_zero (epoch seq : Int) (A : Option Addr) (d : List UInt8) (w : World) (he0 : 0 ≤ epoch) (he1 : epoch ≤ 4294967295) (hs0 : 0 ≤ seq) (hs1 : seq ≤ 4294967295 - ((StampMath.totalOf d.length : Nat) - 1 : Int)) (hd : d.length ≤ 65536) (hc : d.length ≤ 0) (hr : Bs w A d) :
    Calls Tryd.prog 50 #[.int .i64 epoch, .int .i64 seq, .slice A d.length 0] w fun e w' => ∃ v, e = .returned (.tuple #[v, .int .i64 0]) ∧ PRow w' 130 (fun g => w.heap.size ≤ g) v (StampMath.parts epoch seq d) ∧ Below w.heap.size w w' := by
  have htot := total_quo d.length (by omega)
  have htp := StampMath.totalOf_pos d.length
  have htu : StampMath.totalOf d.length ≤ 1725 := by unfold StampMath.totalOf; omega
  have hpl := StampMath.parts_length epoch seq d
  obtain ⟨n, hn⟩ : ∃ n, d.length = n := ⟨_, rfl⟩
  obtain ⟨T, hT⟩ : ∃ T, StampMath.totalOf d.length = T := ⟨_, rfl⟩
  have hTn : ∀ i, i < T → (38 * i ≤ n ∧ (38 * i < n ∨ i = 0)) ∧ (i + 1 = T → n ≤ 38 * (i + 1)) ∧ (i + 1 < T → 38 * (i + 1) ≤ n) := by
    intro i hi; rw [← hT, ← hn] at *; unfold StampMath.totalOf at *; omega
  rw [hT] at htot hs1 htp htu hpl
  rw [hn] at htot hd hc ⊢
  have HTOT := Lib.hid htot
  clear htot
  have HN := Lib.hid hn
  have HT := Lib.hid hT
  have HTN := Lib.hid hTn
  have HR := Lib.hid hr
  have HPL := Lib.hid hpl
  have HE := Lib.hid (show _ ∧ _ from ⟨hd, hc⟩)
  obtain ⟨i0, hi0, hz0, hz1, hz2⟩ := info_parts info_part
  clear hn hT hTn hr hpl
  go_enter Tryd.func50, Tryd.ntmps50
  go_upto_region 1 with (fail)
  go_cut [8] (fun s wx => s = .int .i64 (T : Int) ∧ wx = w)
  case first =>
    have h1 : (0 : Int) ≤ (n : Int) := by omega
    have h2 : (n : Int) ≤ 65536 := by omega
    go_wp2_with fail
    all_goals
      go_meet
      refine ⟨?_, rfl⟩
      have h := HTOT.out
      refine congrArg (Value.int .i64) ?_
      split at h <;> omega
  case rest =>
    obtain ⟨rfl, hW⟩ := hcut
    subst hW
    obtain ⟨wc0, rfl⟩ : ∃ wc0 : World, wc0 = wc := ⟨_, rfl⟩
    go_wp2_with fail
    go_loopw [9, 44] (fun v i wr => SpRel wc0 epoch seq d v i wr) (fun _ i _ => T - (intOf i).toNat)
    case atStart => exact ⟨0, Nat.zero_le _, rfl, PRow.nil _ _ _, Below.refl _ _⟩
    case round =>
      obtain ⟨k, hk, rfl, hp, hb⟩ := hrel
      obtain ⟨wo, rfl⟩ : ∃ wo : World, wo = wr := ⟨_, rfl⟩
      rw [HT.out] at hk
      obtain ⟨A9, c9, rfl, _⟩ := hp.shape
      obtain ⟨ps, hps⟩ : ∃ ps, (StampMath.parts epoch seq d).take k = ps := ⟨_, rfl⟩
      rw [hps] at hp ⊢
      obtain ⟨n9, hn9⟩ : ∃ n9, ps.length = n9 := ⟨_, rfl⟩
      rw [hn9] at hp ⊢
      have hlen : ps.length ≤ 1000000 := by rw [← hps, List.length_take]; omega
      have hsz := hb.size
      have HP := Lib.hid hp
      have HB := Lib.hid hb
      have HPS := Lib.hid hps
      clear hp hb hps hn9
      by_cases hlt : k < T
      · obtain ⟨⟨q1, q0⟩, q2, q3⟩ := HTN.out k hlt
        have b1 : (k : Int) * 38 ≤ (n : Int) := by omega
        have b0 : (0 : Int) ≤ (k : Int) * 38 := by omega
        have b2 : (k : Int) ≤ 1725 := by omega
        obtain ⟨pd, hpd⟩ : ∃ pd, (d.drop (38 * k)).take 38 = pd := ⟨_, rfl⟩
        have hbs : Bs wo (Option.map (fun x => x.add (k * 38)) A) pd := by
          rw [← hpd, Nat.mul_comm 38 k]
          exact ((HR.out.below HB.out).dropMap (k * 38)).take 38
        have hpl : pd.length = min (n - 38 * k) 38 := by rw [← hpd, List.length_take, List.length_drop, HN.out]; omega
        have HBS := Lib.hid hbs
        have HPDL := Lib.hid hpl
        have HPD := Lib.hid hpd
        have hE := HE.out
        clear hbs hpl hpd
        have hck : k * 38 = 0 := by omega
        go_upto_region 12 with (fail)
        go_cut [11] (fun s wx => SpCut wo pd s wx)
        case first =>
          by_cases hk1 : k + 1 < T
          · have b3 : ((k : Int) + 1) * 38 ≤ (n : Int) := by have := q3 hk1; omega
            clear q2 q3 q0
            go_wp2_with fail
            all_goals
              go_meet
              have hpl := HPDL.out
              first
                | exact ⟨_, _, slice_len (by omega), HBS.out, rfl⟩
                | exact ⟨_, _, slice_len (by omega), by rw [List.length_eq_zero_iff.1 (show pd.length = 0 by omega)]; exact Bs.nil _ _, rfl⟩
          · have b3 : (n : Int) ≤ ((k : Int) + 1) * 38 := by have := q2 (by omega); omega
            clear q2 q3 q0
            go_wp2_with fail
            all_goals
              go_meet
              have hpl := HPDL.out
              first
                | exact ⟨_, _, slice_len (by omega), HBS.out, rfl⟩
                | exact ⟨_, _, slice_len (by omega), by rw [List.length_eq_zero_iff.1 (show pd.length = 0 by omega)]; exact Bs.nil _ _, rfl⟩
        case rest =>
          obtain ⟨A', c', rfl, hbs', hW⟩ := hcut
          subst hW
          obtain ⟨wo, rfl⟩ : ∃ wo : World, wo = wc := ⟨_, rfl⟩
          obtain ⟨n11, hn11⟩ : ∃ n11, pd.length = n11 := ⟨_, rfl⟩
          have hcl := clone_any A' c' pd wo (by have := HPDL.out; omega) hbs'
          rw [hn11] at hcl ⊢
          have HN11 := Lib.hid hn11
          have HCL := Lib.hid hcl
          clear hcl hbs' hn11 q1 q2 q3 q0
          go_wp2_with fail
          refine HCL.out.mono ?_
          rintro e w2 ⟨v2, rfl, ho2, hb2⟩
          obtain ⟨A2, c2, rfl, _⟩ := own_shape ho2
          have ho2' : Own8 w2 wo.heap.size (.slice A2 n11 c2) pd := by unfold Own8; rw [HN11.out]; exact ho2
          have hp2 : PRow w2 130 (fun g => wc0.heap.size ≤ g) (.slice A9 n9 c9) ps := HP.out.below hb2
          have HO2 := Lib.hid ho2'
          have HB2 := Lib.hid (HB.out.trans (hb2.mono hsz))
          have HP2 := Lib.hid hp2
          have hs2 := hb2.size
          have hsq : seq + (k : Int) ≤ 4294967295 := by omega
          have hpart : StampMath.partOf epoch seq d k = ⟨epoch, seq + (k : Int), (k : Int), (T : Int), pd⟩ := by
            unfold StampMath.partOf
            rw [HT.out, HPD.out]
          have HPART := Lib.hid hpart
          clear ho2 ho2' hp2 hb2 HCL hpart
          go_wp2_with (
            at_builtin
            refine wpList_pushP rfl (.tmp 60) (.tmp 70) 99 rfl 130 i0 (.agg #[.int .i64 0, .int .i64 0, .int .i64 0, .int .i64 0, .slice none 0 0]) Tryd.underlying99 hi0 hz0 hz1 hz2 rfl (by decide) (fun g => wc0.heap.size ≤ g) (.slice A9 n9 c9) (.slice A2 n11 c2) ps ⟨epoch, seq + (k : Int), (k : Int), (T : Int), pd⟩ rfl HP2.out rfl rfl (own_base HO2.out (Nat.zero_le _)) (fun g hg => by have := (HO2.out.lt g hg).1; omega) hlen ?_
            intro v4 w4 hp4 hk4 hv4
            have HP4 := Lib.hid hp4
            have HK4 := Lib.hid hk4
            clear hp4 hk4 hv4)
          go_roundw
          case rel =>
            refine ⟨k + 1, by have := HT.out; omega, by go_num, ?_, HB2.out.trans (HK4.out.below (B := wc0.heap.size) (fun g _ e => by obtain ⟨xs, _, h2, _⟩ := HP2.out; exact h2 g e) (by omega))⟩
            have e : (StampMath.parts epoch seq d).take (k + 1) = ps ++ [⟨epoch, seq + (k : Int), (k : Int), (T : Int), pd⟩] := by
              rw [List.take_add_one, HPS.out]
              congr 1
              unfold StampMath.parts
              rw [List.getElem?_map, List.getElem?_range (by rw [HT.out]; exact hlt), Option.map_some, HPART.out]
              rfl
            rw [e]
            exact HP4.out.mono (fun g hg => hg.elim id (fun h => by omega))
          case measure => simp [intOf]; omega
      · have hkT : k = T := by omega
        have hps : ps = StampMath.parts epoch seq d := by
          rw [← HPS.out]
          exact List.take_of_length_le (by rw [HPL.out, hkT]; exact Nat.le_refl _)
        have HPS2 := Lib.hid hps
        clear hkT hps
        go_wp2_with fail
        go_ret2
        exact ⟨_, rfl, by rw [← HPS2.out]; exact HP.out, HB.out⟩
theorem split_yes (epoch seq : Int) (A : Option Addr) (c : Nat) (d : List UInt8) (w : World) (he0 : 0 ≤ epoch) (he1 : epoch ≤ 4294967295) (hs0 : 0 ≤ seq) (hs1 : seq ≤ 4294967295 - ((StampMath.totalOf d.length : Nat) - 1 : Int)) (hd : d.length ≤ 65536) (hc : d.length ≤ c) (hm : c ≤ maxLen) (hr : Bs w A d) :
    Calls Tryd.prog 50 #[.int .i64 epoch, .int .i64 seq, .slice A d.length c] w fun e w' => ∃ v, e = .returned (.tuple #[v, .int .i64 0]) ∧ PRow w' 130 (fun g => w.heap.size ≤ g) v (StampMath.parts epoch seq d) ∧ Below w.heap.size w w' := by
  by_cases h0 : 0 < c
  · exact split_pos epoch seq A c d w he0 he1 hs0 hs1 hd hc hm hr h0
  · obtain rfl : c = 0 := by omega
    exact split_zero epoch seq A d w he0 he1 hs0 hs1 hd hc hr
set_option maxRecDepth 100000 in
set_option maxHeartbeats 1000000 in
/-- refused -/
theorem split_no (epoch seq : Int) (A : Option Addr) (n c : Nat) (w : World) (hs0 : -9223372036854775808 ≤ seq) (hs1 : seq ≤ 9223372036854775807) (hn : n ≤ 140737488355328) (hc : splitCode epoch seq n ≠ 0) :
    Calls Tryd.prog 50 #[.int .i64 epoch, .int .i64 seq, .slice A n c] w fun e w' => e = .returned (.tuple #[.slice none 0 0, .int .i64 (splitCode epoch seq n : Nat)]) ∧ w = w' := by
  have htot := total_quo n (by omega)
  have htp := StampMath.totalOf_pos n
  have htu : StampMath.totalOf n ≤ 4000000000000 := by unfold StampMath.totalOf; omega
  have hcode : (splitCode epoch seq n = 2 ∧ (epoch < 0 ∨ 4294967295 < epoch ∨ seq < 0 ∨ 4294967295 < seq)) ∨ ((0 ≤ epoch ∧ epoch ≤ 4294967295 ∧ 0 ≤ seq ∧ seq ≤ 4294967295) ∧ ((splitCode epoch seq n = 5 ∧ 65536 < n) ∨ (splitCode epoch seq n = 8 ∧ n ≤ 65536 ∧ 4294967295 - ((StampMath.totalOf n : Nat) - 1 : Int) < seq))) := by
    unfold splitCode at hc ⊢
    split
    · left; exact ⟨rfl, by assumption⟩
    · right
      refine ⟨by omega, ?_⟩
      split
      · left; exact ⟨rfl, by assumption⟩
      · right
        split
        · exact ⟨rfl, by omega, by assumption⟩
        · exfalso
          rename_i h1 h2 h3
          rw [if_neg h1, if_neg h2, if_neg h3] at hc
          exact hc rfl
  obtain ⟨T, hT⟩ : ∃ T, StampMath.totalOf n = T := ⟨_, rfl⟩
  rw [hT] at htot htp htu hcode
  obtain ⟨cd, hcd⟩ : ∃ cd, splitCode epoch seq n = cd := ⟨_, rfl⟩
  rw [hcd] at hcode ⊢
  have HTOT := Lib.hid htot
  have HCODE := Lib.hid hcode
  clear htot hT hcd hc hcode
  go_enter Tryd.func50, Tryd.ntmps50
  go_upto_region 1 with (fail)
  go_cut [8] (fun s wx => s = .int .i64 (T : Int) ∧ wx = w)
  case first =>
    have h1 : (0 : Int) ≤ (n : Int) := by omega
    have h2 : (n : Int) ≤ 140737488355328 := by omega
    go_wp2_with fail
    all_goals
      go_meet
      refine ⟨?_, rfl⟩
      have h := HTOT.out
      refine congrArg (Value.int .i64) ?_
      split at h <;> omega
  case rest =>
    obtain ⟨rfl, hW⟩ := hcut
    subst hW
    clear HTOT
    rcases HCODE.out with ⟨rfl, h⟩ | ⟨⟨g1, g2, g3, g4⟩, ⟨rfl, h⟩ | ⟨rfl, h, h'⟩⟩
    · by_cases a1 : epoch < 0
      · clear h
        go_wp2_with fail
        go_ret2
        exact ⟨rfl, rfl⟩
      · by_cases a2 : 4294967295 < epoch
        · clear h
          go_wp2_with fail
          go_ret2
          exact ⟨rfl, rfl⟩
        · by_cases a3 : seq < 0
          · clear h
            go_wp2_with fail
            go_ret2
            exact ⟨rfl, rfl⟩
          · have a4 : 4294967295 < seq := by omega
            clear h
            go_wp2_with fail
            go_ret2
            exact ⟨rfl, rfl⟩
    · go_wp2_with fail
      go_ret2
      exact ⟨rfl, rfl⟩
    · have hT1 : (T : Int) ≤ 4000000000000 := by omega
      have hT2 : (1 : Int) ≤ T := by omega
      go_wp2_with fail
      go_ret2
      exact ⟨rfl, rfl⟩
end Go.Proofs.YtckihiiimomgfaaDoor
