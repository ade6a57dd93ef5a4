/- The contract of the document's Split. -/
import Derived.Test.YtckihiiimomgfaaDoorSplit
namespace Go.Proofs.YtckihiiimomgfaaDoor
open Go.RowKit
theorem info_partS : (Tryd.prog.info? 114).map (fun i => (i.zero, i.size, i.bytes)) = some (some (.agg #[.int .i64 0, .int .i64 0, .int .i64 0, .int .i64 0, .slice none 0 0]), 5, 56) := by kernel_rfl
def RsTot (w : World) (T : Nat) (v : Value) (wr : World) : Prop := w = wr ∧ ∃ j : Nat, v = .int .i64 (j : Int) ∧ 1 ≤ j ∧ j ≤ T
def RsRel (w : World) (epoch seq : Int) (d : List UInt8) (s v i : Value) (wr : World) : Prop :=
  ∃ (k : Nat) (A' : Option Addr) (n' c' : Nat), k ≤ StampMath.totalOf d.length ∧ i = .int .i64 (k : Int) ∧ s = .slice A' n' c' ∧ n' = d.length - 38 * k ∧ n' ≤ c' ∧ c' ≤ maxLen ∧ Bs w A' (d.drop (38 * k)) ∧
    PRow wr 114 (fun g => w.heap.size ≤ g) v ((StampMath.parts epoch seq d).take k) ∧ Below w.heap.size w wr
def RsCut (w : World) (d : List UInt8) (n' j : Nat) (s : Value) (wx : World) : Prop := ∃ A' c', s = .slice A' n' c' ∧ n' ≤ c' ∧ c' ≤ maxLen ∧ Bs w A' (d.drop j) ∧ w = wx
/-- what Split answers of parts that may be -/
def RsPost (epoch seq : Int) (d : List UInt8) (w : World) (e : Ending) (w' : World) : Prop :=
  (4294967295 - ((StampMath.totalOf d.length : Nat) - 1 : Int) < seq ∧ e = .returned (.tuple #[.slice none 0 0, .int .i64 8]) ∧ w = w') ∨
  (seq ≤ 4294967295 - ((StampMath.totalOf d.length : Nat) - 1 : Int) ∧ ∃ v, e = .returned (.tuple #[v, .int .i64 0]) ∧ PRow w' 114 (fun g => w.heap.size ≤ g) v (StampMath.parts epoch seq d) ∧ Below w.heap.size w w')
set_option maxRecDepth 100000 in
set_option maxHeartbeats 1000000 in
theorem refSplit_any (epoch seq : Int) (A : Option Addr) (n c : Nat) (d : List UInt8) (w : World) (hn : d.length = n) (he0 : 0 ≤ epoch) (he1 : epoch ≤ 4294967295) (hs0 : 0 ≤ seq) (hs1 : seq ≤ 4294967295) (hd : n ≤ 65536) (hc : n ≤ c) (hm : c ≤ maxLen) (hr : Bs w A d) :
    Calls Tryd.prog 58 #[.int .i64 epoch, .int .i64 seq, .slice A n c] w (RsPost epoch seq d w) := by
  obtain ⟨T, hT⟩ : ∃ T, StampMath.totalOf d.length = T := ⟨_, rfl⟩
  have htp : 1 ≤ T := by rw [← hT]; exact StampMath.totalOf_pos _
  have htu : T ≤ 1725 := by rw [← hT, hn]; unfold StampMath.totalOf; omega
  have hTj : ∀ j, 1 ≤ j → (38 * j < n ↔ j < T) := by intro j hj; rw [← hT, hn]; unfold StampMath.totalOf; omega
  have HN := Lib.hid hn
  have HT := Lib.hid hT
  have HTJ := Lib.hid hTj
  have HR := Lib.hid hr
  have HM := Lib.hid hm
  obtain ⟨i0, hi0, hz0, hz1, hz2⟩ := info_parts info_partS
  unfold RsPost
  rw [hT]
  have t1 : decide (epoch < 0) = false := decide_eq_false (by omega)
  have t2 : decide (4294967295 < epoch) = false := decide_eq_false (by omega)
  have t3 : decide (seq < 0) = false := decide_eq_false (by omega)
  have t4 : decide (4294967295 < seq) = false := decide_eq_false (by omega)
  have t5 : decide (65536 < (n : Int)) = false := decide_eq_false (by omega)
  clear hn hT hTj hr hm
  go_enter Tryd.func58, Tryd.ntmps58
  go_wp2_with fail
  go_loopw [8] (fun v wr => RsTot w T v wr) (fun v _ => T - (intOf v).toNat)
  case atStart => exact ⟨rfl, 1, rfl, Nat.le_refl _, htp⟩
  case round =>
    obtain ⟨hw, j, rfl, hj1, hjT⟩ := hrel
    subst hw
    have b0 : (0 : Int) ≤ (j : Int) * 38 := by omega
    have b1 : (j : Int) * 38 ≤ 65550 := by omega
    by_cases hlt : j < T
    · have b2 : (j : Int) * 38 < (n : Int) := by have := (HTJ.out j hj1).2 hlt; omega
      go_wp2_with fail
      go_roundw
      case rel => exact ⟨rfl, j + 1, by go_num, by omega, by omega⟩
      case measure => simp [intOf]; omega
    · have b2 : ¬ (j : Int) * 38 < (n : Int) := fun h => hlt ((HTJ.out j hj1).1 (by omega))
      obtain rfl : j = T := by omega
      obtain ⟨w, rfl⟩ : ∃ w0 : World, w0 = w := ⟨_, rfl⟩
      by_cases hfull : 4294967295 - ((j : Int) - 1) < seq
      · have b3 : (j : Int) - 1 > 4294967295 - seq := by omega
        go_wp2_with fail
        go_ret2
        first
          | exact .inl ⟨rfl, rfl⟩
          | exact .inl ⟨hfull, rfl, rfl⟩
      · have b3 : ¬ (j : Int) - 1 > 4294967295 - seq := by omega
        go_wp2_with fail
        have HSQ := Lib.hid (show seq ≤ 4294967295 - ((j : Int) - 1) by omega)
        clear b0 b1 b2 b3 hfull hlt hjT t1 t2 t3 t4 t5
        go_loopw [2, 9, 10] (fun s v i wr => RsRel w epoch seq d s v i wr) (fun _ _ i _ => j - (intOf i).toNat)
        case atStart => exact ⟨0, A, n, c, Nat.zero_le _, rfl, rfl, by rw [HN.out]; omega, hc, HM.out, HR.out, PRow.nil _ _ _, Below.refl _ _⟩
        case round =>
          obtain ⟨k, A', n', c', hk, rfl, rfl, hn', hnc', hcm', hbs, hp, hb⟩ := hrel
          obtain ⟨wo, rfl⟩ : ∃ wo : World, wo = wr := ⟨_, rfl⟩
          rw [HT.out] at hk
          rw [HN.out] at hn'
          obtain ⟨A9, c9, rfl, _⟩ := hp.shape
          obtain ⟨ps, hps⟩ : ∃ ps, (StampMath.parts epoch seq d).take k = ps := ⟨_, rfl⟩
          rw [hps] at hp ⊢
          obtain ⟨n9, hn9⟩ : ∃ n9, ps.length = n9 := ⟨_, rfl⟩
          rw [hn9] at hp ⊢
          have hlen : ps.length ≤ 1000000 := by rw [← hps, List.length_take]; omega
          have hsz := hb.size
          have HP := Lib.hid hp
          have HB := Lib.hid hb
          have HPS := Lib.hid hps
          have HBS := Lib.hid hbs
          have HCM := Lib.hid hcm'
          have HN' := Lib.hid hn'
          clear hp hb hps hn9 hbs hcm' hn'
          by_cases hlt2 : k < j
          · obtain ⟨dd, hdd⟩ : ∃ dd, d.drop (38 * k) = dd := ⟨_, rfl⟩
            have hddl : dd.length = n' := by rw [← hdd, List.length_drop, HN.out, HN'.out]
            have hcu := cut_bs A' c' 38 dd wo (by omega) HCM.out (by decide)
            obtain ⟨pd, hpd⟩ : ∃ pd, dd.take 38 = pd := ⟨_, rfl⟩
            obtain ⟨m, hm⟩ : ∃ m, pd.length = m := ⟨_, rfl⟩
            have hmn : m = min n' 38 := by rw [← hm, ← hpd, List.length_take, hddl, Nat.min_comm]
            have hm38 : m ≤ 38 := by omega
            rw [hpd, hddl, hm] at hcu
            have hbp : Bs wo A' pd := by rw [← hpd, ← hdd]; exact (HBS.out.below HB.out).take 38
            have hco := copy_any A' c' pd wo (by omega) hbp
            rw [hm] at hco
            have hdrop : dd.drop m = d.drop (38 * (k + 1)) := by
              rw [← hdd, List.drop_drop]
              by_cases h38 : m = 38
              · rw [h38]; congr 1
              · rw [List.drop_of_length_le (by rw [HN.out]; have := HN'.out; omega), List.drop_of_length_le (by rw [HN.out]; have := HN'.out; omega)]
            have HDROP := Lib.hid hdrop
            have HDDL := Lib.hid hddl
            have HBDD := Lib.hid (show Bs w A' dd from by rw [← hdd]; exact HBS.out)
            have HCU := Lib.hid hcu
            have HCO := Lib.hid hco
            have HPM := Lib.hid hm
            have HMN := Lib.hid hmn
            have hmle : m ≤ n' := by omega
            have hpart : StampMath.partOf epoch seq d k = ⟨epoch, seq + (k : Int), (k : Int), (j : Int), pd⟩ := by
              unfold StampMath.partOf
              rw [HT.out, hdd, hpd]
            have HPART := Lib.hid hpart
            clear hdd hddl hcu hpd hm hmn hbp hco hdrop hpart
            go_wp2_with fail
            refine HCU.out.mono ?_
            rintro e w' ⟨rfl, rfl⟩
            clear HCU
            go_wp2_with fail
            refine HCO.out.mono ?_
            rintro e w2 ⟨v2, rfl, ho2, hb2⟩
            clear HCO
            obtain ⟨A2, c2, rfl, _⟩ := own_shape ho2
            have HO2 := Lib.hid (show Own8 w2 wo.heap.size (.slice A2 m c2) pd by unfold Own8; rw [HPM.out]; exact ho2)
            have HP2 := Lib.hid (HP.out.below hb2)
            have HB2 := Lib.hid (HB.out.trans (hb2.mono hsz))
            have hs2 := hb2.size
            have hsq : seq + (k : Int) ≤ 4294967295 := by have := HSQ.out; omega
            clear ho2 hb2
            obtain ⟨n10, hn10⟩ : ∃ n10, (ps ++ [(⟨epoch, seq + (k : Int), (k : Int), (j : Int), pd⟩ : StampMath.Part)]).length = n10 := ⟨_, rfl⟩
            have HN10 := Lib.hid hn10
            clear hn10
            by_cases hcm : c' = m
            all_goals
              go_wp2_with (
                at_builtin
                refine wpList_pushP rfl (.tmp 48) (.tmp 58) 108 rfl 114 i0 (.agg #[.int .i64 0, .int .i64 0, .int .i64 0, .int .i64 0, .slice none 0 0]) Tryd.underlying108 hi0 hz0 hz1 hz2 rfl (by decide) (fun g => w.heap.size ≤ g) (.slice A9 n9 c9) (.slice A2 m c2) ps ⟨epoch, seq + (k : Int), (k : Int), (j : Int), pd⟩ rfl HP2.out rfl rfl (own_base HO2.out (Nat.zero_le _)) (fun g hg => by have := (HO2.out.lt g hg).1; omega) hlen ?_
                intro v4 w4 hp4 hk4 hv4
                obtain ⟨A4, c4, rfl, _⟩ := hp4.shape
                rw [HN10.out] at hp4 ⊢
                have HP4 := Lib.hid hp4
                have HK4 := Lib.hid hk4
                clear hp4 hk4 hv4)
              go_roundw
              case rel =>
                have hdr := HBDD.out.drop (k := m) (cap := c') (by rw [HDDL.out]; exact hnc')
                rw [HDROP.out] at hdr
                have e : (StampMath.parts epoch seq d).take (k + 1) = ps ++ [⟨epoch, seq + (k : Int), (k : Int), (j : Int), pd⟩] := by
                  rw [List.take_add_one, HPS.out]
                  congr 1
                  unfold StampMath.parts
                  rw [List.getElem?_map, List.getElem?_range (by rw [HT.out]; exact hlt2), Option.map_some, HPART.out]
                  rfl
                have hmm := HMN.out
                have hnn := HN'.out
                have hcx := HCM.out
                refine ⟨k + 1, _, _, _, by rw [HT.out]; omega, by go_num, rfl, by rw [HN.out]; omega, by omega, by omega, ?_, ?_, HB2.out.trans (HK4.out.below (B := w.heap.size) (fun g _ e => by obtain ⟨xs, _, h2, _⟩ := HP2.out; exact h2 g e) (by omega))⟩
                · first
                    | exact hdr
                    | (rw [if_pos hcm] at hdr; exact hdr)
                    | (rw [if_neg hcm] at hdr; exact hdr)
                · rw [e]
                  exact HP4.out.mono (fun g hg => hg.elim id (fun h => by omega))
              case measure => simp [intOf]; omega
          · obtain rfl : k = j := by omega
            have hps : ps = StampMath.parts epoch seq d := by
              rw [← HPS.out]
              exact List.take_of_length_le (by rw [StampMath.parts_length, HT.out]; exact Nat.le_refl _)
            have HPS2 := Lib.hid hps
            clear hps
            go_wp2_with fail
            go_ret2
            first
              | exact .inr ⟨HSQ.out, _, rfl, by rw [← HPS2.out]; exact HP.out, HB.out⟩
              | exact .inr ⟨_, rfl, by rw [← HPS2.out]; exact HP.out, HB.out⟩
end Go.Proofs.YtckihiiimomgfaaDoor
