/- The contract of the document's Get: it tells what the program's number tells. -/
import Derived.Test.YtmaemlmbhldmkaaDoorZookieMath
import Derived.Test.YtmaemlmbhldmkaaDoorWireR
namespace Go.Proofs.YtmaemlmbhldmkaaDoor
open Go.RowKit
def RGet1 (l : List UInt8) (i : Value) : Prop :=
  ∃ k : Nat, k ≤ l.length ∧ k ≤ 10 ∧ i = .int .i64 (k : Nat) ∧ (k ≤ 9 → WireMath.getF k (ZookieMath.sev (l.take k)) (l.drop k) = WireMath.get l) ∧ (k = 10 → WireMath.get l = (0, 0, 5))
def RGet2 (l : List UInt8) (x i : Value) : Prop :=
  ∃ k : Nat, k ≤ l.length ∧ i = .int .i64 ((k : Int) - 1) ∧ x = .int .u64 (ZookieMath.sev (l.drop k) : Nat)
set_option maxRecDepth 100000 in
set_option maxHeartbeats 1000000 in
theorem refGet_any (A : Option Addr) (c : Nat) (l : List UInt8) (w : World) (_hl : l.length ≤ 1000000) (hr : Bs w A l) :
    Calls Tryd.prog 17 #[.slice A l.length c] w fun e w' => e = numRet l ∧ w = w' := by
  go_enter Tryd.func17, Tryd.ntmps17
  go_wp2_with fail
  go_loop [5] (fun i => RGet1 l i) (fun i => l.length - (intOf i).toNat)
  case atStart => exact ⟨0, Nat.zero_le _, by decide, rfl, fun _ => rfl, fun h => by omega⟩
  case round =>
    obtain ⟨k, hk, hk10, rfl, hget, hten⟩ := hrel
    by_cases hlt : k < l.length
    · by_cases h10 : k < 10
      · have hget := hget (by omega)
        have hst := ZookieMath.sev_take l k hlt
        rw [List.drop_eq_getElem_cons hlt] at hget
        simp only [WireMath.getF] at hget
        obtain ⟨ad, rfl, _, hca⟩ := hr.at_ hlt
        obtain ⟨b, hb⟩ : ∃ b, l[k] = b := ⟨_, rfl⟩
        rw [hb] at hca hget hst
        have hb256 := b.toNat_lt
        have h9v : ∀ h : 9 < l.length, k = 9 → l[9].toNat = b.toNat := fun h e => by subst e; rw [hb]
        obtain ⟨n, hn⟩ : ∃ n, b.toNat = n := ⟨_, rfl⟩
        rw [hn] at hca hget hb256 hst h9v
        clear hb hn hten
        have e10 : (((k : Nat) : Int) == 10) = false := by rw [beq_eq_false_iff_ne]; omega
        have eln : (((k : Nat) : Int) == (l.length : Int)) = false := by rw [beq_eq_false_iff_ne]; omega
        have HR := Lib.hid hr
        have HN := Lib.hid h9v
        have HT := Lib.hid hst
        clear hr h9v hst
        by_cases h128 : 128 ≤ n
        · have HG := Lib.hid hget
          clear hget e10 eln
          go_wp2_with fail
          go_round
          case rel =>
            have hget := HG.out
            refine ⟨k + 1, by omega, by omega, by go_num, fun h => ?_, fun h => ?_⟩
            · rw [if_neg (by omega), if_pos h128] at hget
              rw [HT.out, show n % 128 = n - 128 by omega]
              exact hget
            · rw [if_pos (by omega)] at hget
              exact hget.symm
          case measure => simp [intOf]; omega
        · by_cases h9 : k = 9 ∧ 1 < n
          · rw [if_pos (.inr h9)] at hget
            have HG := Lib.hid hget
            clear hget
            have e9 : (((k : Nat) : Int) == 9) = true := by rw [h9.1]; rfl
            have h1 : 1 < n := h9.2
            clear h9
            go_wp2_with fail
            go_ret3
            exact ⟨by unfold numRet; rw [← HG.out]; rfl, rfl⟩
          · rw [if_neg (by omega), if_neg h128] at hget
            have e9 : ((((k : Nat) : Int) == 9) = false) ∨ ((((k : Nat) : Int) == 9) = true ∧ decide (1 < (n : Int)) = false) := by
              by_cases h : k = 9
              · subst h
                exact .inr ⟨rfl, by simp; omega⟩
              · exact .inl (by rw [beq_eq_false_iff_ne]; omega)
            by_cases h0 : n = 0 ∧ 0 < k
            · rw [if_pos h0] at hget
              have HG := Lib.hid hget
              clear hget h9
              have z1 : (((n : Nat) : Int) == 0) = true := by rw [h0.1]; rfl
              have z2 : 0 < k := h0.2
              clear h0
              rcases e9 with e9 | ⟨e9, e9'⟩
              all_goals
                go_wp2_with fail
                go_ret3
                exact ⟨by unfold numRet; rw [← HG.out]; rfl, rfl⟩
            · rw [if_neg h0] at hget
              have hfin : WireMath.get l = (ZookieMath.sev (l.take (k + 1)), k + 1, 0) := by
                rw [HT.out, show n % 128 = n by omega]
                exact hget.symm
              have hfit := ZookieMath.sev_fits (l.take (k + 1))
              have hlen : (l.take (k + 1)).length = k + 1 := by rw [List.length_take]; omega
              have hfits : ∀ j, ZookieMath.sev ((l.take (k + 1)).drop j) < 18446744073709551616 := fun j => hfit j (by omega) (fun h => by
                have hk9 : k = 9 := by omega
                rw [List.getElem_take, HN.out (by omega) hk9]
                omega)
              have hr2 : Bs w (some ad) (l.take (k + 1)) := HR.out.take _
              have HG := Lib.hid hfin
              have hz : (0 < k ∧ (((n : Nat) : Int) == 0) = false) ∨ (k ≤ 0 ∧ k ≤ 0) := by
                by_cases h : 0 < k
                · exact .inl ⟨h, by rw [beq_eq_false_iff_ne]; omega⟩
                · exact .inr (by omega)
              clear h0 h9 hget hfin hfit HN HT HR
              generalize hm : l.take (k + 1) = m at *
              have hML := Lib.hid hm
              have HF := Lib.hid hfits
              have HM := Lib.hid hr2
              clear hm hfits hr2
              rcases e9 with e9 | ⟨e9, e9'⟩
              all_goals
                rcases hz with ⟨hz0, hz⟩ | ⟨hz, hk0⟩
                all_goals
                  first
                    | exact absurd (beq_iff_eq.1 e9) (by omega)
                    | (go_wp2_with fail
                       go_loop [6, 7] (fun x i => RGet2 m x i) (fun _ i => (intOf i + 1).toNat)
                       case atStart => exact ⟨k + 1, by omega, by go_num, by rw [List.drop_of_length_le (by omega)]; rfl⟩
                       case round =>
                         obtain ⟨j, hj, rfl, rfl⟩ := hrel
                         by_cases hj0 : j = 0
                         · subst hj0
                           go_wp2_with fail
                           go_ret3
                           exact ⟨by unfold numRet; rw [HG.out]; exact ret_int3 rfl (by go_num) rfl, rfl⟩
                         · obtain ⟨i, rfl⟩ : ∃ i, j = i + 1 := ⟨j - 1, by omega⟩
                           have hsd := ZookieMath.sev_drop m i (by omega)
                           have hft := HF.out i
                           obtain ⟨ad', e', _, hcj⟩ := HM.out.at_ (k := i) (by omega)
                           injection e' with e'
                           subst e'
                           have hi1 : ((i + 1 : Nat) : Int) - 1 = (i : Int) := by omega
                           rw [hi1]
                           have hq256 := m[i].toNat_lt
                           obtain ⟨q, hq⟩ : ∃ q, m[i].toNat = q := ⟨_, rfl⟩
                           rw [hq] at hcj hsd hq256
                           obtain ⟨s, hs⟩ : ∃ s, ZookieMath.sev (m.drop (i + 1)) = s := ⟨_, rfl⟩
                           rw [hs] at hsd ⊢
                           rw [hsd] at hft
                           have HSD := Lib.hid hsd
                           clear hs hq hi1 hj0 hsd
                           go_wp2_with fail
                           go_round
                           case rel => exact ⟨i, by omega, by go_num, by rw [HSD.out]; go_num⟩
                           case measure => simp [intOf])
      · have h5 := hten (by omega)
        obtain rfl : k = 10 := by omega
        have HG := Lib.hid h5
        clear h5 hten hget
        go_wp2_with fail
        go_ret3
        exact ⟨by unfold numRet; rw [HG.out]; rfl, rfl⟩
    · obtain rfl : k = l.length := by omega
      by_cases h10 : l.length = 10
      · have HG := Lib.hid (hten h10)
        have e10 : ((l.length : Int) == 10) = true := by rw [h10]; rfl
        have e9 : ((l.length : Int) == 9) = false := by rw [h10]; rfl
        clear hten hget
        go_wp2_with fail
        go_ret3
        exact ⟨by unfold numRet; rw [HG.out]; rfl, rfl⟩
      · have hg := hget (by omega)
        rw [List.drop_of_length_le (by omega)] at hg
        have HG := Lib.hid hg
        have e10 : ((l.length : Int) == 10) = false := by rw [beq_eq_false_iff_ne]; omega
        have e9 : ((l.length : Int) == 9) = false ∨ ((l.length : Int) == 9) = true := by cases h : ((l.length : Int) == 9) <;> simp
        clear hten hget hg
        rcases e9 with e9 | e9
        all_goals
          go_wp2_with fail
          go_ret3
          exact ⟨by unfold numRet; rw [← HG.out]; rfl, rfl⟩
end Go.Proofs.YtmaemlmbhldmkaaDoor
