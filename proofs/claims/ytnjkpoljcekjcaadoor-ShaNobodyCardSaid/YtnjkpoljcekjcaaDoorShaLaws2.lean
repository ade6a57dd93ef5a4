/- The walk of the statement on what a hash answers behind each piece: ShaPlays. -/
import Derived.Test.YtnjkpoljcekjcaaDoorShaLaws
import Derived.Test.YtnjkpoljcekjcaaDoorOpenRows
namespace Go.Proofs.YtnjkpoljcekjcaaDoor
open Go.RowKit
theorem HashAt.lt {w : World} {F : Nat → Prop} {p : Nat} {l : List UInt8} (h : HashAt w F p l) : HashAt w (fun k => F k ∧ k < w.heap.size) p l := by
  obtain ⟨s, made, v, h1, h2, h3, h4, h5⟩ := h
  exact ⟨s, made, v, h1, h2, ⟨h3, heap_lt h1⟩, fun g hg => ⟨h4 g hg, (h2.lt hg).2⟩, h5⟩
def PlRel (W : World) (p : Nat) (v i : Value) (wr : World) : Prop :=
  ∃ (j : Nat) (all : List UInt8) (F : Nat → Prop), i = .int .i64 (j : Nat) ∧ j ≤ 8 ∧ all.length ≤ 150 * j ∧ Own8 wr W.heap.size v all ∧ HashAt wr F p all ∧ (∀ k, F k → W.heap.size ≤ k ∧ k < wr.heap.size) ∧ (∀ k, v.ownBlock = some k → ¬ F k) ∧ Below W.heap.size W wr
/-- the bytes of a row of the call's own are overwritten -/
structure Over (w wr : World) (A : Option Addr) (n : Nat) : Prop where
  kept : Kept (fun g => 0 < n ∧ ∃ ad, A = some ad ∧ g = ad.block) w wr
  size : wr.heap.size = w.heap.size
  cell : ∀ i, i < n → ∃ g x, A = some ⟨g, 0, none⟩ ∧ wr.cell? ⟨g, i, none⟩ = some x ∧ wr.frozen? ⟨g, i, none⟩ = false
theorem Over.start {w : World} {base n c : Nat} {A : Option Addr} {l : List UInt8} (h : Own8 w base (.slice A n c) l) : Over w w A n := by
  refine ⟨Kept.refl _ _, rfl, fun i hi => ?_⟩
  rcases h.2 with ⟨e, h0⟩ | ⟨g, cap, cur, e, hb, hg, hn, hm, hs, ht⟩
  · injection e with _ e; omega
  · injection e with e1 e2 e3
    have hi2 : i < cur.size := by omega
    exact ⟨g, cur[i], e1, by rw [block_cell hg]; exact Array.getElem?_eq_getElem hi2, block_free hg⟩
theorem Over.set {w wr : World} {A : Option Addr} {n g i : Nat} (h : Over w wr A n) (hn : 0 < n) (hA : A = some ⟨g, 0, none⟩) (u : Value) : Over w (wr.setCell ⟨g, i, none⟩ u) A n := by
  refine ⟨h.kept.setCell (p := ⟨g, i, none⟩) (.inl ⟨hn, _, hA, rfl⟩) u, by simpa using h.size, fun j hj => ?_⟩
  obtain ⟨g', x, e, hc, hf⟩ := h.cell j hj
  rw [hA] at e
  injection e with e
  injection e with e
  subst e
  obtain ⟨y, hy⟩ : ∃ y, (wr.setCell ⟨g, i, none⟩ u).cell? ⟨g, j, none⟩ = some y := by
    by_cases hij : i = j
    · subst hij
      exact ⟨u, by
        have hb : ∃ cs T fr, wr.heap[g]? = some (.cells cs T fr) ∧ i < cs.size := by
          simp only [World.cell?] at hc
          cases hq : wr.heap[g]? with
          | none => rw [hq] at hc; simp at hc
          | some o =>
            rw [hq] at hc
            cases o with
            | cells cs T fr => exact ⟨cs, T, fr, rfl, by simp at hc; exact (Array.getElem?_eq_some_iff.1 hc).1⟩
            | _ => simp at hc
        obtain ⟨cs, T, fr, hb, hlt⟩ := hb
        rw [cell_of_row _ _ _ _ _ _ (set_block hb i u)]
        simp [hlt]⟩
    · have hb : ∃ cs T fr, wr.heap[g]? = some (.cells cs T fr) ∧ cs[j]? = some x := by
        simp only [World.cell?] at hc
        cases hq : wr.heap[g]? with
        | none => rw [hq] at hc; simp at hc
        | some o =>
          rw [hq] at hc
          cases o with
          | cells cs T fr => exact ⟨cs, T, fr, rfl, by simpa using hc⟩
          | _ => simp at hc
      obtain ⟨cs, T, fr, hb, hx⟩ := hb
      refine ⟨x, ?_⟩
      rw [cell_of_row _ _ _ _ _ _ (set_block hb i u)]
      rw [Array.getElem?_setIfInBounds, if_neg hij]
      exact hx
  refine ⟨g, y, hA, hy, ?_⟩
  rw [← hf]
  unfold World.frozen?
  simp only [World.setCell, Array.getElem?_modify]
  cases hq : wr.heap[g]? with
  | none => simp
  | some o => cases o <;> simp
def OvRel (w : World) (A : Option Addr) (n : Nat) (i : Value) (wr : World) : Prop := ∃ k : Nat, k ≤ n ∧ i = .int .i64 (k : Nat) ∧ Over w wr A n
set_option maxHeartbeats 2000000 in
theorem shaPlays_walk (A : Option Addr) (c : Nat) (ls : List (List UInt8)) (w : World) (_hc : ls.length ≤ c) (hm : c ≤ maxLen) (hw : Words w) (hr : Rws w A ls) :
    Calls Tryd.prog 5 #[.slice A ls.length c] w fun e w' => e = .returned (.bool true) ∧ Below w.heap.size w w' := by
  have hcm : c ≤ 9223372036854775807 := by unfold maxLen at hm; omega
  obtain ⟨i0, hi0, hz0, hz1, hz2⟩ := info_parts info_u8
  obtain ⟨N, hN⟩ : ∃ N, ls.length = N := ⟨_, rfl⟩
  rw [hN]
  have HN := Lib.hid hN
  clear hN
  go_enter Tryd.func5, Tryd.ntmps5
  go_wp2_with fail
  refine (shaNew_any w).mono ?_
  rintro e w1 ⟨rfl, hh1, hb1⟩
  have HH1 := Lib.hid hh1
  have HB1 := Lib.hid hb1
  have hws : w.heap.size < w1.heap.size := by obtain ⟨_, _, _, h, _⟩ := hh1; exact heap_lt h
  clear hh1 hb1
  go_wp2_with fail
  go_loopw [4, 5] (fun v i wr => PlRel w w.heap.size v i wr) (fun _ i _ => 8 - (intOf i).toNat)
  case atStart => exact ⟨0, [], _, rfl, by decide, by simp, Own8.nil _ _, HH1.out, fun k hk => by omega, fun k hk => by simp [Value.ownBlock] at hk, HB1.out⟩
  case round =>
    clear HH1 HB1
    obtain ⟨j, all, F, rfl, hj, hal, ho, hh, hF, hvF, hb⟩ := hrel
    obtain ⟨wo, rfl⟩ : ∃ wo : World, wo = wr := ⟨_, rfl⟩
    obtain ⟨A4, n4, c4, rfl, hn4, hc4, hcm4⟩ := ho.shape'
    have hsz := hb.size
    have HO := Lib.hid ho
    have HH := Lib.hid hh
    have HF := Lib.hid hF
    have HVF := Lib.hid hvF
    have HB := Lib.hid hb
    have HN4 := Lib.hid hn4
    have hn4b : n4 ≤ 1200 := by omega
    have hn4j : n4 ≤ 150 * j := by omega
    clear ho hh hF hvF hb hal hn4
    by_cases hgo : j < N ∧ j < 8
    · obtain ⟨hlt, h8⟩ := hgo
      obtain ⟨l1, hl1⟩ : ∃ l, ls[j]? = some l := ⟨_, List.getElem?_eq_getElem (by have := HN.out; omega)⟩
      obtain ⟨ad, B, cb, rfl, hadb, hce, hcb, hcbm, hbs⟩ := (hr.below HB.out) j l1 hl1
      clear hl1
      have HBS := Lib.hid (hbs.take 150)
      have HCUT := Lib.hid (cut_bs B cb 150 l1 wo hcb hcbm (by decide))
      have hbl : (l1.take 150).length ≤ 150 := List.length_take_le _ _
      obtain ⟨b, hbe⟩ : ∃ b, l1.take 150 = b := ⟨_, rfl⟩
      rw [hbe] at HBS HCUT hbl
      have HCOPY := Lib.hid (copy_any B cb b wo (by omega) HBS.out)
      obtain ⟨n1, hn1⟩ : ∃ n1, l1.length = n1 := ⟨_, rfl⟩
      obtain ⟨m, hm1⟩ : ∃ m, b.length = m := ⟨_, rfl⟩
      rw [hn1] at hce HCUT hcb
      rw [hm1] at HCUT HCOPY hbl
      have HM := Lib.hid hm1
      clear hbs hbe hn1 hm1
      go_wp2_with fail
      refine HCUT.out.mono ?_
      rintro e w' ⟨rfl, rfl⟩
      clear HCUT
      go_wp2_with fail
      refine HCOPY.out.mono ?_
      rintro e w2 ⟨v6, rfl, ho6, hb2⟩
      obtain ⟨A6, c6, rfl, hc6⟩ := own_shape ho6
      have hsz2 := hb2.size
      have ho6' : Own8 w2 wo.heap.size (.slice A6 m c6) b := by unfold Own8; rw [HM.out]; exact ho6
      have hA6 : ∀ ad', A6 = some ad' → b ≠ [] → wo.heap.size ≤ ad'.block ∧ ad'.block < w2.heap.size := by
        intro ad' h1 h2
        subst h1
        exact ho6.lt ad'.block rfl
      have HO6 := Lib.hid ho6'
      have HA6 := Lib.hid hA6
      have HB2 := Lib.hid hb2
      have hcm6 : c6 ≤ maxLen := own_capm ho6
      clear ho6 ho6' hb2 HCOPY hA6
      have hwr := write_any w2 F w.heap.size c6 A6 all b (HH.out.below HB2.out) HO6.out.bs (by have := HN4.out; have := HM.out; omega) ((hw.below HB.out).below HB2.out) (fun h => by have := (HF.out _ h).1; have := hw.1; omega) (fun ad' h1 h2 h3 => by have := HA6.out ad' h1 h2; have := (HF.out _ h3).2; omega)
      rw [HM.out] at hwr
      go_wp2_with fail
      refine hwr.mono ?_
      clear hwr
      rintro e w3 ⟨rfl, hk3, F3, hh3, hF3⟩
      have HH3 := Lib.hid hh3.lt
      have HK3 := Lib.hid hk3
      have HF3 := Lib.hid hF3
      have ho3 : w3.ownsRow w.heap.size 5 1 (.slice A4 n4 c4) (bvs all).length (bvs all) := by
        rw [bvs_length]
        exact (HO.out.below HB2.out).keep hk3 (fun k hk => HVF.out k hk)
      have HO3 := Lib.hid ho3
      have ho63 : Own8 w3 wo.heap.size (.slice A6 m c6) b := HO6.out.keep hk3 (fun k hk hf => by have := (HO6.out.lt k hk).1; have := (HF.out _ hf).2; omega)
      have HO63 := Lib.hid ho63
      have hsz3 := hk3.size
      clear hh3 hk3 hF3 ho3 ho63
      go_wp2_with (at_builtin; refine wpList_append_bs _ rfl (.tmp 28) (.tmp 29) 22 rfl w.heap.size 5 i0 (.int .u8 0) Tryd.underlying22 hi0 hz0 hz1 hz2 rfl (.slice A4 n4 c4) (bvs all) rfl HO3.out A6 c6 m b HM.out.symm rfl HO63.out.bs ?_ ?_ ?_; (rw [bvs_length]; have := HN4.out; have := HM.out; omega); (omega); intro v5 w4 hown4 hg4 hat4; have HOWN4 := Lib.hid hown4; have HG4 := Lib.hid hg4; have HAT4 := Lib.hid hat4; clear hown4 hg4 hat4)
      have hsz4 := HG4.out.size
      have hov : Over w4 w4 A6 m := by
        have h4 : Own8 w4 wo.heap.size (.slice A6 m c6) b := HO63.out.keep (Kept.of_grown (F := fun k => (Value.slice A4 n4 c4).ownBlock = some k) HG4.out (fun _ e => e)) (fun k hk hf => by have := (HO63.out.lt k hk).1; have := (HO.out.lt k hf).2; omega)
        exact Over.start h4
      have HOV := Lib.hid hov
      clear hov
      go_wp2_with fail
      go_loopw [7] (fun i wz => OvRel w4 A6 m i wz) (fun i _ => m - (intOf i).toNat)
      case atStart => exact ⟨0, Nat.zero_le _, rfl, HOV.out⟩
      case round =>
        clear HOV
        obtain ⟨k, hk, rfl, hov⟩ := hrel
        by_cases hkm : k < m
        · obtain ⟨g6, x, rfl, hcx, hfx⟩ := hov.cell k hkm
          have HOV := Lib.hid hov
          clear hov
          go_wp2_with fail
          go_roundw
          case rel => exact ⟨k + 1, by omega, by go_num, HOV.out.set (by omega) rfl _⟩
          case measure => simp [intOf]; omega
        · have hA6 := HA6.out
          have HKS := Lib.hid hov.kept
          have hsz5 := hov.size
          have hall : all.length + m ≤ 100000 := by have := HN4.out; omega
          have hm4 : (all ++ b).length = n4 + m := by rw [List.length_append, HN4.out, HM.out]
          have ho5 : Own8 w4 w.heap.size v5 (all ++ b) := by
            have h := HOWN4.out
            rw [bvs_length, HM.out] at h
            unfold Own8
            rw [bvs_append, List.length_append, HM.out]
            exact h
          have hb6 : ∀ k, (0 < m ∧ ∃ ad, A6 = some ad ∧ k = ad.block) → wo.heap.size ≤ k ∧ k < w2.heap.size := by
            rintro k ⟨h2, ad', h1, rfl⟩
            exact hA6 ad' h1 (by intro h; rw [h] at HM; have := HM.out; simp at this; omega)
          have hh4 : HashAt w4 (fun k => F3 k ∧ k < w3.heap.size) w.heap.size (all ++ b) := HH3.out.kept (Kept.of_grown (F := fun k => (Value.slice A4 n4 c4).ownBlock = some k) HG4.out (fun _ e => e)) (fun k hk hf => by
            have h1 := (HO.out.lt k hf).2
            rcases HF3.out k hk.1 with h2 | h2
            · exact HVF.out k hf h2
            · omega)
          have hh5 : HashAt wr (fun k => F3 k ∧ k < w3.heap.size) w.heap.size (all ++ b) := hh4.kept HKS.out (fun k hk hf => by
            have h1 := hb6 k hf
            rcases HF3.out k hk.1 with h2 | h2
            · have := (HF.out k h2).2; omega
            · omega)
          have hv5 : ∀ k, v5.ownBlock = some k → (k < wo.heap.size ∧ ¬ F k) ∨ k = w3.heap.size := by
            intro k hk
            rcases HAT4.out with h1 | h1
            · rw [h1] at hk
              exact .inl ⟨(HO.out.lt k hk).2, HVF.out k hk⟩
            · rw [h1] at hk; injection hk with hk; exact .inr hk.symm
          have ho6 : Own8 wr w.heap.size v5 (all ++ b) := ho5.keep HKS.out (fun k hk hf => by
            have h1 := hb6 k hf
            rcases hv5 k hk with h2 | h2 <;> omega)
          have hb7 : Below w.heap.size w wr := by
            have k1 := HB.out.trans (HB2.out.mono hsz)
            have k2 := k1.trans (HK3.out.below (B := w.heap.size) (fun k _ hk => (HF.out k hk).1) k1.size)
            have k3 := k2.grown HG4.out k2.size (fun k hk => (HO.out.lt k hk).1)
            exact k3.trans (HKS.out.below (B := w.heap.size) (fun k _ hk => by have := hb6 k hk; omega) k3.size)
          obtain ⟨A5, n5, c5, rfl, hn5, hc5, hcm5⟩ := ho6.shape'
          have hn5' : n5 = n4 + m := by omega
          have hne : ((n5 : Int) != (n5 : Int)) = false := by simp
          have heq := eq_sum_self (ShaMath.sha (all ++ b)) (ShaMath.sha_length _)
          have hg := guard_sum
          have HH5 := Lib.hid hh5
          have HO6' := Lib.hid ho6
          have HB7 := Lib.hid hb7
          have HV5 := Lib.hid hv5
          have HN5 := Lib.hid hn5
          have hn5b : n5 ≤ 1400 := by omega
          have hn5j : n5 ≤ 150 * (j + 1) := by omega
          have hF5 : ∀ k, (F3 k ∧ k < w3.heap.size) → w.heap.size ≤ k ∧ k < wr.heap.size := by
            rintro k ⟨h1, h2⟩
            rcases HF3.out k h1 with h3 | h3
            · exact ⟨(HF.out k h3).1, by omega⟩
            · exact ⟨by omega, by omega⟩
          have hvF5 : ∀ k, (Value.slice A5 n5 c5).ownBlock = some k → ¬ (F3 k ∧ k < w3.heap.size) := by
            rintro k hk ⟨h1, h2⟩
            rcases hv5 k hk with h3 | h3
            · rcases HF3.out k h1 with h4 | h4
              · exact h3.2 h4
              · omega
            · omega
          have HF5 := Lib.hid hF5
          have HVF5 := Lib.hid hvF5
          obtain ⟨all2, ha2⟩ : ∃ all2, all ++ b = all2 := ⟨_, rfl⟩
          rw [ha2] at HH5 HO6' HN5 heq
          clear hov hA6 hm4 ho5 hb6 hh4 hh5 hv5 ho6 hb7 hn5 hn5' hF5 hvF5 ha2 HOWN4 HG4 HAT4 hall
          go_wp2_with fail
          refine (sum_any wr _ w.heap.size all2 HH5.out (by have := HN5.out; omega) (hw.below HB7.out)).mono ?_
          rintro e w6 ⟨rfl, hb6⟩
          have HB6 := Lib.hid hb6
          clear hb6
          go_wp2_with fail
          refine (refOf_any A5 n5 c5 all2 w6 HN5.out (by omega) (HO6'.out.below HB6.out).bs).mono ?_
          rintro e w7 ⟨rfl, hb7⟩
          have HB67 := Lib.hid (below_then HB6.out hb7)
          clear hb7
          go_wp2_with fail
          refine (hashLen_any w7 _ w.heap.size all2 (HH5.out.below HB67.out)).mono ?_
          rintro e w8 ⟨rfl, rfl⟩
          rw [HN5.out]
          go_wp2_with fail
          go_roundw
          case rel =>
            have h67 := HB67.out.size
            exact ⟨j + 1, all2, _, by go_num, by omega, by rw [HN5.out]; omega, HO6'.out.below HB67.out, HH5.out.below HB67.out, fun k hk => ⟨(HF5.out k hk).1, by have := (HF5.out k hk).2; omega⟩, HVF5.out, below_then HB7.out HB67.out⟩
          case measure => simp [intOf]; omega
    · have hx : ¬ j < N ∨ (j < N ∧ ¬ j < 8) := by omega
      clear hgo
      rcases hx with hx | ⟨hx, hy⟩
      all_goals
        go_wp2_with fail
        refine (shaLives_any wo (hw.below HB.out)).mono ?_
        rintro e w7 ⟨rfl, hb7⟩
        have HB7 := Lib.hid (below_then HB.out hb7)
        clear hb7
        go_wp2_with fail
        go_ret
        exact ⟨rfl, HB7.out⟩
end Go.Proofs.YtnjkpoljcekjcaaDoor
