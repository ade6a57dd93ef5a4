/- The walk of the statement that what is laid is read, what is split joined: StampBack. Printed by gen_stampback.py. -/
import Derived.Test.YtpejfngkdkkfnaaDoorStampLaws
import Derived.Test.YtpejfngkdkkfnaaDoorSplit
import Derived.Test.YtpejfngkdkkfnaaDoorJoin2
namespace Go.Proofs.YtpejfngkdkkfnaaDoor
open Go.RowKit
theorem info_part_zero4 : ∃ Z : List Value, Z.length = 5 ∧ ∀ w : World, (zeroValue 38).run Tryd.prog w = .ok (.agg Z.toArray) w := ⟨[.int .i64 0, .int .i64 0, .int .i64 0, .int .i64 0, .slice none 0 0], rfl, fun w => by kernel_rfl⟩
def SbRel (w2 : World) (L : List StampMath.Part) (v i : Value) (wr : World) : Prop :=
  ∃ k : Nat, k ≤ L.length ∧ i = .int .i64 (k : Int) ∧ PRow wr 38 (fun x => w2.heap.size ≤ x) v (L.take k) ∧ Below w2.heap.size w2 wr
set_option maxRecDepth 100000 in
set_option maxHeartbeats 1000000 in
theorem stampBack_walk (epoch seq : Int) (A : Option Addr) (c : Nat) (b : List UInt8) (w : World) (hc : b.length ≤ c) (hm : c ≤ maxLen) (hr : Bs w A b) (ht : Halves w) (hs0 : -9223372036854775808 ≤ seq) (hs1 : seq ≤ 9223372036854775807) :
    Calls Tryd.prog 12 #[.int .i64 epoch, .int .i64 seq, .slice A b.length c] w fun e w' => e = .returned (.bool true) ∧ Below w.heap.size w w' := by
  have hcut := cut_bs A c 500 b w hc hm (by decide)
  obtain ⟨l0, hl0⟩ : ∃ l0, b.take 500 = l0 := ⟨_, rfl⟩
  have hb0 : Bs w A l0 := by rw [← hl0]; exact hr.take 500
  have hl0l : l0.length ≤ 500 ∧ l0.length ≤ c := by rw [← hl0, List.length_take]; omega
  obtain ⟨n, hn⟩ : ∃ n, l0.length = n := ⟨_, rfl⟩
  obtain ⟨mb, hmb⟩ : ∃ mb, b.length = mb := ⟨_, rfl⟩
  rw [hl0, hn, hmb] at hcut
  rw [hmb]
  obtain ⟨hl0l, hl0c⟩ := hl0l
  rw [hn] at hl0l hl0c
  have HCUT := Lib.hid hcut
  have HB0 := Lib.hid hb0
  have HN := Lib.hid hn
  have HT := Lib.hid ht
  have HM := Lib.hid hm
  by_cases hcode : splitCode epoch seq n = 0
  · have hok : 0 ≤ epoch ∧ epoch ≤ 4294967295 ∧ 0 ≤ seq ∧ seq ≤ 4294967295 ∧ seq ≤ 4294967295 - ((StampMath.totalOf n : Nat) - 1 : Int) := by
      have htp := StampMath.totalOf_pos n
      unfold splitCode at hcode
      split at hcode
      · cases hcode
      · split at hcode
        · cases hcode
        · split at hcode
          · cases hcode
          · omega
    obtain ⟨o1, o2, o3, o4, o5⟩ := hok
    have hsp := split_yes epoch seq A c l0 w o1 o2 o3 (by rw [hn]; exact o5) (by omega) (by omega) hm hb0
    rw [hn] at hsp
    have htl : StampMath.totalOf n ≤ 14 := by unfold StampMath.totalOf; omega
    have hpl : (StampMath.parts epoch seq l0).length = StampMath.totalOf n := by rw [StampMath.parts_length, hn]
    have hright : ∀ q ∈ StampMath.parts epoch seq l0, StampMath.right q := fun q hq => by
      unfold StampMath.parts at hq
      obtain ⟨i, hi, rfl⟩ := List.mem_map.1 hq
      rw [hn] at hi
      have := List.mem_range.1 hi
      exact StampMath.part_right o1 o2 o3 (by omega) (by rw [hn]; omega) (by rw [hn]; omega)
    have htp := StampMath.totalOf_pos n
    have hjoin := StampMath.join_parts epoch seq l0 o1 o2 o3 (by rw [hn]; omega) (by rw [hn]; omega)
    obtain ⟨T, hT⟩ : ∃ T, StampMath.totalOf n = T := ⟨_, rfl⟩
    obtain ⟨L, hL⟩ : ∃ L, StampMath.parts epoch seq l0 = L := ⟨_, rfl⟩
    rw [hL] at hsp hpl hright hjoin
    rw [hT] at htl hpl htp
    have HSP := Lib.hid hsp
    have HPL := Lib.hid hpl
    have HRI := Lib.hid hright
    have HJN := Lib.hid hjoin
    obtain ⟨i0x, hi0, hz0, hz1, hz2⟩ := info_parts info_part
    have hus := Tryd.underlying38
    have hib5 : (Tryd.prog.info? 38).map (·.size) = some 5 := by kernel_rfl
    obtain ⟨Z, hZl, hzv⟩ := info_part_zero4
    have HZL := Lib.hid hZl
    clear hsp hpl hright hjoin hL hT hcode hcut hb0 hl0 hn hmb ht hm hc hr hZl o1 o2 o3 o4 o5 hs0 hs1
    go_enter Tryd.func12, Tryd.ntmps12
    go_wp2_with fail
    refine HCUT.out.mono ?_
    rintro e w' ⟨rfl, rfl⟩
    clear HCUT
    go_wp2_with fail
    refine HSP.out.mono ?_
    rintro e w2 ⟨v2, rfl, hp2, hb2⟩
    obtain ⟨A2, c2, rfl, hc2⟩ := hp2.shape
    rw [HPL.out] at hp2 hc2 ⊢
    have HP2 := Lib.hid hp2
    have HB2 := Lib.hid hb2
    clear hp2 hb2 HSP
    go_wp2_with fail
    go_loopw [9, 10] (fun v i wr => SbRel w2 L v i wr) (fun _ i _ => T - (intOf i).toNat)
    case atStart => exact ⟨0, Nat.zero_le _, rfl, PRow.nil _ _ _, Below.refl _ _⟩
    case round =>
      obtain ⟨k, hk, rfl, hrow, hb⟩ := hrel
      obtain ⟨wo, rfl⟩ : ∃ wo : World, wo = wr := ⟨_, rfl⟩
      rw [HPL.out] at hk
      obtain ⟨A9, c9, rfl, hc9⟩ := hrow.shape
      have hlk : (L.take k).length = k := by rw [List.length_take]; have := HPL.out; omega
      rw [hlk] at hrow hc9 ⊢
      have HROW := Lib.hid hrow
      have HB := Lib.hid hb
      have hsz := hb.size
      clear hrow hb hlk
      by_cases hlt : k < T
      · obtain ⟨q, hx⟩ : ∃ q, L[k]? = some q := ⟨_, List.getElem?_eq_getElem (by have := HPL.out; omega)⟩
        obtain ⟨g, c', u, hv, _, hgl, _, hrg, hou, _⟩ := (HP2.out.below HB.out).at_ hx
        injection hv with e4 e5 e6
        subst e4 e6
        have hqr := HRI.out q (List.mem_of_getElem? hx)
        obtain ⟨pe, ps, pi, pt, pd⟩ := q
        simp only at hou
        obtain ⟨Au, nu, cu, rfl, hnu, hcu, _⟩ := hou.shape'
        have hlay : ∀ w2, Below wo.heap.size wo w2 → _ := fun w3 hb => stampLay_ok ⟨pe, ps, pi, pt, pd⟩ Au cu w3 hqr (hou.bs.below hb) (HT.out.below (below_then (below_then HB2.out HB.out) hb))
        simp only at hlay
        rw [hnu] at hlay
        have hll : (StampMath.lay ⟨pe, ps, pi, pt, pd⟩).length = 64 := StampMath.lay_length _ hqr.2.2.2.2.2.2.2.2
        have hrl := StampMath.read_lay ⟨pe, ps, pi, pt, pd⟩ hqr
        have hib : (Tryd.prog.info? 38).map (·.size) = some (partCells ⟨pe, ps, pi, pt, pd⟩ (.slice Au nu cu)).length := by kernel_rfl
        have hnu38 : nu ≤ 38 := by rw [← hnu]; exact hqr.2.2.2.2.2.2.2.2
        have HRG := Lib.hid hrg
        have HOU := Lib.hid hou
        have HLAY := Lib.hid hlay
        have HLL := Lib.hid hll
        have HRL := Lib.hid hrl
        have HNU := Lib.hid hnu
        have HX := Lib.hid hx
        clear hrg hou hqr hx hlay hll hrl hnu e5
        go_wp2_with (first
          | refine wpList_load_mid rfl 38 (.tmp 43) rfl g (k * 5) rfl (partCells ⟨pe, ps, pi, pt, pd⟩ (.slice Au nu cu)) _ HRG.out hus rfl hib ?_)
        refine (HLAY.out _ (Below.refl _ _)).mono ?_
        rintro e w3 ⟨g3, rfl, hg3, hblk, hb3⟩
        have HBLK := Lib.hid hblk
        have HB3 := Lib.hid hb3
        have hs3 := hb3.size
        clear hblk hb3 HLAY
        go_wp2_with fail
        refine (stampRead_some (some ⟨g3, 0, none⟩) 64 64 _ _ w3 HLL.out (Nat.le_refl _) (by decide) HBLK.out.bs (HT.out.below (below_then (below_then HB2.out HB.out) HB3.out)) HRL.out).mono ?_
        rintro e w3r ⟨B, d3, rfl, ho3, hb3r⟩
        simp only at ho3 ⊢
        rw [HNU.out] at ho3 ⊢
        have ho3' : Own8 w3r w3.heap.size (.slice B nu d3) pd := by unfold Own8; rw [HNU.out]; exact ho3
        have HO3 := Lib.hid ho3'
        have HB3R := Lib.hid (below_then HB3.out hb3r)
        have hs3r := hb3r.size
        clear hb3r ho3 ho3'
        go_wp2_with (refine wpList_store_new rfl 38 (.tmp 13) (.tmp 51) rfl rfl (partCells ⟨pe, ps, pi, pt, pd⟩ (.slice B nu d3)) rfl rfl (by show Z.toArray.size = _; rw [List.size_toArray, HZL.out]; rfl) hib (fun u hu => by simp at hu; rcases hu with rfl | rfl | rfl | rfl | rfl <;> rfl) ?_; intro w4 hr4 hb4 hs4; have HR4 := Lib.hid hr4; have HB4 := Lib.hid hb4; clear hr4 hb4 hs4)
        have hB4 := below_then HB3R.out HB4.out
        have hsk : ∀ w' : World, Below w4.heap.size w4 w' → w'.rangeAt w3r.heap.size 0 (partCells ⟨pe, ps, pi, pt, pd⟩ (.slice B nu d3)) ∧ w'.rangeAt g (k * 5) (partCells ⟨pe, ps, pi, pt, pd⟩ (.slice Au nu cu)) := fun w' hb => by
          refine ⟨?_, fun j y hj => ?_⟩
          · have := (HR4.out.below hb).range 0 5
            simpa using this
          · have := HRG.out j y hj
            rw [← this]
            exact (below_then hB4 hb).cell (p := ⟨g, k * 5 + j, none⟩) hgl
        have hrs : ∀ w' : World, Below w4.heap.size w4 w' → _ := fun w' hb => refSame_self ⟨pe, ps, pi, pt, pd⟩ B Au d3 cu w' (by rw [HNU.out]; omega) ((HO3.out.bs.below HB4.out).below hb) ((HOU.out.bs.below hB4).below hb)
        simp only [HNU.out] at hrs
        have HBX := Lib.hid hB4
        obtain ⟨g13, hg13⟩ : ∃ g13, w3r.heap.size = g13 := ⟨_, rfl⟩
        rw [hg13] at hsk ⊢
        have HSK := Lib.hid hsk
        have HRS := Lib.hid hrs
        clear hB4 hsk hrs hg13
        go_wp2_with fail
        refine wp_region_mix [(true, 0), (true, 1), (true, 2), (true, 3), (true, 4), (true, 5), (true, 6), (true, 7), (true, 9), (true, 10), (true, 11), (true, 12), (false, 8), (false, 13), (false, 14), (true, 15), (true, 16)] 17 (fun w' => w'.rangeAt g13 0 (partCells ⟨pe, ps, pi, pt, pd⟩ (.slice B nu d3)) ∧ w'.rangeAt g (k * 5) (partCells ⟨pe, ps, pi, pt, pd⟩ (.slice Au nu cu))) (by kernel_rfl) (by kernel_rfl) (by rintro _ ⟨_, _⟩ ⟨_, _⟩ _ rfl h; exact h) (HSK.out _ (Below.refl _ _).drew) ?_
        simp only [pickM, List.getElem?_cons_succ, List.getElem?_cons_zero]
        (refine wpMix_take (v := ?_) ?_ ?_; rotate_left; · (refine Or.inl ⟨by rfl, ?_⟩; intro w' hSw; go_simp; (try with_reducible rfl)))
        (try simp only [Act.put, List.setIfInBounds_toArray, List.set_cons_zero, List.set_cons_succ])
        (refine wpMix_take (v := ?_) ?_ ?_; rotate_left; · (refine Or.inl ⟨by rfl, ?_⟩; intro w' hSw; go_simp; (try with_reducible rfl)))
        (try simp only [Act.put, List.setIfInBounds_toArray, List.set_cons_zero, List.set_cons_succ])
        (refine wpMix_take (v := ?_) ?_ ?_; rotate_left; · (refine Or.inl ⟨by rfl, ?_⟩; intro w' hSw; go_simp; (try with_reducible rfl)))
        (try simp only [Act.put, List.setIfInBounds_toArray, List.set_cons_zero, List.set_cons_succ])
        (refine wpMix_take (v := ?_) ?_ ?_; rotate_left; · (refine Or.inl ⟨by rfl, ?_⟩; intro w' hSw; go_simp; (try with_reducible rfl)))
        (try simp only [Act.put, List.setIfInBounds_toArray, List.set_cons_zero, List.set_cons_succ])
        (refine wpMix_take (v := ?_) ?_ ?_; rotate_left; · (refine Or.inl ⟨by rfl, ?_⟩; intro w' hSw; go_simp; (try with_reducible rfl)))
        (try simp only [Act.put, List.setIfInBounds_toArray, List.set_cons_zero, List.set_cons_succ])
        (refine wpMix_take (v := ?_) ?_ ?_; rotate_left; · (refine Or.inl ⟨by rfl, ?_⟩; intro w' hSw; go_simp; (try with_reducible rfl)))
        (try simp only [Act.put, List.setIfInBounds_toArray, List.set_cons_zero, List.set_cons_succ])
        (refine wpMix_take (v := ?_) ?_ ?_; rotate_left; · (refine Or.inl ⟨by rfl, ?_⟩; intro w' hSw; go_simp; (try with_reducible rfl)))
        (try simp only [Act.put, List.setIfInBounds_toArray, List.set_cons_zero, List.set_cons_succ])
        refine wpMix_take (yieldsIf_load_mid (by rfl) 38 (.tmp 13) rfl g13 0 (by rfl) (partCells ⟨pe, ps, pi, pt, pd⟩ (.slice B nu d3)) _ (fun w' hS => hS.1) hus rfl hib5) ?_
        (try simp only [Act.put, List.setIfInBounds_toArray, List.set_cons_zero, List.set_cons_succ])
        (refine wpMix_take (v := ?_) ?_ ?_; rotate_left; · (refine Or.inl ⟨by rfl, ?_⟩; intro w' hSw; go_simp; (try with_reducible rfl)))
        (try simp only [Act.put, List.setIfInBounds_toArray, List.set_cons_zero, List.set_cons_succ])
        (refine wpMix_take (v := ?_) ?_ ?_; rotate_left; · (refine Or.inl ⟨by rfl, ?_⟩; intro w' hSw; go_simp; (try with_reducible rfl)))
        (try simp only [Act.put, List.setIfInBounds_toArray, List.set_cons_zero, List.set_cons_succ])
        (refine wpMix_take (v := ?_) ?_ ?_; rotate_left; · (refine Or.inl ⟨by rfl, ?_⟩; intro w' hSw; go_simp; (try with_reducible rfl)))
        (try simp only [Act.put, List.setIfInBounds_toArray, List.set_cons_zero, List.set_cons_succ])
        refine wpMix_take (yieldsIf_load_mid (by rfl) 38 (.tmp 64) rfl g (k * 5) (by rfl) (partCells ⟨pe, ps, pi, pt, pd⟩ (.slice Au nu cu)) _ (fun w' hS => hS.2) hus rfl hib5) ?_
        (try simp only [Act.put, List.setIfInBounds_toArray, List.set_cons_zero, List.set_cons_succ])
        refine wpMix_do rfl fun K hK => ?_
        go_simp
        refine (plain_any pe ps pi pt _ B nu d3 rfl _).mono ?_
        rintro e w5 ⟨rfl, hbw5⟩
        have hbbw5 : Below w4.heap.size w4 w5 := (Below.refl _ _).drew.trans hbw5
        refine hK.out _ _ (fun _ => HSK.out _ hbbw5) ?_
        clear hK K
        (try simp only [Act.put, List.setIfInBounds_toArray, List.set_cons_zero, List.set_cons_succ])
        refine wpMix_do rfl fun K hK => ?_
        go_simp
        refine (plain_any pe ps pi pt _ Au nu cu rfl _).mono ?_
        rintro e w6 ⟨rfl, hbw6⟩
        have hbbw6 : Below w4.heap.size w4 w6 := below_then hbbw5 hbw6
        refine hK.out _ _ (fun _ => HSK.out _ hbbw6) ?_
        clear hK K
        (try simp only [Act.put, List.setIfInBounds_toArray, List.set_cons_zero, List.set_cons_succ])
        refine wpMix_do rfl fun K hK => ?_
        go_simp
        refine (HRS.out _ hbbw6).mono ?_
        rintro e w7 ⟨rfl, hbw7⟩
        have hbbw7 : Below w4.heap.size w4 w7 := below_then hbbw6 hbw7
        refine hK.out _ _ (fun _ => HSK.out _ hbbw7) ?_
        clear hK K
        (try simp only [Act.put, List.setIfInBounds_toArray, List.set_cons_zero, List.set_cons_succ])
        (refine wpMix_take (v := ?_) ?_ ?_; rotate_left; · (refine Or.inl ⟨by rfl, ?_⟩; intro w' hSw; go_simp; (try with_reducible rfl)))
        (try simp only [Act.put, List.setIfInBounds_toArray, List.set_cons_zero, List.set_cons_succ])
        (refine wpMix_take (v := ?_) ?_ ?_; rotate_left; · (refine Or.inl ⟨by rfl, ?_⟩; intro w' hSw; go_simp; (try with_reducible rfl)))
        (try simp only [Act.put, List.setIfInBounds_toArray, List.set_cons_zero, List.set_cons_succ])
        refine wpMix_nil ?_
        have hB7 := below_then HBX.out hbbw7
        have HB7 := Lib.hid hB7
        have HSK7 := Lib.hid (HSK.out _ hbbw7).1
        have HROW7 := Lib.hid (HROW.out.below hB7)
        have HO37 := Lib.hid (((HO3.out.below HB4.out).below hbbw7).base (b := 0) (Nat.zero_le _))
        have hs7 := hB7.size
        clear hB7 hbbw7 hbw7 hbbw6 hbw6 hbbw5 hbw5 HSK HRS
        go_wp2_with (first
          | refine wpList_load_mid rfl 38 (.tmp 13) rfl g13 0 rfl (partCells ⟨pe, ps, pi, pt, pd⟩ (.slice B nu d3)) _ HSK7.out hus rfl hib ?_
          | (at_builtin
             refine wpList_pushP rfl (.tmp 70) (.tmp 72) 56 rfl 38 i0x (.agg #[.int .i64 0, .int .i64 0, .int .i64 0, .int .i64 0, .slice none 0 0]) Tryd.underlying56 hi0 hz0 hz1 hz2 rfl (by decide) (fun x => w2.heap.size ≤ x) (.slice A9 k c9) (.slice B nu d3) (L.take k) ⟨pe, ps, pi, pt, pd⟩ rfl HROW7.out rfl rfl HO37.out (fun x hx => by have := (HO3.out.lt x hx).1; omega) (by rw [List.length_take]; omega) ?_
             intro v9 w9 hp9 hk9 hv9
             have HP9 := Lib.hid hp9
             have HK9 := Lib.hid hk9
             clear hp9 hk9 hv9))
        go_roundw
        case rel =>
          refine ⟨k + 1, by have := HPL.out; omega, by go_num, ?_, (HB.out.trans (HB7.out.mono hsz)).trans (HK9.out.below (B := w2.heap.size) (fun x _ e => by obtain ⟨xs, _, h2, _⟩ := HROW.out; exact h2 x e) (by omega))⟩
          have e : L.take (k + 1) = L.take k ++ [⟨pe, ps, pi, pt, pd⟩] := by rw [List.take_add_one, HX.out]; rfl
          rw [e]
          exact HP9.out.mono (fun x hx => hx.elim id (fun h => by omega))
        case measure => simp [intOf]; omega
      · obtain rfl : k = T := by omega
        have hlL : L.take k = L := List.take_of_length_le (by have := HPL.out; omega)
        rw [hlL] at HROW
        have hj := join_any A9 k c9 L _ wo HPL.out (by omega) HROW.out
        have HJ := Lib.hid hj
        clear hj hlL
        go_wp2_with fail
        refine HJ.out.mono ?_
        rintro e w5 (⟨b', v5, hj, rfl, ho5, hb5⟩ | ⟨hj, _⟩)
        · obtain rfl : b' = l0 := by rw [HJN.out] at hj; exact (Option.some.inj hj).symm
          obtain ⟨A5, n5, c5, rfl, hn5, _, _⟩ := ho5.shape'
          obtain rfl : n5 = n := by have := HN.out; omega
          have hB5 := below_then (below_then HB2.out HB.out) hb5
          have hsm := same_at A5 A c5 c n5 n5 b' b' w5 HN.out HN.out (by omega) (by omega) ho5.bs (HB0.out.below hB5)
          rw [sameB_self] at hsm
          have HSM := Lib.hid hsm
          have HB5 := Lib.hid hB5
          clear hj ho5 hb5 hsm hB5 HJ hn5
          go_wp2_with fail
          refine HSM.out.mono ?_
          rintro e w6 ⟨rfl, hb6⟩
          have HB6 := Lib.hid (below_then HB5.out hb6)
          clear hb6
          go_wp2_with fail
          refine (stampLives_any w6 (HT.out.below HB6.out)).mono ?_
          rintro e w8 ⟨rfl, hb8⟩
          have HB8 := Lib.hid (below_then HB6.out hb8)
          clear hb8
          go_wp2_with fail
          go_ret
          exact ⟨rfl, HB8.out⟩
        · rw [HJN.out] at hj; cases hj
  · have hsp := split_no epoch seq A n c w hs0 hs1 (by omega) hcode
    obtain ⟨cd, hcd⟩ : ∃ cd, splitCode epoch seq n = cd := ⟨_, rfl⟩
    rw [hcd] at hsp hcode
    have n1 : ((cd : Int) != 0) = true := by rw [bne_iff_ne]; omega
    have HSP := Lib.hid hsp
    clear hsp hcode hcd hcut hb0 hl0 hn hmb ht hm hc hr hs0 hs1
    go_enter Tryd.func12, Tryd.ntmps12
    go_wp2_with fail
    refine HCUT.out.mono ?_
    rintro e w' ⟨rfl, rfl⟩
    clear HCUT
    go_wp2_with fail
    refine HSP.out.mono ?_
    rintro e w' ⟨rfl, rfl⟩
    go_wp2_with fail
    refine (stampLives_any w HT.out).mono ?_
    rintro e w8 ⟨rfl, hb8⟩
    have HB8 := Lib.hid hb8
    clear hb8
    go_wp2_with fail
    go_ret
    exact ⟨rfl, HB8.out⟩
end Go.Proofs.YtpejfngkdkkfnaaDoor
