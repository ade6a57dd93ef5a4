/- The document's Decode; the walks of the laws on revisions as text: each returns true and turns nothing that was there. -/
import Derived.Test.YtmaemlmbhldmkaaDoorZookieDec
namespace Go.Proofs.YtmaemlmbhldmkaaDoor
open Go.RowKit
set_option maxRecDepth 100000 in
set_option maxHeartbeats 1000000 in
theorem refDecode14_any (l : List UInt8) (w : World) (hl : l.length ≤ 65536) :
    Calls Tryd.prog 7 #[.string ⟨l.toArray⟩] w fun e w' => e = zRet l ∧ Below w.heap.size w w' := by
  have hzr : zRet l = .returned (.tuple #[.int .u64 ((ZookieMath.back l).1 : Nat), .int .i64 ((ZookieMath.back l).2 : Nat)]) := rfl
  cases hd : B64Math.dec l with
  | none =>
    have hb : ZookieMath.back l = (0, 4) := by unfold ZookieMath.back; rw [hd]
    rw [hb] at hzr
    have HZ := Lib.hid hzr
    have HD := Lib.hid hd
    clear hd hzr
    go_enter Tryd.func7, Tryd.ntmps7
    go_wp2_with fail
    refine (refDecode_any l w hl).mono ?_
    rintro e w1 ⟨hb1, hp⟩
    rw [HD.out] at hp
    simp only at hp
    subst hp
    go_wp2_with fail
    go_ret2
    exact ⟨by rw [HZ.out]; rfl, hb1⟩
  | some b =>
    have hbl := dec_le hd
    have hb := ZookieMath.back_ref hd
    have hnr : numRet b = .returned (.tuple #[.int .u64 ((WireMath.get b).1 : Nat), .int .i64 ((WireMath.get b).2.1 : Nat), .int .i64 ((WireMath.get b).2.2 : Nat)]) := rfl
    rcases hg : WireMath.get b with ⟨x, n, f⟩
    rw [hg] at hb hnr
    simp only at hb hnr
    have hx64 : f = 0 → x < 18446744073709551616 := fun h => by subst h; exact (WireMath.get_one hg).2.2.2.1
    have HZ := Lib.hid hzr
    have HB := Lib.hid hb
    have HN := Lib.hid hnr
    have HD := Lib.hid hd
    clear hd hg hb hnr hzr
    go_enter Tryd.func7, Tryd.ntmps7
    go_wp2_with fail
    refine (refDecode_any l w hl).mono ?_
    rintro e w1 ⟨hb1, hp⟩
    rw [HD.out] at hp
    simp only at hp
    obtain ⟨v, rfl, hown⟩ := hp
    obtain ⟨A, c, rfl, hc⟩ := own_shape hown
    have hr := Bs.of_own hown
    clear hown
    by_cases h5 : b.length < 5
    · have hz := HZ.out
      rw [HB.out, if_neg (fun h => by omega)] at hz
      have HZ' := Lib.hid hz
      clear hz
      go_wp2_with fail
      go_ret2
      exact ⟨by rw [HZ'.out]; rfl, hb1⟩
    · go_wp2_with fail
      refine (refGet_any A c b w1 (by omega) hr).mono ?_
      rw [HN.out]
      rintro e w' ⟨rfl, rfl⟩
      by_cases hf : f = 0
      · subst hf
        have hx := hx64 rfl
        clear hx64
        by_cases hn : n + 4 = b.length
        · have hne : ((n : Int) != (b.length : Int) - 4) = false := by
            rw [bne_eq_false_iff_eq]; omega
          by_cases hmax : x ≤ 4611686018427387903
          · go_wp2_with fail
            refine (refBytes14_any x w1 hx).mono ?_
            rintro e w2 ⟨v2, rfl, hown2, hb2⟩
            obtain ⟨A2, c2, rfl, _⟩ := own_shape hown2
            have hr2 := Bs.of_own hown2
            have hr1 := hr.below hb2
            have hsl := ZookieMath.sealed_le x hx
            clear hown2 hr
            go_wp2_with fail
            refine (same_bel A2 A c2 c (ZookieMath.sealed x) b w2 (by omega) (by omega) hr2 hr1).mono ?_
            rintro e w3 ⟨rfl, hb3⟩
            by_cases hsb : ZookieMath.sealed x = b
            · have hz := HZ.out
              rw [HB.out, if_pos ⟨by omega, by trivial, hn, hmax, hsb⟩] at hz
              have HZ' := Lib.hid hz
              rw [hsb, sameB_self]
              clear hz hsb
              go_wp2_with fail
              go_ret2
              exact ⟨by rw [HZ'.out]; rfl, below_then (below_then hb1 hb2) hb3⟩
            · have hz := HZ.out
              rw [HB.out, if_neg (fun h => hsb h.2.2.2.2)] at hz
              have HZ' := Lib.hid hz
              have e0 : sameB (ZookieMath.sealed x) b = false := decide_eq_false hsb
              rw [e0]
              clear hz hsb e0
              go_wp2_with fail
              go_ret2
              exact ⟨by rw [HZ'.out]; rfl, below_then (below_then hb1 hb2) hb3⟩
          · have hz := HZ.out
            rw [HB.out, if_neg (fun h => hmax h.2.2.2.1)] at hz
            have HZ' := Lib.hid hz
            clear hz
            go_wp2_with fail
            go_ret2
            exact ⟨by rw [HZ'.out]; rfl, hb1⟩
        · have hne : ((n : Int) != (b.length : Int) - 4) = true := by
            rw [bne_iff_ne]; omega
          have hz := HZ.out
          rw [HB.out, if_neg (fun h => hn h.2.2.1)] at hz
          have HZ' := Lib.hid hz
          clear hz
          go_wp2_with fail
          go_ret2
          exact ⟨by rw [HZ'.out]; rfl, hb1⟩
      · have hfe := rd_err_spell hf
        have hz := HZ.out
        rw [HB.out, if_neg (fun h => hf h.2.1)] at hz
        have HZ' := Lib.hid hz
        clear hz hx64
        go_wp2_with fail
        go_ret2
        exact ⟨by rw [HZ'.out]; rfl, hb1⟩
theorem text_le (x : Nat) (hx : x < 18446744073709551616) : (ZookieMath.text x).length ≤ 65536 := by
  have h1 := ZookieMath.sealed_le x hx
  have h2 : (ZookieMath.text x).length = _ := B64Math.enc_length _
  omega
set_option maxRecDepth 100000 in
set_option maxHeartbeats 1000000 in
theorem zookieTexts_walk (r : Nat) (s : ByteArray) (w : World) (hr : r < 18446744073709551616) (hs : s.size ≤ maxLen) (ht : Halves w) :
    Calls Tryd.prog 3 #[.int .u64 (r : Nat), .string s] w fun e w' => e = .returned (.bool true) ∧ Below w.heap.size w w' := by
  go_enter Tryd.func3, Tryd.ntmps3
  go_wp2_with fail
  refine (short_any s 60 w hs (by decide)).mono ?_
  rintro e w' ⟨rfl, rfl⟩
  have htl : (s.data.toList.take 60).length ≤ 60 := List.length_take_le _ _
  generalize s.data.toList.take 60 = t at *
  clear hs
  have hzr : zRet t = .returned (.tuple #[.int .u64 ((ZookieMath.back t).1 : Nat), .int .i64 ((ZookieMath.back t).2 : Nat)]) := rfl
  rcases hbk : ZookieMath.back t with ⟨p, q⟩
  rw [hbk] at hzr
  simp only at hzr
  have HZ := Lib.hid hzr
  clear hzr hbk
  go_wp2_with fail
  refine (zDecode_any t w (by omega) ht).mono ?_
  rw [HZ.out]
  rintro e w1 ⟨rfl, hb1⟩
  go_wp2_with fail
  refine (refDecode14_any t w1 (by omega)).mono ?_
  rw [HZ.out]
  rintro e w2 ⟨rfl, hb2⟩
  have hb02 := below_then hb1 hb2
  clear hb1 hb2
  go_wp2_with fail
  refine (zEncode_any r w2 hr (ht.below hb02)).mono ?_
  rintro e w3 ⟨rfl, hb3⟩
  have hb03 := below_then hb02 hb3
  clear hb02 hb3
  have hsl := ZookieMath.sealed_le r hr
  have htx : ZookieMath.text r = B64Math.enc (ZookieMath.sealed r) := rfl
  rw [htx]
  go_wp2_with fail
  refine (refBytes14_any r w3 hr).mono ?_
  rintro e w4 ⟨v, rfl, hown, hb4⟩
  obtain ⟨A, c, rfl, hc⟩ := own_shape hown
  have hr4 := Bs.of_own hown
  have hb04 := below_then hb03 hb4
  clear hown hb03 hb4 htx
  generalize ZookieMath.sealed r = m at *
  go_wp2_with fail
  refine (refEncode_any A c m w4 (by omega) hc hr4).mono ?_
  rintro e w5 ⟨rfl, n, hw5⟩
  have hb05 : Below w.heap.size w w5 := below_then hb04 (by rw [hw5]; exact below_refl_drewN _ _ _)
  clear hw5
  generalize B64Math.enc m = z at *
  go_wp2_with fail
  refine (zLives_any w5 (ht.below hb05)).mono ?_
  rintro e w6 ⟨rfl, hb6⟩
  go_wp2_with fail
  go_ret
  exact ⟨rfl, below_then hb05 hb6⟩
set_option maxRecDepth 100000 in
set_option maxHeartbeats 1000000 in
theorem zookieBack_walk (r u : Nat) (s : ByteArray) (w : World) (hr : r < 18446744073709551616) (hu : u < 18446744073709551616) (hs : s.size ≤ maxLen) (ht : Halves w) :
    Calls Tryd.prog 4 #[.int .u64 (r : Nat), .int .u64 (u : Nat), .string s] w fun e w' => e = .returned (.bool true) ∧ Below w.heap.size w w' := by
  have hrr := ZookieMath.back_text r hr
  have htr := text_le r hr
  go_enter Tryd.func4, Tryd.ntmps4
  go_wp2_with fail
  refine (short_any s 60 w hs (by decide)).mono ?_
  rintro e w' ⟨rfl, rfl⟩
  have htl : (s.data.toList.take 60).length ≤ 60 := List.length_take_le _ _
  generalize s.data.toList.take 60 = t at *
  clear hs
  have hzr : zRet t = .returned (.tuple #[.int .u64 ((ZookieMath.back t).1 : Nat), .int .i64 ((ZookieMath.back t).2 : Nat)]) := rfl
  have hbs := fun h => @ZookieMath.back_some t h
  have hq04 : (ZookieMath.back t).2 = 0 ∨ (ZookieMath.back t).2 ≠ 0 := by omega
  rcases hbk : ZookieMath.back t with ⟨p, q⟩
  rw [hbk] at hzr hbs hq04
  simp only at hzr hbs hq04
  have HZ := Lib.hid hzr
  have HS := Lib.hid hbs
  clear hzr hbk hbs
  have hzx : zRet (ZookieMath.text r) = .returned (.tuple #[.int .u64 ((ZookieMath.back (ZookieMath.text r)).1 : Nat), .int .i64 ((ZookieMath.back (ZookieMath.text r)).2 : Nat)]) := rfl
  rw [hrr] at hzx
  have HX := Lib.hid hzx
  clear hzx hrr
  go_wp2_with fail
  refine (zEncode_any r w hr ht).mono ?_
  rintro e w1 ⟨rfl, hb1⟩
  go_wp2_with fail
  refine (zDecode_any (ZookieMath.text r) w1 htr (ht.below hb1)).mono ?_
  rw [HX.out]
  have key : ∀ x e1 : Nat, ((if r ≤ 4611686018427387903 then (r, 0) else (0, 4) : Nat × Nat) = (x, e1)) →
      ((r ≤ 4611686018427387903 ∧ r = x ∧ e1 = 0) ∨ (¬ r ≤ 4611686018427387903 ∧ x = 0 ∧ e1 = 4)) := by
    intro x e1 h
    by_cases h1 : r ≤ 4611686018427387903
    · rw [if_pos h1] at h; injection h with a b; exact .inl ⟨h1, a, b.symm⟩
    · rw [if_neg h1] at h; injection h with a b; exact .inr ⟨h1, a.symm, b.symm⟩
  rcases hif : (if r ≤ 4611686018427387903 then (r, 0) else (0, 4) : Nat × Nat) with ⟨x, e1⟩
  have hk := key x e1 hif
  clear key hif HX
  simp only
  rintro e w2 ⟨rfl, hb2⟩
  have hb02 := below_then hb1 hb2
  clear hb1 hb2
  have HE1 := fun w' (h : Below w.heap.size w w') => zEncode_any r w' hr (ht.below h)
  have HE2 := fun w' (h : Below w.heap.size w w') => zEncode_any u w' hu (ht.below h)
  have hcmp : (ZookieMath.text r = ZookieMath.text u ∧ r = u) ∨ (ZookieMath.text r ≠ ZookieMath.text u ∧ r ≠ u) := by
    by_cases h : r = u
    · exact .inl ⟨by rw [h], h⟩
    · exact .inr ⟨fun e => h (ZookieMath.text_inj hr hu e), h⟩
  have H1 := Lib.hid HE1
  have H2 := Lib.hid HE2
  have HC := Lib.hid hcmp
  clear HE1 HE2 hcmp
  go_wp2_with fail
  refine (zDecode_any t w2 (by omega) (ht.below hb02)).mono ?_
  rw [HZ.out]
  rintro e w3 ⟨rfl, hb3⟩
  have hb03 := below_then hb02 hb3
  clear hb02 hb3
  rcases hk with ⟨hmax, rfl, rfl⟩ | ⟨hmax, rfl, rfl⟩
  all_goals
    rcases hq04 with rfl | hq
    · obtain ⟨hpt, hpm⟩ := HS.out rfl
      have hp64 : p < 18446744073709551616 := by omega
      have HP := Lib.hid hpt
      clear hpt hpm
      go_wp2_with fail
      refine (zEncode_any p w3 hp64 (ht.below hb03)).mono ?_
      rintro e w4 ⟨rfl, hb4⟩
      rw [HP.out]
      have hb04 := below_then hb03 hb4
      clear hb4
      go_wp2_with fail
      refine (H1.out w4 hb04).mono ?_
      rintro e w5 ⟨rfl, hb5⟩
      have hb05 := below_then hb04 hb5
      clear hb5
      go_wp2_with fail
      refine (H2.out w5 hb05).mono ?_
      rintro e w6 ⟨rfl, hb6⟩
      have hb06 := below_then hb05 hb6
      clear hb6
      rcases HC.out with ⟨c1, c2⟩ | ⟨c1, c2⟩
      · rw [c1, c2]
        go_wp2_with fail
        refine (zLives_any w6 (ht.below hb06)).mono ?_
        rintro e w7 ⟨rfl, hb7⟩
        go_wp2_with fail
        go_ret
        exact ⟨rfl, below_then hb06 hb7⟩
      · obtain ⟨n1, n2⟩ := str_ne c1
        have c3 : (((r : Nat) : Int) == (u : Int)) = false := by rw [beq_eq_false_iff_ne]; omega
        go_wp2_with fail
        refine (zLives_any w6 (ht.below hb06)).mono ?_
        rintro e w7 ⟨rfl, hb7⟩
        go_wp2_with fail
        go_ret
        exact ⟨rfl, below_then hb06 hb7⟩
    · have hqe := rd_err_spell hq
      go_wp2_with fail
      refine (H1.out w3 hb03).mono ?_
      rintro e w5 ⟨rfl, hb5⟩
      have hb05 := below_then hb03 hb5
      clear hb5
      go_wp2_with fail
      refine (H2.out w5 hb05).mono ?_
      rintro e w6 ⟨rfl, hb6⟩
      have hb06 := below_then hb05 hb6
      clear hb6
      rcases HC.out with ⟨c1, c2⟩ | ⟨c1, c2⟩
      · rw [c1, c2]
        go_wp2_with fail
        refine (zLives_any w6 (ht.below hb06)).mono ?_
        rintro e w7 ⟨rfl, hb7⟩
        go_wp2_with fail
        go_ret
        exact ⟨rfl, below_then hb06 hb7⟩
      · obtain ⟨n1, n2⟩ := str_ne c1
        have c3 : (((r : Nat) : Int) == (u : Int)) = false := by rw [beq_eq_false_iff_ne]; omega
        go_wp2_with fail
        refine (zLives_any w6 (ht.below hb06)).mono ?_
        rintro e w7 ⟨rfl, hb7⟩
        go_wp2_with fail
        go_ret
        exact ⟨rfl, below_then hb06 hb7⟩
end Go.Proofs.YtmaemlmbhldmkaaDoor
