/- The walks of the laws on numbers as bytes: each returns true and turns nothing that was there. -/
import Derived.Test.YtmaemlmbhldmkaaWireW
import Derived.Test.YtmaemlmbhldmkaaWireR2
namespace Go.Proofs.Ytmaemlmbhldmkaa
open Go.RowKit
theorem rdEnd_zero {l : List UInt8} {e : Nat} (h : rdEnd l e = 0) : l = [] ∧ e = 0 := by
  unfold rdEnd at h
  split at h
  · omega
  · next he =>
    split at h
    · next hl => exact ⟨hl, by omega⟩
    · omega
theorem one_u {b : List UInt8} (h : rdEnd (rdU b 0).2.1 (rdU b 0).2.2 = 0) : WireMath.put (rdU b 0).1 = b := by
  obtain ⟨h1, h2⟩ := rdEnd_zero h
  unfold rdU at *
  rw [if_neg (by decide)] at *
  rcases hg : WireMath.get b with ⟨x, n, f⟩
  rw [hg] at h1 h2
  simp only at h1 h2
  by_cases hf : f = 0
  · subst hf
    rw [if_pos rfl] at h1
    rw [if_pos rfl]
    obtain ⟨e1, e2, _⟩ := WireMath.get_one hg
    simp only at h1 ⊢
    rw [e1, List.take_of_length_le (List.drop_eq_nil_iff.1 h1)]
  · rw [if_neg hf] at h2
    exact absurd h2 hf
theorem one_bytes {b : List UInt8} (h : rdEnd (rdBytes b 0).2.1 (rdBytes b 0).2.2 = 0) : bytesOf (rdBytes b 0).1 = b := by
  obtain ⟨h1, h2⟩ := rdEnd_zero h
  unfold rdBytes at *
  by_cases hn : (rdN 2147483647 b 0).2.2 ≠ 0
  · rw [if_pos hn] at h2; exact absurd h2 hn
  · rw [if_neg hn] at *
    by_cases hx : (rdN 2147483647 b 0).2.1.length < (rdN 2147483647 b 0).1
    · rw [if_pos hx] at h2; cases h2
    · rw [if_neg hx] at *
      simp only at h1 h2 ⊢
      have hn0 : (rdN 2147483647 b 0).2.2 = 0 := by simpa using hn
      clear hn h2 h
      unfold rdN at *
      by_cases hu : (rdU b 0).2.2 ≠ 0
      · rw [if_pos hu] at hn0; exact absurd hn0 hu
      · rw [if_neg hu] at *
        by_cases hm : 2147483647 < (rdU b 0).1
        · rw [if_pos hm] at hn0; cases hn0
        · rw [if_neg hm] at *
          simp only at h1 hx ⊢
          have hu0 : (rdU b 0).2.2 = 0 := by simpa using hu
          clear hu hn0
          unfold rdU at *
          rw [if_neg (by decide)] at *
          rcases hg : WireMath.get b with ⟨x, n, f⟩
          rw [hg] at h1 hx hu0
          simp only at h1 hx hu0 ⊢
          by_cases hf : f = 0
          · subst hf
            rw [if_pos rfl] at h1 hx ⊢
            obtain ⟨e1, e2, _⟩ := WireMath.get_one hg
            simp only at h1 hx ⊢
            have hl := List.drop_eq_nil_iff.1 h1
            have e3 : (b.drop n).take x = b.drop n := List.take_of_length_le hl
            have e4 : (b.drop n).length = x := by omega
            unfold bytesOf
            rw [e3, e4, e1, List.take_append_drop]
          · rw [if_neg hf] at hu0
            exact absurd hu0 hf
theorem rdBytes_len (l : List UInt8) (e : Nat) : (rdBytes l e).2.1.length ≤ l.length := by
  have := rdN_len 2147483647 l e
  unfold rdBytes
  split
  · exact this
  · split
    · simp
    · simp; omega
theorem rdBytes_len' (l : List UInt8) (e : Nat) : (rdBytes l e).1.length ≤ l.length := by
  have := rdN_len 2147483647 l e
  unfold rdBytes
  split
  · simp
  · split
    · simp
    · simp; omega
set_option maxHeartbeats 400000 in
set_option maxRecDepth 100000 in
theorem wireLives_any (w : World) : Calls Try.prog 18 #[] w fun e w' => e = .returned (.bool true) ∧ Below w.heap.size w w' := by
  have hp : WireMath.put 300 = [172, 2] := by
    rw [WireMath.put_big (by decide), WireMath.put_small (by decide)]; decide
  have hput := wirePut_any 300 w (by decide)
  rw [hp] at hput
  have hu : rdU [172, 2] 0 = (300, [], 0) := by decide +kernel
  have HU := Lib.hid hu
  have HP := Lib.hid hput
  clear hp hput hu
  go_enter Try.func18, Try.ntmps18
  go_wp2_with fail
  refine HP.out.mono ?_
  rintro e w1 ⟨v, rfl, hown, hb1⟩
  obtain ⟨A, c, rfl, _⟩ := own_shape hown
  have hop := rdOpen_any A c [172, 2] w1 (by decide) (Bs.of_own hown)
  have HOP := Lib.hid hop
  clear hown hop HP
  go_wp2_with fail
  refine HOP.out.mono ?_
  rintro e w2 ⟨g, A2, c2, rfl, _, hrd, hb2⟩
  have hU := rdU_any g A2 c2 [172, 2] 0 w2 hrd (by decide)
  rw [HU.out] at hU
  have HUU := Lib.hid hU
  clear hU HOP
  have HRD := Lib.hid hrd
  clear hrd
  go_wp2_with fail
  refine HUU.out.mono ?_
  rintro e w3 ⟨rfl, hg, _⟩
  go_wp2_with fail
  go_ret
  refine ⟨rfl, ?_⟩
  have h12 := below_then hb1 hb2
  exact h12.grown hg h12.size (fun k e => by injection e with e; have := hb1.size; omega)
set_option maxHeartbeats 1000000 in
set_option maxRecDepth 100000 in
theorem wireOne_walk (A : Option Addr) (c : Nat) (l : List UInt8) (w : World) (hc : l.length ≤ c) (hm : c ≤ maxLen) (hr : Bs w A l) :
    Calls Try.prog 4 #[.slice A l.length c] w fun e w' => e = .returned (.bool true) ∧ Below w.heap.size w w' := by
  go_enter Try.func4, Try.ntmps4
  go_wp2_with fail
  refine (cut_bs A c 100 l w hc hm (by decide)).mono ?_
  rintro e w' ⟨rfl, rfl⟩
  have hrb := hr.take 100
  have hbl : (l.take 100).length ≤ 100 := List.length_take_le _ _
  generalize l.take 100 = b at *
  clear hr hc hm
  go_wp2_with fail
  refine (rdOpen_any A c b w (by omega) hrb).mono ?_
  rintro e w1 ⟨g, A1, c1, rfl, hg1, hrd, hb1⟩
  have HU := Lib.hid (rdU_any g A1 c1 b 0 w1 hrd (by omega))
  have hone := @one_u b
  have hxl := rdU_x b 0
  have hul := rdU_len b 0
  have HB1 := Lib.hid hb1
  clear hrd hb1
  rcases hu : rdU b 0 with ⟨x, m, f⟩
  rw [hu] at HU hone hxl hul
  simp only at HU hone hxl hul
  have HONE := Lib.hid hone
  have HXL := Lib.hid hxl
  clear hu hone hxl
  go_wp2_with fail
  refine HU.out.mono ?_
  rintro e w2 ⟨rfl, hg2, A2, c2, h2⟩
  have hb02 : Below w.heap.size w w2 := HB1.out.grown hg2 HB1.out.size (fun k e => by injection e with e; omega)
  have HB2 := Lib.hid hb02
  have HE := Lib.hid (rdEnd_any g A2 c2 m f w2 h2 (by omega))
  clear hg2 h2 HU HB1 hb02
  go_wp2_with fail
  refine HE.out.mono ?_
  rintro e w' ⟨rfl, rfl⟩
  clear HE
  obtain ⟨q, hq⟩ : ∃ q, rdEnd m f = q := ⟨_, rfl⟩
  rw [hq] at HONE ⊢
  by_cases hq0 : q = 0
  · subst hq0
    have hpx := HONE.out rfl
    have hput := wirePut_any x w2 HXL.out
    rw [hpx] at hput
    have HP := Lib.hid hput
    clear hpx hput hq HONE HXL
    go_wp2_with fail
    refine HP.out.mono ?_
    rintro e w3 ⟨v3, rfl, hown3, hb3⟩
    obtain ⟨A3, c3, rfl, _⟩ := own_shape hown3
    have HS := Lib.hid (same_bel A3 A c3 c b b w3 (by omega) (by omega) (Bs.of_own hown3) (hrb.below (below_then HB2.out hb3)))
    have HB3 := Lib.hid (below_then HB2.out hb3)
    clear hown3 hb3 HB2 HP
    go_wp2_with fail
    refine HS.out.mono ?_
    rintro e w4 ⟨rfl, hb4⟩
    rw [sameB_self]
    have HBM := Lib.hid (below_then HB3.out hb4)
    clear hb4 HB3 HS
    obtain ⟨wm, rfl⟩ : ∃ x : World, x = w4 := ⟨_, rfl⟩
    go_wp2_with fail
    refine (rdOpen_any A c b wm (by omega) (hrb.below HBM.out)).mono ?_
    rintro e w5 ⟨g5, A5, c5, rfl, hg5, hrd, hb5⟩
    have hBy := rdBytes_any g5 A5 c5 b 0 w5 hrd (by omega)
    have HBY := Lib.hid hBy
    have hone := @one_bytes b
    have HONE2 := Lib.hid hone
    have HB5 := Lib.hid (below_then HBM.out hb5)
    have hbs5 := HBM.out.size
    have HBS : Hid (w.heap.size ≤ g5) := Lib.hid (by omega)
    clear hrd hb5 hone HBM hBy
    go_wp2_with fail
    refine HBY.out.mono ?_
    rintro e w6 ⟨B6, d6, rfl, hown6, hg6, A6, c6, h6⟩
    clear HBY
    have hlen6 : (rdBytes b 0).2.1.length ≤ 100 := by have := rdBytes_len b 0; omega
    have hlen6' : (rdBytes b 0).1.length ≤ 100 := by have := rdBytes_len' b 0; omega
    obtain ⟨ys, hys⟩ : ∃ ys, (rdBytes b 0).1 = ys := ⟨_, rfl⟩
    obtain ⟨m6, hm6⟩ : ∃ m6, (rdBytes b 0).2.1 = m6 := ⟨_, rfl⟩
    obtain ⟨f6, hf6⟩ : ∃ f6, (rdBytes b 0).2.2 = f6 := ⟨_, rfl⟩
    rw [hys, hm6, hf6] at HONE2
    rw [hys] at hown6 hlen6' ⊢
    rw [hm6, hf6] at h6
    rw [hm6] at hlen6
    have hb06 : Below w.heap.size w w6 := HB5.out.grown hg6 HB5.out.size (fun k e => by injection e with e; have := HBS.out; omega)
    have HB6 := Lib.hid hb06
    have HE := Lib.hid (rdEnd_any g5 A6 c6 m6 f6 w6 h6 (by omega))
    have HO6 := Lib.hid hown6
    clear hys hm6 hf6 hown6 hg6 h6 hb06
    go_wp2_with fail
    refine HE.out.mono ?_
    rintro e w' ⟨rfl, rfl⟩
    clear HE
    obtain ⟨q6, hq6⟩ : ∃ q, rdEnd m6 f6 = q := ⟨_, rfl⟩
    rw [hq6] at HONE2 ⊢
    by_cases hq60 : q6 = 0
    · subst hq60
      have hby := HONE2.out rfl
      have HBYE := Lib.hid hby
      clear hq6 hby HONE2
      go_wp2_with fail
      refine (wrNew_any w6).mono ?_
      rintro e w7 ⟨rfl, hw7, hb7⟩
      have hr7 := Bs.of_own (own_below HO6.out hb7)
      have hW := wrBytes_any w6.heap.size w6.heap.size (.slice none 0 0) [] B6 d6 ys w7 hw7 (by simp) (by omega) hb7.size hr7 (fun ad e hne hf => by
        rcases hf with hf | hf
        · obtain ⟨ad', e', hlt, _⟩ := (Bs.of_own HO6.out).at_ (k := 0) (List.length_pos_iff.2 hne)
          rw [e] at e'
          injection e' with e'
          subst e'
          omega
        · cases hf)
      rw [List.nil_append, HBYE.out] at hW
      have HW := Lib.hid hW
      have HB7 := Lib.hid (below_then HB6.out hb7)
      have hs7 := HB6.out.size
      have hs67 := hb7.size
      clear hr7 hW hw7 hb7
      go_wp2_with fail
      refine HW.out.mono ?_
      rintro e w8 ⟨rfl, v8, hw8, hk8, _⟩
      have hb8 : Below w.heap.size w w8 := HB7.out.trans (hk8.below (fun k hk hf => by
        rcases hf with hf | hf
        · omega
        · cases hf) HB7.out.size)
      have HD8 := Lib.hid (wrDone_any w6.heap.size w6.heap.size v8 b w8 hw8 (by omega))
      have HB8 := Lib.hid hb8
      clear hw8 hk8 hb8 HW
      go_wp2_with fail
      refine HD8.out.mono ?_
      rintro e w9 ⟨u9, rfl, hown9, hb9⟩
      obtain ⟨A9, c9, rfl, _⟩ := own_shape hown9
      have HB9 := Lib.hid (below_then HB8.out hb9)
      have HS9 := Lib.hid (same_bel A9 A c9 c b b w9 (by omega) (by omega) (Bs.of_own hown9) (hrb.below HB9.out))
      clear hown9 hb9 HD8 HB8
      go_wp2_with fail
      refine HS9.out.mono ?_
      rintro e w10 ⟨rfl, hb10⟩
      rw [sameB_self]
      have HB10 := Lib.hid (below_then HB9.out hb10)
      clear hb10 HS9 HB9
      go_wp2_with fail
      refine (wireLives_any w10).mono ?_
      rintro e w11 ⟨rfl, hb11⟩
      go_wp2_with fail
      go_ret
      exact ⟨rfl, below_then HB10.out hb11⟩
    · have hqe6 : (((q6 : Nat) : Int) != 0) = true := by rw [bne_iff_ne]; omega
      clear hq6 hq60 HONE2
      go_wp2_with fail
      refine (wireLives_any w6).mono ?_
      rintro e w11 ⟨rfl, hb11⟩
      go_wp2_with fail
      go_ret
      exact ⟨rfl, below_then HB6.out hb11⟩
  · have hqe : (((q : Nat) : Int) == 0) = false := by rw [beq_eq_false_iff_ne]; omega
    have HBM := HB2
    clear hq HONE HXL hq0 HB2
    obtain ⟨wm, rfl⟩ : ∃ x : World, x = w2 := ⟨_, rfl⟩
    go_wp2_with fail
    refine (rdOpen_any A c b wm (by omega) (hrb.below HBM.out)).mono ?_
    rintro e w5 ⟨g5, A5, c5, rfl, hg5, hrd, hb5⟩
    have hBy := rdBytes_any g5 A5 c5 b 0 w5 hrd (by omega)
    have HBY := Lib.hid hBy
    have hone := @one_bytes b
    have HONE2 := Lib.hid hone
    have HB5 := Lib.hid (below_then HBM.out hb5)
    have hbs5 := HBM.out.size
    have HBS : Hid (w.heap.size ≤ g5) := Lib.hid (by omega)
    clear hrd hb5 hone HBM hBy
    go_wp2_with fail
    refine HBY.out.mono ?_
    rintro e w6 ⟨B6, d6, rfl, hown6, hg6, A6, c6, h6⟩
    clear HBY
    have hlen6 : (rdBytes b 0).2.1.length ≤ 100 := by have := rdBytes_len b 0; omega
    have hlen6' : (rdBytes b 0).1.length ≤ 100 := by have := rdBytes_len' b 0; omega
    obtain ⟨ys, hys⟩ : ∃ ys, (rdBytes b 0).1 = ys := ⟨_, rfl⟩
    obtain ⟨m6, hm6⟩ : ∃ m6, (rdBytes b 0).2.1 = m6 := ⟨_, rfl⟩
    obtain ⟨f6, hf6⟩ : ∃ f6, (rdBytes b 0).2.2 = f6 := ⟨_, rfl⟩
    rw [hys, hm6, hf6] at HONE2
    rw [hys] at hown6 hlen6' ⊢
    rw [hm6, hf6] at h6
    rw [hm6] at hlen6
    have hb06 : Below w.heap.size w w6 := HB5.out.grown hg6 HB5.out.size (fun k e => by injection e with e; have := HBS.out; omega)
    have HB6 := Lib.hid hb06
    have HE := Lib.hid (rdEnd_any g5 A6 c6 m6 f6 w6 h6 (by omega))
    have HO6 := Lib.hid hown6
    clear hys hm6 hf6 hown6 hg6 h6 hb06
    go_wp2_with fail
    refine HE.out.mono ?_
    rintro e w' ⟨rfl, rfl⟩
    clear HE
    obtain ⟨q6, hq6⟩ : ∃ q, rdEnd m6 f6 = q := ⟨_, rfl⟩
    rw [hq6] at HONE2 ⊢
    by_cases hq60 : q6 = 0
    · subst hq60
      have hby := HONE2.out rfl
      have HBYE := Lib.hid hby
      clear hq6 hby HONE2
      go_wp2_with fail
      refine (wrNew_any w6).mono ?_
      rintro e w7 ⟨rfl, hw7, hb7⟩
      have hr7 := Bs.of_own (own_below HO6.out hb7)
      have hW := wrBytes_any w6.heap.size w6.heap.size (.slice none 0 0) [] B6 d6 ys w7 hw7 (by simp) (by omega) hb7.size hr7 (fun ad e hne hf => by
        rcases hf with hf | hf
        · obtain ⟨ad', e', hlt, _⟩ := (Bs.of_own HO6.out).at_ (k := 0) (List.length_pos_iff.2 hne)
          rw [e] at e'
          injection e' with e'
          subst e'
          omega
        · cases hf)
      rw [List.nil_append, HBYE.out] at hW
      have HW := Lib.hid hW
      have HB7 := Lib.hid (below_then HB6.out hb7)
      have hs7 := HB6.out.size
      have hs67 := hb7.size
      clear hr7 hW hw7 hb7
      go_wp2_with fail
      refine HW.out.mono ?_
      rintro e w8 ⟨rfl, v8, hw8, hk8, _⟩
      have hb8 : Below w.heap.size w w8 := HB7.out.trans (hk8.below (fun k hk hf => by
        rcases hf with hf | hf
        · omega
        · cases hf) HB7.out.size)
      have HD8 := Lib.hid (wrDone_any w6.heap.size w6.heap.size v8 b w8 hw8 (by omega))
      have HB8 := Lib.hid hb8
      clear hw8 hk8 hb8 HW
      go_wp2_with fail
      refine HD8.out.mono ?_
      rintro e w9 ⟨u9, rfl, hown9, hb9⟩
      obtain ⟨A9, c9, rfl, _⟩ := own_shape hown9
      have HB9 := Lib.hid (below_then HB8.out hb9)
      have HS9 := Lib.hid (same_bel A9 A c9 c b b w9 (by omega) (by omega) (Bs.of_own hown9) (hrb.below HB9.out))
      clear hown9 hb9 HD8 HB8
      go_wp2_with fail
      refine HS9.out.mono ?_
      rintro e w10 ⟨rfl, hb10⟩
      rw [sameB_self]
      have HB10 := Lib.hid (below_then HB9.out hb10)
      clear hb10 HS9 HB9
      go_wp2_with fail
      refine (wireLives_any w10).mono ?_
      rintro e w11 ⟨rfl, hb11⟩
      go_wp2_with fail
      go_ret
      exact ⟨rfl, below_then HB10.out hb11⟩
    · have hqe6 : (((q6 : Nat) : Int) != 0) = true := by rw [bne_iff_ne]; omega
      clear hq6 hq60 HONE2
      go_wp2_with fail
      refine (wireLives_any w6).mono ?_
      rintro e w11 ⟨rfl, hb11⟩
      go_wp2_with fail
      go_ret
      exact ⟨rfl, below_then HB6.out hb11⟩
end Go.Proofs.Ytmaemlmbhldmkaa
