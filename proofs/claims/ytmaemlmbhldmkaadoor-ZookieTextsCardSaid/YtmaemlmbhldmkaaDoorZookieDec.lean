/- The contracts of a text's revision: the program's Decode and the document's; lives. -/
import Derived.Test.YtmaemlmbhldmkaaDoorZookie
import Derived.Test.YtmaemlmbhldmkaaDoorZookieGet
import Derived.Laws.Strings
namespace Go.Proofs.YtmaemlmbhldmkaaDoor
open Go.RowKit
theorem dec_le {s b : List UInt8} (h : B64Math.dec s = some b) : b.length ≤ s.length := by
  have e := B64Math.enc_dec s b h
  have := B64Math.enc_length b
  rw [e] at this
  omega
theorem str_ne {a b : List UInt8} (h : a ≠ b) : (({ data := a.toArray } : ByteArray).toList == ({ data := b.toArray } : ByteArray).toList) = false ∧ (a == b) = false := by
  rw [ByteArray.toList_mk, ByteArray.toList_mk, beq_eq_false_iff_ne]
  exact ⟨h, h⟩
theorem decode_some (l m : List UInt8) (w : World) (hl : l.length ≤ 65536) (h : B64Math.dec l = some m) :
    Calls Tryd.prog 12 #[.string ⟨l.toArray⟩] w fun e w' => ∃ A c, e = .returned (.tuple #[.slice A m.length c, .int .i64 0]) ∧ m.length ≤ c ∧ Bs w' A m ∧ Below w.heap.size w w' := by
  refine (decode_any l w hl).mono ?_
  rintro e w1 ⟨hb1, hp⟩
  rw [h] at hp
  simp only at hp
  obtain ⟨v, rfl, hown⟩ := hp
  obtain ⟨A1, c1, rfl, hc⟩ := own_shape hown
  exact ⟨A1, c1, rfl, hc, Bs.of_own hown, hb1⟩
theorem decode_none (l : List UInt8) (w : World) (hl : l.length ≤ 65536) (h : B64Math.dec l = none) :
    Calls Tryd.prog 12 #[.string ⟨l.toArray⟩] w fun e w' => e = .returned (.tuple #[.slice none 0 0, .int .i64 4]) ∧ Below w.heap.size w w' := by
  refine (decode_any l w hl).mono ?_
  rintro e w1 ⟨hb1, hp⟩
  rw [h] at hp
  simp only at hp
  exact ⟨hp, hb1⟩
def zRet (l : List UInt8) : Ending := .returned (.tuple #[.int .u64 ((ZookieMath.back l).1 : Nat), .int .i64 ((ZookieMath.back l).2 : Nat)])
set_option maxRecDepth 100000 in
set_option maxHeartbeats 1000000 in
theorem zDecode_any (l : List UInt8) (w : World) (hl : l.length ≤ 65536) (ht : Halves w) :
    Calls Tryd.prog 6 #[.string ⟨l.toArray⟩] w fun e w' => e = zRet l ∧ Below w.heap.size w w' := by
  have hzr : zRet l = .returned (.tuple #[.int .u64 ((ZookieMath.back l).1 : Nat), .int .i64 ((ZookieMath.back l).2 : Nat)]) := rfl
  cases hd : B64Math.dec l with
  | none =>
    have hb : ZookieMath.back l = (0, 4) := by unfold ZookieMath.back; rw [hd]
    rw [hb] at hzr
    have HZ := Lib.hid hzr
    have HD := Lib.hid hd
    clear hd hzr
    go_enter Tryd.func6, Tryd.ntmps6
    go_wp2_with fail
    refine (decode_none l w hl HD.out).mono ?_
    rintro e w1 ⟨rfl, hb1⟩
    go_wp2_with fail
    go_ret2
    exact ⟨by rw [HZ.out]; rfl, hb1⟩
  | some b =>
    have hbl := dec_le hd
    have hb : ZookieMath.back l = if (WireMath.get b).2.2 = 0 ∧ (WireMath.get b).1 ≤ 4611686018427387903 ∧ ZookieMath.text (WireMath.get b).1 = l then ((WireMath.get b).1, 0) else (0, 4) := by unfold ZookieMath.back; rw [hd]
    have hru : rdU b 0 = if (WireMath.get b).2.2 = 0 then ((WireMath.get b).1, b.drop (WireMath.get b).2.1, 0) else (0, [], (WireMath.get b).2.2) := by
      unfold rdU
      rw [if_neg (by decide)]
    rcases hg : WireMath.get b with ⟨x, n, f⟩
    rw [hg] at hb hru
    simp only at hb hru
    have hx64 : f = 0 → x < 18446744073709551616 := fun h => by subst h; exact (WireMath.get_one hg).2.2.2.1
    have HD := Lib.hid hd
    clear hd hg
    by_cases hf : f = 0
    · subst hf
      have hx := hx64 rfl
      rw [if_pos rfl] at hru
      by_cases hmax : x ≤ 4611686018427387903
      · have htl : ∀ t, ZookieMath.text x = t → ZookieMath.text x = t := fun _ h => h
        by_cases htx : ZookieMath.text x = l
        · rw [if_pos ⟨rfl, hmax, htx⟩] at hb
          rw [hb] at hzr
          have HZ := Lib.hid hzr
          have HX := Lib.hid htx
          have HU := Lib.hid hru
          clear hb hzr htl htx hru hx64
          go_enter Tryd.func6, Tryd.ntmps6
          go_wp2_with fail
          refine (decode_some l b w hl HD.out).mono ?_
          rintro e w1 ⟨A, c, rfl, hc, hr, hb1⟩
          go_wp2_with fail
          refine (rdOpen_any A c b w1 (by omega) hr).mono ?_
          rintro e w2 ⟨g, A2, c2, rfl, hg2, h2, hb2⟩
          have hb02 := below_then hb1 hb2
          have hgw : w.heap.size ≤ g := Nat.le_trans hb1.size hg2
          have H2 := Lib.hid h2
          clear h2 hb2 hr
          go_wp2_with fail
          refine (rdU_any g A2 c2 b 0 w2 H2.out (by omega)).mono ?_
          rw [HU.out]
          rintro e w3 ⟨rfl, hg3, A3, c3, h3⟩
          have hb03 : Below w.heap.size w w3 := hb02.grown hg3 hb02.size (fun g' e' => by injection e' with e'; omega)
          have H3 := Lib.hid h3
          clear hg3 h3 H2
          go_wp2_with fail
          refine (rdErr_any g A3 c3 _ 0 w3 H3.out).mono ?_
          rintro e w' ⟨rfl, rfl⟩
          go_wp2_with fail
          refine (zEncode_any x w3 hx (ht.below hb03)).mono ?_
          rintro e w4 ⟨rfl, hb4⟩
          rw [HX.out]
          go_wp2_with fail
          go_ret2
          exact ⟨by rw [HZ.out]; rfl, below_then hb03 hb4⟩
        · rw [if_neg (fun h => htx h.2.2)] at hb
          rw [hb] at hzr
          obtain ⟨hne, hne'⟩ := str_ne htx
          have HZ := Lib.hid hzr
          have HU := Lib.hid hru
          clear hb hzr htl htx hru hx64
          go_enter Tryd.func6, Tryd.ntmps6
          go_wp2_with fail
          refine (decode_some l b w hl HD.out).mono ?_
          rintro e w1 ⟨A, c, rfl, hc, hr, hb1⟩
          go_wp2_with fail
          refine (rdOpen_any A c b w1 (by omega) hr).mono ?_
          rintro e w2 ⟨g, A2, c2, rfl, hg2, h2, hb2⟩
          have hb02 := below_then hb1 hb2
          have hgw : w.heap.size ≤ g := Nat.le_trans hb1.size hg2
          have H2 := Lib.hid h2
          clear h2 hb2 hr
          go_wp2_with fail
          refine (rdU_any g A2 c2 b 0 w2 H2.out (by omega)).mono ?_
          rw [HU.out]
          rintro e w3 ⟨rfl, hg3, A3, c3, h3⟩
          have hb03 : Below w.heap.size w w3 := hb02.grown hg3 hb02.size (fun g' e' => by injection e' with e'; omega)
          have H3 := Lib.hid h3
          clear hg3 h3 H2
          go_wp2_with fail
          refine (rdErr_any g A3 c3 _ 0 w3 H3.out).mono ?_
          rintro e w' ⟨rfl, rfl⟩
          go_wp2_with fail
          refine (zEncode_any x w3 hx (ht.below hb03)).mono ?_
          rintro e w4 ⟨rfl, hb4⟩
          go_wp2_with fail
          go_ret2
          exact ⟨by rw [HZ.out]; rfl, below_then hb03 hb4⟩
      · rw [if_neg (fun h => hmax h.2.1)] at hb
        rw [hb] at hzr
        have HZ := Lib.hid hzr
        have HU := Lib.hid hru
        clear hb hzr hru hx64
        go_enter Tryd.func6, Tryd.ntmps6
        go_wp2_with fail
        refine (decode_some l b w hl HD.out).mono ?_
        rintro e w1 ⟨A, c, rfl, hc, hr, hb1⟩
        go_wp2_with fail
        refine (rdOpen_any A c b w1 (by omega) hr).mono ?_
        rintro e w2 ⟨g, A2, c2, rfl, hg2, h2, hb2⟩
        have hb02 := below_then hb1 hb2
        have hgw : w.heap.size ≤ g := Nat.le_trans hb1.size hg2
        have H2 := Lib.hid h2
        clear h2 hb2 hr
        go_wp2_with fail
        refine (rdU_any g A2 c2 b 0 w2 H2.out (by omega)).mono ?_
        rw [HU.out]
        rintro e w3 ⟨rfl, hg3, A3, c3, h3⟩
        have hb03 : Below w.heap.size w w3 := hb02.grown hg3 hb02.size (fun g' e' => by injection e' with e'; omega)
        have H3 := Lib.hid h3
        clear hg3 h3 H2
        go_wp2_with fail
        refine (rdErr_any g A3 c3 _ 0 w3 H3.out).mono ?_
        rintro e w' ⟨rfl, rfl⟩
        go_wp2_with fail
        go_ret2
        exact ⟨by rw [HZ.out]; rfl, hb03⟩
    · rw [if_neg (fun h => hf h.1)] at hb
      rw [hb] at hzr
      rw [if_neg hf] at hru
      have hfe := rd_err_spell hf
      have HZ := Lib.hid hzr
      have HU := Lib.hid hru
      clear hb hzr hru hx64
      go_enter Tryd.func6, Tryd.ntmps6
      go_wp2_with fail
      refine (decode_some l b w hl HD.out).mono ?_
      rintro e w1 ⟨A, c, rfl, hc, hr, hb1⟩
      go_wp2_with fail
      refine (rdOpen_any A c b w1 (by omega) hr).mono ?_
      rintro e w2 ⟨g, A2, c2, rfl, hg2, h2, hb2⟩
      have hb02 := below_then hb1 hb2
      have hgw : w.heap.size ≤ g := Nat.le_trans hb1.size hg2
      have H2 := Lib.hid h2
      clear h2 hb2 hr
      go_wp2_with fail
      refine (rdU_any g A2 c2 b 0 w2 H2.out (by omega)).mono ?_
      rw [HU.out]
      rintro e w3 ⟨rfl, hg3, A3, c3, h3⟩
      have hb03 : Below w.heap.size w w3 := hb02.grown hg3 hb02.size (fun g' e' => by injection e' with e'; omega)
      have H3 := Lib.hid h3
      clear hg3 h3 H2
      go_wp2_with fail
      refine (rdErr_any g A3 c3 _ f w3 H3.out).mono ?_
      rintro e w' ⟨rfl, rfl⟩
      go_wp2_with fail
      go_ret2
      exact ⟨by rw [HZ.out]; rfl, hb03⟩
set_option maxRecDepth 100000 in
set_option maxHeartbeats 400000 in
theorem zLives_any (w : World) (ht : Halves w) : Calls Tryd.prog 11 #[] w fun e w' => e = .returned (.bool true) ∧ Below w.heap.size w w' := by
  have h7 : zRet (ZookieMath.text 7) = .returned (.tuple #[.int .u64 7, .int .i64 0]) := by
    unfold zRet
    rw [ZookieMath.back_text 7 (by decide), if_pos (by decide)]
    rfl
  have hle : (ZookieMath.text 7).length ≤ 65536 := by
    have h1 := ZookieMath.sealed_le 7 (by decide)
    have h2 : (ZookieMath.text 7).length = _ := B64Math.enc_length _
    omega
  have he := zEncode_any 7 w (by decide) ht
  obtain ⟨t, htt⟩ : ∃ t, ZookieMath.text 7 = t := ⟨_, rfl⟩
  rw [htt] at h7 hle he
  have H7 := Lib.hid h7
  have HE := Lib.hid he
  clear h7 htt he
  go_enter Tryd.func11, Tryd.ntmps11
  go_wp2_with fail
  refine HE.out.mono ?_
  rintro e w1 ⟨rfl, hb1⟩
  go_wp2_with fail
  refine (zDecode_any t w1 hle (ht.below hb1)).mono ?_
  rw [H7.out]
  rintro e w2 ⟨rfl, hb2⟩
  go_wp2_with fail
  go_ret
  exact ⟨rfl, below_then hb1 hb2⟩
end Go.Proofs.YtmaemlmbhldmkaaDoor
