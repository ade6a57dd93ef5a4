/- The contracts of a reader, further: N, Bytes, End, Open. -/
import Derived.Test.YtmaemlmbhldmkaaWireR
namespace Go.Proofs.Ytmaemlmbhldmkaa
open Go.RowKit
theorem rdU_len (l : List UInt8) (e : Nat) : (rdU l e).2.1.length ≤ l.length := by
  unfold rdU
  split
  · exact Nat.le_refl _
  · split <;> simp
theorem rdU_x (l : List UInt8) (e : Nat) : (rdU l e).1 < 18446744073709551616 := by
  have h0 : 0 < 18446744073709551616 := by decide
  unfold rdU
  split
  · exact h0
  · split
    · next h =>
      rcases hg : WireMath.get l with ⟨x, n, f⟩
      rw [hg] at h
      simp only at h
      subst h
      exact (WireMath.get_one hg).2.2.2.1
    · exact h0
def rdEnd (l : List UInt8) (e : Nat) : Nat := if e ≠ 0 then e else if l = [] then 0 else 6
set_option maxHeartbeats 400000 in
theorem rdEnd_any (g : Nat) (A : Option Addr) (c : Nat) (l : List UInt8) (e : Nat) (w : World) (h : RdAt w g A c l e) (_hl : l.length ≤ 1000000) :
    Calls Try.prog 21 #[.pointer (some ⟨g, 0, none⟩)] w fun en w' => en = .returned (.int .i64 (rdEnd l e : Nat)) ∧ w = w' := by
  have HE := Lib.hid (rdErr_any g A c l e w h)
  have k0 : w.cell? ⟨g, 0, none⟩ = some (.slice A l.length c) := block_cell h.blk
  clear h
  by_cases he : e = 0
  · subst he
    by_cases hl0 : l = []
    · subst hl0
      have hr : rdEnd [] 0 = 0 := rfl
      rw [hr]
      clear hr
      go_enter Try.func21, Try.ntmps21
      go_wp2_with fail
      refine HE.out.mono ?_
      rintro en w' ⟨rfl, rfl⟩
      go_wp2_with fail
      go_ret
      exact ⟨rfl, rfl⟩
    · have hr : rdEnd l 0 = 6 := by unfold rdEnd; rw [if_neg (by decide), if_neg hl0]
      rw [hr]
      have hpos : 0 < l.length := List.length_pos_iff.2 hl0
      clear hr hl0
      go_enter Try.func21, Try.ntmps21
      go_wp2_with fail
      refine HE.out.mono ?_
      rintro en w' ⟨rfl, rfl⟩
      go_wp2_with fail
      go_ret
      exact ⟨rfl, rfl⟩
  · have hr : rdEnd l e = e := by unfold rdEnd; rw [if_pos he]
    rw [hr]
    have he' := rd_err_spell he
    have HX := Lib.hid he'
    clear hr he he'
    go_enter Try.func21, Try.ntmps21
    go_wp2_with fail
    refine HE.out.mono ?_
    rintro en w' ⟨rfl, rfl⟩
    have he' := HX.out
    go_wp2_with fail
    go_ret
    exact ⟨rfl, rfl⟩
def rdN (most : Nat) (l : List UInt8) (e : Nat) : Nat × List UInt8 × Nat :=
  if (rdU l e).2.2 ≠ 0 then (0, (rdU l e).2.1, (rdU l e).2.2) else if most < (rdU l e).1 then (0, [], 5) else ((rdU l e).1, (rdU l e).2.1, 0)
theorem rdN_len (most : Nat) (l : List UInt8) (e : Nat) : (rdN most l e).2.1.length ≤ l.length := by
  have := rdU_len l e
  unfold rdN
  split
  · exact this
  · split
    · simp
    · exact this
theorem rdN_x (most : Nat) (l : List UInt8) (e : Nat) : (rdN most l e).1 ≤ most := by
  unfold rdN
  split
  · simp
  · split
    · simp
    · next h => simpa using h
set_option maxHeartbeats 1000000 in
set_option maxRecDepth 100000 in
theorem rdN_any (most : Nat) (g : Nat) (A : Option Addr) (c : Nat) (l : List UInt8) (e : Nat) (w : World) (h : RdAt w g A c l e) (hl : l.length ≤ 1000000) (hmost : most ≤ 4611686018427387904) :
    Calls Try.prog 26 #[.pointer (some ⟨g, 0, none⟩), .int .i64 (most : Int)] w fun en w' => en = .returned (.int .i64 ((rdN most l e).1 : Nat)) ∧ RdTo w g (rdN most l e).2.1 (rdN most l e).2.2 w' := by
  have HU := Lib.hid (rdU_any g A c l e w h hl)
  have hxl := rdU_x l e
  have hN : rdN most l e = if (rdU l e).2.2 ≠ 0 then (0, (rdU l e).2.1, (rdU l e).2.2) else if most < (rdU l e).1 then (0, [], 5) else ((rdU l e).1, (rdU l e).2.1, 0) := rfl
  rcases hu : rdU l e with ⟨x, m, f⟩
  rw [hu] at HU hN hxl
  simp only at HU hN hxl
  have HXL := Lib.hid hxl
  clear h hu hxl
  by_cases hf : f = 0
  · subst hf
    rw [if_neg (by decide)] at hN
    by_cases hx : most < x
    · rw [if_pos hx] at hN
      rw [hN]
      clear hN
      have hgt : decide ((most : Int) < (x : Int)) = true := by simp; omega
      go_enter Try.func26, Try.ntmps26
      go_wp2_with fail
      refine HU.out.mono ?_
      rintro en w1 ⟨rfl, hg1, A1, c1, h1⟩
      go_wp2_with fail
      refine (rdErr_any g A1 c1 m 0 w1 h1).mono ?_
      rintro en w' ⟨rfl, rfl⟩
      have HG := Lib.hid hg1
      have H1 := Lib.hid h1
      clear hg1 h1
      go_wp2_with fail
      refine (rdFail_any g A1 c1 m 5 w1 H1.out).mono ?_
      rintro en w2 ⟨rfl, hto⟩
      go_wp2_with fail
      go_ret
      exact ⟨rfl, RdTo.of HG.out hto⟩
    · rw [if_neg hx] at hN
      rw [hN]
      clear hN
      have hgt : decide ((most : Int) < (x : Int)) = false := by simp; omega
      have hxm : x ≤ most := by omega
      go_enter Try.func26, Try.ntmps26
      go_wp2_with fail
      refine HU.out.mono ?_
      rintro en w1 ⟨rfl, hg1, A1, c1, h1⟩
      go_wp2_with fail
      refine (rdErr_any g A1 c1 m 0 w1 h1).mono ?_
      rintro en w' ⟨rfl, rfl⟩
      have HG := Lib.hid hg1
      have H1 := Lib.hid h1
      clear hg1 h1
      go_wp2_with fail
      go_ret
      exact ⟨rfl, HG.out, A1, c1, H1.out⟩
  · rw [if_pos hf] at hN
    rw [hN]
    have hf' := rd_err_spell hf
    have HX := Lib.hid hf'
    clear hN hf hf'
    go_enter Try.func26, Try.ntmps26
    go_wp2_with fail
    refine HU.out.mono ?_
    rintro en w1 ⟨rfl, hg1, A1, c1, h1⟩
    have HG := Lib.hid hg1
    have H1 := Lib.hid h1
    clear hg1 h1
    go_wp2_with fail
    refine (rdErr_any g A1 c1 m f w1 H1.out).mono ?_
    rintro en w' ⟨rfl, rfl⟩
    have hf' := HX.out
    go_wp2_with fail
    go_ret
    exact ⟨rfl, HG.out, A1, c1, H1.out⟩
def rdBytes (l : List UInt8) (e : Nat) : List UInt8 × List UInt8 × Nat :=
  if (rdN 2147483647 l e).2.2 ≠ 0 then ([], (rdN 2147483647 l e).2.1, (rdN 2147483647 l e).2.2)
  else if (rdN 2147483647 l e).2.1.length < (rdN 2147483647 l e).1 then ([], [], 3)
  else ((rdN 2147483647 l e).2.1.take (rdN 2147483647 l e).1, (rdN 2147483647 l e).2.1.drop (rdN 2147483647 l e).1, 0)
def RdBytesPost (l : List UInt8) (e : Nat) (g : Nat) (w : World) (en : Ending) (w' : World) : Prop :=
  ∃ B d, en = .returned (.slice B (rdBytes l e).1.length d) ∧ w'.ownsRow w.heap.size 5 1 (.slice B (rdBytes l e).1.length d) (rdBytes l e).1.length (bvs (rdBytes l e).1) ∧ RdTo w g (rdBytes l e).2.1 (rdBytes l e).2.2 w'
set_option maxHeartbeats 1000000 in
set_option maxRecDepth 100000 in
theorem rdBytes_any (g : Nat) (A : Option Addr) (c : Nat) (l : List UInt8) (e : Nat) (w : World) (h : RdAt w g A c l e) (hl : l.length ≤ 1000000) :
    Calls Try.prog 23 #[.pointer (some ⟨g, 0, none⟩)] w (RdBytesPost l e g w) := by
  have HNN := Lib.hid (rdN_any 2147483647 g A c l e w h hl (by decide))
  have hgl := heap_lt h.blk
  have hlen := rdN_len 2147483647 l e
  have hxm := rdN_x 2147483647 l e
  have hB : rdBytes l e = if (rdN 2147483647 l e).2.2 ≠ 0 then ([], (rdN 2147483647 l e).2.1, (rdN 2147483647 l e).2.2)
    else if (rdN 2147483647 l e).2.1.length < (rdN 2147483647 l e).1 then ([], [], 3)
    else ((rdN 2147483647 l e).2.1.take (rdN 2147483647 l e).1, (rdN 2147483647 l e).2.1.drop (rdN 2147483647 l e).1, 0) := rfl
  unfold RdBytesPost
  rcases hu : rdN 2147483647 l e with ⟨x, m, f⟩
  rw [hu] at HNN hB hlen hxm
  simp only at HNN hB hlen hxm
  clear h hu
  by_cases hf : f = 0
  · subst hf
    rw [if_neg (by decide)] at hB
    by_cases hx : m.length < x
    · rw [if_pos hx] at hB
      rw [hB]
      clear hB
      go_enter Try.func23, Try.ntmps23
      go_wp2_with fail
      refine HNN.out.mono ?_
      rintro en w1 ⟨rfl, hg1, A1, c1, h1⟩
      have HG := Lib.hid hg1
      have H1 := Lib.hid h1
      have k0 : w1.cell? ⟨g, 0, none⟩ = some (.slice A1 m.length c1) := block_cell h1.blk
      clear hg1 h1
      go_wp2_with fail
      refine (rdErr_any g A1 c1 m 0 w1 H1.out).mono ?_
      rintro en w' ⟨rfl, rfl⟩
      go_wp2_with fail
      refine (rdFail_any g A1 c1 m 3 w1 H1.out).mono ?_
      rintro en w2 ⟨rfl, hto⟩
      clear k0
      go_wp2_with fail
      go_ret
      exact ⟨none, 0, rfl, World.ownsRow_nil _ _ _ _, RdTo.of HG.out hto⟩
    · rw [if_neg hx] at hB
      rw [hB]
      clear hB
      have htl : (m.take x).length = x := by rw [List.length_take]; omega
      obtain ⟨ys, hys⟩ : ∃ ys, m.take x = ys := ⟨_, rfl⟩
      rw [hys] at htl
      rw [hys]
      have HYS := Lib.hid hys
      have HTL := Lib.hid htl
      clear hys htl
      go_enter Try.func23, Try.ntmps23
      go_wp2_with fail
      refine HNN.out.mono ?_
      rintro en w1 ⟨rfl, hg1, A1, c1, h1⟩
      have HG := Lib.hid hg1
      have H1 := Lib.hid h1
      have k0 : w1.cell? ⟨g, 0, none⟩ = some (.slice A1 m.length c1) := block_cell h1.blk
      have hcm := h1.hc
      have hmm := h1.hm
      unfold maxLen at hmm
      have hcl := clone_any A1 c1 (m.take x) w1 (by rw [HYS.out, HTL.out]; omega) (h1.bs.take x)
      rw [HYS.out, HTL.out] at hcl
      have HCL := Lib.hid hcl
      clear hg1 h1 hcl
      go_wp2_with fail
      refine (rdErr_any g A1 c1 m 0 w1 H1.out).mono ?_
      rintro en w' ⟨rfl, rfl⟩
      go_wp2_with fail
      refine HCL.out.mono ?_
      rintro en w2 ⟨v2, rfl, hown, hb2⟩
      obtain ⟨A2, c2, rfl, _⟩ := own_shape hown
      have HO := Lib.hid hown
      have H2 := Lib.hid (H1.out.below hb2)
      have k2 : w2.cell? ⟨g, 0, none⟩ = some (.slice A1 m.length c1) := block_cell H2.out.blk
      have f2 : w2.frozen? ⟨g, 0, none⟩ = false := block_free H2.out.blk
      have HD := Lib.hid (rd_write H2.out _ (c1 - x) (m.drop x) (by simp; omega) (by unfold maxLen; omega) (H2.out.bs.drop (k := x) H2.out.hc) (fun ad e hne => rd_drop_ne H2.out x e (by rintro rfl; simp at hne)))
      have hkeep : ∀ u : Value, (w2.setCell ⟨g, 0, none⟩ u).ownsRow w.heap.size 5 1 (.slice A2 x c2) x (bvs ys) := fun u =>
        own_base (own_far HO.out (grown_set (w := w2) ⟨rfl, rfl, rfl, Nat.le_refl _, fun _ _ _ => rfl⟩ 0 u) (fun k e => by injection e with e; subst e; exact heap_lt H1.out.blk)) HG.out.size
      have HKP := Lib.hid hkeep
      have hg12 : w.grownBy w2 (some g) := grown_then HG.out (only_of_below hb2 _)
      have HG2 := Lib.hid hg12
      clear k0 hown hb2 hkeep hg12
      by_cases hcn : c1 = x
      · have hd := HD.out
        rw [List.length_drop, if_pos hcn] at hd
        have HD' := Lib.hid hd
        clear hd HD
        subst hcn
        have hln : m.length = c1 := by omega
        have HLN := Lib.hid hln
        clear hln
        go_wp2_with fail
        go_ret
        have hd := HD'.out
        rw [HLN.out, Nat.sub_self] at hd
        refine ⟨A2, c2, by rw [HTL.out]; rfl, by rw [HTL.out]; exact HKP.out _, RdTo.of HG2.out ?_⟩
        simpa [HLN.out] using hd
      · have hd := HD.out
        rw [List.length_drop, if_neg hcn] at hd
        have HD' := Lib.hid hd
        clear hd HD
        go_wp2_with fail
        go_ret
        exact ⟨A2, c2, by rw [HTL.out]; rfl, by rw [HTL.out]; exact HKP.out _, RdTo.of HG2.out HD'.out⟩
  · rw [if_pos hf] at hB
    rw [hB]
    have hf' := rd_err_spell hf
    have HX := Lib.hid hf'
    clear hB hf hf'
    go_enter Try.func23, Try.ntmps23
    go_wp2_with fail
    refine HNN.out.mono ?_
    rintro en w1 ⟨rfl, hg1, A1, c1, h1⟩
    have HG := Lib.hid hg1
    have H1 := Lib.hid h1
    clear hg1 h1
    go_wp2_with fail
    refine (rdErr_any g A1 c1 m f w1 H1.out).mono ?_
    rintro en w' ⟨rfl, rfl⟩
    have hf' := HX.out
    go_wp2_with fail
    go_ret
    exact ⟨none, 0, rfl, World.ownsRow_nil _ _ _ _, HG.out, A1, c1, H1.out⟩
set_option maxHeartbeats 400000 in
theorem rdOpen_any (B : Option Addr) (d : Nat) (l : List UInt8) (w : World) (hl : l.length ≤ 1000000) (hr : Bs w B l) :
    Calls Try.prog 19 #[.slice B l.length d] w fun en w' => ∃ g A c, en = .returned (.pointer (some ⟨g, 0, none⟩)) ∧ w.heap.size ≤ g ∧ RdAt w' g A c l 0 ∧ Below w.heap.size w w' := by
  go_enter Try.func19, Try.ntmps19
  go_wp2_with fail
  refine (clone_any B d l w (by omega) hr).mono ?_
  rintro en w1 ⟨v, rfl, hown, hb⟩
  obtain ⟨A, c, rfl, hc⟩ := own_shape hown
  have hm := own_capm hown
  have HO := Lib.hid hown
  clear hown
  go_wp2_with fail
  go_ret
  have hs := Bs.of_own HO.out
  refine ⟨w1.heap.size, A, c, rfl, hb.size, ⟨heap_alloc_new w1 _, hc, hm, hs.alloc _, fun ad e hne => ?_⟩, below_then hb (below_alloc _ _)⟩
  obtain ⟨ad', e', hlt, _⟩ := hs.at_ (k := 0) (List.length_pos_iff.2 hne)
  rw [e] at e'
  injection e' with e'
  subst e'
  omega
set_option maxHeartbeats 400000 in
theorem rdText_any (g : Nat) (A : Option Addr) (c : Nat) (l : List UInt8) (e : Nat) (w : World) (h : RdAt w g A c l e) (hl : l.length ≤ 1000000) :
    Calls Try.prog 24 #[.pointer (some ⟨g, 0, none⟩)] w fun en w' => en = .returned (.string ⟨(rdBytes l e).1.toArray⟩) ∧ RdTo w g (rdBytes l e).2.1 (rdBytes l e).2.2 w' := by
  have HB := Lib.hid (rdBytes_any g A c l e w h hl)
  clear h
  go_enter Try.func24, Try.ntmps24
  go_wp2_with fail
  refine HB.out.mono ?_
  rintro en w1 ⟨B, d, rfl, hown, hto⟩
  obtain ⟨ys, hys⟩ : ∃ ys, (rdBytes l e).1 = ys := ⟨_, rfl⟩
  rw [hys] at hown ⊢
  have hcv := run_convert_bs (P := Try.prog) w1 25 9 5 Try.underlying25 Try.underlying5 Try.underlying9 B d _ ys rfl (Bs.of_own hown)
  have HY := Lib.hid hys
  have HT := Lib.hid hto
  clear hown hto hys
  go_wp2_with fail
  go_ret
  exact ⟨by rw [HY.out]; rfl, HT.out⟩
def rdBool (l : List UInt8) (e : Nat) : Bool × List UInt8 × Nat :=
  if (rdU l e).2.2 = 0 ∧ 1 < (rdU l e).1 then (false, [], 4) else (decide ((rdU l e).1 = 1), (rdU l e).2.1, (rdU l e).2.2)
set_option maxHeartbeats 1000000 in
set_option maxRecDepth 100000 in
theorem rdBool_any (g : Nat) (A : Option Addr) (c : Nat) (l : List UInt8) (e : Nat) (w : World) (h : RdAt w g A c l e) (hl : l.length ≤ 1000000) :
    Calls Try.prog 25 #[.pointer (some ⟨g, 0, none⟩)] w fun en w' => en = .returned (.bool (rdBool l e).1) ∧ RdTo w g (rdBool l e).2.1 (rdBool l e).2.2 w' := by
  have HU := Lib.hid (rdU_any g A c l e w h hl)
  have hB : rdBool l e = if (rdU l e).2.2 = 0 ∧ 1 < (rdU l e).1 then (false, [], 4) else (decide ((rdU l e).1 = 1), (rdU l e).2.1, (rdU l e).2.2) := rfl
  rcases hu : rdU l e with ⟨x, m, f⟩
  rw [hu] at HU hB
  simp only at HU hB
  clear h hu
  by_cases hc : f = 0 ∧ 1 < x
  · rw [if_pos hc] at hB
    rw [hB]
    obtain ⟨rfl, hx⟩ := hc
    clear hB
    go_enter Try.func25, Try.ntmps25
    go_wp2_with fail
    refine HU.out.mono ?_
    rintro en w1 ⟨rfl, hg1, A1, c1, h1⟩
    have HG := Lib.hid hg1
    have H1 := Lib.hid h1
    clear hg1 h1
    go_wp2_with fail
    refine (rdErr_any g A1 c1 m 0 w1 H1.out).mono ?_
    rintro en w' ⟨rfl, rfl⟩
    go_wp2_with fail
    refine (rdFail_any g A1 c1 m 4 w1 H1.out).mono ?_
    rintro en w2 ⟨rfl, hto⟩
    go_wp2_with fail
    go_ret
    exact ⟨rfl, RdTo.of HG.out hto⟩
  · rw [if_neg hc] at hB
    rw [hB]
    clear hB
    have hcs : ((((f : Nat) : Int) == 0) = false) ∨ ((((f : Nat) : Int) == 0) = true ∧ x ≤ 1) := by
      by_cases hf : f = 0
      · exact .inr ⟨by rw [hf]; rfl, by omega⟩
      · exact .inl (by rw [beq_eq_false_iff_ne]; omega)
    have hfin : (((x : Nat) : Int) == 1) = decide (x = 1) := by
      rw [Bool.eq_iff_iff, beq_iff_eq, decide_eq_true_iff]; omega
    have HF := Lib.hid hfin
    clear hc hfin
    go_enter Try.func25, Try.ntmps25
    go_wp2_with fail
    refine HU.out.mono ?_
    rintro en w1 ⟨rfl, hg1, A1, c1, h1⟩
    have HG := Lib.hid hg1
    have H1 := Lib.hid h1
    clear hg1 h1
    go_wp2_with fail
    refine (rdErr_any g A1 c1 m f w1 H1.out).mono ?_
    rintro en w' ⟨rfl, rfl⟩
    rcases hcs with h1 | ⟨h1, h2⟩
    all_goals
      go_wp2_with fail
      go_ret
      exact ⟨ret_bool HF.out, HG.out, A1, c1, H1.out⟩
end Go.Proofs.Ytmaemlmbhldmkaa
