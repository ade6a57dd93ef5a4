/- The contracts of the document's parts as sectors: Read. -/
import Derived.Test.YtckihiiimomgfaaDoorStampRefLay
import Derived.Test.YtckihiiimomgfaaDoorGStamp
namespace Go.Proofs.YtckihiiimomgfaaDoor
open Go.RowKit
set_option maxRecDepth 100000
theorem value_at (ad : Addr) (l : List UInt8) (k n c : Nat) (w : World) (hk : 0 < k) (hn : n ≤ 4) (h : k + n ≤ l.length) (hr : Bs w (some ad) l) :
    Calls Tryd.prog 100 #[.slice (some ⟨ad.block, ad.off + k, none⟩) n c] w fun e w' => e = .returned (.int .i64 (StampMath.ofBe ((l.drop k).take n) : Nat)) ∧ w = w' := by
  have hl : ((l.drop k).take n).length = n := by simp; omega
  have := refValue_any (some ⟨ad.block, ad.off + k, none⟩) c ((l.drop k).take n) w (by omega) (hr.sub k n hk)
  rwa [hl] at this
theorem value_at0 (ad : Addr) (l : List UInt8) (n c : Nat) (w : World) (hn : n ≤ 4) (h : n ≤ l.length) (hr : Bs w (some ad) l) :
    Calls Tryd.prog 100 #[.slice (some ad) n c] w fun e w' => e = .returned (.int .i64 (StampMath.ofBe (l.take n) : Nat)) ∧ w = w' := by
  have hl : (l.take n).length = n := by simp; omega
  have := refValue_any (some ad) c (l.take n) w (by omega) (hr.take n)
  rwa [hl] at this
def RefReadPost (l : List UInt8) (w : World) (e : Ending) (w' : World) : Prop :=
  Below w.heap.size w w' ∧ match StampMath.read l with
  | none => e = .returned (.tuple #[.agg #[.int .i64 0, .int .i64 0, .int .i64 0, .int .i64 0, .slice none 0 0], .int .i64 4])
  | some p => ∃ v, e = .returned (.tuple #[.agg #[.int .i64 p.epoch, .int .i64 p.seq, .int .i64 p.index, .int .i64 p.total, v], .int .i64 0]) ∧ w'.ownsRow w.heap.size 5 1 v p.data.length (bvs p.data)
theorem RefReadPost.none_ {l : List UInt8} {w w' : World} (h : StampMath.read l = none) (hb : Below w.heap.size w w') :
    RefReadPost l w (.returned (.tuple #[.agg #[.int .i64 0, .int .i64 0, .int .i64 0, .int .i64 0, .slice none 0 0], .int .i64 4])) w' := by
  unfold RefReadPost
  rw [h]
  exact ⟨hb, rfl⟩
set_option maxHeartbeats 400000 in
theorem refRead_len (A : Option Addr) (c : Nat) (l : List UInt8) (w : World) (hl : l.length ≠ 64) (_hm : l.length ≤ 65536) : Calls Tryd.prog 81 #[.slice A l.length c] w (RefReadPost l w) := by
  have hne : ((l.length : Int) != 64) = true := by rw [bne_iff_ne]; omega
  have hn : StampMath.read l = none := by unfold StampMath.read; rw [if_neg (fun h => hl h.1)]
  have HN := Lib.hid hn
  clear hn hl
  go_enter Tryd.func81, Tryd.ntmps81
  go_wp2_with fail
  refine bodyPost_ret (v := .tuple #[.agg #[.int .i64 0, .int .i64 0, .int .i64 0, .int .i64 0, .slice none 0 0], .int .i64 4]) (by simp [results, Tryd.results81, go_sem]) rfl (RefReadPost.none_ HN.out ?_)
  exact below_alloc _ _
set_option maxHeartbeats 400000 in
theorem refRead_big (ad : Addr) (c : Nat) (l : List UInt8) (w : World) (hl : l.length = 64) (hc : 64 ≤ c) (_hm : c ≤ 9223372036854775807) (hr : Bs w (some ad) l) (hn : 38 < StampMath.ofBe ((l.drop 12).take 2)) :
    Calls Tryd.prog 81 #[.slice (some ad) 64 c] w (RefReadPost l w) := by
  have hg := fun w' (hr : Bs w' (some ad) l) => value_at ad l 12 2 (c - 12) w' (by decide) (by decide) (by omega) hr
  have hno : StampMath.read l = none := by unfold StampMath.read; rw [if_neg (fun h => by omega)]
  have HN := Lib.hid hno
  have HG := Lib.hid hg
  have hlt : StampMath.ofBe ((l.drop 12).take 2) < 65536 := by
    have := StampMath.ofBe_lt ((l.drop 12).take 2)
    have e : ((l.drop 12).take 2).length = 2 := by simp; omega
    rw [e] at this
    omega
  clear hno hg hl
  go_enter Tryd.func81, Tryd.ntmps81
  go_wp2_with fail
  refine (HG.out _ (hr.alloc _)).mono ?_
  rintro e w' ⟨rfl, rfl⟩
  clear HG
  generalize StampMath.ofBe ((l.drop 12).take 2) = n at *
  go_wp2_with fail
  refine bodyPost_ret (v := .tuple #[.agg #[.int .i64 0, .int .i64 0, .int .i64 0, .int .i64 0, .slice none 0 0], .int .i64 4]) (by simp [results, Tryd.results81, go_sem]) rfl (RefReadPost.none_ HN.out ?_)
  exact below_alloc _ _
theorem copy_at (ad : Addr) (l : List UInt8) (k n c : Nat) (w : World) (hk : 0 < k) (h : k + n ≤ l.length) (hn : n ≤ 65536) (hr : Bs w (some ad) l) :
    Calls Tryd.prog 13 #[.slice (some ⟨ad.block, ad.off + k, none⟩) n c] w fun e w' => ∃ v, e = .returned v ∧ w'.ownsRow w.heap.size 5 1 v n (bvs ((l.drop k).take n)) ∧ Below w.heap.size w w' := by
  have hl : ((l.drop k).take n).length = n := by simp; omega
  have := copy_any (some ⟨ad.block, ad.off + k, none⟩) c ((l.drop k).take n) w (by omega) (hr.sub k n hk)
  rwa [hl] at this
abbrev refZeroPart : Obj := .cells #[.int .i64 0, .int .i64 0, .int .i64 0, .int .i64 0, .slice none 0 0] 114
/-- behind the making of the part: it lies in a block of its own, its data in another -/
def RefReadCut (w : World) (l : List UInt8) (n : Nat) (s : Value) (wx : World) : Prop :=
  ∃ (g : Nat) (v : Value), s = .pointer (some ⟨g, 0, none⟩) ∧ PartAt wx g (StampMath.ofBe (l.take 4) : Nat) (StampMath.ofBe ((l.drop 4).take 4) : Nat) (StampMath.ofBe ((l.drop 8).take 2) : Nat) (StampMath.ofBe ((l.drop 10).take 2) : Nat) v ∧
    wx.ownsRow (w.heap.size + 1) 5 1 v n (bvs ((l.drop 18).take n)) ∧ Below (w.heap.size + 1) (w.alloc refZeroPart) wx
set_option maxHeartbeats 1000000 in
theorem refRead_main (ad : Addr) (c : Nat) (l : List UInt8) (w : World) (hl : l.length = 64) (hc : 64 ≤ c) (hm : c ≤ 9223372036854775807) (hr : Bs w (some ad) l) (hn : StampMath.ofBe ((l.drop 12).take 2) ≤ 38) :
    Calls Tryd.prog 81 #[.slice (some ad) 64 c] w (RefReadPost l w) := by
  have hg := fun w' (hr : Bs w' (some ad) l) => value_at ad l 12 2 (c - 12) w' (by decide) (by decide) (by omega) hr
  have HG := Lib.hid hg
  have HL := Lib.hid hl
  clear hg hl
  go_enter Tryd.func81, Tryd.ntmps81
  go_wp2_with fail
  refine (HG.out _ (hr.alloc _)).mono ?_
  rintro e w' ⟨rfl, rfl⟩
  clear HG
  obtain ⟨n, hN⟩ : ∃ n, StampMath.ofBe ((l.drop 12).take 2) = n := ⟨_, rfl⟩
  rw [hN] at hn ⊢
  have HN := Lib.hid hN
  clear hN
  go_wp2_with fail
  have hr0 : Bs (w.alloc (.cells #[.int .i64 0, .int .i64 0, .int .i64 0, .int .i64 0, .slice none 0 0] 114)) (some ad) l := hr.alloc _
  have hb0 : Below (w.heap.size + 1) (w.alloc (.cells #[.int .i64 0, .int .i64 0, .int .i64 0, .int .i64 0, .slice none 0 0] 114)) (w.alloc (.cells #[.int .i64 0, .int .i64 0, .int .i64 0, .int .i64 0, .slice none 0 0] 114)) := Below.refl _ _
  have hs0 : w.heap.size + 1 ≤ (w.alloc (.cells #[.int .i64 0, .int .i64 0, .int .i64 0, .int .i64 0, .slice none 0 0] 114)).heap.size := by simp
  obtain ⟨w0, hw0⟩ : ∃ w0, w.alloc (.cells #[.int .i64 0, .int .i64 0, .int .i64 0, .int .i64 0, .slice none 0 0] 114) = w0 := ⟨_, rfl⟩
  rw [hw0] at hr0 hs0 ⊢
  have HB0 : Hid (Below (w.heap.size + 1) (w.alloc (.cells #[.int .i64 0, .int .i64 0, .int .i64 0, .int .i64 0, .slice none 0 0] 114)) w0) := Lib.hid (hw0 ▸ hb0)
  clear hw0 hb0
  have hl64 : 64 ≤ l.length := by have := HL.out; omega
  have e1 : IntKind.i64.wrap (18 + (n : Int)) = 18 + (n : Int) := IntWalk.i64_in _ (by omega)
  have e2 : (0 : Int) ≤ 18 + (n : Int) := by omega
  have e3 : (18 : Int) ≤ 18 + (n : Int) := by omega
  have e4 : 18 + (n : Int) ≤ (c : Int) := by omega
  have e5 : (18 + (n : Int)).toNat = 18 + n := by omega
  have e6 : 18 + n - 18 = n := by omega
  have f1 : (4 : Int) ≤ (c : Int) := by omega
  have f2 : (8 : Int) ≤ (c : Int) := by omega
  have f3 : (10 : Int) ≤ (c : Int) := by omega
  have f4 : (12 : Int) ≤ (c : Int) := by omega
  have f5 : ¬ c = 4 := by omega
  have f6 : ¬ c = 8 := by omega
  have f7 : ¬ c = 10 := by omega
  have f8 : ¬ c = 18 := by omega
  go_cut [5] (fun s wx => RefReadCut w l n s wx)
  case first =>
    -- stop
    go_region_held3 (fun _ => True) (first | trivial) (first
      | (go_at_call_of 100 (Value.slice (some ad) 4 c); refine (value_at0 ad l 4 c _ (by decide) (by omega) ?_).mono ?_; (first | exact hr0 | exact hr0.alloc _); rintro e w' ⟨rfl, rfl⟩)
      | (go_at_call 100; (with_reducible refine (value_at ad l _ _ _ _ ?_ ?_ ?_ ?_).mono ?_); (omega); (omega); (omega); (first | exact hr0 | exact hr0.alloc _); rintro e w' ⟨rfl, rfl⟩)
      | (go_at_call 13; (with_reducible refine (copy_at ad l 18 n (c - 18) _ (by decide) (by omega) (by omega) ?_).mono ?_); (first | exact hr0 | exact hr0.alloc _); rintro e w1 ⟨v, rfl, hown, hb1⟩; obtain ⟨A1, c1, rfl, hq⟩ := own_shape hown; obtain ⟨hc1, hf1⟩ := bcell hb1))
    all_goals
      go_wp2_with fail
      go_meet
      first
        | (obtain ⟨q1, q2, q3⟩ := box_behind (w0 := w0.drew) (T := 114) (a := (StampMath.ofBe (l.take 4) : Nat)) (b := (StampMath.ofBe ((l.drop 4).take 4) : Nat)) (i := (StampMath.ofBe ((l.drop 8).take 2) : Nat)) (t := (StampMath.ofBe ((l.drop 10).take 2) : Nat)) HB0.out.drew hs0 hb1 hown
           exact ⟨_, _, rfl, q1, q2, q3⟩)
        | (obtain ⟨q1, q2, q3⟩ := box_ahead (w0 := w0) (T := 114) (z0 := .int .i64 0) (z1 := .int .i64 0) (z2 := .int .i64 0) (z3 := .int .i64 0) (z4 := .slice none 0 0) (a := (StampMath.ofBe (l.take 4) : Nat)) (b := (StampMath.ofBe ((l.drop 4).take 4) : Nat)) (i := (StampMath.ofBe ((l.drop 8).take 2) : Nat)) (t := (StampMath.ofBe ((l.drop 10).take 2) : Nat)) HB0.out hs0 ((Below.refl _ _).drew.trans hb1) hown _ rfl
           exact ⟨_, _, rfl, q1, q2, q3⟩)
  case rest =>
    clear e1 e2 e3 e4 e5 e6 f1 f2 f3 f4 f5 f6 f7 f8
    obtain ⟨g, v, rfl, hat, hown, hb⟩ := hcut
    obtain ⟨A1, c1, rfl, hc1⟩ := own_shape hown
    clear hr0 hs0 HB0
    obtain ⟨a, hA⟩ : ∃ a, StampMath.ofBe (l.take 4) = a := ⟨_, rfl⟩
    obtain ⟨b, hB⟩ : ∃ a, StampMath.ofBe ((l.drop 4).take 4) = a := ⟨_, rfl⟩
    obtain ⟨i, hI⟩ : ∃ a, StampMath.ofBe ((l.drop 8).take 2) = a := ⟨_, rfl⟩
    obtain ⟨t, hT⟩ : ∃ a, StampMath.ofBe ((l.drop 10).take 2) = a := ⟨_, rfl⟩
    rw [hA, hB, hI, hT] at hat
    have hF : StampMath.fields l = ⟨(a : Int), (b : Int), (i : Int), (t : Int), (l.drop 18).take n⟩ := by
      unfold StampMath.fields
      rw [hA, hB, hI, hT, HN.out]
    have hdl : ((l.drop 18).take n).length = n := by have := HL.out; simp; omega
    obtain ⟨da, hda⟩ : ∃ da, (l.drop 18).take n = da := ⟨_, rfl⟩
    rw [hda] at hown hF hdl
    clear hA hB hI hT hda
    obtain rfl : da.length = n := hdl
    have HF := Lib.hid hF
    have HO := Lib.hid hown
    have HAT := Lib.hid hat
    have HB := Lib.hid hb
    have hbw : Below w.heap.size w wc := (below_alloc w _).trans (hb.mono (by omega))
    have hsz := hb.size
    have HBW := Lib.hid hbw
    clear hF hown hat hb hbw
    have k0 := HAT.out.c0
    have k1 := HAT.out.c1
    have k2 := HAT.out.c2
    have k3 := HAT.out.c3
    have k4 := HAT.out.c4
    go_wp2_with fail
    clear k0 k1 k2 k3 k4
    by_cases hp : StampMath.right ⟨(a : Int), (b : Int), (i : Int), (t : Int), da⟩
    · refine (refLay_ok ⟨(a : Int), (b : Int), (i : Int), (t : Int), da⟩ A1 c1 wc hp (Bs.of_own HO.out)).mono ?_
      rintro e w2 ⟨vy, rfl, hy, hb2⟩
      have HP := Lib.hid hp
      obtain ⟨Q, q, rfl, _⟩ := own_shape hy
      have hbs := Bs.of_own hy
      have HAT2 := Lib.hid (HAT.out.below hb2)
      have HB2 := Lib.hid (HB.out.trans (hb2.mono (by simpa using hsz)))
      have HO2 := Lib.hid (own_below HO.out hb2)
      have HBW2 := Lib.hid (below_then HBW.out hb2)
      have hlay := StampMath.lay_length ⟨(a : Int), (b : Int), (i : Int), (t : Int), da⟩ HP.out.2.2.2.2.2.2.2.2
      obtain ⟨Y, hY⟩ : ∃ Y, StampMath.lay ⟨(a : Int), (b : Int), (i : Int), (t : Int), da⟩ = Y := ⟨_, rfl⟩
      rw [hY] at hbs hlay
      have HY := Lib.hid hY
      have heq := same_at (some ad) Q c q 64 64 l Y w2 HL.out hlay (by decide) (by decide) (hr.below HBW2.out) hbs
      have HE := Lib.hid heq
      clear hY hb2 HAT HB HO HBW hbs hlay heq hy hp
      go_wp2_with fail
      refine HE.out.mono ?_
      rintro e w3 ⟨rfl, hb3⟩
      have hsz2 : w.heap.size + 1 ≤ w2.heap.size := by have := HB2.out.size; simpa using this
      have HAT3 := Lib.hid (HAT2.out.below hb3)
      have HB3 := Lib.hid (HB2.out.trans (hb3.mono hsz2))
      have HO3 := Lib.hid (own_below HO2.out hb3)
      have HBW3 := Lib.hid (below_then HBW2.out hb3)
      have hsz3 : w.heap.size + 1 ≤ w3.heap.size := by have := hb3.size; omega
      clear hb3 HAT2 HB2 HO2 HBW2 HE
      by_cases hs : l = Y
      · subst hs
        rw [sameB_self]
        have k0 := HAT3.out.c0
        have k1 := HAT3.out.c1
        have k2 := HAT3.out.c2
        have k3 := HAT3.out.c3
        have k4 := HAT3.out.c4
        have z0 : w3.cell? ⟨w.heap.size, 0, none⟩ = some (.int .i64 0) := box_cell HB3.out (by omega) 0
        have y0 : w3.frozen? ⟨w.heap.size, 0, none⟩ = false := box_free HB3.out (by omega) 0
        have z1 : w3.cell? ⟨w.heap.size, 1, none⟩ = some (.int .i64 0) := box_cell HB3.out (by omega) 1
        have y1 : w3.frozen? ⟨w.heap.size, 1, none⟩ = false := box_free HB3.out (by omega) 1
        have z2 : w3.cell? ⟨w.heap.size, 2, none⟩ = some (.int .i64 0) := box_cell HB3.out (by omega) 2
        have y2 : w3.frozen? ⟨w.heap.size, 2, none⟩ = false := box_free HB3.out (by omega) 2
        have z3 : w3.cell? ⟨w.heap.size, 3, none⟩ = some (.int .i64 0) := box_cell HB3.out (by omega) 3
        have y3 : w3.frozen? ⟨w.heap.size, 3, none⟩ = false := box_free HB3.out (by omega) 3
        have z4 : w3.cell? ⟨w.heap.size, 4, none⟩ = some (.slice none 0 0) := box_cell HB3.out (by omega) 4
        have y4 : w3.frozen? ⟨w.heap.size, 4, none⟩ = false := box_free HB3.out (by omega) 4
        go_wp2_with fail
        refine bodyPost_ret (v := .tuple #[.agg #[.int .i64 (a : Int), .int .i64 (b : Int), .int .i64 (i : Int), .int .i64 (t : Int), .slice A1 da.length c1], .int .i64 0]) (by simp [results, Tryd.results81, go_sem, z0, z1, z2, z3, z4]) rfl ?_
        clear k0 k1 k2 k3 k4 z0 z1 z2 z3 z4 y0 y1 y2 y3 y4
        have hrd : StampMath.read l = some ⟨(a : Int), (b : Int), (i : Int), (t : Int), da⟩ := by
          rw [← HY.out]
          exact StampMath.read_lay _ HP.out
        have hg : w3.grownBy (((((w3.setCell ⟨w.heap.size, 0, none⟩ (.int .i64 (a : Int))).setCell ⟨w.heap.size, 1, none⟩ (.int .i64 (b : Int))).setCell ⟨w.heap.size, 2, none⟩ (.int .i64 (i : Int))).setCell ⟨w.heap.size, 3, none⟩ (.int .i64 (t : Int))).setCell ⟨w.heap.size, 4, none⟩ (.slice A1 da.length c1)) (some w.heap.size) :=
          grown_set (grown_set (grown_set (grown_set (grown_set ⟨rfl, rfl, rfl, Nat.le_refl _, fun _ _ _ => rfl⟩ 0 _) 1 _) 2 _) 3 _) 4 _
        unfold RefReadPost
        rw [hrd]
        refine ⟨HBW3.out.grown hg (by omega) (fun k hk => by injection hk with hk; omega), _, rfl, own_base (HO3.out.kept hg ?_) (Nat.le_succ _)⟩
        cases hv : (Value.slice A1 da.length c1).ownBlock with
        | none => exact .inl rfl
        | some g' =>
          right
          have := (HO3.out.lt g' hv).1
          intro e
          injection e with e
          omega
      · have hsb : sameB l Y = false := decide_eq_false hs
        rw [hsb]
        have hrd : StampMath.read l = none := by
          unfold StampMath.read
          rw [HF.out, HY.out, if_neg (fun h => hs h.2.2.2.symm)]
        have HRD := Lib.hid hrd
        clear hsb hrd hs
        have z0 : w3.cell? ⟨w.heap.size, 0, none⟩ = some (.int .i64 0) := box_cell HB3.out (by omega) 0
        have y0 : w3.frozen? ⟨w.heap.size, 0, none⟩ = false := box_free HB3.out (by omega) 0
        have z1 : w3.cell? ⟨w.heap.size, 1, none⟩ = some (.int .i64 0) := box_cell HB3.out (by omega) 1
        have y1 : w3.frozen? ⟨w.heap.size, 1, none⟩ = false := box_free HB3.out (by omega) 1
        have z2 : w3.cell? ⟨w.heap.size, 2, none⟩ = some (.int .i64 0) := box_cell HB3.out (by omega) 2
        have y2 : w3.frozen? ⟨w.heap.size, 2, none⟩ = false := box_free HB3.out (by omega) 2
        have z3 : w3.cell? ⟨w.heap.size, 3, none⟩ = some (.int .i64 0) := box_cell HB3.out (by omega) 3
        have y3 : w3.frozen? ⟨w.heap.size, 3, none⟩ = false := box_free HB3.out (by omega) 3
        have z4 : w3.cell? ⟨w.heap.size, 4, none⟩ = some (.slice none 0 0) := box_cell HB3.out (by omega) 4
        have y4 : w3.frozen? ⟨w.heap.size, 4, none⟩ = false := box_free HB3.out (by omega) 4
        go_wp2_with fail
        refine bodyPost_ret (v := .tuple #[.agg #[.int .i64 0, .int .i64 0, .int .i64 0, .int .i64 0, .slice none 0 0], .int .i64 4]) (by simp [results, Tryd.results81, go_sem, z0, z1, z2, z3, z4]) rfl (RefReadPost.none_ HRD.out ?_)
        exact ((((HBW3.out.setCell (Nat.le_refl _) _).setCell (Nat.le_refl _) _).setCell (Nat.le_refl _) _).setCell (Nat.le_refl _) _).setCell (Nat.le_refl _) _
    · refine (refLay_bad ⟨(a : Int), (b : Int), (i : Int), (t : Int), da⟩ A1 c1 wc hp).mono ?_
      rintro e w2 ⟨rfl, hb2⟩
      have hrd : StampMath.read l = none := by
        unfold StampMath.read
        rw [HF.out, if_neg (fun h => hp h.2.2.1)]
      have HRD := Lib.hid hrd
      have HB2 := Lib.hid (HB.out.trans (hb2.mono (by simpa using hsz)))
      have HBW2 := Lib.hid (below_then HBW.out hb2)
      clear hrd hp hb2
      have z0 : w2.cell? ⟨w.heap.size, 0, none⟩ = some (.int .i64 0) := box_cell HB2.out (by omega) 0
      have y0 : w2.frozen? ⟨w.heap.size, 0, none⟩ = false := box_free HB2.out (by omega) 0
      have z1 : w2.cell? ⟨w.heap.size, 1, none⟩ = some (.int .i64 0) := box_cell HB2.out (by omega) 1
      have y1 : w2.frozen? ⟨w.heap.size, 1, none⟩ = false := box_free HB2.out (by omega) 1
      have z2 : w2.cell? ⟨w.heap.size, 2, none⟩ = some (.int .i64 0) := box_cell HB2.out (by omega) 2
      have y2 : w2.frozen? ⟨w.heap.size, 2, none⟩ = false := box_free HB2.out (by omega) 2
      have z3 : w2.cell? ⟨w.heap.size, 3, none⟩ = some (.int .i64 0) := box_cell HB2.out (by omega) 3
      have y3 : w2.frozen? ⟨w.heap.size, 3, none⟩ = false := box_free HB2.out (by omega) 3
      have z4 : w2.cell? ⟨w.heap.size, 4, none⟩ = some (.slice none 0 0) := box_cell HB2.out (by omega) 4
      have y4 : w2.frozen? ⟨w.heap.size, 4, none⟩ = false := box_free HB2.out (by omega) 4
      go_wp2_with fail
      refine bodyPost_ret (v := .tuple #[.agg #[.int .i64 0, .int .i64 0, .int .i64 0, .int .i64 0, .slice none 0 0], .int .i64 4]) (by simp [results, Tryd.results81, go_sem, z0, z1, z2, z3, z4]) rfl (RefReadPost.none_ HRD.out ?_)
      exact ((((HBW2.out.setCell (Nat.le_refl _) _).setCell (Nat.le_refl _) _).setCell (Nat.le_refl _) _).setCell (Nat.le_refl _) _).setCell (Nat.le_refl _) _
theorem refRead_any (A : Option Addr) (c : Nat) (l : List UInt8) (w : World) (hc : l.length ≤ c) (hm : c ≤ maxLen) (hl : l.length ≤ 65536) (hr : Bs w A l) :
    Calls Tryd.prog 81 #[.slice A l.length c] w (RefReadPost l w) := by
  by_cases h64 : l.length = 64
  · obtain ⟨ad, rfl, _, _⟩ := hr.at_ (k := 0) (by omega)
    unfold maxLen at hm
    rw [h64] at hc
    by_cases hn : StampMath.ofBe ((l.drop 12).take 2) ≤ 38
    · have := refRead_main ad c l w h64 hc (by omega) hr hn
      rwa [← h64] at this
    · have := refRead_big ad c l w h64 hc (by omega) hr (by omega)
      rwa [← h64] at this
  · exact refRead_len A c l w h64 hl
theorem refRead_some (A : Option Addr) (c n : Nat) (l : List UInt8) (p : StampMath.Part) (w : World) (hn : l.length = n) (hc : n ≤ c) (hm : c ≤ maxLen) (hr : Bs w A l) (h : StampMath.read l = some p) :
    Calls Tryd.prog 81 #[.slice A n c] w fun e w' => ∃ B d, e = .returned (.tuple #[.agg #[.int .i64 p.epoch, .int .i64 p.seq, .int .i64 p.index, .int .i64 p.total, .slice B p.data.length d], .int .i64 0]) ∧
      w'.ownsRow w.heap.size 5 1 (.slice B p.data.length d) p.data.length (bvs p.data) ∧ Below w.heap.size w w' := by
  subst hn
  have h64 := (StampMath.read_stamps h).2.2
  refine (refRead_any A c l w hc hm (by omega) hr).mono ?_
  rintro e w1 ⟨hb1, hp⟩
  rw [h] at hp
  obtain ⟨v, rfl, hown⟩ := hp
  obtain ⟨B, d, rfl, _⟩ := own_shape hown
  exact ⟨B, d, rfl, hown, hb1⟩
theorem refRead_none (A : Option Addr) (c n : Nat) (l : List UInt8) (w : World) (hn : l.length = n) (hc : n ≤ c) (hm : c ≤ maxLen) (hl : n ≤ 65536) (hr : Bs w A l) (h : StampMath.read l = none) :
    Calls Tryd.prog 81 #[.slice A n c] w fun e w' => e = .returned (.tuple #[.agg #[.int .i64 0, .int .i64 0, .int .i64 0, .int .i64 0, .slice none 0 0], .int .i64 4]) ∧ Below w.heap.size w w' := by
  subst hn
  refine (refRead_any A c l w hc hm hl hr).mono ?_
  rintro e w1 ⟨hb1, hp⟩
  rw [h] at hp
  exact ⟨hp, hb1⟩
end Go.Proofs.YtckihiiimomgfaaDoor
