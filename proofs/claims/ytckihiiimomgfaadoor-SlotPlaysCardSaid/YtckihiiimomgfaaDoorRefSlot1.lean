/- The contract of the document's has: what a slot has. -/
import Derived.Test.YtckihiiimomgfaaDoorRefWal4
import Derived.Test.YtckihiiimomgfaaDoorGRefRd
import Derived.Test.YtckihiiimomgfaaDoorSlot3
namespace Go.Proofs.YtckihiiimomgfaaDoor
open Go.RowKit DiskMath
namespace SlotMath
theorem has_none {dec : List UInt8 → Nat × List UInt8} {S : List Sector} {a size : Nat} (h : slotParts S a size = none) : has dec S a size = (0, []) := by
  unfold has slotRec
  rw [h]
  rfl
/-- a sector that is no part -/
theorem parts_gap {S : List Sector} {a size k : Nat} {L : List StampMath.Part} (hk : L.length = k) (hp : ∀ j p, L[j]? = some p → StampMath.read (S.getD (a + j) []) = some p) (ht : ∀ p, L[0]? = some p → (k : Int) < p.total) (hno : StampMath.read (S.getD (a + k) []) = none) : slotParts S a size = none := by
  unfold slotParts
  cases L with
  | nil =>
    simp at hk
    subst hk
    rw [Nat.add_zero] at hno
    rw [hno]
  | cons p l =>
    simp at hk
    have h0 := hp 0 p rfl
    rw [Nat.add_zero] at h0
    have h1 := ht p rfl
    rw [h0]
    simp only
    split
    · rfl
    · rw [readAll_none (k := l.length) (by omega) (by rw [show a + 1 + l.length = a + k by omega]; exact hno)]
      rfl
/-- all parts are there -/
theorem parts_all {S : List Sector} {a size k : Nat} {L : List StampMath.Part} (hk : L.length = k) (h0 : 0 < k) (hks : k ≤ size) (hp : ∀ j p, L[j]? = some p → StampMath.read (S.getD (a + j) []) = some p) (ht : ∀ p, L[0]? = some p → (k : Int) = p.total) : slotParts S a size = some L := by
  unfold slotParts
  cases L with
  | nil => simp at hk; omega
  | cons p l =>
    simp at hk
    have h1 := hp 0 p rfl
    rw [Nat.add_zero] at h1
    have h2 := ht p rfl
    rw [h1]
    simp only
    rw [if_neg (by omega), readAll_mk (l := l) (by omega) (fun j q hj => by
      have := hp (j + 1) q (by simpa using hj)
      rwa [show a + (j + 1) = a + 1 + j by omega] at this)]
    rfl
/-- more parts than a slot has sectors -/
theorem parts_more {S : List Sector} {a size : Nat} {p : StampMath.Part} (h : StampMath.read (S.getD a []) = some p) (ht : (size : Int) < p.total) : slotParts S a size = none := by
  unfold slotParts
  rw [h]
  simp only
  rw [if_pos ht]
theorem join_ne {L : List StampMath.Part} {p : StampMath.Part} (h0 : L[0]? = some p) (ht : p.total ≠ (L.length : Int)) : StampMath.join L = none := by
  cases hj : StampMath.join L with
  | none => rfl
  | some d =>
    obtain ⟨e, s, h1, h2, h3, h4⟩ := StampMath.join_some hj
    rw [h1, parts_get e s d 0 (StampMath.totalOf_pos _)] at h0
    injection h0 with h0
    subst h0
    exact absurd (by simp only [StampMath.partOf]; omega) ht
end SlotMath
/-- the first k parts of a slot are read -/
def HaRel (w : World) (S : List Sector) (a size : Nat) (v i : Value) (wr : World) : Prop :=
  ∃ (k : Nat) (L : List StampMath.Part), L.length = k ∧ k ≤ size ∧ i = .int .i64 (k : Int) ∧ (∀ j p, L[j]? = some p → StampMath.read (S.getD (a + j) []) = some p) ∧ (∀ p, L[0]? = some p → (k : Int) < p.total) ∧ PRow wr 114 (fun x => w.heap.size ≤ x) v L ∧ Below w.heap.size w wr
set_option maxRecDepth 100000 in
set_option maxHeartbeats 8000000 in
theorem refHas_any (w : World) (G : Nat → Prop) (p : Nat) (d : Dk) (c a size : Nat) (h : RDiskAt w G p d c) (hto : a + size ≤ d.fast.length) (hd : d.fast.length ≤ 1000) (h1 : 1 ≤ size) :
    Calls Tryd.prog 55 #[.pointer (some ⟨p, 0, none⟩), .int .i64 a, .int .i64 size] w (HsPost (SlotMath.has slDec (view d) a size) w) := by
  have HD := Lib.hid h
  have HTO := Lib.hid hto
  have hsz1 : a + size ≤ 1000 := by omega
  have hus := Tryd.underlying114
  obtain ⟨Z, hZl, hzv⟩ := info_part_zeroR
  have HZL := Lib.hid hZl
  clear h hto hd hZl
  go_enter Tryd.func55, Tryd.ntmps55
  go_wp2_with fail
  go_loopw [8, 9] (fun v i wr => HaRel w (view d) a size v i wr) (fun _ i _ => size - (intOf i).toNat)
  case atStart => exact ⟨0, [], rfl, Nat.zero_le _, rfl, fun j p hj => by simp at hj, fun p hj => by simp at hj, PRow.nil _ _ _, Below.refl _ _⟩
  case round =>
    obtain ⟨k, L, hk, hks, rfl, hparts, htot, hrow, hb⟩ := hrel
    obtain ⟨wo, rfl⟩ : ∃ wo : World, wo = wr := ⟨_, rfl⟩
    obtain ⟨A9, c9, rfl, hc9⟩ := hrow.shape
    rw [hk] at hc9 hrow ⊢
    obtain ⟨i, hi⟩ : ∃ i, a + k = i := ⟨_, rfl⟩
    have hii : ((a : Int) + (k : Int)) = (i : Int) := by omega
    have hiw : IntKind.i64.wrap (i : Int) = (i : Int) := by rw [IntKind.wrap_i64]; omega
    have HP := Lib.hid hparts
    have HT := Lib.hid htot
    have HROW := Lib.hid hrow
    have HB := Lib.hid hb
    have HK := Lib.hid hk
    have HI := Lib.hid hi
    have hsz := hb.size
    have hi1000 : i ≤ 1000 := by omega
    clear hparts htot hrow hb hk hi
    by_cases hlt : k < size
    · skip
      go_wp2_with fail
      refine (refNow_any wo G p d c i (HD.out.below HB.out) (by have := HTO.out; have := HI.out; omega)).mono ?_
      rintro e w1 ⟨v, s, rfl, hs, hsl, ho, hb1⟩
      obtain ⟨A1, n1, c1, rfl, hn1, hc1, hm1⟩ := ho.shape'
      obtain rfl : n1 = 64 := by omega
      have HGET := Lib.hid (show (view d).getD (a + k) [] = s by rw [HI.out, List.getD_eq_getElem?_getD, hs]; rfl)
      have HB1 := Lib.hid hb1
      have hs1 := hb1.size
      cases hq : StampMath.read s with
      | none =>
        have hno : SlotMath.has slDec (view d) a size = (0, []) := SlotMath.has_none (SlotMath.parts_gap HK.out HP.out HT.out (by rw [HGET.out]; exact hq))
        have hrd := refRead_none A1 c1 64 s w1 hsl (by omega) hm1 (by decide) ho.bs hq
        have HNO := Lib.hid hno
        have HRD := Lib.hid hrd
        clear hno hrd hq hs hsl ho hb1 hn1
        go_wp2_with fail
        refine HRD.out.mono ?_
        rintro e w2 ⟨rfl, hb2⟩
        have HB2 := Lib.hid (below_then HB1.out hb2)
        clear hb2 HRD
        go_wp2_with (refine wpList_store_new rfl 114 (.tmp 10) (.tmp 29) rfl rfl (partCells ⟨0, 0, 0, 0, []⟩ (.slice none 0 0)) rfl rfl (by show Z.toArray.size = _; rw [List.size_toArray, HZL.out]; rfl) (by kernel_rfl) (fun u hu => by simp at hu; rcases hu with rfl | rfl <;> rfl) ?_; intro w3 hr3 hb3 hs3; have HB3 := Lib.hid hb3; clear hr3 hb3 hs3)
        go_ret2
        exact HsPost.zero HNO.out (below_then (below_then HB.out HB2.out) HB3.out)
      | some q =>
        have hqr := (StampMath.read_some hq).1
        have hrd := refRead_some A1 c1 64 s q w1 hsl (by omega) hm1 ho.bs hq
        have HPK := Lib.hid (show StampMath.read ((view d).getD (a + k) []) = some q by rw [HGET.out]; exact hq)
        obtain ⟨qe, qs, qi, qt, qd⟩ := q
        obtain ⟨nq, hnq⟩ : ∃ nq, qd.length = nq := ⟨_, rfl⟩
        simp only at hrd
        rw [hnq] at hrd
        have HRD := Lib.hid hrd
        have HNQ := Lib.hid hnq
        have HQR := Lib.hid hqr
        clear hrd hq hs hsl ho hb1 hn1 hqr hnq
        go_wp2_with fail
        refine HRD.out.mono ?_
        rintro e w2 ⟨B, dq, rfl, ho2, hb2⟩
        have HB2 := Lib.hid (below_then HB1.out hb2)
        have HO2 := Lib.hid (show Own8 w2 w1.heap.size (.slice B nq dq) qd from by unfold Own8; rw [HNQ.out]; exact ho2)
        have hs2 := hb2.size
        have hib : (Tryd.prog.info? 114).map (·.size) = some (partCells ⟨qe, qs, qi, qt, qd⟩ (.slice B nq dq)).length := by kernel_rfl
        clear hb2 HRD ho2
        obtain ⟨ix, hix0, hix1, hix2, hix3⟩ := info_parts info_partR9
        have HLEN4 := Lib.hid (show (L ++ [(⟨qe, qs, qi, qt, qd⟩ : StampMath.Part)]).length = k + 1 by simp [HK.out])
        have hp' : ∀ j p, (L ++ [(⟨qe, qs, qi, qt, qd⟩ : StampMath.Part)])[j]? = some p → StampMath.read ((view d).getD (a + j) []) = some p := fun j p hj => by
          by_cases hjk : j < k
          · rw [List.getElem?_append_left (by have := HK.out; omega)] at hj
            exact HP.out j p hj
          · obtain rfl : j = k := by have := (List.getElem?_eq_some_iff.1 hj).1; have := HLEN4.out; omega
            rw [List.getElem?_append_right (by have := HK.out; omega), HK.out, Nat.sub_self] at hj
            simp at hj
            rw [← hj]
            exact HPK.out
        have HP' := Lib.hid hp'
        have hrt : ∀ p ∈ L ++ [(⟨qe, qs, qi, qt, qd⟩ : StampMath.Part)], p.data.length ≤ 65536 ∧ -9223372036854775808 ≤ p.seq ∧ p.seq ≤ 9223372036854775807 := fun p hp => by
          obtain ⟨j, hj⟩ := List.getElem?_of_mem hp
          obtain ⟨_, r2, r3, r4, _, _, _, _, r9⟩ := (StampMath.read_some (HP'.out j p hj)).1
          omega
        have HRT := Lib.hid hrt
        obtain ⟨p0, hx0⟩ : ∃ p0, (L ++ [(⟨qe, qs, qi, qt, qd⟩ : StampMath.Part)])[0]? = some p0 := ⟨_, List.getElem?_eq_getElem (by have := HLEN4.out; omega)⟩
        have hp0t : (k : Int) + 1 ≤ p0.total := by
          obtain ⟨_, _, _, _, r5, _⟩ := (StampMath.read_some (HP'.out 0 p0 hx0)).1
          by_cases hk0 : k = 0
          · omega
          · rw [List.getElem?_append_left (by have := HK.out; omega)] at hx0
            have := HT.out p0 hx0
            omega
        have HX0 := Lib.hid hx0
        have HP0T := Lib.hid hp0t
        clear hp' hrt hx0 hp0t
        by_cases hT0 : (k : Int) + 1 = p0.total
        · have e0 : ((k : Int) + 1 == p0.total) = true := by rw [beq_iff_eq]; exact hT0
          have hpa := SlotMath.parts_all (S := view d) (a := a) (size := size) HLEN4.out (by omega) (by omega) HP'.out (fun p hp => by
            rw [HX0.out] at hp
            injection hp with hp
            subst hp
            omega)
          have HPA := Lib.hid hpa
          clear hpa hT0
          go_wp2_with (first
            | (refine wpList_store_new rfl 114 (.tmp 10) (.tmp 29) rfl rfl (partCells ⟨qe, qs, qi, qt, qd⟩ (.slice B nq dq)) rfl rfl (by show Z.toArray.size = _; rw [List.size_toArray, HZL.out]; rfl) hib (fun u hu => by simp at hu; rcases hu with rfl | rfl | rfl | rfl | rfl <;> rfl) ?_; intro w3 hr3 hb3 hs3; have HR3 := Lib.hid hr3; have HB3 := Lib.hid hb3; have k0 := hr3.cell 0; have k1 := hr3.cell 1; have k2 := hr3.cell 2; have k3 := hr3.cell 3; have k4 := hr3.cell 4; simp only [List.getElem?_cons_zero, List.getElem?_cons_succ] at k0 k1 k2 k3 k4; have HS3 := Lib.hid hs3; clear hr3 hb3 hs3)
            | (at_builtin; (refine wpList_pushP rfl (.tmp 33) (.tmp 35) 108 rfl 114 ix (.agg #[.int .i64 0, .int .i64 0, .int .i64 0, .int .i64 0, .slice none 0 0]) Tryd.underlying108 hix0 hix1 hix2 hix3 rfl (by decide) (fun x => w.heap.size ≤ x) (.slice A9 k c9) (.slice B nq dq) L ⟨qe, qs, qi, qt, qd⟩ rfl (HROW.out.below (below_then HB2.out HB3.out)) rfl rfl ((HO2.out.below HB3.out).base (Nat.zero_le _)) (fun x hx => by have := (HO2.out.lt x hx).1; omega) (by have := HK.out; omega) ?_; intro v4 w4 hp4 hk4 hv4; have HP4 := Lib.hid hp4; have HK4 := Lib.hid hk4; obtain ⟨g0, c0, u0, rfl, hc0, hg0, _, hrg0, _, _⟩ := hp4.at_ HX0.out; rw [HLEN4.out]; rw [HLEN4.out] at hc0; have k9 : w4.cell? ⟨g0, 3, none⟩ = some (.int .i64 p0.total) := (by have h9 := hrg0 3 (.int .i64 p0.total) rfl; simpa using h9); clear hp4 hk4 hv4 hrg0 hg0)))
          have hj := refJoin_any (some ⟨g0, 0, none⟩) (k + 1) c0 _ _ w4 HLEN4.out (by omega) (by have := HP4.out; rwa [HLEN4.out] at this) HRT.out
          have HB4 := Lib.hid ((below_then (below_then HB.out HB2.out) HB3.out).trans (HK4.out.below (B := w.heap.size) (fun x _ e => HROW.out.own9 x e) (by have := HS3.out; omega)))
          have HJ := Lib.hid hj
          clear hj k0 k1 k2 k3 k4 k9
          refine HJ.out.mono ?_
          rintro e w5 (⟨r, v, hj, rfl, ho5, hb5⟩ | ⟨hj, rfl, hb5⟩)
          · have hh : SlotMath.has slDec (view d) a size = slDec r := by unfold SlotMath.has SlotMath.slotRec; rw [HPA.out]; simp only [Option.bind_some]; rw [hj]
            have hrl : r.length ≤ 40000 := by
              obtain ⟨_, _, _, h2, _⟩ := StampMath.join_some hj
              have := HLEN4.out
              unfold StampMath.totalOf at h2
              omega
            obtain ⟨A5, n5, c5, rfl, hn5, hc5, hm5⟩ := ho5.shape'
            have HO5 := Lib.hid ho5
            have HH := Lib.hid hh
            have HB5 := Lib.hid (below_then HB4.out hb5)
            have HRL := Lib.hid hrl
            have HN5 := Lib.hid (show _ ∧ _ ∧ _ from ⟨hn5, hc5, hm5⟩)
            clear hj ho5 hb5 hn5 hc5 hm5 HJ hh hrl
            go_wp2_with fail
            have hrd6 : RRdAt (w5.alloc (.cells #[.slice A5 n5 c5, .int .i64 0] 139)) w5.heap.size A5 c5 r 0 := by
              obtain ⟨q1, q2, q3⟩ := HN5.out
              refine ⟨?_, by omega, q3, HO5.out.bs.below (below_alloc _ _), fun ad e hne => ?_⟩
              · rw [q1]
                exact heap_alloc_new w5 _
              · have := (HO5.out.lt ad.block (by rw [e]; rfl)).2
                omega
            have HB6 := Lib.hid (below_then HB5.out (below_alloc (w := w5) (.cells #[.slice A5 n5 c5, .int .i64 0] 139)))
            obtain ⟨w6, hw6⟩ : ∃ w6, w5.alloc (.cells #[.slice A5 n5 c5, .int .i64 0] 139) = w6 := ⟨_, rfl⟩
            have hgw : w.heap.size ≤ w5.heap.size := HB5.out.size
            obtain ⟨g, hg⟩ : ∃ g, w5.heap.size = g := ⟨_, rfl⟩
            rw [hw6, hg] at hrd6
            rw [hw6] at HB6
            rw [hg] at hgw
            rw [hw6, hg]
            have hsd : slDec r = slDec r := rfl
            conv at hsd => rhs; unfold slDec
            have HN := Lib.hid (rrdN_any 4611686018427387904 g A5 c5 r 0 w6 hrd6 (by have := HRL.out; omega) (by decide))
            have hlenN := rdN_len 4611686018427387904 r 0
            rcases hN : rdN 4611686018427387904 r 0 with ⟨nn, l1, e1⟩
            rw [hN] at HN hlenN hsd
            simp only at HN hlenN hsd
            have HLN := Lib.hid hlenN
            have HSD := Lib.hid hsd
            clear hrd6 hN hlenN hsd hw6 hg
            refine HN.out.mono ?_
            rintro e w7 ⟨rfl, hg7, A7, c7, hrd7⟩
            have hb7 : Below w.heap.size w w7 := HB6.out.grown hg7 HB6.out.size (fun k hk => by injection hk with hk; omega)
            have HB7 := Lib.hid hb7
            have HY := Lib.hid (rrdBytes_any g A7 c7 l1 e1 w7 hrd7 (by have := HLN.out; have := HRL.out; omega))
            rcases hY : rdBytes l1 e1 with ⟨bb, l2, e2⟩
            unfold RRdBytesPost at HY
            rw [hY] at HY HSD
            simp only at HY HSD
            have hyl : l2.length ≤ l1.length := by
              have h1 := rdN_len 2147483647 l1 e1
              have h2 : rdBytes l1 e1 = (bb, l2, e2) := hY
              unfold rdBytes at h2
              split at h2
              · injection h2 with _ h2; injection h2 with h2 _; rw [← h2]; exact h1
              · split at h2
                · injection h2 with _ h2; injection h2 with h2 _; rw [← h2]; simp
                · injection h2 with _ h2; injection h2 with h2 _; rw [← h2, List.length_drop]; omega
            have HYL := Lib.hid hyl
            clear hg7 hrd7 hb7 hY hyl HN
            go_wp2_with fail
            refine HY.out.mono ?_
            rintro e w8 ⟨B8, d8, rfl, ho8, hg8, A8, c8, hrd8⟩
            have hb8 : Below w.heap.size w w8 := HB7.out.grown hg8 HB7.out.size (fun k hk => by injection hk with hk; omega)
            have HB8 := Lib.hid hb8
            have ho8' : Own8 w8 w7.heap.size (.slice B8 bb.length d8) bb := ho8
            have HO8 := Lib.hid (ho8'.base HB7.out.size)
            have HE := Lib.hid (rrdEnd_any g A8 c8 l2 e2 w8 hrd8 (by have := HLN.out; have := HRL.out; have := HYL.out; omega))
            obtain ⟨ed, hed⟩ : ∃ ed, rdEnd l2 e2 = ed := ⟨_, rfl⟩
            rw [hed] at HE HSD
            clear ho8 ho8' hg8 hrd8 hb8 hed HY
            go_wp2_with fail
            refine HE.out.mono ?_
            rintro e w' ⟨rfl, rfl⟩
            by_cases h0 : ed = 0
            · subst h0
              rw [if_pos rfl] at HSD
              go_wp2_with fail
              go_ret2
              rw [HH.out, HSD.out]
              exact ⟨_, rfl, HO8.out, HB8.out⟩
            · rw [if_neg h0] at HSD
              have hne : ((ed : Int) != 0) = true := by rw [bne_iff_ne]; omega
              clear h0
              go_wp2_with fail
              go_ret2
              exact HsPost.zero (by rw [HH.out, HSD.out]) HB8.out
          · have hh : SlotMath.has slDec (view d) a size = (0, []) := by unfold SlotMath.has SlotMath.slotRec; rw [HPA.out]; simp only [Option.bind_some]; rw [hj]
            have HH := Lib.hid hh
            have HB5 := Lib.hid (below_then HB4.out hb5)
            clear hj hb5 HJ hh
            go_wp2_with fail
            go_ret2
            exact HsPost.zero HH.out HB5.out
        · have e0 : ((k : Int) + 1 == p0.total) = false := by rw [beq_eq_false_iff_ne]; exact hT0
          have HT0 := Lib.hid (show (k : Int) + 1 < p0.total by have := HP0T.out; omega)
          clear hT0
          go_wp2_with (first
            | (refine wpList_store_new rfl 114 (.tmp 10) (.tmp 29) rfl rfl (partCells ⟨qe, qs, qi, qt, qd⟩ (.slice B nq dq)) rfl rfl (by show Z.toArray.size = _; rw [List.size_toArray, HZL.out]; rfl) hib (fun u hu => by simp at hu; rcases hu with rfl | rfl | rfl | rfl | rfl <;> rfl) ?_; intro w3 hr3 hb3 hs3; have HR3 := Lib.hid hr3; have HB3 := Lib.hid hb3; have k0 := hr3.cell 0; have k1 := hr3.cell 1; have k2 := hr3.cell 2; have k3 := hr3.cell 3; have k4 := hr3.cell 4; simp only [List.getElem?_cons_zero, List.getElem?_cons_succ] at k0 k1 k2 k3 k4; have HS3 := Lib.hid hs3; clear hr3 hb3 hs3)
            | (at_builtin; (refine wpList_pushP rfl (.tmp 33) (.tmp 35) 108 rfl 114 ix (.agg #[.int .i64 0, .int .i64 0, .int .i64 0, .int .i64 0, .slice none 0 0]) Tryd.underlying108 hix0 hix1 hix2 hix3 rfl (by decide) (fun x => w.heap.size ≤ x) (.slice A9 k c9) (.slice B nq dq) L ⟨qe, qs, qi, qt, qd⟩ rfl (HROW.out.below (below_then HB2.out HB3.out)) rfl rfl ((HO2.out.below HB3.out).base (Nat.zero_le _)) (fun x hx => by have := (HO2.out.lt x hx).1; omega) (by have := HK.out; omega) ?_; intro v4 w4 hp4 hk4 hv4; have HP4 := Lib.hid hp4; have HK4 := Lib.hid hk4; obtain ⟨g0, c0, u0, rfl, hc0, hg0, _, hrg0, _, _⟩ := hp4.at_ HX0.out; rw [HLEN4.out]; rw [HLEN4.out] at hc0; have k9 : w4.cell? ⟨g0, 3, none⟩ = some (.int .i64 p0.total) := (by have h9 := hrg0 3 (.int .i64 p0.total) rfl; simpa using h9); clear hp4 hk4 hv4 hrg0 hg0)))
          have HB4 := Lib.hid ((below_then (below_then HB.out HB2.out) HB3.out).trans (HK4.out.below (B := w.heap.size) (fun x _ e => HROW.out.own9 x e) (by have := HS3.out; omega)))
          have hs4 := HB4.out.size
          go_roundw
          case rel =>
            refine ⟨k + 1, L ++ [⟨qe, qs, qi, qt, qd⟩], HLEN4.out, by omega, by go_num, HP'.out, fun p hp => ?_, ?_, HB4.out⟩
            · rw [HX0.out] at hp
              injection hp with hp
              subst hp
              have := HT0.out
              omega
            · have := HP4.out
              rw [HLEN4.out] at this
              exact this.mono fun x hx => hx.elim id (fun h => by have := HS3.out; omega)
          case measure => simp [intOf]; omega
    · skip
      obtain rfl : k = size := by omega
      obtain ⟨p0, hx0⟩ : ∃ p0, L[0]? = some p0 := ⟨_, List.getElem?_eq_getElem (by have := HK.out; omega)⟩
      have h0 := HP.out 0 p0 hx0
      rw [Nat.add_zero] at h0
      have hno : SlotMath.has slDec (view d) a k = (0, []) := SlotMath.has_none (SlotMath.parts_more h0 (HT.out p0 hx0))
      have hjn := SlotMath.join_ne hx0 (by have := HT.out p0 hx0; have := HK.out; omega)
      have hrt : ∀ p ∈ L, p.data.length ≤ 65536 ∧ -9223372036854775808 ≤ p.seq ∧ p.seq ≤ 9223372036854775807 := fun p hp => by
        obtain ⟨j, hj⟩ := List.getElem?_of_mem hp
        obtain ⟨_, r2, r3, r4, _, _, _, _, r9⟩ := (StampMath.read_some (HP.out j p hj)).1
        omega
      have hj := refJoin_any A9 k c9 L _ wo HK.out (by omega) HROW.out hrt
      have HNO := Lib.hid hno
      have HJN := Lib.hid hjn
      have HJ := Lib.hid hj
      clear hx0 h0 hno hjn hrt hj
      go_wp2_with fail
      refine HJ.out.mono ?_
      rintro e w5 (⟨r, v, hj, _⟩ | ⟨_, rfl, hb5⟩)
      · rw [HJN.out] at hj; cases hj
      · have HB5 := Lib.hid (below_then HB.out hb5)
        clear hb5 HJ
        go_wp2_with fail
        go_ret2
        exact HsPost.zero HNO.out HB5.out
end Go.Proofs.YtckihiiimomgfaaDoor
