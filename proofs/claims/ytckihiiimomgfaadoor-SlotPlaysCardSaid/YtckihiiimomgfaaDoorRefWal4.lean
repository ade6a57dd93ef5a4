/- The contract of the document's one: the record at a place, or none. -/
import Derived.Test.YtckihiiimomgfaaDoorRefWal3
import Derived.Test.YtckihiiimomgfaaDoorWal4
import Derived.Test.YtckihiiimomgfaaDoorRefJoin
import Derived.Test.YtckihiiimomgfaaDoorStampRefRead
namespace Go.Proofs.YtckihiiimomgfaaDoor
open Go.RowKit DiskMath
theorem info_partR9 : (Tryd.prog.info? 114).map (fun i => (i.zero, i.size, i.bytes)) = some (some (.agg #[.int .i64 0, .int .i64 0, .int .i64 0, .int .i64 0, .slice none 0 0]), 5, 56) := by kernel_rfl
theorem PRow.own9 {w : World} {T : TypeId} {G : Nat → Prop} {v : Value} {ps : List StampMath.Part} (h : PRow w T G v ps) : ∀ g, v.ownBlock = some g → G g := h.choose_spec.2.1
/-- the first k parts of a record are read -/
def OneRel (w : World) (S : List Sector) (tt at_ seq : Nat) (v : Value) (wr : World) : Prop :=
  ∃ L : List StampMath.Part, at_ + L.length ≤ tt ∧ (∀ j p, L[j]? = some p → WalMath.partAt S tt (at_ + j) j (seq + j) = some p) ∧ (∀ p, L[0]? = some p → (L.length : Int) < p.total) ∧ PRow wr 114 (fun x => w.heap.size ≤ x) v L ∧ Below w.heap.size w wr
theorem WalMath.one_none {S : List Sector} {tt at_ seq k : Nat} {L : List StampMath.Part} (hk : L.length = k) (hp : ∀ j p, L[j]? = some p → WalMath.partAt S tt (at_ + j) j (seq + j) = some p) (ht : ∀ p, L[0]? = some p → (k : Int) < p.total) (hno : WalMath.partAt S tt (at_ + k) k (seq + k) = none) : WalMath.record S tt at_ seq = none := by
  cases L with
  | nil =>
    simp at hk
    subst hk
    exact WalMath.record_first (by simpa using hno)
  | cons p l =>
    simp at hk
    have h0 := hp 0 p rfl
    have h1 := ht p rfl
    refine WalMath.record_next (by simpa using h0) (WalMath.partsAt_none (m := l.length) (by omega) ?_)
    rw [show 1 + l.length = k by omega]
    exact hno
theorem WalMath.one_join {S : List Sector} {tt at_ seq k : Nat} {L : List StampMath.Part} (hk : L.length = k) (h0 : 0 < k) (hp : ∀ j p, L[j]? = some p → WalMath.partAt S tt (at_ + j) j (seq + j) = some p) (ht : ∀ p, L[0]? = some p → (k : Int) = p.total) : WalMath.record S tt at_ seq = (StampMath.join L).map fun b => (b, k) := by
  cases L with
  | nil => simp at hk; omega
  | cons p l =>
    simp at hk
    have h1 := ht p rfl
    have h2 : p.total.toNat = k := by omega
    have := WalMath.record_join (S := S) (tt := tt) (at_ := at_) (seq := seq) (p := p) (l := l) (by simpa using hp 0 p rfl) (WalMath.partsAt_mk (by omega) (fun j q hj => by
      have := hp (j + 1) q (by simpa using hj)
      rwa [show j + 1 = 1 + j by omega] at this))
    rw [h2] at this
    exact this
def lenOf : Value → Nat
  | .slice _ n _ => n
  | _ => 0
set_option maxRecDepth 100000 in
set_option maxHeartbeats 8000000 in
theorem refOne_any (w : World) (G : Nat → Prop) (p : Nat) (d : Dk) (c at_ tt seq : Nat) (h : RDiskAt w G p d c) (hto : tt ≤ d.fast.length) (hd : d.fast.length ≤ 1000) (hat : at_ ≤ tt) (hseq : seq ≤ 4294967295 + 65536) :
    Calls Tryd.prog 91 #[.pointer (some ⟨p, 0, none⟩), .int .i64 at_, .int .i64 tt, .int .i64 seq] w (RecPost (WalMath.record (view d) tt at_ seq) w) := by
  have HD := Lib.hid h
  have HTO := Lib.hid hto
  have htt : tt ≤ 1000 := by omega
  have hus := Tryd.underlying114
  obtain ⟨Z, hZl, hzv⟩ := info_part_zeroR
  have HZL := Lib.hid hZl
  clear h hto hd hZl
  go_enter Tryd.func91, Tryd.ntmps91
  go_wp2_with fail
  go_loopw [10] (fun v wr => OneRel w (view d) tt at_ seq v wr) (fun v _ => tt - at_ - lenOf v)
  case atStart => exact ⟨[], by simpa using hat, fun j p hj => by simp at hj, fun p hj => by simp at hj, PRow.nil _ _ _, Below.refl _ _⟩
  case round =>
    obtain ⟨L, hL, hparts, htot, hrow, hb⟩ := hrel
    obtain ⟨wo, rfl⟩ : ∃ wo : World, wo = wr := ⟨_, rfl⟩
    obtain ⟨k, hk⟩ : ∃ k, L.length = k := ⟨_, rfl⟩
    obtain ⟨A9, c9, rfl, hc9⟩ := hrow.shape
    rw [hk] at hL htot hc9 hrow ⊢
    obtain ⟨i, hi⟩ : ∃ i, at_ + k = i := ⟨_, rfl⟩
    have hii : ((at_ : Int) + (k : Int)) = (i : Int) := by omega
    have hiw : IntKind.i64.wrap (i : Int) = (i : Int) := by rw [IntKind.wrap_i64]; omega
    rw [hi] at hL
    have HP := Lib.hid hparts
    have HT := Lib.hid htot
    have HROW := Lib.hid hrow
    have HB := Lib.hid hb
    have HK := Lib.hid hk
    have HI := Lib.hid hi
    have hsz := hb.size
    clear hparts htot hrow hb hk hi
    by_cases hlt : i < tt
    · go_wp2_with fail
      refine (refNow_any wo G p d c i (HD.out.below HB.out) (by have := HTO.out; omega)).mono ?_
      rintro e w1 ⟨v, s, rfl, hs, hsl, ho, hb1⟩
      obtain ⟨A1, n1, c1, rfl, hn1, hc1, hm1⟩ := ho.shape'
      obtain rfl : n1 = 64 := by omega
      have HGET := Lib.hid (show (view d).getD i [] = s by rw [List.getD_eq_getElem?_getD, hs]; rfl)
      have HB1 := Lib.hid hb1
      have hs1 := hb1.size
      cases hq : StampMath.read s with
      | none =>
        have hno : WalMath.record (view d) tt at_ seq = none := WalMath.one_none HK.out HP.out HT.out (by
          unfold WalMath.partAt
          rw [HI.out, if_pos hlt, HGET.out, hq])
        have hrd := refRead_none A1 c1 64 s w1 hsl (by omega) hm1 (by decide) ho.bs hq
        have HNO := Lib.hid hno
        have HRD := Lib.hid hrd
        clear hno hrd hq hs hsl ho hb1 hn1
        go_wp2_with fail
        refine HRD.out.mono ?_
        rintro e w2 ⟨rfl, hb2⟩
        have HB2 := Lib.hid (below_then HB1.out hb2)
        clear hb2 HRD
        go_wp2_with (refine wpList_store_new rfl 114 (.tmp 11) (.tmp 29) rfl rfl (partCells ⟨0, 0, 0, 0, []⟩ (.slice none 0 0)) rfl rfl (by show Z.toArray.size = _; rw [List.size_toArray, HZL.out]; rfl) (by kernel_rfl) (fun u hu => by simp at hu; rcases hu with rfl | rfl <;> rfl) ?_; intro w3 hr3 hb3 hs3; have HB3 := Lib.hid hb3; clear hr3 hb3 hs3)
        go_ret2
        unfold RecPost
        rw [HNO.out]
        exact ⟨rfl, below_then (below_then HB.out HB2.out) HB3.out⟩
      | some q =>
        have hqr := (StampMath.read_some hq).1
        have hrd := refRead_some A1 c1 64 s q w1 hsl (by omega) hm1 ho.bs hq
        obtain ⟨qe, qs, qi, qt, qd⟩ := q
        obtain ⟨nq, hnq⟩ : ∃ nq, qd.length = nq := ⟨_, rfl⟩
        simp only at hrd
        rw [hnq] at hrd
        have HRD := Lib.hid hrd
        have HQ := Lib.hid hq
        have HNQ := Lib.hid hnq
        have HQR := Lib.hid hqr
        clear hrd hq hs hsl ho hb1 hn1 hqr hnq
        go_wp2_with fail
        refine HRD.out.mono ?_
        rintro e w2 ⟨B, dq, rfl, ho2, hb2⟩
        have HB2 := Lib.hid (below_then HB1.out hb2)
        have HO2 := Lib.hid (show Own8 w2 w1.heap.size (.slice B nq dq) qd from by unfold Own8; rw [HNQ.out]; exact ho2)
        have hs2 := hb2.size
        have hib : (Tryd.prog.info? 114).map (·.size) = some (partCells ⟨qe, qs, qi, qt, qd⟩ (.slice B nq dq)).length := by kernel_rfl
        clear hb2 HRD ho2
        have s2 : IntKind.i64.wrap ((seq : Int) + (k : Int)) = (seq : Int) + (k : Int) := by rw [IntKind.wrap_i64]; omega
        have HPA := Lib.hid (show qi = k → qs = (seq + k : Nat) → WalMath.partAt (view d) tt (at_ + k) k (seq + k) = some ⟨qe, qs, qi, qt, qd⟩ from fun e1 e2 => WalMath.partAt_mk (by rw [HI.out]; exact hlt) (by rw [HI.out, HGET.out]; exact HQ.out) e1 e2)
        by_cases q1 : qi = (k : Int)
        · by_cases q2 : qs = (seq : Int) + (k : Int)
          · subst q1 q2
            have hpa := HPA.out rfl (by omega)
            have HPK := Lib.hid hpa
            obtain ⟨ix, hix0, hix1, hix2, hix3⟩ := info_parts info_partR9
            clear hpa HPA
            have HLEN4 := Lib.hid (show (L ++ [(⟨qe, (seq : Int) + (k : Int), (k : Int), qt, qd⟩ : StampMath.Part)]).length = k + 1 by simp [HK.out])
            have hp' : ∀ j p, (L ++ [(⟨qe, (seq : Int) + (k : Int), (k : Int), qt, qd⟩ : StampMath.Part)])[j]? = some p → WalMath.partAt (view d) tt (at_ + j) j (seq + j) = some p := fun j p hj => by
              by_cases hjk : j < k
              · rw [List.getElem?_append_left (by have := HK.out; omega)] at hj
                exact HP.out j p hj
              · obtain rfl : j = k := by have := (List.getElem?_eq_some_iff.1 hj).1; have := HLEN4.out; omega
                rw [List.getElem?_append_right (by have := HK.out; omega), HK.out, Nat.sub_self] at hj
                simp at hj
                rw [← hj]
                exact HPK.out
            have HP' := Lib.hid hp'
            have hrt : ∀ p ∈ L ++ [(⟨qe, (seq : Int) + (k : Int), (k : Int), qt, qd⟩ : StampMath.Part)], p.data.length ≤ 65536 ∧ -9223372036854775808 ≤ p.seq ∧ p.seq ≤ 9223372036854775807 := fun p hp => by
              obtain ⟨j, hj⟩ := List.getElem?_of_mem hp
              obtain ⟨_, r2, r3, r4, _, _, _, _, r9⟩ := (StampMath.read_some (WalMath.partAt_some (HP'.out j p hj)).2.1).1
              omega
            have HRT := Lib.hid hrt
            obtain ⟨p0, hx0⟩ : ∃ p0, (L ++ [(⟨qe, (seq : Int) + (k : Int), (k : Int), qt, qd⟩ : StampMath.Part)])[0]? = some p0 := ⟨_, List.getElem?_eq_getElem (by have := HLEN4.out; omega)⟩
            have hp0t : (k : Int) + 1 ≤ p0.total := by
              obtain ⟨_, _, _, _, r5, _⟩ := (StampMath.read_some (WalMath.partAt_some (HP'.out 0 p0 hx0)).2.1).1
              by_cases hk0 : k = 0
              · omega
              · rw [List.getElem?_append_left (by have := HK.out; omega)] at hx0
                have := HT.out p0 hx0
                omega
            have HX0 := Lib.hid hx0
            have HP0T := Lib.hid hp0t
            clear hp' hrt hx0 hp0t
            by_cases hT0 : (k : Int) + 1 = p0.total
            · have e0 : ((k : Int) + 1 == p0.total) = true := by rw [beq_iff_eq]; exact hT0
              have hrc := WalMath.one_join HLEN4.out (by omega) HP'.out (fun p hp => by
                rw [HX0.out] at hp
                injection hp with hp
                subst hp
                omega)
              have HRC := Lib.hid hrc
              clear hrc hT0
              go_wp2_with (first
                | (refine wpList_store_new rfl 114 (.tmp 11) (.tmp 29) rfl rfl (partCells ⟨qe, (seq : Int) + (k : Int), (k : Int), qt, qd⟩ (.slice B nq dq)) rfl rfl (by show Z.toArray.size = _; rw [List.size_toArray, HZL.out]; rfl) hib (fun u hu => by simp at hu; rcases hu with rfl | rfl | rfl | rfl | rfl <;> rfl) ?_; intro w3 hr3 hb3 hs3; have HR3 := Lib.hid hr3; have HB3 := Lib.hid hb3; have k0 := hr3.cell 0; have k1 := hr3.cell 1; have k2 := hr3.cell 2; have k3 := hr3.cell 3; have k4 := hr3.cell 4; simp only [List.getElem?_cons_zero, List.getElem?_cons_succ] at k0 k1 k2 k3 k4; have HS3 := Lib.hid hs3; clear hr3 hb3 hs3; have HRG3 := Lib.hid (show w3.rangeAt w2.heap.size 0 (partCells ⟨qe, (seq : Int) + (k : Int), (k : Int), qt, qd⟩ (.slice B nq dq)) from by have := HR3.out.range 0 5; simpa using this))
                | (at_builtin; (refine wpList_pushP rfl (.tmp 49) (.tmp 51) 108 rfl 114 ix (.agg #[.int .i64 0, .int .i64 0, .int .i64 0, .int .i64 0, .slice none 0 0]) Tryd.underlying108 hix0 hix1 hix2 hix3 rfl (by decide) (fun x => w.heap.size ≤ x) (.slice A9 k c9) (.slice B nq dq) L ⟨qe, (seq : Int) + (k : Int), (k : Int), qt, qd⟩ (by first | rfl | exact congrArg (fun m => Value.slice A9 m c9) HK.out) (HROW.out.below (below_then HB2.out HB3.out)) rfl rfl ((HO2.out.below HB3.out).base (Nat.zero_le _)) (fun x hx => by have := (HO2.out.lt x hx).1; omega) (by have := HK.out; omega) ?_; intro v4 w4 hp4 hk4 hv4; have HP4 := Lib.hid hp4; have HK4 := Lib.hid hk4; obtain ⟨g0, c0, u0, rfl, hc0, hg0, _, hrg0, _, _⟩ := hp4.at_ HX0.out; rw [HLEN4.out]; rw [HLEN4.out] at hc0; have k9 : w4.cell? ⟨g0, 3, none⟩ = some (.int .i64 p0.total) := (by have h9 := hrg0 3 (.int .i64 p0.total) rfl; simpa using h9); clear hp4 hk4 hv4 hrg0 hg0)))
              have hj := refJoin_any (some ⟨g0, 0, none⟩) (k + 1) c0 _ _ w4 HLEN4.out (by omega) (by have := HP4.out; rwa [HLEN4.out] at this) HRT.out
              have HB4 := Lib.hid ((below_then (below_then HB.out HB2.out) HB3.out).trans (HK4.out.below (B := w.heap.size) (fun x _ e => HROW.out.own9 x e) (by have := HS3.out; omega)))
              have HJ := Lib.hid hj
              clear hj k0 k1 k2 k3 k4 k9
              refine HJ.out.mono ?_
              rintro e w5 (⟨b, v, hj, rfl, ho5, hb5⟩ | ⟨hj, rfl, hb5⟩)
              · obtain ⟨A5, n5, c5, rfl, hn5, _, _⟩ := ho5.shape'
                have HRJ := Lib.hid (HRC.out.trans (by rw [hj]; done))
                have HO5 := Lib.hid ho5
                have HB5 := Lib.hid (below_then HB4.out hb5)
                have hs4 := HB4.out.size
                clear hj ho5 hb5 hn5 HJ HRC
                go_wp2_with fail
                go_ret2
                unfold RecPost
                rw [HRJ.out]
                exact ⟨_, rfl, HO5.out.base hs4, HB5.out⟩
              · have HRJ := Lib.hid (HRC.out.trans (by rw [hj]; done))
                have HB5 := Lib.hid (below_then HB4.out hb5)
                clear hj hb5 HJ HRC
                go_wp2_with fail
                go_ret2
                unfold RecPost
                rw [HRJ.out]
                exact ⟨rfl, HB5.out⟩
            · have e0 : ((k : Int) + 1 == p0.total) = false := by rw [beq_eq_false_iff_ne]; exact hT0
              have HT0 := Lib.hid (show (k : Int) + 1 < p0.total by have := HP0T.out; omega)
              clear hT0
              go_wp2_with (first
                | (refine wpList_store_new rfl 114 (.tmp 11) (.tmp 29) rfl rfl (partCells ⟨qe, (seq : Int) + (k : Int), (k : Int), qt, qd⟩ (.slice B nq dq)) rfl rfl (by show Z.toArray.size = _; rw [List.size_toArray, HZL.out]; rfl) hib (fun u hu => by simp at hu; rcases hu with rfl | rfl | rfl | rfl | rfl <;> rfl) ?_; intro w3 hr3 hb3 hs3; have HR3 := Lib.hid hr3; have HB3 := Lib.hid hb3; have k0 := hr3.cell 0; have k1 := hr3.cell 1; have k2 := hr3.cell 2; have k3 := hr3.cell 3; have k4 := hr3.cell 4; simp only [List.getElem?_cons_zero, List.getElem?_cons_succ] at k0 k1 k2 k3 k4; have HS3 := Lib.hid hs3; clear hr3 hb3 hs3; have HRG3 := Lib.hid (show w3.rangeAt w2.heap.size 0 (partCells ⟨qe, (seq : Int) + (k : Int), (k : Int), qt, qd⟩ (.slice B nq dq)) from by have := HR3.out.range 0 5; simpa using this))
                | (at_builtin; (refine wpList_pushP rfl (.tmp 49) (.tmp 51) 108 rfl 114 ix (.agg #[.int .i64 0, .int .i64 0, .int .i64 0, .int .i64 0, .slice none 0 0]) Tryd.underlying108 hix0 hix1 hix2 hix3 rfl (by decide) (fun x => w.heap.size ≤ x) (.slice A9 k c9) (.slice B nq dq) L ⟨qe, (seq : Int) + (k : Int), (k : Int), qt, qd⟩ (by first | rfl | exact congrArg (fun m => Value.slice A9 m c9) HK.out) (HROW.out.below (below_then HB2.out HB3.out)) rfl rfl ((HO2.out.below HB3.out).base (Nat.zero_le _)) (fun x hx => by have := (HO2.out.lt x hx).1; omega) (by have := HK.out; omega) ?_; intro v4 w4 hp4 hk4 hv4; have HP4 := Lib.hid hp4; have HK4 := Lib.hid hk4; obtain ⟨g0, c0, u0, rfl, hc0, hg0, _, hrg0, _, _⟩ := hp4.at_ HX0.out; rw [HLEN4.out]; rw [HLEN4.out] at hc0; have k9 : w4.cell? ⟨g0, 3, none⟩ = some (.int .i64 p0.total) := (by have h9 := hrg0 3 (.int .i64 p0.total) rfl; simpa using h9); clear hp4 hk4 hv4 hrg0 hg0)))
              have HB4 := Lib.hid ((below_then (below_then HB.out HB2.out) HB3.out).trans (HK4.out.below (B := w.heap.size) (fun x _ e => HROW.out.own9 x e) (by have := HS3.out; omega)))
              have hs4 := HB4.out.size
              go_roundw
              case rel =>
                refine ⟨L ++ [⟨qe, (seq : Int) + (k : Int), (k : Int), qt, qd⟩], by have := HLEN4.out; omega, HP'.out, fun p hp => ?_, ?_, HB4.out⟩
                · rw [HX0.out] at hp
                  injection hp with hp
                  subst hp
                  rw [HLEN4.out]
                  have := HT0.out
                  omega
                · have := HP4.out
                  rw [HLEN4.out] at this
                  exact this.mono fun x hx => hx.elim id (fun h => by have := HS3.out; omega)
              case measure => simp [lenOf]; omega
          · have t2 : (qs != (seq : Int) + (k : Int)) = true := by rw [bne_iff_ne]; exact q2
            have t1 : (qi != (k : Int)) = false := by rw [bne_eq_false_iff_eq]; exact q1
            have hno : WalMath.record (view d) tt at_ seq = none := WalMath.one_none HK.out HP.out HT.out (by
              unfold WalMath.partAt
              rw [HI.out, if_pos hlt, HGET.out, HQ.out]
              simp only
              rw [if_neg (fun h => q2 (by have := h.2; first | omega | (simp only at this; omega)))])
            have HNO := Lib.hid hno
            clear hno q1 q2 HPA
            go_wp2_with (refine wpList_store_new rfl 114 (.tmp 11) (.tmp 29) rfl rfl (partCells ⟨qe, qs, qi, qt, qd⟩ (.slice B nq dq)) rfl rfl (by show Z.toArray.size = _; rw [List.size_toArray, HZL.out]; rfl) hib (fun u hu => by simp at hu; rcases hu with rfl | rfl | rfl | rfl | rfl <;> rfl) ?_; intro w3 hr3 hb3 hs3; have HR3 := Lib.hid hr3; have HB3 := Lib.hid hb3; have k0 := hr3.cell 0; have k1 := hr3.cell 1; have k2 := hr3.cell 2; have k3 := hr3.cell 3; have k4 := hr3.cell 4; simp only [List.getElem?_cons_zero, List.getElem?_cons_succ] at k0 k1 k2 k3 k4; clear hr3 hb3 hs3)
            go_ret2
            unfold RecPost
            rw [HNO.out]
            exact ⟨rfl, below_then (below_then HB.out HB2.out) HB3.out⟩
        · have t1 : (qi != (k : Int)) = true := by rw [bne_iff_ne]; exact q1
          have hno : WalMath.record (view d) tt at_ seq = none := WalMath.one_none HK.out HP.out HT.out (by
            unfold WalMath.partAt
            rw [HI.out, if_pos hlt, HGET.out, HQ.out]
            simp only
            rw [if_neg (fun h => q1 h.1)])
          have HNO := Lib.hid hno
          clear hno q1 HPA
          go_wp2_with (refine wpList_store_new rfl 114 (.tmp 11) (.tmp 29) rfl rfl (partCells ⟨qe, qs, qi, qt, qd⟩ (.slice B nq dq)) rfl rfl (by show Z.toArray.size = _; rw [List.size_toArray, HZL.out]; rfl) hib (fun u hu => by simp at hu; rcases hu with rfl | rfl | rfl | rfl | rfl <;> rfl) ?_; intro w3 hr3 hb3 hs3; have HR3 := Lib.hid hr3; have HB3 := Lib.hid hb3; have k0 := hr3.cell 0; have k1 := hr3.cell 1; have k2 := hr3.cell 2; have k3 := hr3.cell 3; have k4 := hr3.cell 4; simp only [List.getElem?_cons_zero, List.getElem?_cons_succ] at k0 k1 k2 k3 k4; clear hr3 hb3 hs3)
          go_ret2
          unfold RecPost
          rw [HNO.out]
          exact ⟨rfl, below_then (below_then HB.out HB2.out) HB3.out⟩
    · have hno : WalMath.record (view d) tt at_ seq = none := WalMath.one_none HK.out HP.out HT.out (by
        unfold WalMath.partAt
        rw [if_neg (by rw [HI.out]; exact hlt)])
      have HNO := Lib.hid hno
      clear hno
      go_wp2_with fail
      go_ret2
      unfold RecPost
      rw [HNO.out]
      exact ⟨rfl, HB.out⟩
end Go.Proofs.YtckihiiimomgfaaDoor
