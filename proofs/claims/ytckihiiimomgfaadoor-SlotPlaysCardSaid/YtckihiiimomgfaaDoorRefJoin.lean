/- The contract of the document's Join. Printed by gen_refjoin.py. -/
import Derived.Test.YtckihiiimomgfaaDoorJoin2
import Derived.Test.YtckihiiimomgfaaDoorStampRef
namespace Go.Proofs.YtckihiiimomgfaaDoor
open Go.RowKit
/-- how long a part's data must be -/
def szI (Sn k : Nat) : Int := if 38 < (Sn : Int) - 38 * (k : Int) then 38 else (Sn : Int) - 38 * (k : Int)
/-- the document's test of a part -/
def RC (n : Nat) (e s : Int) (Sn k : Nat) (p : StampMath.Part) : Prop := StampMath.right p ∧ p.epoch = e ∧ p.index = (k : Int) ∧ p.total = (n : Int) ∧ p.seq - (k : Int) = s ∧ (p.data.length : Int) = szI Sn k ∧ ¬ (szI Sn k = 0 ∧ 1 < n)
theorem flat_right {L : List StampMath.Part} (h : ∀ p ∈ L, p.data.length ≤ 38) : L.flatMap (fun p => p.data.take 38) = L.flatMap (·.data) := by
  induction L with
  | nil => rfl
  | cons p L ih =>
    rw [List.flatMap_cons, List.flatMap_cons, ih (fun q hq => h q (by simp [hq])), List.take_of_length_le (h p (by simp))]
theorem rc_of_join {L : List StampMath.Part} {d : List UInt8} {n : Nat} {e s : Int} (hn : L.length = n) (he : ∀ p, L[0]? = some p → p.epoch = e ∧ p.seq = s) (hj : StampMath.join L = some d) (hd : d = L.flatMap (·.data)) : ∀ (k : Nat) p, L[k]? = some p → RC n e s (L.flatMap (fun p => p.data.take 38)).length k p := fun k p hk => by
  obtain ⟨e', s', h1, h2, h3, h4⟩ := StampMath.join_some hj
  have hS : (L.flatMap (fun p => p.data.take 38)).length = d.length := by rw [flat_right (fun q hq => (h3 q hq).2.2.2.2.2.2.2.2), hd]
  rw [hS]
  have hkl : k < StampMath.totalOf d.length := by have := (List.getElem?_eq_some_iff.1 hk).1; omega
  have hp : p = StampMath.partOf e' s' d k := by
    rw [h1] at hk
    unfold StampMath.parts at hk
    rw [List.getElem?_map, List.getElem?_range hkl] at hk
    simpa using hk.symm
  have hp0 : L[0]? = some (StampMath.partOf e' s' d 0) := by
    rw [h1]
    unfold StampMath.parts
    rw [List.getElem?_map, List.getElem?_range (by omega)]
    rfl
  obtain ⟨a1, a2⟩ := he _ hp0
  have hlen : ((d.drop (38 * k)).take 38).length = min 38 (d.length - 38 * k) := by rw [List.length_take, List.length_drop]
  have ht : StampMath.totalOf d.length = n := by omega
  have hr := h3 p (List.mem_of_getElem? hk)
  subst hp
  simp only [StampMath.partOf] at a1 a2
  refine ⟨hr, a1, rfl, by simp only [StampMath.partOf]; omega, by simp only [StampMath.partOf]; omega, ?_, ?_⟩
  · simp only [StampMath.partOf]
    rw [hlen]
    unfold szI
    unfold StampMath.totalOf at hkl
    split <;> omega
  · unfold szI
    unfold StampMath.totalOf at hkl ht
    rintro ⟨h5, h6⟩
    split at h5 <;> omega
theorem fits_of_rc {L : List StampMath.Part} {n : Nat} {e s : Int} (hn : L.length = n) (Sn : Nat) (h : ∀ (k : Nat) p, L[k]? = some p → RC n e s Sn k p) : ∀ (j : Nat) p, L[j]? = some p → StampMath.fits n e s j p := fun j p hj => by
  have hjl := (List.getElem?_eq_some_iff.1 hj).1
  obtain ⟨q, hq⟩ : ∃ q, L[n - 1]? = some q := ⟨_, List.getElem?_eq_getElem (by omega)⟩
  obtain ⟨a1, a2, a3, a4, a5, a6, a7⟩ := h j p hj
  obtain ⟨b1, b2, b3, b4, b5, b6, b7⟩ := h (n - 1) q hq
  refine ⟨a1, a4, a3, a2, by omega, ?_⟩
  unfold StampMath.full
  rw [a3, a4]
  unfold szI at a6 a7 b6 b7
  split
  · next hc =>
    by_cases hn1 : 1 < n
    · have hx : ¬ (if 38 < (Sn : Int) - 38 * ((n - 1 : Nat) : Int) then (38 : Int) else (Sn : Int) - 38 * ((n - 1 : Nat) : Int)) = 0 := fun e => b7 ⟨e, hn1⟩
      split at a6 <;> split at b6 <;> split at hx <;> omega
    · omega
  · split
    · next hc hn1 =>
      have hx : ¬ (if 38 < (Sn : Int) - 38 * (j : Int) then (38 : Int) else (Sn : Int) - 38 * (j : Int)) = 0 := fun e => a7 ⟨e, by omega⟩
      split at a6 <;> split at hx <;> omega
    · trivial
theorem info_part_zeroR : ∃ Z : List Value, Z.length = 5 ∧ ∀ w : World, (zeroValue 114).run Tryd.prog w = .ok (.agg Z.toArray) w := ⟨[.int .i64 0, .int .i64 0, .int .i64 0, .int .i64 0, .slice none 0 0], rfl, fun w => by kernel_rfl⟩
def RjOut (w : World) (n : Nat) (L : List StampMath.Part) (v i : Value) (wr : World) : Prop :=
  ∃ k : Nat, k ≤ n ∧ i = .int .i64 (k : Int) ∧ Own8 wr w.heap.size v ((L.take k).flatMap (fun p => p.data.take 38)) ∧ ((L.take k).flatMap (fun p => p.data.take 38)).length ≤ 38 * k ∧ Below w.heap.size w wr
def RjRel (w1 : World) (n : Nat) (e s : Int) (Sn : Nat) (L : List StampMath.Part) (i : Value) (wr : World) : Prop :=
  ∃ k : Nat, k ≤ n ∧ i = .int .i64 (k : Int) ∧ (∀ (j : Nat) p, j < k → L[j]? = some p → RC n e s Sn j p) ∧ Below w1.heap.size w1 wr
set_option maxRecDepth 100000 in
set_option maxHeartbeats 100000000 in
theorem refJoin_any (A : Option Addr) (n c : Nat) (L : List StampMath.Part) (G : Nat → Prop) (w : World) (hn : L.length = n) (hn0 : n ≤ 1000) (hr : PRow w 114 G (.slice A n c) L) (hdl : ∀ p ∈ L, p.data.length ≤ 65536 ∧ -9223372036854775808 ≤ p.seq ∧ p.seq ≤ 9223372036854775807) :
    Calls Tryd.prog 82 #[.slice A n c] w (JoinPost L w) := by
  obtain ⟨e0, s0q, hes⟩ : ∃ e0 s0q : Int, ∀ p, L[0]? = some p → p.epoch = e0 ∧ p.seq = s0q := by
    cases hL : L[0]? with
    | none => exact ⟨0, 0, fun p h => by cases h⟩
    | some p => exact ⟨p.epoch, p.seq, fun q h => by injection h with h; subst h; exact ⟨rfl, rfl⟩⟩
  obtain ⟨Sn, hSn⟩ : ∃ Sn, (L.flatMap (fun p => p.data.take 38)).length = Sn := ⟨_, rfl⟩
  have hjr : ∀ d, StampMath.join L = some d → d = L.flatMap (·.data) := fun d hd => by
    obtain ⟨e', s', h1, h2, h3, h4⟩ := StampMath.join_some hd
    cases L with
    | nil => cases hd
    | cons p L =>
      have hall : ∀ (l : List StampMath.Part) (m : Nat) (e s : Int) (i : Nat) (d : List UInt8), StampMath.joinFrom m e s i l = some d → d = l.flatMap (·.data) := by
        intro l
        induction l with
        | nil => intro m e s i d h; simp [StampMath.joinFrom] at h; exact h.symm ▸ rfl
        | cons q l ih =>
          intro m e s i d h
          simp only [StampMath.joinFrom] at h
          split at h
          · cases hr : StampMath.joinFrom m e s (i + 1) l with
            | none => rw [hr] at h; cases h
            | some r =>
              rw [hr] at h
              have := ih m e s (i + 1) r hr
              simp at h
              rw [← h, this, List.flatMap_cons]
          · cases h
      unfold StampMath.join at hd
      exact hall _ _ _ _ _ d hd
  have hj1 : (∀ (k : Nat) p, L[k]? = some p → RC n e0 s0q Sn k p) → 0 < n → StampMath.join L = some (L.flatMap (·.data)) := fun h h0 => by
    cases L with
    | nil => simp at hn; omega
    | cons p L =>
      have hf := fits_of_rc hn Sn h
      unfold StampMath.join
      obtain ⟨h1, h2⟩ := hes p rfl
      simp only [h1, h2]
      rw [hn]
      exact joinFrom_all n e0 s0q (p :: L) 0 (fun j q hj => by rw [Nat.zero_add]; exact hf j q hj)
  have hj2 : ∀ (k : Nat) p, L[k]? = some p → ¬ RC n e0 s0q Sn k p → StampMath.join L = none := fun k p hk hno => by
    cases hj : StampMath.join L with
    | none => rfl
    | some d => exact absurd (hSn ▸ rc_of_join hn hes hj (hjr d hj) k p hk) hno
  have hj0 : n = 0 → StampMath.join L = none := fun h => by
    have : L = [] := List.length_eq_zero_iff.1 (by omega)
    rw [this]; rfl
  have JN := Lib.hid (show _ ∧ _ from ⟨hj1, hj2⟩)
  have J0 := Lib.hid hj0
  have HES := Lib.hid hes
  have HR := Lib.hid hr
  have HN := Lib.hid hn
  have HSN := Lib.hid hSn
  have HDL := Lib.hid hdl
  obtain ⟨i0, hi0, hz0, hz1, hz2⟩ := info_parts info_u8
  have hus := Tryd.underlying114
  obtain ⟨Z, hZl, hzv⟩ := info_part_zeroR
  have HZL := Lib.hid hZl
  clear hj1 hj2 hj0 hes hr hn hSn hdl hjr hZl
  by_cases hn1 : 0 < n
  · have n0 : ((n : Int) == 0) = false := by rw [beq_eq_false_iff_ne]; omega
    go_enter Tryd.func82, Tryd.ntmps82
    go_wp2_with fail
    go_loopw [4, 5] (fun v i wr => RjOut w n L v i wr) (fun _ i _ => n - (intOf i).toNat)
    case atStart => exact ⟨0, Nat.zero_le _, rfl, Own8.nil _ _, by simp, Below.refl _ _⟩
    case round =>
      obtain ⟨k, hk, rfl, ho, hlen, hb⟩ := hrel
      obtain ⟨wo, rfl⟩ : ∃ wo : World, wo = wr := ⟨_, rfl⟩
      obtain ⟨A4, n4, c4, rfl, hn4, _, _⟩ := ho.shape'
      have HO := Lib.hid ho
      have HB := Lib.hid hb
      have hsz := hb.size
      have HN4 := Lib.hid hn4
      have HLEN := Lib.hid hlen
      clear ho hb hn4 hlen
      by_cases hlt : k < n
      · obtain ⟨p, hx⟩ : ∃ p, L[k]? = some p := ⟨_, List.getElem?_eq_getElem (by have := HN.out; omega)⟩
        obtain ⟨g, c', u, hv, _, hgl, _, hrg, hou, _⟩ := (HR.out.below HB.out).at_ hx
        injection hv with e4 e5 e6
        subst e4 e6
        obtain ⟨Au, nu, cu, rfl, hnu, hcu, hmu⟩ := hou.shape'
        have k4 := hrg 4 (.slice Au nu cu) rfl
        have hcut := cut_bs Au cu 38 p.data wo (by omega) hmu (by decide)
        obtain ⟨d0, hd0⟩ : ∃ d0, p.data.take 38 = d0 := ⟨_, rfl⟩
        have hbs : Bs wo Au d0 := by rw [← hd0]; exact hou.bs.take 38
        have hd38 : d0.length ≤ 38 := by rw [← hd0]; exact List.length_take_le _ _
        obtain ⟨m0, hm0⟩ : ∃ m0, d0.length = m0 := ⟨_, rfl⟩
        rw [hd0, hnu, hm0] at hcut
        rw [hm0] at hd38
        have HX := Lib.hid hx
        have HCUT := Lib.hid hcut
        have HBS := Lib.hid hbs
        have HM0 := Lib.hid hm0
        have HD0 := Lib.hid hd0
        clear hrg hou hx hcut hbs hm0 hd0 hnu e5
        go_wp2_with fail
        refine HCUT.out.mono ?_
        rintro e w' ⟨rfl, rfl⟩
        clear HCUT k4
        have ho4 : wo.ownsRow w.heap.size 5 1 (.slice A4 n4 c4) (bvs ((L.take k).flatMap (fun p => p.data.take 38))).length (bvs ((L.take k).flatMap (fun p => p.data.take 38))) := by rw [bvs_length]; exact HO.out
        have HO4 := Lib.hid ho4
        clear ho4
        go_wp2_with (at_builtin; refine wpList_append_bs _ rfl (.tmp 18) (.tmp 24) 29 rfl w.heap.size 5 i0 (.int .u8 0) Tryd.underlying29 hi0 hz0 hz1 hz2 rfl (.slice A4 n4 c4) (bvs ((L.take k).flatMap (fun p => p.data.take 38))) rfl HO4.out Au cu m0 d0 HM0.out.symm rfl HBS.out ?c1 ?c2 ?_; (rw [bvs_length]; have := HLEN.out; have := HM0.out; omega); (omega); intro v5 w5 hown5 hg5 hat5; have HO5 := Lib.hid hown5; have HG5 := Lib.hid hg5; clear hown5 hg5 hat5)
        go_roundw
        case rel =>
          have htk : (L.take (k + 1)).flatMap (fun p => p.data.take 38) = (L.take k).flatMap (fun p => p.data.take 38) ++ d0 := by
            rw [List.take_add_one, HX.out, List.flatMap_append, ← HD0.out]
            simp
          refine ⟨k + 1, by omega, by go_num, ?_, ?_, HB.out.grown HG5.out hsz (fun x hx => (HO4.out.lt x hx).1)⟩
          · rw [htk]
            unfold Own8
            have := HO5.out
            simpa [bvs_append, bvs_length] using this
          · rw [htk, List.length_append]
            have := HLEN.out
            have := HM0.out
            omega
        case measure => simp [intOf]; omega
      · obtain rfl : k = n := by omega
        have hfm : (L.take k) = L := List.take_of_length_le (by have := HN.out; omega)
        rw [hfm] at HO HLEN HN4
        have hS4 : n4 = Sn := by have := HN4.out; have := HSN.out; omega
        subst hS4
        obtain ⟨w1, rfl⟩ : ∃ w1 : World, w1 = wo := ⟨_, rfl⟩
        have hSl : n4 ≤ 38 * k := by have := HLEN.out; have := HN4.out; omega
        obtain ⟨p0, hx0⟩ : ∃ p, L[0]? = some p := ⟨_, List.getElem?_eq_getElem (by have := HN.out; omega)⟩
        obtain ⟨g, c', u0, hv, _, hgl, _, hrg0, hou0, _⟩ := (HR.out.below HB.out).at_ hx0
        injection hv with e4 e5 e6
        subst e4 e6
        obtain ⟨Au0, nu0, cu0, rfl, hnu0, _, _⟩ := hou0.shape'
        obtain ⟨he0, hs0⟩ := HES.out p0 hx0
        obtain ⟨pe0, ps0, pi0, pt0, pd0⟩ := p0
        simp only at he0 hs0 hnu0
        subst he0 hs0
        have hib : (Tryd.prog.info? 114).map (·.size) = some 5 := by kernel_rfl
        have hg0 : w1.cell? ⟨g, 0, none⟩ = some (.int .i64 pe0) := by have := hrg0 0 _ rfl; simpa using this
        have hg1 : w1.cell? ⟨g, 1, none⟩ = some (.int .i64 ps0) := by have := hrg0 1 _ rfl; simpa using this
        have hrg00 : w1.rangeAt g 0 (partCells ⟨pe0, ps0, pi0, pt0, pd0⟩ (.slice Au0 nu0 cu0)) := by simpa using hrg0
        have HRG0 := Lib.hid hrg00
        have HG0 := Lib.hid (show _ ∧ _ from ⟨hg0, hg1⟩)
        have HGL0 := Lib.hid hgl
        have HX0 := Lib.hid hx0
        clear hrg0 hrg00 hg0 hg1 hgl hou0 hx0 e5 hfm hlt hk
        by_cases hr0 : StampMath.right ⟨pe0, ps0, pi0, pt0, pd0⟩
        · have hseq0 : 0 ≤ ps0 ∧ ps0 ≤ 4294967295 := ⟨hr0.2.2.1, hr0.2.2.2.1⟩
          have his := refIs_any pe0 ps0 pi0 pt0 Au0 nu0 cu0 w1
          have hrt0 : rightN pe0 ps0 pi0 pt0 nu0 = true := by rw [← hnu0, rightN_eq ⟨pe0, ps0, pi0, pt0, pd0⟩]; exact decide_eq_true hr0
          rw [hrt0] at his
          have HIS := Lib.hid his
          obtain ⟨hq01, hq02⟩ := hseq0
          clear his hrt0 hnu0 hr0
          go_wp2_with (first
            | refine wpList_load_mid rfl 114 (.tmp 27) rfl g 0 rfl (partCells ⟨pe0, ps0, pi0, pt0, pd0⟩ (.slice Au0 nu0 cu0)) _ HRG0.out hus rfl hib ?_)
          refine HIS.out.mono ?_
          rintro e w1i ⟨rfl, hb1⟩
          have HBI := Lib.hid (below_then HB.out hb1)
          have HOI := Lib.hid (HO.out.below hb1)
          have hgb := hb1
          have HG := Lib.hid (show ∀ w', Below w1i.heap.size w1i w' → _ ∧ _ ∧ _ from fun w' h => ⟨((below_then hgb h).cell (p := ⟨g, 0, none⟩) HGL0.out).trans HG0.out.1, ((below_then hgb h).cell (p := ⟨g, 1, none⟩) HGL0.out).trans HG0.out.2, Nat.lt_of_lt_of_le HGL0.out (below_then hgb h).size⟩)
          clear hb1 hgb HIS
          go_wp2_with fail
          go_loopw [6] (fun i wr => RjRel w1i k pe0 ps0 n4 L i wr) (fun i _ => k - (intOf i).toNat)
          case atStart => exact ⟨0, Nat.zero_le _, rfl, fun j p hj => by omega, Below.refl _ _⟩
          case round =>
            obtain ⟨n, hnk⟩ : ∃ n, k = n := ⟨_, rfl⟩
            subst hnk
            obtain ⟨n, rfl⟩ : ∃ n, n = k := ⟨_, rfl⟩
            obtain ⟨k, hk, rfl, hft, hb⟩ := hrel
            obtain ⟨wo, rfl⟩ : ∃ wo : World, wo = wr := ⟨_, rfl⟩
            have HFT := Lib.hid hft
            have HBW := Lib.hid hb
            have HB' := Lib.hid (below_then HBI.out hb)
            clear hft hb
            by_cases hlt : k < n
            · obtain ⟨p, hx⟩ : ∃ p, L[k]? = some p := ⟨_, List.getElem?_eq_getElem (by have := HN.out; omega)⟩
              obtain ⟨g', c'', u, hv, _, hgl, _, hrg, hou, _⟩ := (HR.out.below HB'.out).at_ hx
              injection hv with e4 e5 e6
              injection e4 with e4
              injection e4 with e4
              subst e4 e6
              obtain ⟨hdl1, hsq1, hsq2⟩ := HDL.out p (List.mem_of_getElem? hx)
              obtain ⟨pe, psq, pi, pt, pd⟩ := p
              simp only at hou hdl1 hsq1 hsq2
              obtain ⟨Au, nu, cu, rfl, hnu, hcu, _⟩ := hou.shape'
              have hib : (Tryd.prog.info? 114).map (·.size) = some (partCells ⟨pe, psq, pi, pt, pd⟩ (.slice Au nu cu)).length := by kernel_rfl
              obtain ⟨e0, rfl⟩ : ∃ e0, e0 = pe0 := ⟨_, rfl⟩
              obtain ⟨s0q, rfl⟩ : ∃ s0q, s0q = ps0 := ⟨_, rfl⟩
              obtain ⟨Sn, rfl⟩ : ∃ Sn, Sn = n4 := ⟨_, rfl⟩
              have HRG := Lib.hid hrg
              have HGL := Lib.hid hgl
              have HX := Lib.hid hx
              obtain ⟨hG1, hG2, _⟩ := HG.out wo HBW.out
              have HGX := Lib.hid (show _ ∧ _ from ⟨hG1, hG2⟩)
              clear hrg hou hx hgl hG1 hG2 e5 HG HG0 HRG0 HX0 HGL0
              have HG := HGX
              have HB := HB'
              have ex1 : IntKind.i64.wrap (38 * (k : Int)) = 38 * (k : Int) := by rw [IntKind.wrap_i64]; omega
              by_cases hbig : 38 < (Sn : Int) - 38 * (k : Int)
              · have HSZ := Lib.hid (show (38 : Int) = szI Sn k from by unfold szI; rw [if_pos hbig])
                by_cases hr : StampMath.right ⟨pe, psq, pi, pt, pd⟩
                · obtain ⟨b1, b2, b3, b4, b5, b6, b7, b8, b9⟩ := id hr
                  simp only at b1 b2 b3 b4 b5 b6 b7 b8 b9
                  by_cases q1 : pe = e0
                  · by_cases q2 : pi = (k : Int)
                    · by_cases q3 : pt = (n : Int)
                      · by_cases q4 : psq - (k : Int) = s0q
                        · by_cases q5 : (nu : Int) = (38 : Int)
                          · have q6 : ¬ (38 : Int) = 0 := by decide
                            as_aux_lemma =>
                              have HRT := Lib.hid (show rightN pe psq pi pt nu = true from by rw [← hnu, rightN_eq ⟨pe, psq, pi, pt, pd⟩]; exact decide_eq_true hr)
                              have t0 : (pe != e0) = false := by simp [q1]
                              have t1 : (pi != (k : Int)) = false := by simp [q2]
                              have t2 : (pt != (n : Int)) = false := by simp [q3]
                              have t3 : (psq - (k : Int) != s0q) = false := by simp [q4]
                              have t4 : ((nu : Int) != (38 : Int)) = false := by simp [q5]
                              have hws : IntKind.i64.wrap (psq - (k : Int)) = psq - (k : Int) := by rw [IntKind.wrap_i64]; omega
                              have t6 : ((38 : Int) == 0) = false := by rw [beq_eq_false_iff_ne]; exact q6
                              have HRC := Lib.hid (show RC n e0 s0q Sn k ⟨pe, psq, pi, pt, pd⟩ from ⟨hr, q1, q2, q3, q4, by rw [← HSZ.out, ← q5, ← hnu], fun h => q6 (by rw [HSZ.out]; exact h.1)⟩)
                              clear q1 q2 q3 q4 q5 q6
                              go_wp2_with (first
                                | refine wpList_load_mid rfl 114 (.tmp 44) rfl g (k * 5) rfl (partCells ⟨pe, psq, pi, pt, pd⟩ (.slice Au nu cu)) _ HRG.out hus rfl hib ?_
                                | refine wpList_store_new rfl 114 (.tmp 7) (.tmp 45) rfl rfl (partCells ⟨pe, psq, pi, pt, pd⟩ (.slice Au nu cu)) rfl rfl (by show Z.toArray.size = _; rw [List.size_toArray, HZL.out]; rfl) hib (fun u hu => by simp at hu; rcases hu with rfl | rfl | rfl | rfl | rfl <;> rfl) ?_; intro w2 hr2 hb2 hs2; have HR2 := Lib.hid hr2; have HB2 := Lib.hid hb2; clear hr2 hb2 hs2)
                              obtain ⟨w2b, hw2b⟩ : ∃ w2b, wo.heap.size = w2b := ⟨_, rfl⟩
                              have HSK := Lib.hid (skFacts (w2b := w2b) HR2.out hw2b HG.out.1 HG.out.2 HB2.out HGL.out)
                              rw [hw2b]
                              clear hw2b
                              refine wp_region_mix [(true, 0), (false, 1), (true, 2), (true, 3), (true, 4), (true, 5), (true, 6), (true, 7), (true, 8), (true, 9), (true, 10), (true, 11), (true, 12), (true, 13), (true, 14), (true, 15), (true, 16), (true, 17), (true, 18), (true, 19), (true, 20), (true, 21), (true, 22), (true, 23), (true, 24), (true, 25), (true, 26), (true, 27), (true, 28), (true, 29), (true, 30), (true, 31), (true, 32), (true, 33), (true, 34), (true, 35), (true, 36), (true, 37), (true, 38), (true, 39), (true, 40), (true, 41), (true, 42), (true, 43), (true, 44), (true, 45), (true, 46), (true, 47), (true, 48), (true, 49), (true, 50), (true, 51)] 52 (fun w' => w'.cell? ⟨w2b, 0, none⟩ = some (.int .i64 pe) ∧ w'.cell? ⟨w2b, 1, none⟩ = some (.int .i64 psq) ∧ w'.cell? ⟨w2b, 2, none⟩ = some (.int .i64 pi) ∧ w'.cell? ⟨w2b, 3, none⟩ = some (.int .i64 pt) ∧ w'.cell? ⟨w2b, 4, none⟩ = some (.slice Au nu cu) ∧ w'.cell? ⟨g, 0, none⟩ = some (.int .i64 e0) ∧ w'.cell? ⟨g, 1, none⟩ = some (.int .i64 s0q)) (by kernel_rfl) (by kernel_rfl) (by rintro _ ⟨_, _⟩ ⟨_, _⟩ _ rfl h; exact h) (HSK.out _ (Below.refl _ _).drew) ?_
                              simp only [pickM, List.getElem?_cons_succ, List.getElem?_cons_zero]
                              (refine wpMix_take (v := ?_) ?_ ?_; rotate_left; · (first | (refine Or.inr ⟨by rfl, by rfl⟩) | (refine Or.inl ⟨by rfl, ?_⟩; intro w' hSw; obtain ⟨s0, s1, s2, s3, s4, s5, s6⟩ := hSw; go_simp; (try with_reducible rfl))))
                              (try simp only [Act.put, List.setIfInBounds_toArray, List.set_cons_zero, List.set_cons_succ])
                              refine wpMix_do rfl fun K hK => ?_
                              go_simp
                              have hrt := refIs_any pe psq pi pt Au nu cu w2.drew
                              rw [HRT.out] at hrt
                              refine hrt.mono ?_
                              rintro e w3 ⟨rfl, hb3⟩
                              have hb3' : Below w2.heap.size w2 w3 := (Below.refl _ _).drew.trans hb3
                              refine hK.out _ _ (fun _ => HSK.out _ hb3') ?_
                              clear hK K hrt
                              (try simp only [Act.put, List.setIfInBounds_toArray, List.set_cons_zero, List.set_cons_succ])
                              iterate 50 ((refine wpMix_take (v := ?_) ?_ ?_; rotate_left; · (first | (refine Or.inr ⟨by rfl, by rfl⟩) | (refine Or.inl ⟨by rfl, ?_⟩; intro w' hSw; obtain ⟨s0, s1, s2, s3, s4, s5, s6⟩ := hSw; go_simp; (try with_reducible rfl)))); (try simp only [Act.put, List.setIfInBounds_toArray, List.set_cons_zero, List.set_cons_succ]))
                              refine wpMix_nil ?_
                              clear HSK
                              go_wp2_with fail
                              go_roundw
                              case rel =>
                                refine ⟨k + 1, by omega, by go_num, fun j q hj hq => ?_, HBW.out.trans ((below_then HB2.out hb3').mono HBW.out.size)⟩
                                by_cases hjk : j < k
                                · exact HFT.out j q hjk hq
                                · obtain rfl : j = k := by omega
                                  rw [HX.out] at hq
                                  injection hq with hq
                                  subst hq
                                  exact HRC.out
                              case measure => simp [intOf]; omega
                          · as_aux_lemma =>
                              have HRT := Lib.hid (show rightN pe psq pi pt nu = true from by rw [← hnu, rightN_eq ⟨pe, psq, pi, pt, pd⟩]; exact decide_eq_true hr)
                              have t0 : (pe != e0) = false := by simp [q1]
                              have t1 : (pi != (k : Int)) = false := by simp [q2]
                              have t2 : (pt != (n : Int)) = false := by simp [q3]
                              have t3 : (psq - (k : Int) != s0q) = false := by simp [q4]
                              have t4 : ((nu : Int) != (38 : Int)) = true := by rw [bne_iff_ne]; exact q5
                              have hws : IntKind.i64.wrap (psq - (k : Int)) = psq - (k : Int) := by rw [IntKind.wrap_i64]; omega
                              have hno : ¬ RC n e0 s0q Sn k ⟨pe, psq, pi, pt, pd⟩ := fun hp => q5 (by rw [← hnu, HSZ.out]; exact hp.2.2.2.2.2.1)
                              have HNO := Lib.hid (JN.out.2 k _ HX.out hno)
                              clear hno
                              clear q1 q2 q3 q4
                              go_wp2_with (first
                                | refine wpList_load_mid rfl 114 (.tmp 44) rfl g (k * 5) rfl (partCells ⟨pe, psq, pi, pt, pd⟩ (.slice Au nu cu)) _ HRG.out hus rfl hib ?_
                                | refine wpList_store_new rfl 114 (.tmp 7) (.tmp 45) rfl rfl (partCells ⟨pe, psq, pi, pt, pd⟩ (.slice Au nu cu)) rfl rfl (by show Z.toArray.size = _; rw [List.size_toArray, HZL.out]; rfl) hib (fun u hu => by simp at hu; rcases hu with rfl | rfl | rfl | rfl | rfl <;> rfl) ?_; intro w2 hr2 hb2 hs2; have HR2 := Lib.hid hr2; have HB2 := Lib.hid hb2; clear hr2 hb2 hs2)
                              obtain ⟨w2b, hw2b⟩ : ∃ w2b, wo.heap.size = w2b := ⟨_, rfl⟩
                              have HSK := Lib.hid (skFacts (w2b := w2b) HR2.out hw2b HG.out.1 HG.out.2 HB2.out HGL.out)
                              rw [hw2b]
                              clear hw2b
                              refine wp_region_mix [(true, 0), (false, 1), (true, 2), (true, 3), (true, 4), (true, 5), (true, 6), (true, 7), (true, 8), (true, 9), (true, 10), (true, 11), (true, 12), (true, 13), (true, 14), (true, 15), (true, 16), (true, 17), (true, 18), (true, 19), (true, 20), (true, 21), (true, 22), (true, 23), (true, 24), (true, 25), (true, 26), (true, 27), (true, 28), (true, 29), (true, 30), (true, 31), (true, 32), (true, 33), (true, 34), (true, 35), (true, 36), (true, 37), (true, 38), (true, 39), (true, 40), (true, 41), (true, 42), (true, 43), (true, 44), (true, 45), (true, 46), (true, 47), (true, 48), (true, 49), (true, 50), (true, 51)] 52 (fun w' => w'.cell? ⟨w2b, 0, none⟩ = some (.int .i64 pe) ∧ w'.cell? ⟨w2b, 1, none⟩ = some (.int .i64 psq) ∧ w'.cell? ⟨w2b, 2, none⟩ = some (.int .i64 pi) ∧ w'.cell? ⟨w2b, 3, none⟩ = some (.int .i64 pt) ∧ w'.cell? ⟨w2b, 4, none⟩ = some (.slice Au nu cu) ∧ w'.cell? ⟨g, 0, none⟩ = some (.int .i64 e0) ∧ w'.cell? ⟨g, 1, none⟩ = some (.int .i64 s0q)) (by kernel_rfl) (by kernel_rfl) (by rintro _ ⟨_, _⟩ ⟨_, _⟩ _ rfl h; exact h) (HSK.out _ (Below.refl _ _).drew) ?_
                              simp only [pickM, List.getElem?_cons_succ, List.getElem?_cons_zero]
                              (refine wpMix_take (v := ?_) ?_ ?_; rotate_left; · (first | (refine Or.inr ⟨by rfl, by rfl⟩) | (refine Or.inl ⟨by rfl, ?_⟩; intro w' hSw; obtain ⟨s0, s1, s2, s3, s4, s5, s6⟩ := hSw; go_simp; (try with_reducible rfl))))
                              (try simp only [Act.put, List.setIfInBounds_toArray, List.set_cons_zero, List.set_cons_succ])
                              refine wpMix_do rfl fun K hK => ?_
                              go_simp
                              have hrt := refIs_any pe psq pi pt Au nu cu w2.drew
                              rw [HRT.out] at hrt
                              refine hrt.mono ?_
                              rintro e w3 ⟨rfl, hb3⟩
                              have hb3' : Below w2.heap.size w2 w3 := (Below.refl _ _).drew.trans hb3
                              refine hK.out _ _ (fun _ => HSK.out _ hb3') ?_
                              clear hK K hrt
                              (try simp only [Act.put, List.setIfInBounds_toArray, List.set_cons_zero, List.set_cons_succ])
                              iterate 50 ((refine wpMix_take (v := ?_) ?_ ?_; rotate_left; · (first | (refine Or.inr ⟨by rfl, by rfl⟩) | (refine Or.inl ⟨by rfl, ?_⟩; intro w' hSw; obtain ⟨s0, s1, s2, s3, s4, s5, s6⟩ := hSw; go_simp; (try with_reducible rfl)))); (try simp only [Act.put, List.setIfInBounds_toArray, List.set_cons_zero, List.set_cons_succ]))
                              refine wpMix_nil ?_
                              clear HSK
                              go_wp2_with fail
                              go_ret2
                              exact .inr ⟨HNO.out, rfl, HB.out.trans ((below_then HB2.out hb3').mono HB.out.size)⟩
                        · as_aux_lemma =>
                            have HRT := Lib.hid (show rightN pe psq pi pt nu = true from by rw [← hnu, rightN_eq ⟨pe, psq, pi, pt, pd⟩]; exact decide_eq_true hr)
                            have t0 : (pe != e0) = false := by simp [q1]
                            have t1 : (pi != (k : Int)) = false := by simp [q2]
                            have t2 : (pt != (n : Int)) = false := by simp [q3]
                            have t3 : (psq - (k : Int) != s0q) = true := by rw [bne_iff_ne]; exact q4
                            have hws : IntKind.i64.wrap (psq - (k : Int)) = psq - (k : Int) := by rw [IntKind.wrap_i64]; omega
                            have hno : ¬ RC n e0 s0q Sn k ⟨pe, psq, pi, pt, pd⟩ := fun hp => q4 hp.2.2.2.2.1
                            have HNO := Lib.hid (JN.out.2 k _ HX.out hno)
                            clear hno
                            clear q1 q2 q3
                            go_wp2_with (first
                              | refine wpList_load_mid rfl 114 (.tmp 44) rfl g (k * 5) rfl (partCells ⟨pe, psq, pi, pt, pd⟩ (.slice Au nu cu)) _ HRG.out hus rfl hib ?_
                              | refine wpList_store_new rfl 114 (.tmp 7) (.tmp 45) rfl rfl (partCells ⟨pe, psq, pi, pt, pd⟩ (.slice Au nu cu)) rfl rfl (by show Z.toArray.size = _; rw [List.size_toArray, HZL.out]; rfl) hib (fun u hu => by simp at hu; rcases hu with rfl | rfl | rfl | rfl | rfl <;> rfl) ?_; intro w2 hr2 hb2 hs2; have HR2 := Lib.hid hr2; have HB2 := Lib.hid hb2; clear hr2 hb2 hs2)
                            obtain ⟨w2b, hw2b⟩ : ∃ w2b, wo.heap.size = w2b := ⟨_, rfl⟩
                            have HSK := Lib.hid (skFacts (w2b := w2b) HR2.out hw2b HG.out.1 HG.out.2 HB2.out HGL.out)
                            rw [hw2b]
                            clear hw2b
                            refine wp_region_mix [(true, 0), (false, 1), (true, 2), (true, 3), (true, 4), (true, 5), (true, 6), (true, 7), (true, 8), (true, 9), (true, 10), (true, 11), (true, 12), (true, 13), (true, 14), (true, 15), (true, 16), (true, 17), (true, 18), (true, 19), (true, 20), (true, 21), (true, 22), (true, 23), (true, 24), (true, 25), (true, 26), (true, 27), (true, 28), (true, 29), (true, 30), (true, 31), (true, 32), (true, 33), (true, 34), (true, 35), (true, 36), (true, 37), (true, 38), (true, 39), (true, 40), (true, 41), (true, 42), (true, 43), (true, 44), (true, 45), (true, 46), (true, 47), (true, 48), (true, 49), (true, 50), (true, 51)] 52 (fun w' => w'.cell? ⟨w2b, 0, none⟩ = some (.int .i64 pe) ∧ w'.cell? ⟨w2b, 1, none⟩ = some (.int .i64 psq) ∧ w'.cell? ⟨w2b, 2, none⟩ = some (.int .i64 pi) ∧ w'.cell? ⟨w2b, 3, none⟩ = some (.int .i64 pt) ∧ w'.cell? ⟨w2b, 4, none⟩ = some (.slice Au nu cu) ∧ w'.cell? ⟨g, 0, none⟩ = some (.int .i64 e0) ∧ w'.cell? ⟨g, 1, none⟩ = some (.int .i64 s0q)) (by kernel_rfl) (by kernel_rfl) (by rintro _ ⟨_, _⟩ ⟨_, _⟩ _ rfl h; exact h) (HSK.out _ (Below.refl _ _).drew) ?_
                            simp only [pickM, List.getElem?_cons_succ, List.getElem?_cons_zero]
                            (refine wpMix_take (v := ?_) ?_ ?_; rotate_left; · (first | (refine Or.inr ⟨by rfl, by rfl⟩) | (refine Or.inl ⟨by rfl, ?_⟩; intro w' hSw; obtain ⟨s0, s1, s2, s3, s4, s5, s6⟩ := hSw; go_simp; (try with_reducible rfl))))
                            (try simp only [Act.put, List.setIfInBounds_toArray, List.set_cons_zero, List.set_cons_succ])
                            refine wpMix_do rfl fun K hK => ?_
                            go_simp
                            have hrt := refIs_any pe psq pi pt Au nu cu w2.drew
                            rw [HRT.out] at hrt
                            refine hrt.mono ?_
                            rintro e w3 ⟨rfl, hb3⟩
                            have hb3' : Below w2.heap.size w2 w3 := (Below.refl _ _).drew.trans hb3
                            refine hK.out _ _ (fun _ => HSK.out _ hb3') ?_
                            clear hK K hrt
                            (try simp only [Act.put, List.setIfInBounds_toArray, List.set_cons_zero, List.set_cons_succ])
                            iterate 50 ((refine wpMix_take (v := ?_) ?_ ?_; rotate_left; · (first | (refine Or.inr ⟨by rfl, by rfl⟩) | (refine Or.inl ⟨by rfl, ?_⟩; intro w' hSw; obtain ⟨s0, s1, s2, s3, s4, s5, s6⟩ := hSw; go_simp; (try with_reducible rfl)))); (try simp only [Act.put, List.setIfInBounds_toArray, List.set_cons_zero, List.set_cons_succ]))
                            refine wpMix_nil ?_
                            clear HSK
                            go_wp2_with fail
                            go_ret2
                            exact .inr ⟨HNO.out, rfl, HB.out.trans ((below_then HB2.out hb3').mono HB.out.size)⟩
                      · as_aux_lemma =>
                          have HRT := Lib.hid (show rightN pe psq pi pt nu = true from by rw [← hnu, rightN_eq ⟨pe, psq, pi, pt, pd⟩]; exact decide_eq_true hr)
                          have t0 : (pe != e0) = false := by simp [q1]
                          have t1 : (pi != (k : Int)) = false := by simp [q2]
                          have t2 : (pt != (n : Int)) = true := by rw [bne_iff_ne]; exact q3
                          have hno : ¬ RC n e0 s0q Sn k ⟨pe, psq, pi, pt, pd⟩ := fun hp => q3 hp.2.2.2.1
                          have HNO := Lib.hid (JN.out.2 k _ HX.out hno)
                          clear hno
                          clear q1 q2
                          go_wp2_with (first
                            | refine wpList_load_mid rfl 114 (.tmp 44) rfl g (k * 5) rfl (partCells ⟨pe, psq, pi, pt, pd⟩ (.slice Au nu cu)) _ HRG.out hus rfl hib ?_
                            | refine wpList_store_new rfl 114 (.tmp 7) (.tmp 45) rfl rfl (partCells ⟨pe, psq, pi, pt, pd⟩ (.slice Au nu cu)) rfl rfl (by show Z.toArray.size = _; rw [List.size_toArray, HZL.out]; rfl) hib (fun u hu => by simp at hu; rcases hu with rfl | rfl | rfl | rfl | rfl <;> rfl) ?_; intro w2 hr2 hb2 hs2; have HR2 := Lib.hid hr2; have HB2 := Lib.hid hb2; clear hr2 hb2 hs2)
                          obtain ⟨w2b, hw2b⟩ : ∃ w2b, wo.heap.size = w2b := ⟨_, rfl⟩
                          have HSK := Lib.hid (skFacts (w2b := w2b) HR2.out hw2b HG.out.1 HG.out.2 HB2.out HGL.out)
                          rw [hw2b]
                          clear hw2b
                          refine wp_region_mix [(true, 0), (false, 1), (true, 2), (true, 3), (true, 4), (true, 5), (true, 6), (true, 7), (true, 8), (true, 9), (true, 10), (true, 11), (true, 12), (true, 13), (true, 14), (true, 15), (true, 16), (true, 17), (true, 18), (true, 19), (true, 20), (true, 21), (true, 22), (true, 23), (true, 24), (true, 25), (true, 26), (true, 27), (true, 28), (true, 29), (true, 30), (true, 31), (true, 32), (true, 33), (true, 34), (true, 35), (true, 36), (true, 37), (true, 38), (true, 39), (true, 40), (true, 41), (true, 42), (true, 43), (true, 44), (true, 45), (true, 46), (true, 47), (true, 48), (true, 49), (true, 50), (true, 51)] 52 (fun w' => w'.cell? ⟨w2b, 0, none⟩ = some (.int .i64 pe) ∧ w'.cell? ⟨w2b, 1, none⟩ = some (.int .i64 psq) ∧ w'.cell? ⟨w2b, 2, none⟩ = some (.int .i64 pi) ∧ w'.cell? ⟨w2b, 3, none⟩ = some (.int .i64 pt) ∧ w'.cell? ⟨w2b, 4, none⟩ = some (.slice Au nu cu) ∧ w'.cell? ⟨g, 0, none⟩ = some (.int .i64 e0) ∧ w'.cell? ⟨g, 1, none⟩ = some (.int .i64 s0q)) (by kernel_rfl) (by kernel_rfl) (by rintro _ ⟨_, _⟩ ⟨_, _⟩ _ rfl h; exact h) (HSK.out _ (Below.refl _ _).drew) ?_
                          simp only [pickM, List.getElem?_cons_succ, List.getElem?_cons_zero]
                          (refine wpMix_take (v := ?_) ?_ ?_; rotate_left; · (first | (refine Or.inr ⟨by rfl, by rfl⟩) | (refine Or.inl ⟨by rfl, ?_⟩; intro w' hSw; obtain ⟨s0, s1, s2, s3, s4, s5, s6⟩ := hSw; go_simp; (try with_reducible rfl))))
                          (try simp only [Act.put, List.setIfInBounds_toArray, List.set_cons_zero, List.set_cons_succ])
                          refine wpMix_do rfl fun K hK => ?_
                          go_simp
                          have hrt := refIs_any pe psq pi pt Au nu cu w2.drew
                          rw [HRT.out] at hrt
                          refine hrt.mono ?_
                          rintro e w3 ⟨rfl, hb3⟩
                          have hb3' : Below w2.heap.size w2 w3 := (Below.refl _ _).drew.trans hb3
                          refine hK.out _ _ (fun _ => HSK.out _ hb3') ?_
                          clear hK K hrt
                          (try simp only [Act.put, List.setIfInBounds_toArray, List.set_cons_zero, List.set_cons_succ])
                          iterate 50 ((refine wpMix_take (v := ?_) ?_ ?_; rotate_left; · (first | (refine Or.inr ⟨by rfl, by rfl⟩) | (refine Or.inl ⟨by rfl, ?_⟩; intro w' hSw; obtain ⟨s0, s1, s2, s3, s4, s5, s6⟩ := hSw; go_simp; (try with_reducible rfl)))); (try simp only [Act.put, List.setIfInBounds_toArray, List.set_cons_zero, List.set_cons_succ]))
                          refine wpMix_nil ?_
                          clear HSK
                          go_wp2_with fail
                          go_ret2
                          exact .inr ⟨HNO.out, rfl, HB.out.trans ((below_then HB2.out hb3').mono HB.out.size)⟩
                    · as_aux_lemma =>
                        have HRT := Lib.hid (show rightN pe psq pi pt nu = true from by rw [← hnu, rightN_eq ⟨pe, psq, pi, pt, pd⟩]; exact decide_eq_true hr)
                        have t0 : (pe != e0) = false := by simp [q1]
                        have t1 : (pi != (k : Int)) = true := by rw [bne_iff_ne]; exact q2
                        have hno : ¬ RC n e0 s0q Sn k ⟨pe, psq, pi, pt, pd⟩ := fun hp => q2 hp.2.2.1
                        have HNO := Lib.hid (JN.out.2 k _ HX.out hno)
                        clear hno
                        clear q1
                        go_wp2_with (first
                          | refine wpList_load_mid rfl 114 (.tmp 44) rfl g (k * 5) rfl (partCells ⟨pe, psq, pi, pt, pd⟩ (.slice Au nu cu)) _ HRG.out hus rfl hib ?_
                          | refine wpList_store_new rfl 114 (.tmp 7) (.tmp 45) rfl rfl (partCells ⟨pe, psq, pi, pt, pd⟩ (.slice Au nu cu)) rfl rfl (by show Z.toArray.size = _; rw [List.size_toArray, HZL.out]; rfl) hib (fun u hu => by simp at hu; rcases hu with rfl | rfl | rfl | rfl | rfl <;> rfl) ?_; intro w2 hr2 hb2 hs2; have HR2 := Lib.hid hr2; have HB2 := Lib.hid hb2; clear hr2 hb2 hs2)
                        obtain ⟨w2b, hw2b⟩ : ∃ w2b, wo.heap.size = w2b := ⟨_, rfl⟩
                        have HSK := Lib.hid (skFacts (w2b := w2b) HR2.out hw2b HG.out.1 HG.out.2 HB2.out HGL.out)
                        rw [hw2b]
                        clear hw2b
                        refine wp_region_mix [(true, 0), (false, 1), (true, 2), (true, 3), (true, 4), (true, 5), (true, 6), (true, 7), (true, 8), (true, 9), (true, 10), (true, 11), (true, 12), (true, 13), (true, 14), (true, 15), (true, 16), (true, 17), (true, 18), (true, 19), (true, 20), (true, 21), (true, 22), (true, 23), (true, 24), (true, 25), (true, 26), (true, 27), (true, 28), (true, 29), (true, 30), (true, 31), (true, 32), (true, 33), (true, 34), (true, 35), (true, 36), (true, 37), (true, 38), (true, 39), (true, 40), (true, 41), (true, 42), (true, 43), (true, 44), (true, 45), (true, 46), (true, 47), (true, 48), (true, 49), (true, 50), (true, 51)] 52 (fun w' => w'.cell? ⟨w2b, 0, none⟩ = some (.int .i64 pe) ∧ w'.cell? ⟨w2b, 1, none⟩ = some (.int .i64 psq) ∧ w'.cell? ⟨w2b, 2, none⟩ = some (.int .i64 pi) ∧ w'.cell? ⟨w2b, 3, none⟩ = some (.int .i64 pt) ∧ w'.cell? ⟨w2b, 4, none⟩ = some (.slice Au nu cu) ∧ w'.cell? ⟨g, 0, none⟩ = some (.int .i64 e0) ∧ w'.cell? ⟨g, 1, none⟩ = some (.int .i64 s0q)) (by kernel_rfl) (by kernel_rfl) (by rintro _ ⟨_, _⟩ ⟨_, _⟩ _ rfl h; exact h) (HSK.out _ (Below.refl _ _).drew) ?_
                        simp only [pickM, List.getElem?_cons_succ, List.getElem?_cons_zero]
                        (refine wpMix_take (v := ?_) ?_ ?_; rotate_left; · (first | (refine Or.inr ⟨by rfl, by rfl⟩) | (refine Or.inl ⟨by rfl, ?_⟩; intro w' hSw; obtain ⟨s0, s1, s2, s3, s4, s5, s6⟩ := hSw; go_simp; (try with_reducible rfl))))
                        (try simp only [Act.put, List.setIfInBounds_toArray, List.set_cons_zero, List.set_cons_succ])
                        refine wpMix_do rfl fun K hK => ?_
                        go_simp
                        have hrt := refIs_any pe psq pi pt Au nu cu w2.drew
                        rw [HRT.out] at hrt
                        refine hrt.mono ?_
                        rintro e w3 ⟨rfl, hb3⟩
                        have hb3' : Below w2.heap.size w2 w3 := (Below.refl _ _).drew.trans hb3
                        refine hK.out _ _ (fun _ => HSK.out _ hb3') ?_
                        clear hK K hrt
                        (try simp only [Act.put, List.setIfInBounds_toArray, List.set_cons_zero, List.set_cons_succ])
                        iterate 50 ((refine wpMix_take (v := ?_) ?_ ?_; rotate_left; · (first | (refine Or.inr ⟨by rfl, by rfl⟩) | (refine Or.inl ⟨by rfl, ?_⟩; intro w' hSw; obtain ⟨s0, s1, s2, s3, s4, s5, s6⟩ := hSw; go_simp; (try with_reducible rfl)))); (try simp only [Act.put, List.setIfInBounds_toArray, List.set_cons_zero, List.set_cons_succ]))
                        refine wpMix_nil ?_
                        clear HSK
                        go_wp2_with fail
                        go_ret2
                        exact .inr ⟨HNO.out, rfl, HB.out.trans ((below_then HB2.out hb3').mono HB.out.size)⟩
                  · as_aux_lemma =>
                      have HRT := Lib.hid (show rightN pe psq pi pt nu = true from by rw [← hnu, rightN_eq ⟨pe, psq, pi, pt, pd⟩]; exact decide_eq_true hr)
                      have t0 : (pe != e0) = true := by rw [bne_iff_ne]; exact q1
                      have hno : ¬ RC n e0 s0q Sn k ⟨pe, psq, pi, pt, pd⟩ := fun hp => q1 hp.2.1
                      have HNO := Lib.hid (JN.out.2 k _ HX.out hno)
                      clear hno
                      go_wp2_with (first
                        | refine wpList_load_mid rfl 114 (.tmp 44) rfl g (k * 5) rfl (partCells ⟨pe, psq, pi, pt, pd⟩ (.slice Au nu cu)) _ HRG.out hus rfl hib ?_
                        | refine wpList_store_new rfl 114 (.tmp 7) (.tmp 45) rfl rfl (partCells ⟨pe, psq, pi, pt, pd⟩ (.slice Au nu cu)) rfl rfl (by show Z.toArray.size = _; rw [List.size_toArray, HZL.out]; rfl) hib (fun u hu => by simp at hu; rcases hu with rfl | rfl | rfl | rfl | rfl <;> rfl) ?_; intro w2 hr2 hb2 hs2; have HR2 := Lib.hid hr2; have HB2 := Lib.hid hb2; clear hr2 hb2 hs2)
                      obtain ⟨w2b, hw2b⟩ : ∃ w2b, wo.heap.size = w2b := ⟨_, rfl⟩
                      have HSK := Lib.hid (skFacts (w2b := w2b) HR2.out hw2b HG.out.1 HG.out.2 HB2.out HGL.out)
                      rw [hw2b]
                      clear hw2b
                      refine wp_region_mix [(true, 0), (false, 1), (true, 2), (true, 3), (true, 4), (true, 5), (true, 6), (true, 7), (true, 8), (true, 9), (true, 10), (true, 11), (true, 12), (true, 13), (true, 14), (true, 15), (true, 16), (true, 17), (true, 18), (true, 19), (true, 20), (true, 21), (true, 22), (true, 23), (true, 24), (true, 25), (true, 26), (true, 27), (true, 28), (true, 29), (true, 30), (true, 31), (true, 32), (true, 33), (true, 34), (true, 35), (true, 36), (true, 37), (true, 38), (true, 39), (true, 40), (true, 41), (true, 42), (true, 43), (true, 44), (true, 45), (true, 46), (true, 47), (true, 48), (true, 49), (true, 50), (true, 51)] 52 (fun w' => w'.cell? ⟨w2b, 0, none⟩ = some (.int .i64 pe) ∧ w'.cell? ⟨w2b, 1, none⟩ = some (.int .i64 psq) ∧ w'.cell? ⟨w2b, 2, none⟩ = some (.int .i64 pi) ∧ w'.cell? ⟨w2b, 3, none⟩ = some (.int .i64 pt) ∧ w'.cell? ⟨w2b, 4, none⟩ = some (.slice Au nu cu) ∧ w'.cell? ⟨g, 0, none⟩ = some (.int .i64 e0) ∧ w'.cell? ⟨g, 1, none⟩ = some (.int .i64 s0q)) (by kernel_rfl) (by kernel_rfl) (by rintro _ ⟨_, _⟩ ⟨_, _⟩ _ rfl h; exact h) (HSK.out _ (Below.refl _ _).drew) ?_
                      simp only [pickM, List.getElem?_cons_succ, List.getElem?_cons_zero]
                      (refine wpMix_take (v := ?_) ?_ ?_; rotate_left; · (first | (refine Or.inr ⟨by rfl, by rfl⟩) | (refine Or.inl ⟨by rfl, ?_⟩; intro w' hSw; obtain ⟨s0, s1, s2, s3, s4, s5, s6⟩ := hSw; go_simp; (try with_reducible rfl))))
                      (try simp only [Act.put, List.setIfInBounds_toArray, List.set_cons_zero, List.set_cons_succ])
                      refine wpMix_do rfl fun K hK => ?_
                      go_simp
                      have hrt := refIs_any pe psq pi pt Au nu cu w2.drew
                      rw [HRT.out] at hrt
                      refine hrt.mono ?_
                      rintro e w3 ⟨rfl, hb3⟩
                      have hb3' : Below w2.heap.size w2 w3 := (Below.refl _ _).drew.trans hb3
                      refine hK.out _ _ (fun _ => HSK.out _ hb3') ?_
                      clear hK K hrt
                      (try simp only [Act.put, List.setIfInBounds_toArray, List.set_cons_zero, List.set_cons_succ])
                      iterate 50 ((refine wpMix_take (v := ?_) ?_ ?_; rotate_left; · (first | (refine Or.inr ⟨by rfl, by rfl⟩) | (refine Or.inl ⟨by rfl, ?_⟩; intro w' hSw; obtain ⟨s0, s1, s2, s3, s4, s5, s6⟩ := hSw; go_simp; (try with_reducible rfl)))); (try simp only [Act.put, List.setIfInBounds_toArray, List.set_cons_zero, List.set_cons_succ]))
                      refine wpMix_nil ?_
                      clear HSK
                      go_wp2_with fail
                      go_ret2
                      exact .inr ⟨HNO.out, rfl, HB.out.trans ((below_then HB2.out hb3').mono HB.out.size)⟩
                · as_aux_lemma =>
                    have HRT := Lib.hid (show rightN pe psq pi pt nu = false from by rw [← hnu, rightN_eq ⟨pe, psq, pi, pt, pd⟩]; exact decide_eq_false hr)
                    have hno : ¬ RC n e0 s0q Sn k ⟨pe, psq, pi, pt, pd⟩ := fun hp => hr hp.1
                    have HNO := Lib.hid (JN.out.2 k _ HX.out hno)
                    clear hno
                    go_wp2_with (first
                      | refine wpList_load_mid rfl 114 (.tmp 44) rfl g (k * 5) rfl (partCells ⟨pe, psq, pi, pt, pd⟩ (.slice Au nu cu)) _ HRG.out hus rfl hib ?_
                      | refine wpList_store_new rfl 114 (.tmp 7) (.tmp 45) rfl rfl (partCells ⟨pe, psq, pi, pt, pd⟩ (.slice Au nu cu)) rfl rfl (by show Z.toArray.size = _; rw [List.size_toArray, HZL.out]; rfl) hib (fun u hu => by simp at hu; rcases hu with rfl | rfl | rfl | rfl | rfl <;> rfl) ?_; intro w2 hr2 hb2 hs2; have HR2 := Lib.hid hr2; have HB2 := Lib.hid hb2; clear hr2 hb2 hs2)
                    obtain ⟨w2b, hw2b⟩ : ∃ w2b, wo.heap.size = w2b := ⟨_, rfl⟩
                    have HSK := Lib.hid (skFacts (w2b := w2b) HR2.out hw2b HG.out.1 HG.out.2 HB2.out HGL.out)
                    rw [hw2b]
                    clear hw2b
                    refine wp_region_mix [(true, 0), (false, 1), (true, 2), (true, 3), (true, 4), (true, 5), (true, 6), (true, 7), (true, 8), (true, 9), (true, 10), (true, 11), (true, 12), (true, 13), (true, 14), (true, 15), (true, 16), (true, 17), (true, 18), (true, 19), (true, 20), (true, 21), (true, 22), (true, 23), (true, 24), (true, 25), (true, 26), (true, 27), (true, 28), (true, 29), (true, 30), (true, 31), (true, 32), (true, 33), (true, 34), (true, 35), (true, 36), (true, 37), (true, 38), (true, 39), (true, 40), (true, 41), (true, 42), (true, 43), (true, 44), (true, 45), (true, 46), (true, 47), (true, 48), (true, 49), (true, 50), (true, 51)] 52 (fun w' => w'.cell? ⟨w2b, 0, none⟩ = some (.int .i64 pe) ∧ w'.cell? ⟨w2b, 1, none⟩ = some (.int .i64 psq) ∧ w'.cell? ⟨w2b, 2, none⟩ = some (.int .i64 pi) ∧ w'.cell? ⟨w2b, 3, none⟩ = some (.int .i64 pt) ∧ w'.cell? ⟨w2b, 4, none⟩ = some (.slice Au nu cu) ∧ w'.cell? ⟨g, 0, none⟩ = some (.int .i64 e0) ∧ w'.cell? ⟨g, 1, none⟩ = some (.int .i64 s0q)) (by kernel_rfl) (by kernel_rfl) (by rintro _ ⟨_, _⟩ ⟨_, _⟩ _ rfl h; exact h) (HSK.out _ (Below.refl _ _).drew) ?_
                    simp only [pickM, List.getElem?_cons_succ, List.getElem?_cons_zero]
                    (refine wpMix_take (v := ?_) ?_ ?_; rotate_left; · (first | (refine Or.inr ⟨by rfl, by rfl⟩) | (refine Or.inl ⟨by rfl, ?_⟩; intro w' hSw; obtain ⟨s0, s1, s2, s3, s4, s5, s6⟩ := hSw; go_simp; (try with_reducible rfl))))
                    (try simp only [Act.put, List.setIfInBounds_toArray, List.set_cons_zero, List.set_cons_succ])
                    refine wpMix_do rfl fun K hK => ?_
                    go_simp
                    have hrt := refIs_any pe psq pi pt Au nu cu w2.drew
                    rw [HRT.out] at hrt
                    refine hrt.mono ?_
                    rintro e w3 ⟨rfl, hb3⟩
                    have hb3' : Below w2.heap.size w2 w3 := (Below.refl _ _).drew.trans hb3
                    refine hK.out _ _ (fun _ => HSK.out _ hb3') ?_
                    clear hK K hrt
                    (try simp only [Act.put, List.setIfInBounds_toArray, List.set_cons_zero, List.set_cons_succ])
                    iterate 50 ((refine wpMix_take (v := ?_) ?_ ?_; rotate_left; · (first | (refine Or.inr ⟨by rfl, by rfl⟩) | (refine Or.inl ⟨by rfl, ?_⟩; intro w' hSw; obtain ⟨s0, s1, s2, s3, s4, s5, s6⟩ := hSw; go_simp; (try with_reducible rfl)))); (try simp only [Act.put, List.setIfInBounds_toArray, List.set_cons_zero, List.set_cons_succ]))
                    refine wpMix_nil ?_
                    clear HSK
                    go_wp2_with fail
                    go_ret2
                    exact .inr ⟨HNO.out, rfl, HB.out.trans ((below_then HB2.out hb3').mono HB.out.size)⟩
              · obtain ⟨sz, hszq⟩ : ∃ sz : Int, (Sn : Int) - 38 * (k : Int) = sz := ⟨_, rfl⟩
                have HSZ := Lib.hid (show sz = szI Sn k from by unfold szI; rw [if_neg hbig, hszq])
                rw [hszq] at hbig
                have hsz1 : sz ≤ 38 := by omega
                have hsz2 : -100000 ≤ sz := by omega
                have hszw : IntKind.i64.wrap sz = sz := by rw [IntKind.wrap_i64]; omega
                by_cases hr : StampMath.right ⟨pe, psq, pi, pt, pd⟩
                · obtain ⟨b1, b2, b3, b4, b5, b6, b7, b8, b9⟩ := id hr
                  simp only at b1 b2 b3 b4 b5 b6 b7 b8 b9
                  by_cases q1 : pe = e0
                  · by_cases q2 : pi = (k : Int)
                    · by_cases q3 : pt = (n : Int)
                      · by_cases q4 : psq - (k : Int) = s0q
                        · by_cases q5 : (nu : Int) = sz
                          · by_cases q6 : sz = 0
                            · by_cases q7 : 1 < n
                              · as_aux_lemma =>
                                  have HRT := Lib.hid (show rightN pe psq pi pt nu = true from by rw [← hnu, rightN_eq ⟨pe, psq, pi, pt, pd⟩]; exact decide_eq_true hr)
                                  have t0 : (pe != e0) = false := by simp [q1]
                                  have t1 : (pi != (k : Int)) = false := by simp [q2]
                                  have t2 : (pt != (n : Int)) = false := by simp [q3]
                                  have t3 : (psq - (k : Int) != s0q) = false := by simp [q4]
                                  have t4 : ((nu : Int) != sz) = false := by simp [q5]
                                  have hws : IntKind.i64.wrap (psq - (k : Int)) = psq - (k : Int) := by rw [IntKind.wrap_i64]; omega
                                  have t6 : (sz == 0) = true := by rw [beq_iff_eq]; exact q6
                                  have t7 : decide (1 < n) = true := decide_eq_true q7
                                  have hno : ¬ RC n e0 s0q Sn k ⟨pe, psq, pi, pt, pd⟩ := fun hp => hp.2.2.2.2.2.2 ⟨by rw [← HSZ.out]; exact q6, q7⟩
                                  have HNO := Lib.hid (JN.out.2 k _ HX.out hno)
                                  clear hno
                                  clear q1 q2 q3 q4 q5
                                  have t8 : decide ((1 : Int) < (n : Int)) = true := decide_eq_true (by omega)
                                  have q8 : (1 : Int) < (n : Int) := by omega
                                  clear q6
                                  go_wp2_with (first
                                    | refine wpList_load_mid rfl 114 (.tmp 44) rfl g (k * 5) rfl (partCells ⟨pe, psq, pi, pt, pd⟩ (.slice Au nu cu)) _ HRG.out hus rfl hib ?_
                                    | refine wpList_store_new rfl 114 (.tmp 7) (.tmp 45) rfl rfl (partCells ⟨pe, psq, pi, pt, pd⟩ (.slice Au nu cu)) rfl rfl (by show Z.toArray.size = _; rw [List.size_toArray, HZL.out]; rfl) hib (fun u hu => by simp at hu; rcases hu with rfl | rfl | rfl | rfl | rfl <;> rfl) ?_; intro w2 hr2 hb2 hs2; have HR2 := Lib.hid hr2; have HB2 := Lib.hid hb2; clear hr2 hb2 hs2)
                                  obtain ⟨w2b, hw2b⟩ : ∃ w2b, wo.heap.size = w2b := ⟨_, rfl⟩
                                  have HSK := Lib.hid (skFacts (w2b := w2b) HR2.out hw2b HG.out.1 HG.out.2 HB2.out HGL.out)
                                  rw [hw2b]
                                  clear hw2b
                                  refine wp_region_mix [(true, 0), (false, 1), (true, 2), (true, 3), (true, 4), (true, 5), (true, 6), (true, 7), (true, 8), (true, 9), (true, 10), (true, 11), (true, 12), (true, 13), (true, 14), (true, 15), (true, 16), (true, 17), (true, 18), (true, 19), (true, 20), (true, 21), (true, 22), (true, 23), (true, 24), (true, 25), (true, 26), (true, 27), (true, 28), (true, 29), (true, 30), (true, 31), (true, 32), (true, 33), (true, 34), (true, 35), (true, 36), (true, 37), (true, 38), (true, 39), (true, 40), (true, 41), (true, 42), (true, 43), (true, 44), (true, 45), (true, 46), (true, 47), (true, 48), (true, 49), (true, 50), (true, 51)] 52 (fun w' => w'.cell? ⟨w2b, 0, none⟩ = some (.int .i64 pe) ∧ w'.cell? ⟨w2b, 1, none⟩ = some (.int .i64 psq) ∧ w'.cell? ⟨w2b, 2, none⟩ = some (.int .i64 pi) ∧ w'.cell? ⟨w2b, 3, none⟩ = some (.int .i64 pt) ∧ w'.cell? ⟨w2b, 4, none⟩ = some (.slice Au nu cu) ∧ w'.cell? ⟨g, 0, none⟩ = some (.int .i64 e0) ∧ w'.cell? ⟨g, 1, none⟩ = some (.int .i64 s0q)) (by kernel_rfl) (by kernel_rfl) (by rintro _ ⟨_, _⟩ ⟨_, _⟩ _ rfl h; exact h) (HSK.out _ (Below.refl _ _).drew) ?_
                                  simp only [pickM, List.getElem?_cons_succ, List.getElem?_cons_zero]
                                  (refine wpMix_take (v := ?_) ?_ ?_; rotate_left; · (first | (refine Or.inr ⟨by rfl, by rfl⟩) | (refine Or.inl ⟨by rfl, ?_⟩; intro w' hSw; obtain ⟨s0, s1, s2, s3, s4, s5, s6⟩ := hSw; go_simp; (try with_reducible rfl))))
                                  (try simp only [Act.put, List.setIfInBounds_toArray, List.set_cons_zero, List.set_cons_succ])
                                  refine wpMix_do rfl fun K hK => ?_
                                  go_simp
                                  have hrt := refIs_any pe psq pi pt Au nu cu w2.drew
                                  rw [HRT.out] at hrt
                                  refine hrt.mono ?_
                                  rintro e w3 ⟨rfl, hb3⟩
                                  have hb3' : Below w2.heap.size w2 w3 := (Below.refl _ _).drew.trans hb3
                                  refine hK.out _ _ (fun _ => HSK.out _ hb3') ?_
                                  clear hK K hrt
                                  (try simp only [Act.put, List.setIfInBounds_toArray, List.set_cons_zero, List.set_cons_succ])
                                  iterate 50 ((refine wpMix_take (v := ?_) ?_ ?_; rotate_left; · (first | (refine Or.inr ⟨by rfl, by rfl⟩) | (refine Or.inl ⟨by rfl, ?_⟩; intro w' hSw; obtain ⟨s0, s1, s2, s3, s4, s5, s6⟩ := hSw; go_simp; (try with_reducible rfl)))); (try simp only [Act.put, List.setIfInBounds_toArray, List.set_cons_zero, List.set_cons_succ]))
                                  refine wpMix_nil ?_
                                  clear HSK
                                  go_wp2_with fail
                                  go_ret2
                                  exact .inr ⟨HNO.out, rfl, HB.out.trans ((below_then HB2.out hb3').mono HB.out.size)⟩
                              · as_aux_lemma =>
                                  have HRT := Lib.hid (show rightN pe psq pi pt nu = true from by rw [← hnu, rightN_eq ⟨pe, psq, pi, pt, pd⟩]; exact decide_eq_true hr)
                                  have t0 : (pe != e0) = false := by simp [q1]
                                  have t1 : (pi != (k : Int)) = false := by simp [q2]
                                  have t2 : (pt != (n : Int)) = false := by simp [q3]
                                  have t3 : (psq - (k : Int) != s0q) = false := by simp [q4]
                                  have t4 : ((nu : Int) != sz) = false := by simp [q5]
                                  have hws : IntKind.i64.wrap (psq - (k : Int)) = psq - (k : Int) := by rw [IntKind.wrap_i64]; omega
                                  have t6 : (sz == 0) = true := by rw [beq_iff_eq]; exact q6
                                  have t7 : decide (1 < n) = false := decide_eq_false q7
                                  have HRC := Lib.hid (show RC n e0 s0q Sn k ⟨pe, psq, pi, pt, pd⟩ from ⟨hr, q1, q2, q3, q4, by rw [← HSZ.out, ← q5, ← hnu], fun h => q7 h.2⟩)
                                  clear q1 q2 q3 q4 q5 q6
                                  go_wp2_with (first
                                    | refine wpList_load_mid rfl 114 (.tmp 44) rfl g (k * 5) rfl (partCells ⟨pe, psq, pi, pt, pd⟩ (.slice Au nu cu)) _ HRG.out hus rfl hib ?_
                                    | refine wpList_store_new rfl 114 (.tmp 7) (.tmp 45) rfl rfl (partCells ⟨pe, psq, pi, pt, pd⟩ (.slice Au nu cu)) rfl rfl (by show Z.toArray.size = _; rw [List.size_toArray, HZL.out]; rfl) hib (fun u hu => by simp at hu; rcases hu with rfl | rfl | rfl | rfl | rfl <;> rfl) ?_; intro w2 hr2 hb2 hs2; have HR2 := Lib.hid hr2; have HB2 := Lib.hid hb2; clear hr2 hb2 hs2)
                                  obtain ⟨w2b, hw2b⟩ : ∃ w2b, wo.heap.size = w2b := ⟨_, rfl⟩
                                  have HSK := Lib.hid (skFacts (w2b := w2b) HR2.out hw2b HG.out.1 HG.out.2 HB2.out HGL.out)
                                  rw [hw2b]
                                  clear hw2b
                                  refine wp_region_mix [(true, 0), (false, 1), (true, 2), (true, 3), (true, 4), (true, 5), (true, 6), (true, 7), (true, 8), (true, 9), (true, 10), (true, 11), (true, 12), (true, 13), (true, 14), (true, 15), (true, 16), (true, 17), (true, 18), (true, 19), (true, 20), (true, 21), (true, 22), (true, 23), (true, 24), (true, 25), (true, 26), (true, 27), (true, 28), (true, 29), (true, 30), (true, 31), (true, 32), (true, 33), (true, 34), (true, 35), (true, 36), (true, 37), (true, 38), (true, 39), (true, 40), (true, 41), (true, 42), (true, 43), (true, 44), (true, 45), (true, 46), (true, 47), (true, 48), (true, 49), (true, 50), (true, 51)] 52 (fun w' => w'.cell? ⟨w2b, 0, none⟩ = some (.int .i64 pe) ∧ w'.cell? ⟨w2b, 1, none⟩ = some (.int .i64 psq) ∧ w'.cell? ⟨w2b, 2, none⟩ = some (.int .i64 pi) ∧ w'.cell? ⟨w2b, 3, none⟩ = some (.int .i64 pt) ∧ w'.cell? ⟨w2b, 4, none⟩ = some (.slice Au nu cu) ∧ w'.cell? ⟨g, 0, none⟩ = some (.int .i64 e0) ∧ w'.cell? ⟨g, 1, none⟩ = some (.int .i64 s0q)) (by kernel_rfl) (by kernel_rfl) (by rintro _ ⟨_, _⟩ ⟨_, _⟩ _ rfl h; exact h) (HSK.out _ (Below.refl _ _).drew) ?_
                                  simp only [pickM, List.getElem?_cons_succ, List.getElem?_cons_zero]
                                  (refine wpMix_take (v := ?_) ?_ ?_; rotate_left; · (first | (refine Or.inr ⟨by rfl, by rfl⟩) | (refine Or.inl ⟨by rfl, ?_⟩; intro w' hSw; obtain ⟨s0, s1, s2, s3, s4, s5, s6⟩ := hSw; go_simp; (try with_reducible rfl))))
                                  (try simp only [Act.put, List.setIfInBounds_toArray, List.set_cons_zero, List.set_cons_succ])
                                  refine wpMix_do rfl fun K hK => ?_
                                  go_simp
                                  have hrt := refIs_any pe psq pi pt Au nu cu w2.drew
                                  rw [HRT.out] at hrt
                                  refine hrt.mono ?_
                                  rintro e w3 ⟨rfl, hb3⟩
                                  have hb3' : Below w2.heap.size w2 w3 := (Below.refl _ _).drew.trans hb3
                                  refine hK.out _ _ (fun _ => HSK.out _ hb3') ?_
                                  clear hK K hrt
                                  (try simp only [Act.put, List.setIfInBounds_toArray, List.set_cons_zero, List.set_cons_succ])
                                  iterate 50 ((refine wpMix_take (v := ?_) ?_ ?_; rotate_left; · (first | (refine Or.inr ⟨by rfl, by rfl⟩) | (refine Or.inl ⟨by rfl, ?_⟩; intro w' hSw; obtain ⟨s0, s1, s2, s3, s4, s5, s6⟩ := hSw; go_simp; (try with_reducible rfl)))); (try simp only [Act.put, List.setIfInBounds_toArray, List.set_cons_zero, List.set_cons_succ]))
                                  refine wpMix_nil ?_
                                  clear HSK
                                  go_wp2_with fail
                                  go_roundw
                                  case rel =>
                                    refine ⟨k + 1, by omega, by go_num, fun j q hj hq => ?_, HBW.out.trans ((below_then HB2.out hb3').mono HBW.out.size)⟩
                                    by_cases hjk : j < k
                                    · exact HFT.out j q hjk hq
                                    · obtain rfl : j = k := by omega
                                      rw [HX.out] at hq
                                      injection hq with hq
                                      subst hq
                                      exact HRC.out
                                  case measure => simp [intOf]; omega
                            · as_aux_lemma =>
                                have HRT := Lib.hid (show rightN pe psq pi pt nu = true from by rw [← hnu, rightN_eq ⟨pe, psq, pi, pt, pd⟩]; exact decide_eq_true hr)
                                have t0 : (pe != e0) = false := by simp [q1]
                                have t1 : (pi != (k : Int)) = false := by simp [q2]
                                have t2 : (pt != (n : Int)) = false := by simp [q3]
                                have t3 : (psq - (k : Int) != s0q) = false := by simp [q4]
                                have t4 : ((nu : Int) != sz) = false := by simp [q5]
                                have hws : IntKind.i64.wrap (psq - (k : Int)) = psq - (k : Int) := by rw [IntKind.wrap_i64]; omega
                                have t6 : (sz == 0) = false := by rw [beq_eq_false_iff_ne]; exact q6
                                have HRC := Lib.hid (show RC n e0 s0q Sn k ⟨pe, psq, pi, pt, pd⟩ from ⟨hr, q1, q2, q3, q4, by rw [← HSZ.out, ← q5, ← hnu], fun h => q6 (by rw [HSZ.out]; exact h.1)⟩)
                                clear q1 q2 q3 q4 q5 q6
                                go_wp2_with (first
                                  | refine wpList_load_mid rfl 114 (.tmp 44) rfl g (k * 5) rfl (partCells ⟨pe, psq, pi, pt, pd⟩ (.slice Au nu cu)) _ HRG.out hus rfl hib ?_
                                  | refine wpList_store_new rfl 114 (.tmp 7) (.tmp 45) rfl rfl (partCells ⟨pe, psq, pi, pt, pd⟩ (.slice Au nu cu)) rfl rfl (by show Z.toArray.size = _; rw [List.size_toArray, HZL.out]; rfl) hib (fun u hu => by simp at hu; rcases hu with rfl | rfl | rfl | rfl | rfl <;> rfl) ?_; intro w2 hr2 hb2 hs2; have HR2 := Lib.hid hr2; have HB2 := Lib.hid hb2; clear hr2 hb2 hs2)
                                obtain ⟨w2b, hw2b⟩ : ∃ w2b, wo.heap.size = w2b := ⟨_, rfl⟩
                                have HSK := Lib.hid (skFacts (w2b := w2b) HR2.out hw2b HG.out.1 HG.out.2 HB2.out HGL.out)
                                rw [hw2b]
                                clear hw2b
                                refine wp_region_mix [(true, 0), (false, 1), (true, 2), (true, 3), (true, 4), (true, 5), (true, 6), (true, 7), (true, 8), (true, 9), (true, 10), (true, 11), (true, 12), (true, 13), (true, 14), (true, 15), (true, 16), (true, 17), (true, 18), (true, 19), (true, 20), (true, 21), (true, 22), (true, 23), (true, 24), (true, 25), (true, 26), (true, 27), (true, 28), (true, 29), (true, 30), (true, 31), (true, 32), (true, 33), (true, 34), (true, 35), (true, 36), (true, 37), (true, 38), (true, 39), (true, 40), (true, 41), (true, 42), (true, 43), (true, 44), (true, 45), (true, 46), (true, 47), (true, 48), (true, 49), (true, 50), (true, 51)] 52 (fun w' => w'.cell? ⟨w2b, 0, none⟩ = some (.int .i64 pe) ∧ w'.cell? ⟨w2b, 1, none⟩ = some (.int .i64 psq) ∧ w'.cell? ⟨w2b, 2, none⟩ = some (.int .i64 pi) ∧ w'.cell? ⟨w2b, 3, none⟩ = some (.int .i64 pt) ∧ w'.cell? ⟨w2b, 4, none⟩ = some (.slice Au nu cu) ∧ w'.cell? ⟨g, 0, none⟩ = some (.int .i64 e0) ∧ w'.cell? ⟨g, 1, none⟩ = some (.int .i64 s0q)) (by kernel_rfl) (by kernel_rfl) (by rintro _ ⟨_, _⟩ ⟨_, _⟩ _ rfl h; exact h) (HSK.out _ (Below.refl _ _).drew) ?_
                                simp only [pickM, List.getElem?_cons_succ, List.getElem?_cons_zero]
                                (refine wpMix_take (v := ?_) ?_ ?_; rotate_left; · (first | (refine Or.inr ⟨by rfl, by rfl⟩) | (refine Or.inl ⟨by rfl, ?_⟩; intro w' hSw; obtain ⟨s0, s1, s2, s3, s4, s5, s6⟩ := hSw; go_simp; (try with_reducible rfl))))
                                (try simp only [Act.put, List.setIfInBounds_toArray, List.set_cons_zero, List.set_cons_succ])
                                refine wpMix_do rfl fun K hK => ?_
                                go_simp
                                have hrt := refIs_any pe psq pi pt Au nu cu w2.drew
                                rw [HRT.out] at hrt
                                refine hrt.mono ?_
                                rintro e w3 ⟨rfl, hb3⟩
                                have hb3' : Below w2.heap.size w2 w3 := (Below.refl _ _).drew.trans hb3
                                refine hK.out _ _ (fun _ => HSK.out _ hb3') ?_
                                clear hK K hrt
                                (try simp only [Act.put, List.setIfInBounds_toArray, List.set_cons_zero, List.set_cons_succ])
                                iterate 50 ((refine wpMix_take (v := ?_) ?_ ?_; rotate_left; · (first | (refine Or.inr ⟨by rfl, by rfl⟩) | (refine Or.inl ⟨by rfl, ?_⟩; intro w' hSw; obtain ⟨s0, s1, s2, s3, s4, s5, s6⟩ := hSw; go_simp; (try with_reducible rfl)))); (try simp only [Act.put, List.setIfInBounds_toArray, List.set_cons_zero, List.set_cons_succ]))
                                refine wpMix_nil ?_
                                clear HSK
                                go_wp2_with fail
                                go_roundw
                                case rel =>
                                  refine ⟨k + 1, by omega, by go_num, fun j q hj hq => ?_, HBW.out.trans ((below_then HB2.out hb3').mono HBW.out.size)⟩
                                  by_cases hjk : j < k
                                  · exact HFT.out j q hjk hq
                                  · obtain rfl : j = k := by omega
                                    rw [HX.out] at hq
                                    injection hq with hq
                                    subst hq
                                    exact HRC.out
                                case measure => simp [intOf]; omega
                          · as_aux_lemma =>
                              have HRT := Lib.hid (show rightN pe psq pi pt nu = true from by rw [← hnu, rightN_eq ⟨pe, psq, pi, pt, pd⟩]; exact decide_eq_true hr)
                              have t0 : (pe != e0) = false := by simp [q1]
                              have t1 : (pi != (k : Int)) = false := by simp [q2]
                              have t2 : (pt != (n : Int)) = false := by simp [q3]
                              have t3 : (psq - (k : Int) != s0q) = false := by simp [q4]
                              have t4 : ((nu : Int) != sz) = true := by rw [bne_iff_ne]; exact q5
                              have hws : IntKind.i64.wrap (psq - (k : Int)) = psq - (k : Int) := by rw [IntKind.wrap_i64]; omega
                              have hno : ¬ RC n e0 s0q Sn k ⟨pe, psq, pi, pt, pd⟩ := fun hp => q5 (by rw [← hnu, HSZ.out]; exact hp.2.2.2.2.2.1)
                              have HNO := Lib.hid (JN.out.2 k _ HX.out hno)
                              clear hno
                              clear q1 q2 q3 q4
                              go_wp2_with (first
                                | refine wpList_load_mid rfl 114 (.tmp 44) rfl g (k * 5) rfl (partCells ⟨pe, psq, pi, pt, pd⟩ (.slice Au nu cu)) _ HRG.out hus rfl hib ?_
                                | refine wpList_store_new rfl 114 (.tmp 7) (.tmp 45) rfl rfl (partCells ⟨pe, psq, pi, pt, pd⟩ (.slice Au nu cu)) rfl rfl (by show Z.toArray.size = _; rw [List.size_toArray, HZL.out]; rfl) hib (fun u hu => by simp at hu; rcases hu with rfl | rfl | rfl | rfl | rfl <;> rfl) ?_; intro w2 hr2 hb2 hs2; have HR2 := Lib.hid hr2; have HB2 := Lib.hid hb2; clear hr2 hb2 hs2)
                              obtain ⟨w2b, hw2b⟩ : ∃ w2b, wo.heap.size = w2b := ⟨_, rfl⟩
                              have HSK := Lib.hid (skFacts (w2b := w2b) HR2.out hw2b HG.out.1 HG.out.2 HB2.out HGL.out)
                              rw [hw2b]
                              clear hw2b
                              refine wp_region_mix [(true, 0), (false, 1), (true, 2), (true, 3), (true, 4), (true, 5), (true, 6), (true, 7), (true, 8), (true, 9), (true, 10), (true, 11), (true, 12), (true, 13), (true, 14), (true, 15), (true, 16), (true, 17), (true, 18), (true, 19), (true, 20), (true, 21), (true, 22), (true, 23), (true, 24), (true, 25), (true, 26), (true, 27), (true, 28), (true, 29), (true, 30), (true, 31), (true, 32), (true, 33), (true, 34), (true, 35), (true, 36), (true, 37), (true, 38), (true, 39), (true, 40), (true, 41), (true, 42), (true, 43), (true, 44), (true, 45), (true, 46), (true, 47), (true, 48), (true, 49), (true, 50), (true, 51)] 52 (fun w' => w'.cell? ⟨w2b, 0, none⟩ = some (.int .i64 pe) ∧ w'.cell? ⟨w2b, 1, none⟩ = some (.int .i64 psq) ∧ w'.cell? ⟨w2b, 2, none⟩ = some (.int .i64 pi) ∧ w'.cell? ⟨w2b, 3, none⟩ = some (.int .i64 pt) ∧ w'.cell? ⟨w2b, 4, none⟩ = some (.slice Au nu cu) ∧ w'.cell? ⟨g, 0, none⟩ = some (.int .i64 e0) ∧ w'.cell? ⟨g, 1, none⟩ = some (.int .i64 s0q)) (by kernel_rfl) (by kernel_rfl) (by rintro _ ⟨_, _⟩ ⟨_, _⟩ _ rfl h; exact h) (HSK.out _ (Below.refl _ _).drew) ?_
                              simp only [pickM, List.getElem?_cons_succ, List.getElem?_cons_zero]
                              (refine wpMix_take (v := ?_) ?_ ?_; rotate_left; · (first | (refine Or.inr ⟨by rfl, by rfl⟩) | (refine Or.inl ⟨by rfl, ?_⟩; intro w' hSw; obtain ⟨s0, s1, s2, s3, s4, s5, s6⟩ := hSw; go_simp; (try with_reducible rfl))))
                              (try simp only [Act.put, List.setIfInBounds_toArray, List.set_cons_zero, List.set_cons_succ])
                              refine wpMix_do rfl fun K hK => ?_
                              go_simp
                              have hrt := refIs_any pe psq pi pt Au nu cu w2.drew
                              rw [HRT.out] at hrt
                              refine hrt.mono ?_
                              rintro e w3 ⟨rfl, hb3⟩
                              have hb3' : Below w2.heap.size w2 w3 := (Below.refl _ _).drew.trans hb3
                              refine hK.out _ _ (fun _ => HSK.out _ hb3') ?_
                              clear hK K hrt
                              (try simp only [Act.put, List.setIfInBounds_toArray, List.set_cons_zero, List.set_cons_succ])
                              iterate 50 ((refine wpMix_take (v := ?_) ?_ ?_; rotate_left; · (first | (refine Or.inr ⟨by rfl, by rfl⟩) | (refine Or.inl ⟨by rfl, ?_⟩; intro w' hSw; obtain ⟨s0, s1, s2, s3, s4, s5, s6⟩ := hSw; go_simp; (try with_reducible rfl)))); (try simp only [Act.put, List.setIfInBounds_toArray, List.set_cons_zero, List.set_cons_succ]))
                              refine wpMix_nil ?_
                              clear HSK
                              go_wp2_with fail
                              go_ret2
                              exact .inr ⟨HNO.out, rfl, HB.out.trans ((below_then HB2.out hb3').mono HB.out.size)⟩
                        · as_aux_lemma =>
                            have HRT := Lib.hid (show rightN pe psq pi pt nu = true from by rw [← hnu, rightN_eq ⟨pe, psq, pi, pt, pd⟩]; exact decide_eq_true hr)
                            have t0 : (pe != e0) = false := by simp [q1]
                            have t1 : (pi != (k : Int)) = false := by simp [q2]
                            have t2 : (pt != (n : Int)) = false := by simp [q3]
                            have t3 : (psq - (k : Int) != s0q) = true := by rw [bne_iff_ne]; exact q4
                            have hws : IntKind.i64.wrap (psq - (k : Int)) = psq - (k : Int) := by rw [IntKind.wrap_i64]; omega
                            have hno : ¬ RC n e0 s0q Sn k ⟨pe, psq, pi, pt, pd⟩ := fun hp => q4 hp.2.2.2.2.1
                            have HNO := Lib.hid (JN.out.2 k _ HX.out hno)
                            clear hno
                            clear q1 q2 q3
                            go_wp2_with (first
                              | refine wpList_load_mid rfl 114 (.tmp 44) rfl g (k * 5) rfl (partCells ⟨pe, psq, pi, pt, pd⟩ (.slice Au nu cu)) _ HRG.out hus rfl hib ?_
                              | refine wpList_store_new rfl 114 (.tmp 7) (.tmp 45) rfl rfl (partCells ⟨pe, psq, pi, pt, pd⟩ (.slice Au nu cu)) rfl rfl (by show Z.toArray.size = _; rw [List.size_toArray, HZL.out]; rfl) hib (fun u hu => by simp at hu; rcases hu with rfl | rfl | rfl | rfl | rfl <;> rfl) ?_; intro w2 hr2 hb2 hs2; have HR2 := Lib.hid hr2; have HB2 := Lib.hid hb2; clear hr2 hb2 hs2)
                            obtain ⟨w2b, hw2b⟩ : ∃ w2b, wo.heap.size = w2b := ⟨_, rfl⟩
                            have HSK := Lib.hid (skFacts (w2b := w2b) HR2.out hw2b HG.out.1 HG.out.2 HB2.out HGL.out)
                            rw [hw2b]
                            clear hw2b
                            refine wp_region_mix [(true, 0), (false, 1), (true, 2), (true, 3), (true, 4), (true, 5), (true, 6), (true, 7), (true, 8), (true, 9), (true, 10), (true, 11), (true, 12), (true, 13), (true, 14), (true, 15), (true, 16), (true, 17), (true, 18), (true, 19), (true, 20), (true, 21), (true, 22), (true, 23), (true, 24), (true, 25), (true, 26), (true, 27), (true, 28), (true, 29), (true, 30), (true, 31), (true, 32), (true, 33), (true, 34), (true, 35), (true, 36), (true, 37), (true, 38), (true, 39), (true, 40), (true, 41), (true, 42), (true, 43), (true, 44), (true, 45), (true, 46), (true, 47), (true, 48), (true, 49), (true, 50), (true, 51)] 52 (fun w' => w'.cell? ⟨w2b, 0, none⟩ = some (.int .i64 pe) ∧ w'.cell? ⟨w2b, 1, none⟩ = some (.int .i64 psq) ∧ w'.cell? ⟨w2b, 2, none⟩ = some (.int .i64 pi) ∧ w'.cell? ⟨w2b, 3, none⟩ = some (.int .i64 pt) ∧ w'.cell? ⟨w2b, 4, none⟩ = some (.slice Au nu cu) ∧ w'.cell? ⟨g, 0, none⟩ = some (.int .i64 e0) ∧ w'.cell? ⟨g, 1, none⟩ = some (.int .i64 s0q)) (by kernel_rfl) (by kernel_rfl) (by rintro _ ⟨_, _⟩ ⟨_, _⟩ _ rfl h; exact h) (HSK.out _ (Below.refl _ _).drew) ?_
                            simp only [pickM, List.getElem?_cons_succ, List.getElem?_cons_zero]
                            (refine wpMix_take (v := ?_) ?_ ?_; rotate_left; · (first | (refine Or.inr ⟨by rfl, by rfl⟩) | (refine Or.inl ⟨by rfl, ?_⟩; intro w' hSw; obtain ⟨s0, s1, s2, s3, s4, s5, s6⟩ := hSw; go_simp; (try with_reducible rfl))))
                            (try simp only [Act.put, List.setIfInBounds_toArray, List.set_cons_zero, List.set_cons_succ])
                            refine wpMix_do rfl fun K hK => ?_
                            go_simp
                            have hrt := refIs_any pe psq pi pt Au nu cu w2.drew
                            rw [HRT.out] at hrt
                            refine hrt.mono ?_
                            rintro e w3 ⟨rfl, hb3⟩
                            have hb3' : Below w2.heap.size w2 w3 := (Below.refl _ _).drew.trans hb3
                            refine hK.out _ _ (fun _ => HSK.out _ hb3') ?_
                            clear hK K hrt
                            (try simp only [Act.put, List.setIfInBounds_toArray, List.set_cons_zero, List.set_cons_succ])
                            iterate 50 ((refine wpMix_take (v := ?_) ?_ ?_; rotate_left; · (first | (refine Or.inr ⟨by rfl, by rfl⟩) | (refine Or.inl ⟨by rfl, ?_⟩; intro w' hSw; obtain ⟨s0, s1, s2, s3, s4, s5, s6⟩ := hSw; go_simp; (try with_reducible rfl)))); (try simp only [Act.put, List.setIfInBounds_toArray, List.set_cons_zero, List.set_cons_succ]))
                            refine wpMix_nil ?_
                            clear HSK
                            go_wp2_with fail
                            go_ret2
                            exact .inr ⟨HNO.out, rfl, HB.out.trans ((below_then HB2.out hb3').mono HB.out.size)⟩
                      · as_aux_lemma =>
                          have HRT := Lib.hid (show rightN pe psq pi pt nu = true from by rw [← hnu, rightN_eq ⟨pe, psq, pi, pt, pd⟩]; exact decide_eq_true hr)
                          have t0 : (pe != e0) = false := by simp [q1]
                          have t1 : (pi != (k : Int)) = false := by simp [q2]
                          have t2 : (pt != (n : Int)) = true := by rw [bne_iff_ne]; exact q3
                          have hno : ¬ RC n e0 s0q Sn k ⟨pe, psq, pi, pt, pd⟩ := fun hp => q3 hp.2.2.2.1
                          have HNO := Lib.hid (JN.out.2 k _ HX.out hno)
                          clear hno
                          clear q1 q2
                          go_wp2_with (first
                            | refine wpList_load_mid rfl 114 (.tmp 44) rfl g (k * 5) rfl (partCells ⟨pe, psq, pi, pt, pd⟩ (.slice Au nu cu)) _ HRG.out hus rfl hib ?_
                            | refine wpList_store_new rfl 114 (.tmp 7) (.tmp 45) rfl rfl (partCells ⟨pe, psq, pi, pt, pd⟩ (.slice Au nu cu)) rfl rfl (by show Z.toArray.size = _; rw [List.size_toArray, HZL.out]; rfl) hib (fun u hu => by simp at hu; rcases hu with rfl | rfl | rfl | rfl | rfl <;> rfl) ?_; intro w2 hr2 hb2 hs2; have HR2 := Lib.hid hr2; have HB2 := Lib.hid hb2; clear hr2 hb2 hs2)
                          obtain ⟨w2b, hw2b⟩ : ∃ w2b, wo.heap.size = w2b := ⟨_, rfl⟩
                          have HSK := Lib.hid (skFacts (w2b := w2b) HR2.out hw2b HG.out.1 HG.out.2 HB2.out HGL.out)
                          rw [hw2b]
                          clear hw2b
                          refine wp_region_mix [(true, 0), (false, 1), (true, 2), (true, 3), (true, 4), (true, 5), (true, 6), (true, 7), (true, 8), (true, 9), (true, 10), (true, 11), (true, 12), (true, 13), (true, 14), (true, 15), (true, 16), (true, 17), (true, 18), (true, 19), (true, 20), (true, 21), (true, 22), (true, 23), (true, 24), (true, 25), (true, 26), (true, 27), (true, 28), (true, 29), (true, 30), (true, 31), (true, 32), (true, 33), (true, 34), (true, 35), (true, 36), (true, 37), (true, 38), (true, 39), (true, 40), (true, 41), (true, 42), (true, 43), (true, 44), (true, 45), (true, 46), (true, 47), (true, 48), (true, 49), (true, 50), (true, 51)] 52 (fun w' => w'.cell? ⟨w2b, 0, none⟩ = some (.int .i64 pe) ∧ w'.cell? ⟨w2b, 1, none⟩ = some (.int .i64 psq) ∧ w'.cell? ⟨w2b, 2, none⟩ = some (.int .i64 pi) ∧ w'.cell? ⟨w2b, 3, none⟩ = some (.int .i64 pt) ∧ w'.cell? ⟨w2b, 4, none⟩ = some (.slice Au nu cu) ∧ w'.cell? ⟨g, 0, none⟩ = some (.int .i64 e0) ∧ w'.cell? ⟨g, 1, none⟩ = some (.int .i64 s0q)) (by kernel_rfl) (by kernel_rfl) (by rintro _ ⟨_, _⟩ ⟨_, _⟩ _ rfl h; exact h) (HSK.out _ (Below.refl _ _).drew) ?_
                          simp only [pickM, List.getElem?_cons_succ, List.getElem?_cons_zero]
                          (refine wpMix_take (v := ?_) ?_ ?_; rotate_left; · (first | (refine Or.inr ⟨by rfl, by rfl⟩) | (refine Or.inl ⟨by rfl, ?_⟩; intro w' hSw; obtain ⟨s0, s1, s2, s3, s4, s5, s6⟩ := hSw; go_simp; (try with_reducible rfl))))
                          (try simp only [Act.put, List.setIfInBounds_toArray, List.set_cons_zero, List.set_cons_succ])
                          refine wpMix_do rfl fun K hK => ?_
                          go_simp
                          have hrt := refIs_any pe psq pi pt Au nu cu w2.drew
                          rw [HRT.out] at hrt
                          refine hrt.mono ?_
                          rintro e w3 ⟨rfl, hb3⟩
                          have hb3' : Below w2.heap.size w2 w3 := (Below.refl _ _).drew.trans hb3
                          refine hK.out _ _ (fun _ => HSK.out _ hb3') ?_
                          clear hK K hrt
                          (try simp only [Act.put, List.setIfInBounds_toArray, List.set_cons_zero, List.set_cons_succ])
                          iterate 50 ((refine wpMix_take (v := ?_) ?_ ?_; rotate_left; · (first | (refine Or.inr ⟨by rfl, by rfl⟩) | (refine Or.inl ⟨by rfl, ?_⟩; intro w' hSw; obtain ⟨s0, s1, s2, s3, s4, s5, s6⟩ := hSw; go_simp; (try with_reducible rfl)))); (try simp only [Act.put, List.setIfInBounds_toArray, List.set_cons_zero, List.set_cons_succ]))
                          refine wpMix_nil ?_
                          clear HSK
                          go_wp2_with fail
                          go_ret2
                          exact .inr ⟨HNO.out, rfl, HB.out.trans ((below_then HB2.out hb3').mono HB.out.size)⟩
                    · as_aux_lemma =>
                        have HRT := Lib.hid (show rightN pe psq pi pt nu = true from by rw [← hnu, rightN_eq ⟨pe, psq, pi, pt, pd⟩]; exact decide_eq_true hr)
                        have t0 : (pe != e0) = false := by simp [q1]
                        have t1 : (pi != (k : Int)) = true := by rw [bne_iff_ne]; exact q2
                        have hno : ¬ RC n e0 s0q Sn k ⟨pe, psq, pi, pt, pd⟩ := fun hp => q2 hp.2.2.1
                        have HNO := Lib.hid (JN.out.2 k _ HX.out hno)
                        clear hno
                        clear q1
                        go_wp2_with (first
                          | refine wpList_load_mid rfl 114 (.tmp 44) rfl g (k * 5) rfl (partCells ⟨pe, psq, pi, pt, pd⟩ (.slice Au nu cu)) _ HRG.out hus rfl hib ?_
                          | refine wpList_store_new rfl 114 (.tmp 7) (.tmp 45) rfl rfl (partCells ⟨pe, psq, pi, pt, pd⟩ (.slice Au nu cu)) rfl rfl (by show Z.toArray.size = _; rw [List.size_toArray, HZL.out]; rfl) hib (fun u hu => by simp at hu; rcases hu with rfl | rfl | rfl | rfl | rfl <;> rfl) ?_; intro w2 hr2 hb2 hs2; have HR2 := Lib.hid hr2; have HB2 := Lib.hid hb2; clear hr2 hb2 hs2)
                        obtain ⟨w2b, hw2b⟩ : ∃ w2b, wo.heap.size = w2b := ⟨_, rfl⟩
                        have HSK := Lib.hid (skFacts (w2b := w2b) HR2.out hw2b HG.out.1 HG.out.2 HB2.out HGL.out)
                        rw [hw2b]
                        clear hw2b
                        refine wp_region_mix [(true, 0), (false, 1), (true, 2), (true, 3), (true, 4), (true, 5), (true, 6), (true, 7), (true, 8), (true, 9), (true, 10), (true, 11), (true, 12), (true, 13), (true, 14), (true, 15), (true, 16), (true, 17), (true, 18), (true, 19), (true, 20), (true, 21), (true, 22), (true, 23), (true, 24), (true, 25), (true, 26), (true, 27), (true, 28), (true, 29), (true, 30), (true, 31), (true, 32), (true, 33), (true, 34), (true, 35), (true, 36), (true, 37), (true, 38), (true, 39), (true, 40), (true, 41), (true, 42), (true, 43), (true, 44), (true, 45), (true, 46), (true, 47), (true, 48), (true, 49), (true, 50), (true, 51)] 52 (fun w' => w'.cell? ⟨w2b, 0, none⟩ = some (.int .i64 pe) ∧ w'.cell? ⟨w2b, 1, none⟩ = some (.int .i64 psq) ∧ w'.cell? ⟨w2b, 2, none⟩ = some (.int .i64 pi) ∧ w'.cell? ⟨w2b, 3, none⟩ = some (.int .i64 pt) ∧ w'.cell? ⟨w2b, 4, none⟩ = some (.slice Au nu cu) ∧ w'.cell? ⟨g, 0, none⟩ = some (.int .i64 e0) ∧ w'.cell? ⟨g, 1, none⟩ = some (.int .i64 s0q)) (by kernel_rfl) (by kernel_rfl) (by rintro _ ⟨_, _⟩ ⟨_, _⟩ _ rfl h; exact h) (HSK.out _ (Below.refl _ _).drew) ?_
                        simp only [pickM, List.getElem?_cons_succ, List.getElem?_cons_zero]
                        (refine wpMix_take (v := ?_) ?_ ?_; rotate_left; · (first | (refine Or.inr ⟨by rfl, by rfl⟩) | (refine Or.inl ⟨by rfl, ?_⟩; intro w' hSw; obtain ⟨s0, s1, s2, s3, s4, s5, s6⟩ := hSw; go_simp; (try with_reducible rfl))))
                        (try simp only [Act.put, List.setIfInBounds_toArray, List.set_cons_zero, List.set_cons_succ])
                        refine wpMix_do rfl fun K hK => ?_
                        go_simp
                        have hrt := refIs_any pe psq pi pt Au nu cu w2.drew
                        rw [HRT.out] at hrt
                        refine hrt.mono ?_
                        rintro e w3 ⟨rfl, hb3⟩
                        have hb3' : Below w2.heap.size w2 w3 := (Below.refl _ _).drew.trans hb3
                        refine hK.out _ _ (fun _ => HSK.out _ hb3') ?_
                        clear hK K hrt
                        (try simp only [Act.put, List.setIfInBounds_toArray, List.set_cons_zero, List.set_cons_succ])
                        iterate 50 ((refine wpMix_take (v := ?_) ?_ ?_; rotate_left; · (first | (refine Or.inr ⟨by rfl, by rfl⟩) | (refine Or.inl ⟨by rfl, ?_⟩; intro w' hSw; obtain ⟨s0, s1, s2, s3, s4, s5, s6⟩ := hSw; go_simp; (try with_reducible rfl)))); (try simp only [Act.put, List.setIfInBounds_toArray, List.set_cons_zero, List.set_cons_succ]))
                        refine wpMix_nil ?_
                        clear HSK
                        go_wp2_with fail
                        go_ret2
                        exact .inr ⟨HNO.out, rfl, HB.out.trans ((below_then HB2.out hb3').mono HB.out.size)⟩
                  · as_aux_lemma =>
                      have HRT := Lib.hid (show rightN pe psq pi pt nu = true from by rw [← hnu, rightN_eq ⟨pe, psq, pi, pt, pd⟩]; exact decide_eq_true hr)
                      have t0 : (pe != e0) = true := by rw [bne_iff_ne]; exact q1
                      have hno : ¬ RC n e0 s0q Sn k ⟨pe, psq, pi, pt, pd⟩ := fun hp => q1 hp.2.1
                      have HNO := Lib.hid (JN.out.2 k _ HX.out hno)
                      clear hno
                      go_wp2_with (first
                        | refine wpList_load_mid rfl 114 (.tmp 44) rfl g (k * 5) rfl (partCells ⟨pe, psq, pi, pt, pd⟩ (.slice Au nu cu)) _ HRG.out hus rfl hib ?_
                        | refine wpList_store_new rfl 114 (.tmp 7) (.tmp 45) rfl rfl (partCells ⟨pe, psq, pi, pt, pd⟩ (.slice Au nu cu)) rfl rfl (by show Z.toArray.size = _; rw [List.size_toArray, HZL.out]; rfl) hib (fun u hu => by simp at hu; rcases hu with rfl | rfl | rfl | rfl | rfl <;> rfl) ?_; intro w2 hr2 hb2 hs2; have HR2 := Lib.hid hr2; have HB2 := Lib.hid hb2; clear hr2 hb2 hs2)
                      obtain ⟨w2b, hw2b⟩ : ∃ w2b, wo.heap.size = w2b := ⟨_, rfl⟩
                      have HSK := Lib.hid (skFacts (w2b := w2b) HR2.out hw2b HG.out.1 HG.out.2 HB2.out HGL.out)
                      rw [hw2b]
                      clear hw2b
                      refine wp_region_mix [(true, 0), (false, 1), (true, 2), (true, 3), (true, 4), (true, 5), (true, 6), (true, 7), (true, 8), (true, 9), (true, 10), (true, 11), (true, 12), (true, 13), (true, 14), (true, 15), (true, 16), (true, 17), (true, 18), (true, 19), (true, 20), (true, 21), (true, 22), (true, 23), (true, 24), (true, 25), (true, 26), (true, 27), (true, 28), (true, 29), (true, 30), (true, 31), (true, 32), (true, 33), (true, 34), (true, 35), (true, 36), (true, 37), (true, 38), (true, 39), (true, 40), (true, 41), (true, 42), (true, 43), (true, 44), (true, 45), (true, 46), (true, 47), (true, 48), (true, 49), (true, 50), (true, 51)] 52 (fun w' => w'.cell? ⟨w2b, 0, none⟩ = some (.int .i64 pe) ∧ w'.cell? ⟨w2b, 1, none⟩ = some (.int .i64 psq) ∧ w'.cell? ⟨w2b, 2, none⟩ = some (.int .i64 pi) ∧ w'.cell? ⟨w2b, 3, none⟩ = some (.int .i64 pt) ∧ w'.cell? ⟨w2b, 4, none⟩ = some (.slice Au nu cu) ∧ w'.cell? ⟨g, 0, none⟩ = some (.int .i64 e0) ∧ w'.cell? ⟨g, 1, none⟩ = some (.int .i64 s0q)) (by kernel_rfl) (by kernel_rfl) (by rintro _ ⟨_, _⟩ ⟨_, _⟩ _ rfl h; exact h) (HSK.out _ (Below.refl _ _).drew) ?_
                      simp only [pickM, List.getElem?_cons_succ, List.getElem?_cons_zero]
                      (refine wpMix_take (v := ?_) ?_ ?_; rotate_left; · (first | (refine Or.inr ⟨by rfl, by rfl⟩) | (refine Or.inl ⟨by rfl, ?_⟩; intro w' hSw; obtain ⟨s0, s1, s2, s3, s4, s5, s6⟩ := hSw; go_simp; (try with_reducible rfl))))
                      (try simp only [Act.put, List.setIfInBounds_toArray, List.set_cons_zero, List.set_cons_succ])
                      refine wpMix_do rfl fun K hK => ?_
                      go_simp
                      have hrt := refIs_any pe psq pi pt Au nu cu w2.drew
                      rw [HRT.out] at hrt
                      refine hrt.mono ?_
                      rintro e w3 ⟨rfl, hb3⟩
                      have hb3' : Below w2.heap.size w2 w3 := (Below.refl _ _).drew.trans hb3
                      refine hK.out _ _ (fun _ => HSK.out _ hb3') ?_
                      clear hK K hrt
                      (try simp only [Act.put, List.setIfInBounds_toArray, List.set_cons_zero, List.set_cons_succ])
                      iterate 50 ((refine wpMix_take (v := ?_) ?_ ?_; rotate_left; · (first | (refine Or.inr ⟨by rfl, by rfl⟩) | (refine Or.inl ⟨by rfl, ?_⟩; intro w' hSw; obtain ⟨s0, s1, s2, s3, s4, s5, s6⟩ := hSw; go_simp; (try with_reducible rfl)))); (try simp only [Act.put, List.setIfInBounds_toArray, List.set_cons_zero, List.set_cons_succ]))
                      refine wpMix_nil ?_
                      clear HSK
                      go_wp2_with fail
                      go_ret2
                      exact .inr ⟨HNO.out, rfl, HB.out.trans ((below_then HB2.out hb3').mono HB.out.size)⟩
                · as_aux_lemma =>
                    have HRT := Lib.hid (show rightN pe psq pi pt nu = false from by rw [← hnu, rightN_eq ⟨pe, psq, pi, pt, pd⟩]; exact decide_eq_false hr)
                    have hno : ¬ RC n e0 s0q Sn k ⟨pe, psq, pi, pt, pd⟩ := fun hp => hr hp.1
                    have HNO := Lib.hid (JN.out.2 k _ HX.out hno)
                    clear hno
                    go_wp2_with (first
                      | refine wpList_load_mid rfl 114 (.tmp 44) rfl g (k * 5) rfl (partCells ⟨pe, psq, pi, pt, pd⟩ (.slice Au nu cu)) _ HRG.out hus rfl hib ?_
                      | refine wpList_store_new rfl 114 (.tmp 7) (.tmp 45) rfl rfl (partCells ⟨pe, psq, pi, pt, pd⟩ (.slice Au nu cu)) rfl rfl (by show Z.toArray.size = _; rw [List.size_toArray, HZL.out]; rfl) hib (fun u hu => by simp at hu; rcases hu with rfl | rfl | rfl | rfl | rfl <;> rfl) ?_; intro w2 hr2 hb2 hs2; have HR2 := Lib.hid hr2; have HB2 := Lib.hid hb2; clear hr2 hb2 hs2)
                    obtain ⟨w2b, hw2b⟩ : ∃ w2b, wo.heap.size = w2b := ⟨_, rfl⟩
                    have HSK := Lib.hid (skFacts (w2b := w2b) HR2.out hw2b HG.out.1 HG.out.2 HB2.out HGL.out)
                    rw [hw2b]
                    clear hw2b
                    refine wp_region_mix [(true, 0), (false, 1), (true, 2), (true, 3), (true, 4), (true, 5), (true, 6), (true, 7), (true, 8), (true, 9), (true, 10), (true, 11), (true, 12), (true, 13), (true, 14), (true, 15), (true, 16), (true, 17), (true, 18), (true, 19), (true, 20), (true, 21), (true, 22), (true, 23), (true, 24), (true, 25), (true, 26), (true, 27), (true, 28), (true, 29), (true, 30), (true, 31), (true, 32), (true, 33), (true, 34), (true, 35), (true, 36), (true, 37), (true, 38), (true, 39), (true, 40), (true, 41), (true, 42), (true, 43), (true, 44), (true, 45), (true, 46), (true, 47), (true, 48), (true, 49), (true, 50), (true, 51)] 52 (fun w' => w'.cell? ⟨w2b, 0, none⟩ = some (.int .i64 pe) ∧ w'.cell? ⟨w2b, 1, none⟩ = some (.int .i64 psq) ∧ w'.cell? ⟨w2b, 2, none⟩ = some (.int .i64 pi) ∧ w'.cell? ⟨w2b, 3, none⟩ = some (.int .i64 pt) ∧ w'.cell? ⟨w2b, 4, none⟩ = some (.slice Au nu cu) ∧ w'.cell? ⟨g, 0, none⟩ = some (.int .i64 e0) ∧ w'.cell? ⟨g, 1, none⟩ = some (.int .i64 s0q)) (by kernel_rfl) (by kernel_rfl) (by rintro _ ⟨_, _⟩ ⟨_, _⟩ _ rfl h; exact h) (HSK.out _ (Below.refl _ _).drew) ?_
                    simp only [pickM, List.getElem?_cons_succ, List.getElem?_cons_zero]
                    (refine wpMix_take (v := ?_) ?_ ?_; rotate_left; · (first | (refine Or.inr ⟨by rfl, by rfl⟩) | (refine Or.inl ⟨by rfl, ?_⟩; intro w' hSw; obtain ⟨s0, s1, s2, s3, s4, s5, s6⟩ := hSw; go_simp; (try with_reducible rfl))))
                    (try simp only [Act.put, List.setIfInBounds_toArray, List.set_cons_zero, List.set_cons_succ])
                    refine wpMix_do rfl fun K hK => ?_
                    go_simp
                    have hrt := refIs_any pe psq pi pt Au nu cu w2.drew
                    rw [HRT.out] at hrt
                    refine hrt.mono ?_
                    rintro e w3 ⟨rfl, hb3⟩
                    have hb3' : Below w2.heap.size w2 w3 := (Below.refl _ _).drew.trans hb3
                    refine hK.out _ _ (fun _ => HSK.out _ hb3') ?_
                    clear hK K hrt
                    (try simp only [Act.put, List.setIfInBounds_toArray, List.set_cons_zero, List.set_cons_succ])
                    iterate 50 ((refine wpMix_take (v := ?_) ?_ ?_; rotate_left; · (first | (refine Or.inr ⟨by rfl, by rfl⟩) | (refine Or.inl ⟨by rfl, ?_⟩; intro w' hSw; obtain ⟨s0, s1, s2, s3, s4, s5, s6⟩ := hSw; go_simp; (try with_reducible rfl)))); (try simp only [Act.put, List.setIfInBounds_toArray, List.set_cons_zero, List.set_cons_succ]))
                    refine wpMix_nil ?_
                    clear HSK
                    go_wp2_with fail
                    go_ret2
                    exact .inr ⟨HNO.out, rfl, HB.out.trans ((below_then HB2.out hb3').mono HB.out.size)⟩
            · obtain rfl : k = n := by omega
              have HJ := Lib.hid (JN.out.1 (fun j p hj => HFT.out j p (by have := (List.getElem?_eq_some_iff.1 hj).1; have := HN.out; omega) hj) hn1)
              have hfl : L.flatMap (fun p => p.data.take 38) = L.flatMap (·.data) := flat_right (fun p hp => by
                obtain ⟨j, hj⟩ := List.getElem?_of_mem hp
                exact (HFT.out j p (by have := (List.getElem?_eq_some_iff.1 hj).1; have := HN.out; omega) hj).1.2.2.2.2.2.2.2.2)
              rw [hfl] at HOI
              clear hfl
              go_wp2_with fail
              go_ret2
              exact .inl ⟨_, _, HJ.out, rfl, HOI.out.below HBW.out, HB'.out⟩
        · have his := refIs_any pe0 ps0 pi0 pt0 Au0 nu0 cu0 w1
          have hrt0 : rightN pe0 ps0 pi0 pt0 nu0 = false := by rw [← hnu0, rightN_eq ⟨pe0, ps0, pi0, pt0, pd0⟩]; exact decide_eq_false hr0
          rw [hrt0] at his
          have HIS := Lib.hid his
          have HNO := Lib.hid (JN.out.2 0 _ HX0.out (fun hp => hr0 hp.1))
          clear his hrt0 hnu0 hr0
          go_wp2_with (first
            | refine wpList_load_mid rfl 114 (.tmp 27) rfl g 0 rfl (partCells ⟨pe0, ps0, pi0, pt0, pd0⟩ (.slice Au0 nu0 cu0)) _ HRG0.out hus rfl hib ?_)
          refine HIS.out.mono ?_
          rintro e w1i ⟨rfl, hb1⟩
          have HBI := Lib.hid (below_then HB.out hb1)
          clear hb1 HIS
          go_wp2_with fail
          go_ret2
          exact .inr ⟨HNO.out, rfl, HBI.out⟩
  · obtain rfl : n = 0 := by omega
    have HJ := Lib.hid (J0.out rfl)
    go_enter Tryd.func82, Tryd.ntmps82
    go_wp2_with fail
    go_ret2
    exact .inr ⟨HJ.out, rfl, Below.refl _ _⟩
end Go.Proofs.YtckihiiimomgfaaDoor
