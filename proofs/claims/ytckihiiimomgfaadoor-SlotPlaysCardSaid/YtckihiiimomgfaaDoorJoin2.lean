/- The contract of stamp.Join. Printed by gen_join.py. -/
import Derived.Test.YtckihiiimomgfaaDoorJoin
namespace Go.Proofs.YtckihiiimomgfaaDoor
open Go.RowKit
theorem joinFrom_all (n : Nat) (e s : Int) : ∀ (l : List StampMath.Part) (i : Nat), (∀ (j : Nat) p, l[j]? = some p → StampMath.fits n e s (i + j) p) → StampMath.joinFrom n e s i l = some (l.flatMap (·.data))
  | [], _, _ => rfl
  | p :: l, i, h => by
    have h0 := h 0 p rfl
    have h1 := joinFrom_all n e s l (i + 1) (fun j q hj => by have := h (j + 1) q (by simpa using hj); rwa [show i + (j + 1) = i + 1 + j by omega] at this)
    simp only [StampMath.joinFrom]
    rw [if_pos (by simpa using h0), h1]
    rfl
theorem joinFrom_none (n : Nat) (e s : Int) : ∀ (l : List StampMath.Part) (i j : Nat) (p : StampMath.Part), l[j]? = some p → ¬ StampMath.fits n e s (i + j) p → StampMath.joinFrom n e s i l = none
  | [], _, _, _, h, _ => by simp at h
  | q :: l, i, 0, p, h, hn => by
    simp at h
    subst h
    simp only [StampMath.joinFrom]
    rw [if_neg (by simpa using hn)]
  | q :: l, i, j + 1, p, h, hn => by
    have h1 := joinFrom_none n e s l (i + 1) j p (by simpa using h) (by rwa [show i + 1 + j = i + (j + 1) by omega])
    simp only [StampMath.joinFrom]
    split
    · rw [h1]; rfl
    · rfl
def JoinPost (L : List StampMath.Part) (w : World) (e : Ending) (w' : World) : Prop :=
  (∃ b v, StampMath.join L = some b ∧ e = .returned (.tuple #[v, .int .i64 0]) ∧ Own8 w' w.heap.size v b ∧ Below w.heap.size w w') ∨ (StampMath.join L = none ∧ e = .returned (.tuple #[.slice none 0 0, .int .i64 4]) ∧ Below w.heap.size w w')
def JnRel (w : World) (n : Nat) (e s : Int) (L : List StampMath.Part) (v i : Value) (wr : World) : Prop :=
  ∃ k : Nat, k ≤ n ∧ i = .int .i64 (k : Int) ∧ Own8 wr w.heap.size v ((L.take k).flatMap (·.data)) ∧ (∀ (j : Nat) p, (L.take k)[j]? = some p → StampMath.fits n e s j p) ∧ ((L.take k).flatMap (·.data)).length ≤ 38 * k ∧ Below w.heap.size w wr
theorem skFacts {wo w2 : World} {g w2b : Nat} {pe psq pi pt e0 s0q : Int} {pd : List UInt8} {u : Value} {T : TypeId} (hr : RowV w2 wo.heap.size T (partCells ⟨pe, psq, pi, pt, pd⟩ u)) (hw : wo.heap.size = w2b) (h0 : wo.cell? ⟨g, 0, none⟩ = some (.int .i64 e0)) (h1 : wo.cell? ⟨g, 1, none⟩ = some (.int .i64 s0q)) (hb : Below wo.heap.size wo w2) (hg : g < wo.heap.size) :
    ∀ w' : World, Below w2.heap.size w2 w' → w'.cell? ⟨w2b, 0, none⟩ = some (.int .i64 pe) ∧ w'.cell? ⟨w2b, 1, none⟩ = some (.int .i64 psq) ∧ w'.cell? ⟨w2b, 2, none⟩ = some (.int .i64 pi) ∧ w'.cell? ⟨w2b, 3, none⟩ = some (.int .i64 pt) ∧ w'.cell? ⟨w2b, 4, none⟩ = some u ∧ w'.cell? ⟨g, 0, none⟩ = some (.int .i64 e0) ∧ w'.cell? ⟨g, 1, none⟩ = some (.int .i64 s0q) := fun w' hb' => by
  have hr' := hr.below hb'
  have hb2 := below_then hb hb'
  subst hw
  refine ⟨by rw [hr'.cell]; rfl, by rw [hr'.cell]; rfl, by rw [hr'.cell]; rfl, by rw [hr'.cell]; rfl, by rw [hr'.cell]; rfl, (hb2.cell (p := ⟨g, 0, none⟩) hg).trans h0, (hb2.cell (p := ⟨g, 1, none⟩) hg).trans h1⟩
theorem info_part_zero : ∃ Z : List Value, Z.length = 5 ∧ ∀ w : World, (zeroValue 130).run Tryd.prog w = .ok (.agg Z.toArray) w := ⟨[.int .i64 0, .int .i64 0, .int .i64 0, .int .i64 0, .slice none 0 0], rfl, fun w => by kernel_rfl⟩
set_option maxRecDepth 100000 in
set_option maxHeartbeats 100000000 in
theorem join_any (A : Option Addr) (n c : Nat) (L : List StampMath.Part) (G : Nat → Prop) (w : World) (hn : L.length = n) (hn0 : n ≤ 65535) (hr : PRow w 130 G (.slice A n c) L) :
    Calls Tryd.prog 70 #[.slice A n c] w (JoinPost L w) := by
  obtain ⟨e0, s0q, hes⟩ : ∃ e0 s0q : Int, ∀ p, L[0]? = some p → p.epoch = e0 ∧ p.seq = s0q := by
    cases hL : L[0]? with
    | none => exact ⟨0, 0, fun p h => by cases h⟩
    | some p => exact ⟨p.epoch, p.seq, fun q h => by injection h with h; subst h; exact ⟨rfl, rfl⟩⟩
  have hj1 : (∀ (j : Nat) p, L[j]? = some p → StampMath.fits n e0 s0q j p) → 0 < n → StampMath.join L = some (L.flatMap (·.data)) := fun h h0 => by
    cases L with
    | nil => simp at hn; omega
    | cons p L =>
      unfold StampMath.join
      obtain ⟨h1, h2⟩ := hes p rfl
      simp only [h1, h2]
      rw [hn]
      exact joinFrom_all n e0 s0q (p :: L) 0 (fun j q hj => by rw [Nat.zero_add]; exact h j q hj)
  have hj2 : ∀ (j : Nat) p, L[j]? = some p → ¬ StampMath.fits n e0 s0q j p → StampMath.join L = none := fun j p hj hno => by
    cases L with
    | nil => simp at hj
    | cons q L =>
      unfold StampMath.join
      obtain ⟨h1, h2⟩ := hes q rfl
      simp only [h1, h2]
      rw [hn]
      exact joinFrom_none n e0 s0q (q :: L) 0 j p hj (by rwa [Nat.zero_add])
  have hj0 : n = 0 → StampMath.join L = none := fun h => by
    have : L = [] := List.length_eq_zero_iff.1 (by omega)
    rw [this]; rfl
  have JN := Lib.hid (show _ ∧ _ from ⟨hj1, hj2⟩)
  have J0 := Lib.hid hj0
  have HES := Lib.hid hes
  have HR := Lib.hid hr
  have HN := Lib.hid hn
  obtain ⟨i0, hi0, hz0, hz1, hz2⟩ := info_parts info_u8
  clear hj1 hj2 hj0 hes hr hn
  go_enter Tryd.func70, Tryd.ntmps70
  go_wp2_with fail
  go_loopw [4, 9] (fun v i wr => JnRel w n e0 s0q L v i wr) (fun _ i _ => n - (intOf i).toNat)
  case atStart => exact ⟨0, Nat.zero_le _, rfl, Own8.nil _ _, fun j p hj => by simp at hj, by simp, Below.refl _ _⟩
  case round =>
    obtain ⟨k, hk, rfl, ho, hft, hlen, hb⟩ := hrel
    obtain ⟨wo, rfl⟩ : ∃ wo : World, wo = wr := ⟨_, rfl⟩
    obtain ⟨A4, n4, c4, rfl, hn4, _, _⟩ := ho.shape'
    have HO := Lib.hid ho
    have HFT := Lib.hid hft
    have HB := Lib.hid hb
    have hsz := hb.size
    have HN4 := Lib.hid hn4
    have HLEN := Lib.hid hlen
    clear ho hft hb hn4 hlen
    by_cases hlt : k < n
    · obtain ⟨p, hx⟩ : ∃ p, L[k]? = some p := ⟨_, List.getElem?_eq_getElem (by have := HN.out; omega)⟩
      obtain ⟨p0, hx0⟩ : ∃ p, L[0]? = some p := ⟨_, List.getElem?_eq_getElem (by have := HN.out; omega)⟩
      obtain ⟨g, c', u, hv, _, hgl, _, hrg, hou, _⟩ := (HR.out.below HB.out).at_ hx
      obtain ⟨g', c'', u0, hv', _, _, _, hrg0, _, _⟩ := (HR.out.below HB.out).at_ hx0
      rw [hv] at hv'
      injection hv' with e1 e2 e3
      injection e1 with e1
      injection e1 with e1
      subst e1
      injection hv with e4 e5 e6
      subst e4 e6
      obtain ⟨he0, hs0⟩ := HES.out p0 hx0
      have hg0 : wo.cell? ⟨g, 0, none⟩ = some (.int .i64 e0) := by have := hrg0 0 _ rfl; rw [he0] at this; simpa using this
      have hg1 : wo.cell? ⟨g, 1, none⟩ = some (.int .i64 s0q) := by have := hrg0 1 _ rfl; rw [hs0] at this; simpa using this
      have hsb : 0 < k → 0 ≤ s0q ∧ s0q ≤ 4294967295 := fun h0 => by
        have := (HFT.out 0 p0 (by rw [List.getElem?_take_of_lt h0]; exact hx0)).1
        rw [← hs0]; exact ⟨this.2.2.1, this.2.2.2.1⟩
      have hsb0 : k = 0 → p.seq = s0q := fun h => by subst h; rw [hx] at hx0; injection hx0 with hx0; rw [hx0]; exact hs0
      obtain ⟨pe, psq, pi, pt, pd⟩ := p
      simp only at hou hsb0
      obtain ⟨Au, nu, cu, rfl, hnu, hcu, _⟩ := hou.shape'
      obtain ⟨Z, hZl, hzv⟩ := info_part_zero
      have HZL := Lib.hid hZl
      have hus := Tryd.underlying130
      have hib : (Tryd.prog.info? 130).map (·.size) = some (partCells ⟨pe, psq, pi, pt, pd⟩ (.slice Au nu cu)).length := by kernel_rfl
      have HRG := Lib.hid hrg
      have HG := Lib.hid (show _ ∧ _ from ⟨hg0, hg1⟩)
      have HGL := Lib.hid hgl
      have HX := Lib.hid hx
      have HOU := Lib.hid hou
      clear hrg hrg0 hx hx0 hg0 hg1 hou hZl he0 hs0 e2 e3 e5 hgl
      by_cases hr : StampMath.right ⟨pe, psq, pi, pt, pd⟩
      · have hb := hr
        obtain ⟨b1, b2, b3, b4, b5, b6, b7, b8, b9⟩ := hb
        simp only at b1 b2 b3 b4 b5 b6 b7 b8 b9
        have hs0b : 0 ≤ s0q ∧ s0q ≤ 4294967295 := by
          rcases Nat.eq_zero_or_pos k with h | h
          · rw [← hsb0 h]; exact ⟨b3, b4⟩
          · exact hsb h
        obtain ⟨sb1, sb2⟩ := hs0b
        have hn1 : 0 < n := by omega
        have hwr : IntKind.i64.wrap (s0q + (k : Int)) = s0q + (k : Int) := by rw [IntKind.wrap_i64]; omega
        clear hsb hsb0
        by_cases q0 : pt = (n : Int)
        · by_cases q1 : pi = (k : Int)
          · by_cases q2 : pe = e0
            · by_cases q3 : psq = s0q + (k : Int)
              · by_cases hf : StampMath.full ⟨pe, psq, pi, pt, pd⟩
                · as_aux_lemma =>
                    have t0 : (pt != (n : Int)) = false := by simp [q0]
                    have t1 : (pi != (k : Int)) = false := by simp [q1]
                    have t2 : (pe != e0) = false := by simp [q2]
                    have t3 : (psq != s0q + (k : Int)) = false := by simp [q3]
                    have HRT := Lib.hid (show rightN pe psq pi pt nu = true from by rw [← hnu, rightN_eq ⟨pe, psq, pi, pt, pd⟩]; exact decide_eq_true hr)
                    have HFL := Lib.hid (show fullN pi pt nu = true from by rw [← hnu, fullN_eq ⟨pe, psq, pi, pt, pd⟩]; exact decide_eq_true hf)
                    have hfit : StampMath.fits n e0 s0q k ⟨pe, psq, pi, pt, pd⟩ := ⟨hr, q0, q1, q2, q3, hf⟩
                    have HFIT := Lib.hid hfit
                    clear hfit hr hf q0 q1 q2 q3
                    go_wp2_with (first
                      | refine wpList_load_mid rfl 130 (.tmp 12) rfl g (k * 5) rfl (partCells ⟨pe, psq, pi, pt, pd⟩ (.slice Au nu cu)) _ HRG.out hus rfl hib ?_
                      | refine wpList_store_new rfl 130 (.tmp 6) (.tmp 13) rfl rfl (partCells ⟨pe, psq, pi, pt, pd⟩ (.slice Au nu cu)) rfl rfl (by show Z.toArray.size = _; rw [List.size_toArray, HZL.out]; rfl) hib (fun u hu => by simp at hu; rcases hu with rfl | rfl | rfl | rfl | rfl <;> rfl) ?_; intro w2 hr2 hb2 hs2; have HR2 := Lib.hid hr2; have HB2 := Lib.hid hb2; clear hr2 hb2)
                    obtain ⟨w2b, hw2b⟩ : ∃ w2b, wo.heap.size = w2b := ⟨_, rfl⟩
                    have HSK := Lib.hid (skFacts (w2b := w2b) HR2.out hw2b HG.out.1 HG.out.2 HB2.out HGL.out)
                    rw [hw2b]
                    clear hw2b
                    refine wp_region_mix [(true, 0), (false, 1), (true, 2), (true, 3), (true, 4), (true, 5), (true, 6), (true, 7), (true, 8), (true, 9), (true, 10), (true, 11), (true, 12), (true, 13), (true, 14), (true, 15), (true, 16), (true, 17), (true, 18), (true, 19), (true, 20), (true, 21), (true, 22), (true, 23), (true, 24), (true, 25), (true, 26), (true, 27), (true, 28), (true, 29), (true, 30), (true, 31), (true, 32), (true, 33), (true, 34), (true, 35), (true, 36), (true, 37), (false, 38), (true, 39), (true, 40)] 41 (fun w' => w'.cell? ⟨w2b, 0, none⟩ = some (.int .i64 pe) ∧ w'.cell? ⟨w2b, 1, none⟩ = some (.int .i64 psq) ∧ w'.cell? ⟨w2b, 2, none⟩ = some (.int .i64 pi) ∧ w'.cell? ⟨w2b, 3, none⟩ = some (.int .i64 pt) ∧ w'.cell? ⟨w2b, 4, none⟩ = some (.slice Au nu cu) ∧ w'.cell? ⟨g, 0, none⟩ = some (.int .i64 e0) ∧ w'.cell? ⟨g, 1, none⟩ = some (.int .i64 s0q)) (by kernel_rfl) (by kernel_rfl) (by rintro _ ⟨_, _⟩ ⟨_, _⟩ _ rfl h; exact h) (HSK.out _ (Below.refl _ _).drew) ?_
                    simp only [pickM, List.getElem?_cons_succ, List.getElem?_cons_zero]
                    iterate 1 (refine wpMix_take (v := ?_) ?_ ?_; rotate_left; · (first | (refine Or.inr ⟨by rfl, by rfl⟩) | (refine Or.inl ⟨by rfl, ?_⟩; intro w' hSw; obtain ⟨s0, s1, s2, s3, s4, s5, s6⟩ := hSw; go_simp; (try with_reducible rfl))))
                    (try simp only [Act.put, List.setIfInBounds_toArray, List.set_cons_zero, List.set_cons_succ])
                    refine wpMix_do rfl fun K hK => ?_
                    go_simp
                    have hrt := right_any pe psq pi pt Au nu cu w2.drew
                    rw [HRT.out] at hrt
                    refine hrt.mono ?_
                    rintro e w3 ⟨rfl, hb3⟩
                    have hb3' : Below w2.heap.size w2 w3 := (Below.refl _ _).drew.trans hb3
                    refine hK.out _ _ (fun _ => HSK.out _ hb3') ?_
                    clear hK K hrt
                    (try simp only [Act.put, List.setIfInBounds_toArray, List.set_cons_zero, List.set_cons_succ])
                    iterate 1 (refine wpMix_take (v := ?_) ?_ ?_; rotate_left; · (first | (refine Or.inr ⟨by rfl, by rfl⟩) | (refine Or.inl ⟨by rfl, ?_⟩; intro w' hSw; obtain ⟨s0, s1, s2, s3, s4, s5, s6⟩ := hSw; go_simp; (try with_reducible rfl))))
                    (try simp only [Act.put, List.setIfInBounds_toArray, List.set_cons_zero, List.set_cons_succ])
                    iterate 1 (refine wpMix_take (v := ?_) ?_ ?_; rotate_left; · (first | (refine Or.inr ⟨by rfl, by rfl⟩) | (refine Or.inl ⟨by rfl, ?_⟩; intro w' hSw; obtain ⟨s0, s1, s2, s3, s4, s5, s6⟩ := hSw; go_simp; (try with_reducible rfl))))
                    (try simp only [Act.put, List.setIfInBounds_toArray, List.set_cons_zero, List.set_cons_succ])
                    iterate 1 (refine wpMix_take (v := ?_) ?_ ?_; rotate_left; · (first | (refine Or.inr ⟨by rfl, by rfl⟩) | (refine Or.inl ⟨by rfl, ?_⟩; intro w' hSw; obtain ⟨s0, s1, s2, s3, s4, s5, s6⟩ := hSw; go_simp; (try with_reducible rfl))))
                    (try simp only [Act.put, List.setIfInBounds_toArray, List.set_cons_zero, List.set_cons_succ])
                    iterate 1 (refine wpMix_take (v := ?_) ?_ ?_; rotate_left; · (first | (refine Or.inr ⟨by rfl, by rfl⟩) | (refine Or.inl ⟨by rfl, ?_⟩; intro w' hSw; obtain ⟨s0, s1, s2, s3, s4, s5, s6⟩ := hSw; go_simp; (try with_reducible rfl))))
                    (try simp only [Act.put, List.setIfInBounds_toArray, List.set_cons_zero, List.set_cons_succ])
                    iterate 1 (refine wpMix_take (v := ?_) ?_ ?_; rotate_left; · (first | (refine Or.inr ⟨by rfl, by rfl⟩) | (refine Or.inl ⟨by rfl, ?_⟩; intro w' hSw; obtain ⟨s0, s1, s2, s3, s4, s5, s6⟩ := hSw; go_simp; (try with_reducible rfl))))
                    (try simp only [Act.put, List.setIfInBounds_toArray, List.set_cons_zero, List.set_cons_succ])
                    iterate 1 (refine wpMix_take (v := ?_) ?_ ?_; rotate_left; · (first | (refine Or.inr ⟨by rfl, by rfl⟩) | (refine Or.inl ⟨by rfl, ?_⟩; intro w' hSw; obtain ⟨s0, s1, s2, s3, s4, s5, s6⟩ := hSw; go_simp; (try with_reducible rfl))))
                    (try simp only [Act.put, List.setIfInBounds_toArray, List.set_cons_zero, List.set_cons_succ])
                    iterate 1 (refine wpMix_take (v := ?_) ?_ ?_; rotate_left; · (first | (refine Or.inr ⟨by rfl, by rfl⟩) | (refine Or.inl ⟨by rfl, ?_⟩; intro w' hSw; obtain ⟨s0, s1, s2, s3, s4, s5, s6⟩ := hSw; go_simp; (try with_reducible rfl))))
                    (try simp only [Act.put, List.setIfInBounds_toArray, List.set_cons_zero, List.set_cons_succ])
                    iterate 1 (refine wpMix_take (v := ?_) ?_ ?_; rotate_left; · (first | (refine Or.inr ⟨by rfl, by rfl⟩) | (refine Or.inl ⟨by rfl, ?_⟩; intro w' hSw; obtain ⟨s0, s1, s2, s3, s4, s5, s6⟩ := hSw; go_simp; (try with_reducible rfl))))
                    (try simp only [Act.put, List.setIfInBounds_toArray, List.set_cons_zero, List.set_cons_succ])
                    iterate 1 (refine wpMix_take (v := ?_) ?_ ?_; rotate_left; · (first | (refine Or.inr ⟨by rfl, by rfl⟩) | (refine Or.inl ⟨by rfl, ?_⟩; intro w' hSw; obtain ⟨s0, s1, s2, s3, s4, s5, s6⟩ := hSw; go_simp; (try with_reducible rfl))))
                    (try simp only [Act.put, List.setIfInBounds_toArray, List.set_cons_zero, List.set_cons_succ])
                    iterate 1 (refine wpMix_take (v := ?_) ?_ ?_; rotate_left; · (first | (refine Or.inr ⟨by rfl, by rfl⟩) | (refine Or.inl ⟨by rfl, ?_⟩; intro w' hSw; obtain ⟨s0, s1, s2, s3, s4, s5, s6⟩ := hSw; go_simp; (try with_reducible rfl))))
                    (try simp only [Act.put, List.setIfInBounds_toArray, List.set_cons_zero, List.set_cons_succ])
                    iterate 1 (refine wpMix_take (v := ?_) ?_ ?_; rotate_left; · (first | (refine Or.inr ⟨by rfl, by rfl⟩) | (refine Or.inl ⟨by rfl, ?_⟩; intro w' hSw; obtain ⟨s0, s1, s2, s3, s4, s5, s6⟩ := hSw; go_simp; (try with_reducible rfl))))
                    (try simp only [Act.put, List.setIfInBounds_toArray, List.set_cons_zero, List.set_cons_succ])
                    iterate 1 (refine wpMix_take (v := ?_) ?_ ?_; rotate_left; · (first | (refine Or.inr ⟨by rfl, by rfl⟩) | (refine Or.inl ⟨by rfl, ?_⟩; intro w' hSw; obtain ⟨s0, s1, s2, s3, s4, s5, s6⟩ := hSw; go_simp; (try with_reducible rfl))))
                    (try simp only [Act.put, List.setIfInBounds_toArray, List.set_cons_zero, List.set_cons_succ])
                    iterate 1 (refine wpMix_take (v := ?_) ?_ ?_; rotate_left; · (first | (refine Or.inr ⟨by rfl, by rfl⟩) | (refine Or.inl ⟨by rfl, ?_⟩; intro w' hSw; obtain ⟨s0, s1, s2, s3, s4, s5, s6⟩ := hSw; go_simp; (try with_reducible rfl))))
                    (try simp only [Act.put, List.setIfInBounds_toArray, List.set_cons_zero, List.set_cons_succ])
                    iterate 1 (refine wpMix_take (v := ?_) ?_ ?_; rotate_left; · (first | (refine Or.inr ⟨by rfl, by rfl⟩) | (refine Or.inl ⟨by rfl, ?_⟩; intro w' hSw; obtain ⟨s0, s1, s2, s3, s4, s5, s6⟩ := hSw; go_simp; (try with_reducible rfl))))
                    (try simp only [Act.put, List.setIfInBounds_toArray, List.set_cons_zero, List.set_cons_succ])
                    iterate 1 (refine wpMix_take (v := ?_) ?_ ?_; rotate_left; · (first | (refine Or.inr ⟨by rfl, by rfl⟩) | (refine Or.inl ⟨by rfl, ?_⟩; intro w' hSw; obtain ⟨s0, s1, s2, s3, s4, s5, s6⟩ := hSw; go_simp; (try with_reducible rfl))))
                    (try simp only [Act.put, List.setIfInBounds_toArray, List.set_cons_zero, List.set_cons_succ])
                    iterate 1 (refine wpMix_take (v := ?_) ?_ ?_; rotate_left; · (first | (refine Or.inr ⟨by rfl, by rfl⟩) | (refine Or.inl ⟨by rfl, ?_⟩; intro w' hSw; obtain ⟨s0, s1, s2, s3, s4, s5, s6⟩ := hSw; go_simp; (try with_reducible rfl))))
                    (try simp only [Act.put, List.setIfInBounds_toArray, List.set_cons_zero, List.set_cons_succ])
                    iterate 1 (refine wpMix_take (v := ?_) ?_ ?_; rotate_left; · (first | (refine Or.inr ⟨by rfl, by rfl⟩) | (refine Or.inl ⟨by rfl, ?_⟩; intro w' hSw; obtain ⟨s0, s1, s2, s3, s4, s5, s6⟩ := hSw; go_simp; (try with_reducible rfl))))
                    (try simp only [Act.put, List.setIfInBounds_toArray, List.set_cons_zero, List.set_cons_succ])
                    iterate 1 (refine wpMix_take (v := ?_) ?_ ?_; rotate_left; · (first | (refine Or.inr ⟨by rfl, by rfl⟩) | (refine Or.inl ⟨by rfl, ?_⟩; intro w' hSw; obtain ⟨s0, s1, s2, s3, s4, s5, s6⟩ := hSw; go_simp; (try with_reducible rfl))))
                    (try simp only [Act.put, List.setIfInBounds_toArray, List.set_cons_zero, List.set_cons_succ])
                    iterate 1 (refine wpMix_take (v := ?_) ?_ ?_; rotate_left; · (first | (refine Or.inr ⟨by rfl, by rfl⟩) | (refine Or.inl ⟨by rfl, ?_⟩; intro w' hSw; obtain ⟨s0, s1, s2, s3, s4, s5, s6⟩ := hSw; go_simp; (try with_reducible rfl))))
                    (try simp only [Act.put, List.setIfInBounds_toArray, List.set_cons_zero, List.set_cons_succ])
                    iterate 1 (refine wpMix_take (v := ?_) ?_ ?_; rotate_left; · (first | (refine Or.inr ⟨by rfl, by rfl⟩) | (refine Or.inl ⟨by rfl, ?_⟩; intro w' hSw; obtain ⟨s0, s1, s2, s3, s4, s5, s6⟩ := hSw; go_simp; (try with_reducible rfl))))
                    (try simp only [Act.put, List.setIfInBounds_toArray, List.set_cons_zero, List.set_cons_succ])
                    iterate 1 (refine wpMix_take (v := ?_) ?_ ?_; rotate_left; · (first | (refine Or.inr ⟨by rfl, by rfl⟩) | (refine Or.inl ⟨by rfl, ?_⟩; intro w' hSw; obtain ⟨s0, s1, s2, s3, s4, s5, s6⟩ := hSw; go_simp; (try with_reducible rfl))))
                    (try simp only [Act.put, List.setIfInBounds_toArray, List.set_cons_zero, List.set_cons_succ])
                    iterate 1 (refine wpMix_take (v := ?_) ?_ ?_; rotate_left; · (first | (refine Or.inr ⟨by rfl, by rfl⟩) | (refine Or.inl ⟨by rfl, ?_⟩; intro w' hSw; obtain ⟨s0, s1, s2, s3, s4, s5, s6⟩ := hSw; go_simp; (try with_reducible rfl))))
                    (try simp only [Act.put, List.setIfInBounds_toArray, List.set_cons_zero, List.set_cons_succ])
                    iterate 1 (refine wpMix_take (v := ?_) ?_ ?_; rotate_left; · (first | (refine Or.inr ⟨by rfl, by rfl⟩) | (refine Or.inl ⟨by rfl, ?_⟩; intro w' hSw; obtain ⟨s0, s1, s2, s3, s4, s5, s6⟩ := hSw; go_simp; (try with_reducible rfl))))
                    (try simp only [Act.put, List.setIfInBounds_toArray, List.set_cons_zero, List.set_cons_succ])
                    iterate 1 (refine wpMix_take (v := ?_) ?_ ?_; rotate_left; · (first | (refine Or.inr ⟨by rfl, by rfl⟩) | (refine Or.inl ⟨by rfl, ?_⟩; intro w' hSw; obtain ⟨s0, s1, s2, s3, s4, s5, s6⟩ := hSw; go_simp; (try with_reducible rfl))))
                    (try simp only [Act.put, List.setIfInBounds_toArray, List.set_cons_zero, List.set_cons_succ])
                    iterate 1 (refine wpMix_take (v := ?_) ?_ ?_; rotate_left; · (first | (refine Or.inr ⟨by rfl, by rfl⟩) | (refine Or.inl ⟨by rfl, ?_⟩; intro w' hSw; obtain ⟨s0, s1, s2, s3, s4, s5, s6⟩ := hSw; go_simp; (try with_reducible rfl))))
                    (try simp only [Act.put, List.setIfInBounds_toArray, List.set_cons_zero, List.set_cons_succ])
                    iterate 1 (refine wpMix_take (v := ?_) ?_ ?_; rotate_left; · (first | (refine Or.inr ⟨by rfl, by rfl⟩) | (refine Or.inl ⟨by rfl, ?_⟩; intro w' hSw; obtain ⟨s0, s1, s2, s3, s4, s5, s6⟩ := hSw; go_simp; (try with_reducible rfl))))
                    (try simp only [Act.put, List.setIfInBounds_toArray, List.set_cons_zero, List.set_cons_succ])
                    iterate 1 (refine wpMix_take (v := ?_) ?_ ?_; rotate_left; · (first | (refine Or.inr ⟨by rfl, by rfl⟩) | (refine Or.inl ⟨by rfl, ?_⟩; intro w' hSw; obtain ⟨s0, s1, s2, s3, s4, s5, s6⟩ := hSw; go_simp; (try with_reducible rfl))))
                    (try simp only [Act.put, List.setIfInBounds_toArray, List.set_cons_zero, List.set_cons_succ])
                    iterate 1 (refine wpMix_take (v := ?_) ?_ ?_; rotate_left; · (first | (refine Or.inr ⟨by rfl, by rfl⟩) | (refine Or.inl ⟨by rfl, ?_⟩; intro w' hSw; obtain ⟨s0, s1, s2, s3, s4, s5, s6⟩ := hSw; go_simp; (try with_reducible rfl))))
                    (try simp only [Act.put, List.setIfInBounds_toArray, List.set_cons_zero, List.set_cons_succ])
                    iterate 1 (refine wpMix_take (v := ?_) ?_ ?_; rotate_left; · (first | (refine Or.inr ⟨by rfl, by rfl⟩) | (refine Or.inl ⟨by rfl, ?_⟩; intro w' hSw; obtain ⟨s0, s1, s2, s3, s4, s5, s6⟩ := hSw; go_simp; (try with_reducible rfl))))
                    (try simp only [Act.put, List.setIfInBounds_toArray, List.set_cons_zero, List.set_cons_succ])
                    iterate 1 (refine wpMix_take (v := ?_) ?_ ?_; rotate_left; · (first | (refine Or.inr ⟨by rfl, by rfl⟩) | (refine Or.inl ⟨by rfl, ?_⟩; intro w' hSw; obtain ⟨s0, s1, s2, s3, s4, s5, s6⟩ := hSw; go_simp; (try with_reducible rfl))))
                    (try simp only [Act.put, List.setIfInBounds_toArray, List.set_cons_zero, List.set_cons_succ])
                    iterate 1 (refine wpMix_take (v := ?_) ?_ ?_; rotate_left; · (first | (refine Or.inr ⟨by rfl, by rfl⟩) | (refine Or.inl ⟨by rfl, ?_⟩; intro w' hSw; obtain ⟨s0, s1, s2, s3, s4, s5, s6⟩ := hSw; go_simp; (try with_reducible rfl))))
                    (try simp only [Act.put, List.setIfInBounds_toArray, List.set_cons_zero, List.set_cons_succ])
                    iterate 1 (refine wpMix_take (v := ?_) ?_ ?_; rotate_left; · (first | (refine Or.inr ⟨by rfl, by rfl⟩) | (refine Or.inl ⟨by rfl, ?_⟩; intro w' hSw; obtain ⟨s0, s1, s2, s3, s4, s5, s6⟩ := hSw; go_simp; (try with_reducible rfl))))
                    (try simp only [Act.put, List.setIfInBounds_toArray, List.set_cons_zero, List.set_cons_succ])
                    iterate 1 (refine wpMix_take (v := ?_) ?_ ?_; rotate_left; · (first | (refine Or.inr ⟨by rfl, by rfl⟩) | (refine Or.inl ⟨by rfl, ?_⟩; intro w' hSw; obtain ⟨s0, s1, s2, s3, s4, s5, s6⟩ := hSw; go_simp; (try with_reducible rfl))))
                    (try simp only [Act.put, List.setIfInBounds_toArray, List.set_cons_zero, List.set_cons_succ])
                    iterate 1 (refine wpMix_take (v := ?_) ?_ ?_; rotate_left; · (first | (refine Or.inr ⟨by rfl, by rfl⟩) | (refine Or.inl ⟨by rfl, ?_⟩; intro w' hSw; obtain ⟨s0, s1, s2, s3, s4, s5, s6⟩ := hSw; go_simp; (try with_reducible rfl))))
                    (try simp only [Act.put, List.setIfInBounds_toArray, List.set_cons_zero, List.set_cons_succ])
                    iterate 1 (refine wpMix_take (v := ?_) ?_ ?_; rotate_left; · (first | (refine Or.inr ⟨by rfl, by rfl⟩) | (refine Or.inl ⟨by rfl, ?_⟩; intro w' hSw; obtain ⟨s0, s1, s2, s3, s4, s5, s6⟩ := hSw; go_simp; (try with_reducible rfl))))
                    (try simp only [Act.put, List.setIfInBounds_toArray, List.set_cons_zero, List.set_cons_succ])
                    iterate 1 (refine wpMix_take (v := ?_) ?_ ?_; rotate_left; · (first | (refine Or.inr ⟨by rfl, by rfl⟩) | (refine Or.inl ⟨by rfl, ?_⟩; intro w' hSw; obtain ⟨s0, s1, s2, s3, s4, s5, s6⟩ := hSw; go_simp; (try with_reducible rfl))))
                    (try simp only [Act.put, List.setIfInBounds_toArray, List.set_cons_zero, List.set_cons_succ])
                    refine wpMix_do rfl fun K hK => ?_
                    go_simp
                    have hfl := full_any pe psq pi pt Au nu cu w3
                    rw [HFL.out] at hfl
                    refine hfl.mono ?_
                    rintro e w4 ⟨rfl, hb4⟩
                    have hb4' := below_then hb3' hb4
                    refine hK.out _ _ (fun _ => HSK.out _ hb4') ?_
                    clear hK K hfl
                    (try simp only [Act.put, List.setIfInBounds_toArray, List.set_cons_zero, List.set_cons_succ])
                    iterate 1 (refine wpMix_take (v := ?_) ?_ ?_; rotate_left; · (first | (refine Or.inr ⟨by rfl, by rfl⟩) | (refine Or.inl ⟨by rfl, ?_⟩; intro w' hSw; obtain ⟨s0, s1, s2, s3, s4, s5, s6⟩ := hSw; go_simp; (try with_reducible rfl))))
                    (try simp only [Act.put, List.setIfInBounds_toArray, List.set_cons_zero, List.set_cons_succ])
                    iterate 1 (refine wpMix_take (v := ?_) ?_ ?_; rotate_left; · (first | (refine Or.inr ⟨by rfl, by rfl⟩) | (refine Or.inl ⟨by rfl, ?_⟩; intro w' hSw; obtain ⟨s0, s1, s2, s3, s4, s5, s6⟩ := hSw; go_simp; (try with_reducible rfl))))
                    (try simp only [Act.put, List.setIfInBounds_toArray, List.set_cons_zero, List.set_cons_succ])
                    refine wpMix_nil ?_
                    have HB4 := Lib.hid (below_then HB2.out hb4')
                    have hcell := (HSK.out _ hb4').2.2.2.2.1
                    clear HSK
                    have ho4 : Own8 w4 w.heap.size (.slice A4 n4 c4) ((L.take k).flatMap (·.data)) := HO.out.below HB4.out
                    have hbs4 : Bs w4 Au pd := HOU.out.bs.below HB4.out
                    have HO4 := Lib.hid (show w4.ownsRow w.heap.size 5 1 (.slice A4 n4 c4) (bvs ((L.take k).flatMap (·.data))).length (bvs ((L.take k).flatMap (·.data))) from by rw [bvs_length]; exact ho4)
                    have HBS4 := Lib.hid hbs4
                    have HNU := Lib.hid hnu
                    have hsz4 := HB4.out.size
                    clear ho4 hbs4 hnu hb4' hb3'
                    go_wp2_with (at_builtin; refine wpList_append_bs _ rfl (.tmp 55) (.tmp 57) 29 rfl w.heap.size 5 i0 (.int .u8 0) Tryd.underlying29 hi0 hz0 hz1 hz2 rfl (.slice A4 n4 c4) (bvs ((L.take k).flatMap (·.data))) rfl HO4.out Au cu nu pd HNU.out.symm rfl HBS4.out ?c1 ?c2 ?_; (rw [bvs_length]; have := HLEN.out; have := HNU.out; omega); (omega); intro v5 w5 hown5 hg5 hat5; have HO5 := Lib.hid hown5; have HG5 := Lib.hid hg5; clear hown5 hg5 hat5)
                    go_roundw
                    case rel =>
                      have htk : L.take (k + 1) = L.take k ++ [⟨pe, psq, pi, pt, pd⟩] := by rw [List.take_add_one, HX.out]; rfl
                      refine ⟨k + 1, by omega, by go_num, ?_, ?_, ?_, ?_⟩
                      · rw [htk, List.flatMap_append]
                        unfold Own8
                        have := HO5.out
                        simpa [bvs_append, bvs_length] using this
                      · intro j q hj
                        rw [htk] at hj
                        by_cases hjk : j < (L.take k).length
                        · rw [List.getElem?_append_left hjk] at hj; exact HFT.out j q hj
                        · have hlk : (L.take k).length = k := by rw [List.length_take]; have := HN.out; omega
                          rw [List.getElem?_append_right (by omega)] at hj
                          obtain rfl : j = k := by
                            have := (List.getElem?_eq_some_iff.1 hj).1
                            simp at this
                            omega
                          rw [hlk, Nat.sub_self] at hj
                          injection hj with hj
                          subst hj
                          exact HFIT.out
                      · rw [htk, List.flatMap_append, List.length_append]
                        have h1 := HLEN.out
                        have h2 := HNU.out
                        have e1 : ([⟨pe, psq, pi, pt, pd⟩] : List StampMath.Part).flatMap (·.data) = pd := by simp
                        rw [e1]
                        clear hwr
                        omega
                      · exact (HB.out.trans (HB4.out.mono hsz)).grown HG5.out (by omega) (fun g hg => by have := (HO4.out.lt g hg).1; omega)
                    case measure => simp [intOf]; omega
                · as_aux_lemma =>
                    have t0 : (pt != (n : Int)) = false := by simp [q0]
                    have t1 : (pi != (k : Int)) = false := by simp [q1]
                    have t2 : (pe != e0) = false := by simp [q2]
                    have t3 : (psq != s0q + (k : Int)) = false := by simp [q3]
                    have HRT := Lib.hid (show rightN pe psq pi pt nu = true from by rw [← hnu, rightN_eq ⟨pe, psq, pi, pt, pd⟩]; exact decide_eq_true hr)
                    have HFL := Lib.hid (show fullN pi pt nu = false from by rw [← hnu, fullN_eq ⟨pe, psq, pi, pt, pd⟩]; exact decide_eq_false hf)
                    have hno : ¬ StampMath.fits n e0 s0q k ⟨pe, psq, pi, pt, pd⟩ := fun hp => hf hp.2.2.2.2.2
                    have HNO := Lib.hid (JN.out.2 k _ HX.out hno)
                    clear hno
                    clear q0 q1 q2 q3
                    go_wp2_with (first
                      | refine wpList_load_mid rfl 130 (.tmp 12) rfl g (k * 5) rfl (partCells ⟨pe, psq, pi, pt, pd⟩ (.slice Au nu cu)) _ HRG.out hus rfl hib ?_
                      | refine wpList_store_new rfl 130 (.tmp 6) (.tmp 13) rfl rfl (partCells ⟨pe, psq, pi, pt, pd⟩ (.slice Au nu cu)) rfl rfl (by show Z.toArray.size = _; rw [List.size_toArray, HZL.out]; rfl) hib (fun u hu => by simp at hu; rcases hu with rfl | rfl | rfl | rfl | rfl <;> rfl) ?_; intro w2 hr2 hb2 hs2; have HR2 := Lib.hid hr2; have HB2 := Lib.hid hb2; clear hr2 hb2)
                    obtain ⟨w2b, hw2b⟩ : ∃ w2b, wo.heap.size = w2b := ⟨_, rfl⟩
                    have HSK := Lib.hid (skFacts (w2b := w2b) HR2.out hw2b HG.out.1 HG.out.2 HB2.out HGL.out)
                    rw [hw2b]
                    clear hw2b
                    refine wp_region_mix [(true, 0), (false, 1), (true, 2), (true, 3), (true, 4), (true, 5), (true, 6), (true, 7), (true, 8), (true, 9), (true, 10), (true, 11), (true, 12), (true, 13), (true, 14), (true, 15), (true, 16), (true, 17), (true, 18), (true, 19), (true, 20), (true, 21), (true, 22), (true, 23), (true, 24), (true, 25), (true, 26), (true, 27), (true, 28), (true, 29), (true, 30), (true, 31), (true, 32), (true, 33), (true, 34), (true, 35), (true, 36), (true, 37), (false, 38), (true, 39), (true, 40)] 41 (fun w' => w'.cell? ⟨w2b, 0, none⟩ = some (.int .i64 pe) ∧ w'.cell? ⟨w2b, 1, none⟩ = some (.int .i64 psq) ∧ w'.cell? ⟨w2b, 2, none⟩ = some (.int .i64 pi) ∧ w'.cell? ⟨w2b, 3, none⟩ = some (.int .i64 pt) ∧ w'.cell? ⟨w2b, 4, none⟩ = some (.slice Au nu cu) ∧ w'.cell? ⟨g, 0, none⟩ = some (.int .i64 e0) ∧ w'.cell? ⟨g, 1, none⟩ = some (.int .i64 s0q)) (by kernel_rfl) (by kernel_rfl) (by rintro _ ⟨_, _⟩ ⟨_, _⟩ _ rfl h; exact h) (HSK.out _ (Below.refl _ _).drew) ?_
                    simp only [pickM, List.getElem?_cons_succ, List.getElem?_cons_zero]
                    iterate 1 (refine wpMix_take (v := ?_) ?_ ?_; rotate_left; · (first | (refine Or.inr ⟨by rfl, by rfl⟩) | (refine Or.inl ⟨by rfl, ?_⟩; intro w' hSw; obtain ⟨s0, s1, s2, s3, s4, s5, s6⟩ := hSw; go_simp; (try with_reducible rfl))))
                    (try simp only [Act.put, List.setIfInBounds_toArray, List.set_cons_zero, List.set_cons_succ])
                    refine wpMix_do rfl fun K hK => ?_
                    go_simp
                    have hrt := right_any pe psq pi pt Au nu cu w2.drew
                    rw [HRT.out] at hrt
                    refine hrt.mono ?_
                    rintro e w3 ⟨rfl, hb3⟩
                    have hb3' : Below w2.heap.size w2 w3 := (Below.refl _ _).drew.trans hb3
                    refine hK.out _ _ (fun _ => HSK.out _ hb3') ?_
                    clear hK K hrt
                    (try simp only [Act.put, List.setIfInBounds_toArray, List.set_cons_zero, List.set_cons_succ])
                    iterate 1 (refine wpMix_take (v := ?_) ?_ ?_; rotate_left; · (first | (refine Or.inr ⟨by rfl, by rfl⟩) | (refine Or.inl ⟨by rfl, ?_⟩; intro w' hSw; obtain ⟨s0, s1, s2, s3, s4, s5, s6⟩ := hSw; go_simp; (try with_reducible rfl))))
                    (try simp only [Act.put, List.setIfInBounds_toArray, List.set_cons_zero, List.set_cons_succ])
                    iterate 1 (refine wpMix_take (v := ?_) ?_ ?_; rotate_left; · (first | (refine Or.inr ⟨by rfl, by rfl⟩) | (refine Or.inl ⟨by rfl, ?_⟩; intro w' hSw; obtain ⟨s0, s1, s2, s3, s4, s5, s6⟩ := hSw; go_simp; (try with_reducible rfl))))
                    (try simp only [Act.put, List.setIfInBounds_toArray, List.set_cons_zero, List.set_cons_succ])
                    iterate 1 (refine wpMix_take (v := ?_) ?_ ?_; rotate_left; · (first | (refine Or.inr ⟨by rfl, by rfl⟩) | (refine Or.inl ⟨by rfl, ?_⟩; intro w' hSw; obtain ⟨s0, s1, s2, s3, s4, s5, s6⟩ := hSw; go_simp; (try with_reducible rfl))))
                    (try simp only [Act.put, List.setIfInBounds_toArray, List.set_cons_zero, List.set_cons_succ])
                    iterate 1 (refine wpMix_take (v := ?_) ?_ ?_; rotate_left; · (first | (refine Or.inr ⟨by rfl, by rfl⟩) | (refine Or.inl ⟨by rfl, ?_⟩; intro w' hSw; obtain ⟨s0, s1, s2, s3, s4, s5, s6⟩ := hSw; go_simp; (try with_reducible rfl))))
                    (try simp only [Act.put, List.setIfInBounds_toArray, List.set_cons_zero, List.set_cons_succ])
                    iterate 1 (refine wpMix_take (v := ?_) ?_ ?_; rotate_left; · (first | (refine Or.inr ⟨by rfl, by rfl⟩) | (refine Or.inl ⟨by rfl, ?_⟩; intro w' hSw; obtain ⟨s0, s1, s2, s3, s4, s5, s6⟩ := hSw; go_simp; (try with_reducible rfl))))
                    (try simp only [Act.put, List.setIfInBounds_toArray, List.set_cons_zero, List.set_cons_succ])
                    iterate 1 (refine wpMix_take (v := ?_) ?_ ?_; rotate_left; · (first | (refine Or.inr ⟨by rfl, by rfl⟩) | (refine Or.inl ⟨by rfl, ?_⟩; intro w' hSw; obtain ⟨s0, s1, s2, s3, s4, s5, s6⟩ := hSw; go_simp; (try with_reducible rfl))))
                    (try simp only [Act.put, List.setIfInBounds_toArray, List.set_cons_zero, List.set_cons_succ])
                    iterate 1 (refine wpMix_take (v := ?_) ?_ ?_; rotate_left; · (first | (refine Or.inr ⟨by rfl, by rfl⟩) | (refine Or.inl ⟨by rfl, ?_⟩; intro w' hSw; obtain ⟨s0, s1, s2, s3, s4, s5, s6⟩ := hSw; go_simp; (try with_reducible rfl))))
                    (try simp only [Act.put, List.setIfInBounds_toArray, List.set_cons_zero, List.set_cons_succ])
                    iterate 1 (refine wpMix_take (v := ?_) ?_ ?_; rotate_left; · (first | (refine Or.inr ⟨by rfl, by rfl⟩) | (refine Or.inl ⟨by rfl, ?_⟩; intro w' hSw; obtain ⟨s0, s1, s2, s3, s4, s5, s6⟩ := hSw; go_simp; (try with_reducible rfl))))
                    (try simp only [Act.put, List.setIfInBounds_toArray, List.set_cons_zero, List.set_cons_succ])
                    iterate 1 (refine wpMix_take (v := ?_) ?_ ?_; rotate_left; · (first | (refine Or.inr ⟨by rfl, by rfl⟩) | (refine Or.inl ⟨by rfl, ?_⟩; intro w' hSw; obtain ⟨s0, s1, s2, s3, s4, s5, s6⟩ := hSw; go_simp; (try with_reducible rfl))))
                    (try simp only [Act.put, List.setIfInBounds_toArray, List.set_cons_zero, List.set_cons_succ])
                    iterate 1 (refine wpMix_take (v := ?_) ?_ ?_; rotate_left; · (first | (refine Or.inr ⟨by rfl, by rfl⟩) | (refine Or.inl ⟨by rfl, ?_⟩; intro w' hSw; obtain ⟨s0, s1, s2, s3, s4, s5, s6⟩ := hSw; go_simp; (try with_reducible rfl))))
                    (try simp only [Act.put, List.setIfInBounds_toArray, List.set_cons_zero, List.set_cons_succ])
                    iterate 1 (refine wpMix_take (v := ?_) ?_ ?_; rotate_left; · (first | (refine Or.inr ⟨by rfl, by rfl⟩) | (refine Or.inl ⟨by rfl, ?_⟩; intro w' hSw; obtain ⟨s0, s1, s2, s3, s4, s5, s6⟩ := hSw; go_simp; (try with_reducible rfl))))
                    (try simp only [Act.put, List.setIfInBounds_toArray, List.set_cons_zero, List.set_cons_succ])
                    iterate 1 (refine wpMix_take (v := ?_) ?_ ?_; rotate_left; · (first | (refine Or.inr ⟨by rfl, by rfl⟩) | (refine Or.inl ⟨by rfl, ?_⟩; intro w' hSw; obtain ⟨s0, s1, s2, s3, s4, s5, s6⟩ := hSw; go_simp; (try with_reducible rfl))))
                    (try simp only [Act.put, List.setIfInBounds_toArray, List.set_cons_zero, List.set_cons_succ])
                    iterate 1 (refine wpMix_take (v := ?_) ?_ ?_; rotate_left; · (first | (refine Or.inr ⟨by rfl, by rfl⟩) | (refine Or.inl ⟨by rfl, ?_⟩; intro w' hSw; obtain ⟨s0, s1, s2, s3, s4, s5, s6⟩ := hSw; go_simp; (try with_reducible rfl))))
                    (try simp only [Act.put, List.setIfInBounds_toArray, List.set_cons_zero, List.set_cons_succ])
                    iterate 1 (refine wpMix_take (v := ?_) ?_ ?_; rotate_left; · (first | (refine Or.inr ⟨by rfl, by rfl⟩) | (refine Or.inl ⟨by rfl, ?_⟩; intro w' hSw; obtain ⟨s0, s1, s2, s3, s4, s5, s6⟩ := hSw; go_simp; (try with_reducible rfl))))
                    (try simp only [Act.put, List.setIfInBounds_toArray, List.set_cons_zero, List.set_cons_succ])
                    iterate 1 (refine wpMix_take (v := ?_) ?_ ?_; rotate_left; · (first | (refine Or.inr ⟨by rfl, by rfl⟩) | (refine Or.inl ⟨by rfl, ?_⟩; intro w' hSw; obtain ⟨s0, s1, s2, s3, s4, s5, s6⟩ := hSw; go_simp; (try with_reducible rfl))))
                    (try simp only [Act.put, List.setIfInBounds_toArray, List.set_cons_zero, List.set_cons_succ])
                    iterate 1 (refine wpMix_take (v := ?_) ?_ ?_; rotate_left; · (first | (refine Or.inr ⟨by rfl, by rfl⟩) | (refine Or.inl ⟨by rfl, ?_⟩; intro w' hSw; obtain ⟨s0, s1, s2, s3, s4, s5, s6⟩ := hSw; go_simp; (try with_reducible rfl))))
                    (try simp only [Act.put, List.setIfInBounds_toArray, List.set_cons_zero, List.set_cons_succ])
                    iterate 1 (refine wpMix_take (v := ?_) ?_ ?_; rotate_left; · (first | (refine Or.inr ⟨by rfl, by rfl⟩) | (refine Or.inl ⟨by rfl, ?_⟩; intro w' hSw; obtain ⟨s0, s1, s2, s3, s4, s5, s6⟩ := hSw; go_simp; (try with_reducible rfl))))
                    (try simp only [Act.put, List.setIfInBounds_toArray, List.set_cons_zero, List.set_cons_succ])
                    iterate 1 (refine wpMix_take (v := ?_) ?_ ?_; rotate_left; · (first | (refine Or.inr ⟨by rfl, by rfl⟩) | (refine Or.inl ⟨by rfl, ?_⟩; intro w' hSw; obtain ⟨s0, s1, s2, s3, s4, s5, s6⟩ := hSw; go_simp; (try with_reducible rfl))))
                    (try simp only [Act.put, List.setIfInBounds_toArray, List.set_cons_zero, List.set_cons_succ])
                    iterate 1 (refine wpMix_take (v := ?_) ?_ ?_; rotate_left; · (first | (refine Or.inr ⟨by rfl, by rfl⟩) | (refine Or.inl ⟨by rfl, ?_⟩; intro w' hSw; obtain ⟨s0, s1, s2, s3, s4, s5, s6⟩ := hSw; go_simp; (try with_reducible rfl))))
                    (try simp only [Act.put, List.setIfInBounds_toArray, List.set_cons_zero, List.set_cons_succ])
                    iterate 1 (refine wpMix_take (v := ?_) ?_ ?_; rotate_left; · (first | (refine Or.inr ⟨by rfl, by rfl⟩) | (refine Or.inl ⟨by rfl, ?_⟩; intro w' hSw; obtain ⟨s0, s1, s2, s3, s4, s5, s6⟩ := hSw; go_simp; (try with_reducible rfl))))
                    (try simp only [Act.put, List.setIfInBounds_toArray, List.set_cons_zero, List.set_cons_succ])
                    iterate 1 (refine wpMix_take (v := ?_) ?_ ?_; rotate_left; · (first | (refine Or.inr ⟨by rfl, by rfl⟩) | (refine Or.inl ⟨by rfl, ?_⟩; intro w' hSw; obtain ⟨s0, s1, s2, s3, s4, s5, s6⟩ := hSw; go_simp; (try with_reducible rfl))))
                    (try simp only [Act.put, List.setIfInBounds_toArray, List.set_cons_zero, List.set_cons_succ])
                    iterate 1 (refine wpMix_take (v := ?_) ?_ ?_; rotate_left; · (first | (refine Or.inr ⟨by rfl, by rfl⟩) | (refine Or.inl ⟨by rfl, ?_⟩; intro w' hSw; obtain ⟨s0, s1, s2, s3, s4, s5, s6⟩ := hSw; go_simp; (try with_reducible rfl))))
                    (try simp only [Act.put, List.setIfInBounds_toArray, List.set_cons_zero, List.set_cons_succ])
                    iterate 1 (refine wpMix_take (v := ?_) ?_ ?_; rotate_left; · (first | (refine Or.inr ⟨by rfl, by rfl⟩) | (refine Or.inl ⟨by rfl, ?_⟩; intro w' hSw; obtain ⟨s0, s1, s2, s3, s4, s5, s6⟩ := hSw; go_simp; (try with_reducible rfl))))
                    (try simp only [Act.put, List.setIfInBounds_toArray, List.set_cons_zero, List.set_cons_succ])
                    iterate 1 (refine wpMix_take (v := ?_) ?_ ?_; rotate_left; · (first | (refine Or.inr ⟨by rfl, by rfl⟩) | (refine Or.inl ⟨by rfl, ?_⟩; intro w' hSw; obtain ⟨s0, s1, s2, s3, s4, s5, s6⟩ := hSw; go_simp; (try with_reducible rfl))))
                    (try simp only [Act.put, List.setIfInBounds_toArray, List.set_cons_zero, List.set_cons_succ])
                    iterate 1 (refine wpMix_take (v := ?_) ?_ ?_; rotate_left; · (first | (refine Or.inr ⟨by rfl, by rfl⟩) | (refine Or.inl ⟨by rfl, ?_⟩; intro w' hSw; obtain ⟨s0, s1, s2, s3, s4, s5, s6⟩ := hSw; go_simp; (try with_reducible rfl))))
                    (try simp only [Act.put, List.setIfInBounds_toArray, List.set_cons_zero, List.set_cons_succ])
                    iterate 1 (refine wpMix_take (v := ?_) ?_ ?_; rotate_left; · (first | (refine Or.inr ⟨by rfl, by rfl⟩) | (refine Or.inl ⟨by rfl, ?_⟩; intro w' hSw; obtain ⟨s0, s1, s2, s3, s4, s5, s6⟩ := hSw; go_simp; (try with_reducible rfl))))
                    (try simp only [Act.put, List.setIfInBounds_toArray, List.set_cons_zero, List.set_cons_succ])
                    iterate 1 (refine wpMix_take (v := ?_) ?_ ?_; rotate_left; · (first | (refine Or.inr ⟨by rfl, by rfl⟩) | (refine Or.inl ⟨by rfl, ?_⟩; intro w' hSw; obtain ⟨s0, s1, s2, s3, s4, s5, s6⟩ := hSw; go_simp; (try with_reducible rfl))))
                    (try simp only [Act.put, List.setIfInBounds_toArray, List.set_cons_zero, List.set_cons_succ])
                    iterate 1 (refine wpMix_take (v := ?_) ?_ ?_; rotate_left; · (first | (refine Or.inr ⟨by rfl, by rfl⟩) | (refine Or.inl ⟨by rfl, ?_⟩; intro w' hSw; obtain ⟨s0, s1, s2, s3, s4, s5, s6⟩ := hSw; go_simp; (try with_reducible rfl))))
                    (try simp only [Act.put, List.setIfInBounds_toArray, List.set_cons_zero, List.set_cons_succ])
                    iterate 1 (refine wpMix_take (v := ?_) ?_ ?_; rotate_left; · (first | (refine Or.inr ⟨by rfl, by rfl⟩) | (refine Or.inl ⟨by rfl, ?_⟩; intro w' hSw; obtain ⟨s0, s1, s2, s3, s4, s5, s6⟩ := hSw; go_simp; (try with_reducible rfl))))
                    (try simp only [Act.put, List.setIfInBounds_toArray, List.set_cons_zero, List.set_cons_succ])
                    iterate 1 (refine wpMix_take (v := ?_) ?_ ?_; rotate_left; · (first | (refine Or.inr ⟨by rfl, by rfl⟩) | (refine Or.inl ⟨by rfl, ?_⟩; intro w' hSw; obtain ⟨s0, s1, s2, s3, s4, s5, s6⟩ := hSw; go_simp; (try with_reducible rfl))))
                    (try simp only [Act.put, List.setIfInBounds_toArray, List.set_cons_zero, List.set_cons_succ])
                    iterate 1 (refine wpMix_take (v := ?_) ?_ ?_; rotate_left; · (first | (refine Or.inr ⟨by rfl, by rfl⟩) | (refine Or.inl ⟨by rfl, ?_⟩; intro w' hSw; obtain ⟨s0, s1, s2, s3, s4, s5, s6⟩ := hSw; go_simp; (try with_reducible rfl))))
                    (try simp only [Act.put, List.setIfInBounds_toArray, List.set_cons_zero, List.set_cons_succ])
                    iterate 1 (refine wpMix_take (v := ?_) ?_ ?_; rotate_left; · (first | (refine Or.inr ⟨by rfl, by rfl⟩) | (refine Or.inl ⟨by rfl, ?_⟩; intro w' hSw; obtain ⟨s0, s1, s2, s3, s4, s5, s6⟩ := hSw; go_simp; (try with_reducible rfl))))
                    (try simp only [Act.put, List.setIfInBounds_toArray, List.set_cons_zero, List.set_cons_succ])
                    iterate 1 (refine wpMix_take (v := ?_) ?_ ?_; rotate_left; · (first | (refine Or.inr ⟨by rfl, by rfl⟩) | (refine Or.inl ⟨by rfl, ?_⟩; intro w' hSw; obtain ⟨s0, s1, s2, s3, s4, s5, s6⟩ := hSw; go_simp; (try with_reducible rfl))))
                    (try simp only [Act.put, List.setIfInBounds_toArray, List.set_cons_zero, List.set_cons_succ])
                    iterate 1 (refine wpMix_take (v := ?_) ?_ ?_; rotate_left; · (first | (refine Or.inr ⟨by rfl, by rfl⟩) | (refine Or.inl ⟨by rfl, ?_⟩; intro w' hSw; obtain ⟨s0, s1, s2, s3, s4, s5, s6⟩ := hSw; go_simp; (try with_reducible rfl))))
                    (try simp only [Act.put, List.setIfInBounds_toArray, List.set_cons_zero, List.set_cons_succ])
                    iterate 1 (refine wpMix_take (v := ?_) ?_ ?_; rotate_left; · (first | (refine Or.inr ⟨by rfl, by rfl⟩) | (refine Or.inl ⟨by rfl, ?_⟩; intro w' hSw; obtain ⟨s0, s1, s2, s3, s4, s5, s6⟩ := hSw; go_simp; (try with_reducible rfl))))
                    (try simp only [Act.put, List.setIfInBounds_toArray, List.set_cons_zero, List.set_cons_succ])
                    iterate 1 (refine wpMix_take (v := ?_) ?_ ?_; rotate_left; · (first | (refine Or.inr ⟨by rfl, by rfl⟩) | (refine Or.inl ⟨by rfl, ?_⟩; intro w' hSw; obtain ⟨s0, s1, s2, s3, s4, s5, s6⟩ := hSw; go_simp; (try with_reducible rfl))))
                    (try simp only [Act.put, List.setIfInBounds_toArray, List.set_cons_zero, List.set_cons_succ])
                    refine wpMix_do rfl fun K hK => ?_
                    go_simp
                    have hfl := full_any pe psq pi pt Au nu cu w3
                    rw [HFL.out] at hfl
                    refine hfl.mono ?_
                    rintro e w4 ⟨rfl, hb4⟩
                    have hb4' := below_then hb3' hb4
                    refine hK.out _ _ (fun _ => HSK.out _ hb4') ?_
                    clear hK K hfl
                    (try simp only [Act.put, List.setIfInBounds_toArray, List.set_cons_zero, List.set_cons_succ])
                    iterate 1 (refine wpMix_take (v := ?_) ?_ ?_; rotate_left; · (first | (refine Or.inr ⟨by rfl, by rfl⟩) | (refine Or.inl ⟨by rfl, ?_⟩; intro w' hSw; obtain ⟨s0, s1, s2, s3, s4, s5, s6⟩ := hSw; go_simp; (try with_reducible rfl))))
                    (try simp only [Act.put, List.setIfInBounds_toArray, List.set_cons_zero, List.set_cons_succ])
                    iterate 1 (refine wpMix_take (v := ?_) ?_ ?_; rotate_left; · (first | (refine Or.inr ⟨by rfl, by rfl⟩) | (refine Or.inl ⟨by rfl, ?_⟩; intro w' hSw; obtain ⟨s0, s1, s2, s3, s4, s5, s6⟩ := hSw; go_simp; (try with_reducible rfl))))
                    (try simp only [Act.put, List.setIfInBounds_toArray, List.set_cons_zero, List.set_cons_succ])
                    refine wpMix_nil ?_
                    clear HSK
                    go_wp2_with fail
                    go_ret2
                    exact .inr ⟨HNO.out, rfl, HB.out.trans ((below_then HB2.out hb4').mono HB.out.size)⟩
              · as_aux_lemma =>
                  have t0 : (pt != (n : Int)) = false := by simp [q0]
                  have t1 : (pi != (k : Int)) = false := by simp [q1]
                  have t2 : (pe != e0) = false := by simp [q2]
                  have t3 : (psq != s0q + (k : Int)) = true := by rw [bne_iff_ne]; exact q3
                  have HRT := Lib.hid (show rightN pe psq pi pt nu = true from by rw [← hnu, rightN_eq ⟨pe, psq, pi, pt, pd⟩]; exact decide_eq_true hr)
                  have hno : ¬ StampMath.fits n e0 s0q k ⟨pe, psq, pi, pt, pd⟩ := fun hp => q3 hp.2.2.2.2.1
                  have HNO := Lib.hid (JN.out.2 k _ HX.out hno)
                  clear hno
                  clear q0 q1 q2
                  go_wp2_with (first
                    | refine wpList_load_mid rfl 130 (.tmp 12) rfl g (k * 5) rfl (partCells ⟨pe, psq, pi, pt, pd⟩ (.slice Au nu cu)) _ HRG.out hus rfl hib ?_
                    | refine wpList_store_new rfl 130 (.tmp 6) (.tmp 13) rfl rfl (partCells ⟨pe, psq, pi, pt, pd⟩ (.slice Au nu cu)) rfl rfl (by show Z.toArray.size = _; rw [List.size_toArray, HZL.out]; rfl) hib (fun u hu => by simp at hu; rcases hu with rfl | rfl | rfl | rfl | rfl <;> rfl) ?_; intro w2 hr2 hb2 hs2; have HR2 := Lib.hid hr2; have HB2 := Lib.hid hb2; clear hr2 hb2)
                  obtain ⟨w2b, hw2b⟩ : ∃ w2b, wo.heap.size = w2b := ⟨_, rfl⟩
                  have HSK := Lib.hid (skFacts (w2b := w2b) HR2.out hw2b HG.out.1 HG.out.2 HB2.out HGL.out)
                  rw [hw2b]
                  clear hw2b
                  refine wp_region_mix [(true, 0), (false, 1), (true, 2), (true, 3), (true, 4), (true, 5), (true, 6), (true, 7), (true, 8), (true, 9), (true, 10), (true, 11), (true, 12), (true, 13), (true, 14), (true, 15), (true, 16), (true, 17), (true, 18), (true, 19), (true, 20), (true, 21), (true, 22), (true, 23), (true, 24), (true, 25), (true, 26), (true, 27), (true, 28), (true, 29), (true, 30), (true, 31), (true, 32), (true, 33), (true, 34), (true, 35), (true, 36), (true, 37), (true, 38), (true, 39), (true, 40)] 41 (fun w' => w'.cell? ⟨w2b, 0, none⟩ = some (.int .i64 pe) ∧ w'.cell? ⟨w2b, 1, none⟩ = some (.int .i64 psq) ∧ w'.cell? ⟨w2b, 2, none⟩ = some (.int .i64 pi) ∧ w'.cell? ⟨w2b, 3, none⟩ = some (.int .i64 pt) ∧ w'.cell? ⟨w2b, 4, none⟩ = some (.slice Au nu cu) ∧ w'.cell? ⟨g, 0, none⟩ = some (.int .i64 e0) ∧ w'.cell? ⟨g, 1, none⟩ = some (.int .i64 s0q)) (by kernel_rfl) (by kernel_rfl) (by rintro _ ⟨_, _⟩ ⟨_, _⟩ _ rfl h; exact h) (HSK.out _ (Below.refl _ _).drew) ?_
                  simp only [pickM, List.getElem?_cons_succ, List.getElem?_cons_zero]
                  iterate 1 (refine wpMix_take (v := ?_) ?_ ?_; rotate_left; · (first | (refine Or.inr ⟨by rfl, by rfl⟩) | (refine Or.inl ⟨by rfl, ?_⟩; intro w' hSw; obtain ⟨s0, s1, s2, s3, s4, s5, s6⟩ := hSw; go_simp; (try with_reducible rfl))))
                  (try simp only [Act.put, List.setIfInBounds_toArray, List.set_cons_zero, List.set_cons_succ])
                  refine wpMix_do rfl fun K hK => ?_
                  go_simp
                  have hrt := right_any pe psq pi pt Au nu cu w2.drew
                  rw [HRT.out] at hrt
                  refine hrt.mono ?_
                  rintro e w3 ⟨rfl, hb3⟩
                  have hb3' : Below w2.heap.size w2 w3 := (Below.refl _ _).drew.trans hb3
                  refine hK.out _ _ (fun _ => HSK.out _ hb3') ?_
                  clear hK K hrt
                  (try simp only [Act.put, List.setIfInBounds_toArray, List.set_cons_zero, List.set_cons_succ])
                  have hb4' := hb3'
                  iterate 1 (refine wpMix_take (v := ?_) ?_ ?_; rotate_left; · (first | (refine Or.inr ⟨by rfl, by rfl⟩) | (refine Or.inl ⟨by rfl, ?_⟩; intro w' hSw; obtain ⟨s0, s1, s2, s3, s4, s5, s6⟩ := hSw; go_simp; (try with_reducible rfl))))
                  (try simp only [Act.put, List.setIfInBounds_toArray, List.set_cons_zero, List.set_cons_succ])
                  iterate 1 (refine wpMix_take (v := ?_) ?_ ?_; rotate_left; · (first | (refine Or.inr ⟨by rfl, by rfl⟩) | (refine Or.inl ⟨by rfl, ?_⟩; intro w' hSw; obtain ⟨s0, s1, s2, s3, s4, s5, s6⟩ := hSw; go_simp; (try with_reducible rfl))))
                  (try simp only [Act.put, List.setIfInBounds_toArray, List.set_cons_zero, List.set_cons_succ])
                  iterate 1 (refine wpMix_take (v := ?_) ?_ ?_; rotate_left; · (first | (refine Or.inr ⟨by rfl, by rfl⟩) | (refine Or.inl ⟨by rfl, ?_⟩; intro w' hSw; obtain ⟨s0, s1, s2, s3, s4, s5, s6⟩ := hSw; go_simp; (try with_reducible rfl))))
                  (try simp only [Act.put, List.setIfInBounds_toArray, List.set_cons_zero, List.set_cons_succ])
                  iterate 1 (refine wpMix_take (v := ?_) ?_ ?_; rotate_left; · (first | (refine Or.inr ⟨by rfl, by rfl⟩) | (refine Or.inl ⟨by rfl, ?_⟩; intro w' hSw; obtain ⟨s0, s1, s2, s3, s4, s5, s6⟩ := hSw; go_simp; (try with_reducible rfl))))
                  (try simp only [Act.put, List.setIfInBounds_toArray, List.set_cons_zero, List.set_cons_succ])
                  iterate 1 (refine wpMix_take (v := ?_) ?_ ?_; rotate_left; · (first | (refine Or.inr ⟨by rfl, by rfl⟩) | (refine Or.inl ⟨by rfl, ?_⟩; intro w' hSw; obtain ⟨s0, s1, s2, s3, s4, s5, s6⟩ := hSw; go_simp; (try with_reducible rfl))))
                  (try simp only [Act.put, List.setIfInBounds_toArray, List.set_cons_zero, List.set_cons_succ])
                  iterate 1 (refine wpMix_take (v := ?_) ?_ ?_; rotate_left; · (first | (refine Or.inr ⟨by rfl, by rfl⟩) | (refine Or.inl ⟨by rfl, ?_⟩; intro w' hSw; obtain ⟨s0, s1, s2, s3, s4, s5, s6⟩ := hSw; go_simp; (try with_reducible rfl))))
                  (try simp only [Act.put, List.setIfInBounds_toArray, List.set_cons_zero, List.set_cons_succ])
                  iterate 1 (refine wpMix_take (v := ?_) ?_ ?_; rotate_left; · (first | (refine Or.inr ⟨by rfl, by rfl⟩) | (refine Or.inl ⟨by rfl, ?_⟩; intro w' hSw; obtain ⟨s0, s1, s2, s3, s4, s5, s6⟩ := hSw; go_simp; (try with_reducible rfl))))
                  (try simp only [Act.put, List.setIfInBounds_toArray, List.set_cons_zero, List.set_cons_succ])
                  iterate 1 (refine wpMix_take (v := ?_) ?_ ?_; rotate_left; · (first | (refine Or.inr ⟨by rfl, by rfl⟩) | (refine Or.inl ⟨by rfl, ?_⟩; intro w' hSw; obtain ⟨s0, s1, s2, s3, s4, s5, s6⟩ := hSw; go_simp; (try with_reducible rfl))))
                  (try simp only [Act.put, List.setIfInBounds_toArray, List.set_cons_zero, List.set_cons_succ])
                  iterate 1 (refine wpMix_take (v := ?_) ?_ ?_; rotate_left; · (first | (refine Or.inr ⟨by rfl, by rfl⟩) | (refine Or.inl ⟨by rfl, ?_⟩; intro w' hSw; obtain ⟨s0, s1, s2, s3, s4, s5, s6⟩ := hSw; go_simp; (try with_reducible rfl))))
                  (try simp only [Act.put, List.setIfInBounds_toArray, List.set_cons_zero, List.set_cons_succ])
                  iterate 1 (refine wpMix_take (v := ?_) ?_ ?_; rotate_left; · (first | (refine Or.inr ⟨by rfl, by rfl⟩) | (refine Or.inl ⟨by rfl, ?_⟩; intro w' hSw; obtain ⟨s0, s1, s2, s3, s4, s5, s6⟩ := hSw; go_simp; (try with_reducible rfl))))
                  (try simp only [Act.put, List.setIfInBounds_toArray, List.set_cons_zero, List.set_cons_succ])
                  iterate 1 (refine wpMix_take (v := ?_) ?_ ?_; rotate_left; · (first | (refine Or.inr ⟨by rfl, by rfl⟩) | (refine Or.inl ⟨by rfl, ?_⟩; intro w' hSw; obtain ⟨s0, s1, s2, s3, s4, s5, s6⟩ := hSw; go_simp; (try with_reducible rfl))))
                  (try simp only [Act.put, List.setIfInBounds_toArray, List.set_cons_zero, List.set_cons_succ])
                  iterate 1 (refine wpMix_take (v := ?_) ?_ ?_; rotate_left; · (first | (refine Or.inr ⟨by rfl, by rfl⟩) | (refine Or.inl ⟨by rfl, ?_⟩; intro w' hSw; obtain ⟨s0, s1, s2, s3, s4, s5, s6⟩ := hSw; go_simp; (try with_reducible rfl))))
                  (try simp only [Act.put, List.setIfInBounds_toArray, List.set_cons_zero, List.set_cons_succ])
                  iterate 1 (refine wpMix_take (v := ?_) ?_ ?_; rotate_left; · (first | (refine Or.inr ⟨by rfl, by rfl⟩) | (refine Or.inl ⟨by rfl, ?_⟩; intro w' hSw; obtain ⟨s0, s1, s2, s3, s4, s5, s6⟩ := hSw; go_simp; (try with_reducible rfl))))
                  (try simp only [Act.put, List.setIfInBounds_toArray, List.set_cons_zero, List.set_cons_succ])
                  iterate 1 (refine wpMix_take (v := ?_) ?_ ?_; rotate_left; · (first | (refine Or.inr ⟨by rfl, by rfl⟩) | (refine Or.inl ⟨by rfl, ?_⟩; intro w' hSw; obtain ⟨s0, s1, s2, s3, s4, s5, s6⟩ := hSw; go_simp; (try with_reducible rfl))))
                  (try simp only [Act.put, List.setIfInBounds_toArray, List.set_cons_zero, List.set_cons_succ])
                  iterate 1 (refine wpMix_take (v := ?_) ?_ ?_; rotate_left; · (first | (refine Or.inr ⟨by rfl, by rfl⟩) | (refine Or.inl ⟨by rfl, ?_⟩; intro w' hSw; obtain ⟨s0, s1, s2, s3, s4, s5, s6⟩ := hSw; go_simp; (try with_reducible rfl))))
                  (try simp only [Act.put, List.setIfInBounds_toArray, List.set_cons_zero, List.set_cons_succ])
                  iterate 1 (refine wpMix_take (v := ?_) ?_ ?_; rotate_left; · (first | (refine Or.inr ⟨by rfl, by rfl⟩) | (refine Or.inl ⟨by rfl, ?_⟩; intro w' hSw; obtain ⟨s0, s1, s2, s3, s4, s5, s6⟩ := hSw; go_simp; (try with_reducible rfl))))
                  (try simp only [Act.put, List.setIfInBounds_toArray, List.set_cons_zero, List.set_cons_succ])
                  iterate 1 (refine wpMix_take (v := ?_) ?_ ?_; rotate_left; · (first | (refine Or.inr ⟨by rfl, by rfl⟩) | (refine Or.inl ⟨by rfl, ?_⟩; intro w' hSw; obtain ⟨s0, s1, s2, s3, s4, s5, s6⟩ := hSw; go_simp; (try with_reducible rfl))))
                  (try simp only [Act.put, List.setIfInBounds_toArray, List.set_cons_zero, List.set_cons_succ])
                  iterate 1 (refine wpMix_take (v := ?_) ?_ ?_; rotate_left; · (first | (refine Or.inr ⟨by rfl, by rfl⟩) | (refine Or.inl ⟨by rfl, ?_⟩; intro w' hSw; obtain ⟨s0, s1, s2, s3, s4, s5, s6⟩ := hSw; go_simp; (try with_reducible rfl))))
                  (try simp only [Act.put, List.setIfInBounds_toArray, List.set_cons_zero, List.set_cons_succ])
                  iterate 1 (refine wpMix_take (v := ?_) ?_ ?_; rotate_left; · (first | (refine Or.inr ⟨by rfl, by rfl⟩) | (refine Or.inl ⟨by rfl, ?_⟩; intro w' hSw; obtain ⟨s0, s1, s2, s3, s4, s5, s6⟩ := hSw; go_simp; (try with_reducible rfl))))
                  (try simp only [Act.put, List.setIfInBounds_toArray, List.set_cons_zero, List.set_cons_succ])
                  iterate 1 (refine wpMix_take (v := ?_) ?_ ?_; rotate_left; · (first | (refine Or.inr ⟨by rfl, by rfl⟩) | (refine Or.inl ⟨by rfl, ?_⟩; intro w' hSw; obtain ⟨s0, s1, s2, s3, s4, s5, s6⟩ := hSw; go_simp; (try with_reducible rfl))))
                  (try simp only [Act.put, List.setIfInBounds_toArray, List.set_cons_zero, List.set_cons_succ])
                  iterate 1 (refine wpMix_take (v := ?_) ?_ ?_; rotate_left; · (first | (refine Or.inr ⟨by rfl, by rfl⟩) | (refine Or.inl ⟨by rfl, ?_⟩; intro w' hSw; obtain ⟨s0, s1, s2, s3, s4, s5, s6⟩ := hSw; go_simp; (try with_reducible rfl))))
                  (try simp only [Act.put, List.setIfInBounds_toArray, List.set_cons_zero, List.set_cons_succ])
                  iterate 1 (refine wpMix_take (v := ?_) ?_ ?_; rotate_left; · (first | (refine Or.inr ⟨by rfl, by rfl⟩) | (refine Or.inl ⟨by rfl, ?_⟩; intro w' hSw; obtain ⟨s0, s1, s2, s3, s4, s5, s6⟩ := hSw; go_simp; (try with_reducible rfl))))
                  (try simp only [Act.put, List.setIfInBounds_toArray, List.set_cons_zero, List.set_cons_succ])
                  iterate 1 (refine wpMix_take (v := ?_) ?_ ?_; rotate_left; · (first | (refine Or.inr ⟨by rfl, by rfl⟩) | (refine Or.inl ⟨by rfl, ?_⟩; intro w' hSw; obtain ⟨s0, s1, s2, s3, s4, s5, s6⟩ := hSw; go_simp; (try with_reducible rfl))))
                  (try simp only [Act.put, List.setIfInBounds_toArray, List.set_cons_zero, List.set_cons_succ])
                  iterate 1 (refine wpMix_take (v := ?_) ?_ ?_; rotate_left; · (first | (refine Or.inr ⟨by rfl, by rfl⟩) | (refine Or.inl ⟨by rfl, ?_⟩; intro w' hSw; obtain ⟨s0, s1, s2, s3, s4, s5, s6⟩ := hSw; go_simp; (try with_reducible rfl))))
                  (try simp only [Act.put, List.setIfInBounds_toArray, List.set_cons_zero, List.set_cons_succ])
                  iterate 1 (refine wpMix_take (v := ?_) ?_ ?_; rotate_left; · (first | (refine Or.inr ⟨by rfl, by rfl⟩) | (refine Or.inl ⟨by rfl, ?_⟩; intro w' hSw; obtain ⟨s0, s1, s2, s3, s4, s5, s6⟩ := hSw; go_simp; (try with_reducible rfl))))
                  (try simp only [Act.put, List.setIfInBounds_toArray, List.set_cons_zero, List.set_cons_succ])
                  iterate 1 (refine wpMix_take (v := ?_) ?_ ?_; rotate_left; · (first | (refine Or.inr ⟨by rfl, by rfl⟩) | (refine Or.inl ⟨by rfl, ?_⟩; intro w' hSw; obtain ⟨s0, s1, s2, s3, s4, s5, s6⟩ := hSw; go_simp; (try with_reducible rfl))))
                  (try simp only [Act.put, List.setIfInBounds_toArray, List.set_cons_zero, List.set_cons_succ])
                  iterate 1 (refine wpMix_take (v := ?_) ?_ ?_; rotate_left; · (first | (refine Or.inr ⟨by rfl, by rfl⟩) | (refine Or.inl ⟨by rfl, ?_⟩; intro w' hSw; obtain ⟨s0, s1, s2, s3, s4, s5, s6⟩ := hSw; go_simp; (try with_reducible rfl))))
                  (try simp only [Act.put, List.setIfInBounds_toArray, List.set_cons_zero, List.set_cons_succ])
                  iterate 1 (refine wpMix_take (v := ?_) ?_ ?_; rotate_left; · (first | (refine Or.inr ⟨by rfl, by rfl⟩) | (refine Or.inl ⟨by rfl, ?_⟩; intro w' hSw; obtain ⟨s0, s1, s2, s3, s4, s5, s6⟩ := hSw; go_simp; (try with_reducible rfl))))
                  (try simp only [Act.put, List.setIfInBounds_toArray, List.set_cons_zero, List.set_cons_succ])
                  iterate 1 (refine wpMix_take (v := ?_) ?_ ?_; rotate_left; · (first | (refine Or.inr ⟨by rfl, by rfl⟩) | (refine Or.inl ⟨by rfl, ?_⟩; intro w' hSw; obtain ⟨s0, s1, s2, s3, s4, s5, s6⟩ := hSw; go_simp; (try with_reducible rfl))))
                  (try simp only [Act.put, List.setIfInBounds_toArray, List.set_cons_zero, List.set_cons_succ])
                  iterate 1 (refine wpMix_take (v := ?_) ?_ ?_; rotate_left; · (first | (refine Or.inr ⟨by rfl, by rfl⟩) | (refine Or.inl ⟨by rfl, ?_⟩; intro w' hSw; obtain ⟨s0, s1, s2, s3, s4, s5, s6⟩ := hSw; go_simp; (try with_reducible rfl))))
                  (try simp only [Act.put, List.setIfInBounds_toArray, List.set_cons_zero, List.set_cons_succ])
                  iterate 1 (refine wpMix_take (v := ?_) ?_ ?_; rotate_left; · (first | (refine Or.inr ⟨by rfl, by rfl⟩) | (refine Or.inl ⟨by rfl, ?_⟩; intro w' hSw; obtain ⟨s0, s1, s2, s3, s4, s5, s6⟩ := hSw; go_simp; (try with_reducible rfl))))
                  (try simp only [Act.put, List.setIfInBounds_toArray, List.set_cons_zero, List.set_cons_succ])
                  iterate 1 (refine wpMix_take (v := ?_) ?_ ?_; rotate_left; · (first | (refine Or.inr ⟨by rfl, by rfl⟩) | (refine Or.inl ⟨by rfl, ?_⟩; intro w' hSw; obtain ⟨s0, s1, s2, s3, s4, s5, s6⟩ := hSw; go_simp; (try with_reducible rfl))))
                  (try simp only [Act.put, List.setIfInBounds_toArray, List.set_cons_zero, List.set_cons_succ])
                  iterate 1 (refine wpMix_take (v := ?_) ?_ ?_; rotate_left; · (first | (refine Or.inr ⟨by rfl, by rfl⟩) | (refine Or.inl ⟨by rfl, ?_⟩; intro w' hSw; obtain ⟨s0, s1, s2, s3, s4, s5, s6⟩ := hSw; go_simp; (try with_reducible rfl))))
                  (try simp only [Act.put, List.setIfInBounds_toArray, List.set_cons_zero, List.set_cons_succ])
                  iterate 1 (refine wpMix_take (v := ?_) ?_ ?_; rotate_left; · (first | (refine Or.inr ⟨by rfl, by rfl⟩) | (refine Or.inl ⟨by rfl, ?_⟩; intro w' hSw; obtain ⟨s0, s1, s2, s3, s4, s5, s6⟩ := hSw; go_simp; (try with_reducible rfl))))
                  (try simp only [Act.put, List.setIfInBounds_toArray, List.set_cons_zero, List.set_cons_succ])
                  iterate 1 (refine wpMix_take (v := ?_) ?_ ?_; rotate_left; · (first | (refine Or.inr ⟨by rfl, by rfl⟩) | (refine Or.inl ⟨by rfl, ?_⟩; intro w' hSw; obtain ⟨s0, s1, s2, s3, s4, s5, s6⟩ := hSw; go_simp; (try with_reducible rfl))))
                  (try simp only [Act.put, List.setIfInBounds_toArray, List.set_cons_zero, List.set_cons_succ])
                  iterate 1 (refine wpMix_take (v := ?_) ?_ ?_; rotate_left; · (first | (refine Or.inr ⟨by rfl, by rfl⟩) | (refine Or.inl ⟨by rfl, ?_⟩; intro w' hSw; obtain ⟨s0, s1, s2, s3, s4, s5, s6⟩ := hSw; go_simp; (try with_reducible rfl))))
                  (try simp only [Act.put, List.setIfInBounds_toArray, List.set_cons_zero, List.set_cons_succ])
                  iterate 1 (refine wpMix_take (v := ?_) ?_ ?_; rotate_left; · (first | (refine Or.inr ⟨by rfl, by rfl⟩) | (refine Or.inl ⟨by rfl, ?_⟩; intro w' hSw; obtain ⟨s0, s1, s2, s3, s4, s5, s6⟩ := hSw; go_simp; (try with_reducible rfl))))
                  (try simp only [Act.put, List.setIfInBounds_toArray, List.set_cons_zero, List.set_cons_succ])
                  iterate 1 (refine wpMix_take (v := ?_) ?_ ?_; rotate_left; · (first | (refine Or.inr ⟨by rfl, by rfl⟩) | (refine Or.inl ⟨by rfl, ?_⟩; intro w' hSw; obtain ⟨s0, s1, s2, s3, s4, s5, s6⟩ := hSw; go_simp; (try with_reducible rfl))))
                  (try simp only [Act.put, List.setIfInBounds_toArray, List.set_cons_zero, List.set_cons_succ])
                  iterate 1 (refine wpMix_take (v := ?_) ?_ ?_; rotate_left; · (first | (refine Or.inr ⟨by rfl, by rfl⟩) | (refine Or.inl ⟨by rfl, ?_⟩; intro w' hSw; obtain ⟨s0, s1, s2, s3, s4, s5, s6⟩ := hSw; go_simp; (try with_reducible rfl))))
                  (try simp only [Act.put, List.setIfInBounds_toArray, List.set_cons_zero, List.set_cons_succ])
                  refine wpMix_nil ?_
                  clear HSK
                  go_wp2_with fail
                  go_ret2
                  exact .inr ⟨HNO.out, rfl, HB.out.trans ((below_then HB2.out hb4').mono HB.out.size)⟩
            · as_aux_lemma =>
                have t0 : (pt != (n : Int)) = false := by simp [q0]
                have t1 : (pi != (k : Int)) = false := by simp [q1]
                have t2 : (pe != e0) = true := by rw [bne_iff_ne]; exact q2
                have HRT := Lib.hid (show rightN pe psq pi pt nu = true from by rw [← hnu, rightN_eq ⟨pe, psq, pi, pt, pd⟩]; exact decide_eq_true hr)
                have hno : ¬ StampMath.fits n e0 s0q k ⟨pe, psq, pi, pt, pd⟩ := fun hp => q2 hp.2.2.2.1
                have HNO := Lib.hid (JN.out.2 k _ HX.out hno)
                clear hno
                clear q0 q1
                go_wp2_with (first
                  | refine wpList_load_mid rfl 130 (.tmp 12) rfl g (k * 5) rfl (partCells ⟨pe, psq, pi, pt, pd⟩ (.slice Au nu cu)) _ HRG.out hus rfl hib ?_
                  | refine wpList_store_new rfl 130 (.tmp 6) (.tmp 13) rfl rfl (partCells ⟨pe, psq, pi, pt, pd⟩ (.slice Au nu cu)) rfl rfl (by show Z.toArray.size = _; rw [List.size_toArray, HZL.out]; rfl) hib (fun u hu => by simp at hu; rcases hu with rfl | rfl | rfl | rfl | rfl <;> rfl) ?_; intro w2 hr2 hb2 hs2; have HR2 := Lib.hid hr2; have HB2 := Lib.hid hb2; clear hr2 hb2)
                obtain ⟨w2b, hw2b⟩ : ∃ w2b, wo.heap.size = w2b := ⟨_, rfl⟩
                have HSK := Lib.hid (skFacts (w2b := w2b) HR2.out hw2b HG.out.1 HG.out.2 HB2.out HGL.out)
                rw [hw2b]
                clear hw2b
                refine wp_region_mix [(true, 0), (false, 1), (true, 2), (true, 3), (true, 4), (true, 5), (true, 6), (true, 7), (true, 8), (true, 9), (true, 10), (true, 11), (true, 12), (true, 13), (true, 14), (true, 15), (true, 16), (true, 17), (true, 18), (true, 19), (true, 20), (true, 21), (true, 22), (true, 23), (true, 24), (true, 25), (true, 26), (true, 27), (true, 28), (true, 29), (true, 30), (true, 31), (true, 32), (true, 33), (true, 34), (true, 35), (true, 36), (true, 37), (true, 38), (true, 39), (true, 40)] 41 (fun w' => w'.cell? ⟨w2b, 0, none⟩ = some (.int .i64 pe) ∧ w'.cell? ⟨w2b, 1, none⟩ = some (.int .i64 psq) ∧ w'.cell? ⟨w2b, 2, none⟩ = some (.int .i64 pi) ∧ w'.cell? ⟨w2b, 3, none⟩ = some (.int .i64 pt) ∧ w'.cell? ⟨w2b, 4, none⟩ = some (.slice Au nu cu) ∧ w'.cell? ⟨g, 0, none⟩ = some (.int .i64 e0) ∧ w'.cell? ⟨g, 1, none⟩ = some (.int .i64 s0q)) (by kernel_rfl) (by kernel_rfl) (by rintro _ ⟨_, _⟩ ⟨_, _⟩ _ rfl h; exact h) (HSK.out _ (Below.refl _ _).drew) ?_
                simp only [pickM, List.getElem?_cons_succ, List.getElem?_cons_zero]
                iterate 1 (refine wpMix_take (v := ?_) ?_ ?_; rotate_left; · (first | (refine Or.inr ⟨by rfl, by rfl⟩) | (refine Or.inl ⟨by rfl, ?_⟩; intro w' hSw; obtain ⟨s0, s1, s2, s3, s4, s5, s6⟩ := hSw; go_simp; (try with_reducible rfl))))
                (try simp only [Act.put, List.setIfInBounds_toArray, List.set_cons_zero, List.set_cons_succ])
                refine wpMix_do rfl fun K hK => ?_
                go_simp
                have hrt := right_any pe psq pi pt Au nu cu w2.drew
                rw [HRT.out] at hrt
                refine hrt.mono ?_
                rintro e w3 ⟨rfl, hb3⟩
                have hb3' : Below w2.heap.size w2 w3 := (Below.refl _ _).drew.trans hb3
                refine hK.out _ _ (fun _ => HSK.out _ hb3') ?_
                clear hK K hrt
                (try simp only [Act.put, List.setIfInBounds_toArray, List.set_cons_zero, List.set_cons_succ])
                have hb4' := hb3'
                iterate 1 (refine wpMix_take (v := ?_) ?_ ?_; rotate_left; · (first | (refine Or.inr ⟨by rfl, by rfl⟩) | (refine Or.inl ⟨by rfl, ?_⟩; intro w' hSw; obtain ⟨s0, s1, s2, s3, s4, s5, s6⟩ := hSw; go_simp; (try with_reducible rfl))))
                (try simp only [Act.put, List.setIfInBounds_toArray, List.set_cons_zero, List.set_cons_succ])
                iterate 1 (refine wpMix_take (v := ?_) ?_ ?_; rotate_left; · (first | (refine Or.inr ⟨by rfl, by rfl⟩) | (refine Or.inl ⟨by rfl, ?_⟩; intro w' hSw; obtain ⟨s0, s1, s2, s3, s4, s5, s6⟩ := hSw; go_simp; (try with_reducible rfl))))
                (try simp only [Act.put, List.setIfInBounds_toArray, List.set_cons_zero, List.set_cons_succ])
                iterate 1 (refine wpMix_take (v := ?_) ?_ ?_; rotate_left; · (first | (refine Or.inr ⟨by rfl, by rfl⟩) | (refine Or.inl ⟨by rfl, ?_⟩; intro w' hSw; obtain ⟨s0, s1, s2, s3, s4, s5, s6⟩ := hSw; go_simp; (try with_reducible rfl))))
                (try simp only [Act.put, List.setIfInBounds_toArray, List.set_cons_zero, List.set_cons_succ])
                iterate 1 (refine wpMix_take (v := ?_) ?_ ?_; rotate_left; · (first | (refine Or.inr ⟨by rfl, by rfl⟩) | (refine Or.inl ⟨by rfl, ?_⟩; intro w' hSw; obtain ⟨s0, s1, s2, s3, s4, s5, s6⟩ := hSw; go_simp; (try with_reducible rfl))))
                (try simp only [Act.put, List.setIfInBounds_toArray, List.set_cons_zero, List.set_cons_succ])
                iterate 1 (refine wpMix_take (v := ?_) ?_ ?_; rotate_left; · (first | (refine Or.inr ⟨by rfl, by rfl⟩) | (refine Or.inl ⟨by rfl, ?_⟩; intro w' hSw; obtain ⟨s0, s1, s2, s3, s4, s5, s6⟩ := hSw; go_simp; (try with_reducible rfl))))
                (try simp only [Act.put, List.setIfInBounds_toArray, List.set_cons_zero, List.set_cons_succ])
                iterate 1 (refine wpMix_take (v := ?_) ?_ ?_; rotate_left; · (first | (refine Or.inr ⟨by rfl, by rfl⟩) | (refine Or.inl ⟨by rfl, ?_⟩; intro w' hSw; obtain ⟨s0, s1, s2, s3, s4, s5, s6⟩ := hSw; go_simp; (try with_reducible rfl))))
                (try simp only [Act.put, List.setIfInBounds_toArray, List.set_cons_zero, List.set_cons_succ])
                iterate 1 (refine wpMix_take (v := ?_) ?_ ?_; rotate_left; · (first | (refine Or.inr ⟨by rfl, by rfl⟩) | (refine Or.inl ⟨by rfl, ?_⟩; intro w' hSw; obtain ⟨s0, s1, s2, s3, s4, s5, s6⟩ := hSw; go_simp; (try with_reducible rfl))))
                (try simp only [Act.put, List.setIfInBounds_toArray, List.set_cons_zero, List.set_cons_succ])
                iterate 1 (refine wpMix_take (v := ?_) ?_ ?_; rotate_left; · (first | (refine Or.inr ⟨by rfl, by rfl⟩) | (refine Or.inl ⟨by rfl, ?_⟩; intro w' hSw; obtain ⟨s0, s1, s2, s3, s4, s5, s6⟩ := hSw; go_simp; (try with_reducible rfl))))
                (try simp only [Act.put, List.setIfInBounds_toArray, List.set_cons_zero, List.set_cons_succ])
                iterate 1 (refine wpMix_take (v := ?_) ?_ ?_; rotate_left; · (first | (refine Or.inr ⟨by rfl, by rfl⟩) | (refine Or.inl ⟨by rfl, ?_⟩; intro w' hSw; obtain ⟨s0, s1, s2, s3, s4, s5, s6⟩ := hSw; go_simp; (try with_reducible rfl))))
                (try simp only [Act.put, List.setIfInBounds_toArray, List.set_cons_zero, List.set_cons_succ])
                iterate 1 (refine wpMix_take (v := ?_) ?_ ?_; rotate_left; · (first | (refine Or.inr ⟨by rfl, by rfl⟩) | (refine Or.inl ⟨by rfl, ?_⟩; intro w' hSw; obtain ⟨s0, s1, s2, s3, s4, s5, s6⟩ := hSw; go_simp; (try with_reducible rfl))))
                (try simp only [Act.put, List.setIfInBounds_toArray, List.set_cons_zero, List.set_cons_succ])
                iterate 1 (refine wpMix_take (v := ?_) ?_ ?_; rotate_left; · (first | (refine Or.inr ⟨by rfl, by rfl⟩) | (refine Or.inl ⟨by rfl, ?_⟩; intro w' hSw; obtain ⟨s0, s1, s2, s3, s4, s5, s6⟩ := hSw; go_simp; (try with_reducible rfl))))
                (try simp only [Act.put, List.setIfInBounds_toArray, List.set_cons_zero, List.set_cons_succ])
                iterate 1 (refine wpMix_take (v := ?_) ?_ ?_; rotate_left; · (first | (refine Or.inr ⟨by rfl, by rfl⟩) | (refine Or.inl ⟨by rfl, ?_⟩; intro w' hSw; obtain ⟨s0, s1, s2, s3, s4, s5, s6⟩ := hSw; go_simp; (try with_reducible rfl))))
                (try simp only [Act.put, List.setIfInBounds_toArray, List.set_cons_zero, List.set_cons_succ])
                iterate 1 (refine wpMix_take (v := ?_) ?_ ?_; rotate_left; · (first | (refine Or.inr ⟨by rfl, by rfl⟩) | (refine Or.inl ⟨by rfl, ?_⟩; intro w' hSw; obtain ⟨s0, s1, s2, s3, s4, s5, s6⟩ := hSw; go_simp; (try with_reducible rfl))))
                (try simp only [Act.put, List.setIfInBounds_toArray, List.set_cons_zero, List.set_cons_succ])
                iterate 1 (refine wpMix_take (v := ?_) ?_ ?_; rotate_left; · (first | (refine Or.inr ⟨by rfl, by rfl⟩) | (refine Or.inl ⟨by rfl, ?_⟩; intro w' hSw; obtain ⟨s0, s1, s2, s3, s4, s5, s6⟩ := hSw; go_simp; (try with_reducible rfl))))
                (try simp only [Act.put, List.setIfInBounds_toArray, List.set_cons_zero, List.set_cons_succ])
                iterate 1 (refine wpMix_take (v := ?_) ?_ ?_; rotate_left; · (first | (refine Or.inr ⟨by rfl, by rfl⟩) | (refine Or.inl ⟨by rfl, ?_⟩; intro w' hSw; obtain ⟨s0, s1, s2, s3, s4, s5, s6⟩ := hSw; go_simp; (try with_reducible rfl))))
                (try simp only [Act.put, List.setIfInBounds_toArray, List.set_cons_zero, List.set_cons_succ])
                iterate 1 (refine wpMix_take (v := ?_) ?_ ?_; rotate_left; · (first | (refine Or.inr ⟨by rfl, by rfl⟩) | (refine Or.inl ⟨by rfl, ?_⟩; intro w' hSw; obtain ⟨s0, s1, s2, s3, s4, s5, s6⟩ := hSw; go_simp; (try with_reducible rfl))))
                (try simp only [Act.put, List.setIfInBounds_toArray, List.set_cons_zero, List.set_cons_succ])
                iterate 1 (refine wpMix_take (v := ?_) ?_ ?_; rotate_left; · (first | (refine Or.inr ⟨by rfl, by rfl⟩) | (refine Or.inl ⟨by rfl, ?_⟩; intro w' hSw; obtain ⟨s0, s1, s2, s3, s4, s5, s6⟩ := hSw; go_simp; (try with_reducible rfl))))
                (try simp only [Act.put, List.setIfInBounds_toArray, List.set_cons_zero, List.set_cons_succ])
                iterate 1 (refine wpMix_take (v := ?_) ?_ ?_; rotate_left; · (first | (refine Or.inr ⟨by rfl, by rfl⟩) | (refine Or.inl ⟨by rfl, ?_⟩; intro w' hSw; obtain ⟨s0, s1, s2, s3, s4, s5, s6⟩ := hSw; go_simp; (try with_reducible rfl))))
                (try simp only [Act.put, List.setIfInBounds_toArray, List.set_cons_zero, List.set_cons_succ])
                iterate 1 (refine wpMix_take (v := ?_) ?_ ?_; rotate_left; · (first | (refine Or.inr ⟨by rfl, by rfl⟩) | (refine Or.inl ⟨by rfl, ?_⟩; intro w' hSw; obtain ⟨s0, s1, s2, s3, s4, s5, s6⟩ := hSw; go_simp; (try with_reducible rfl))))
                (try simp only [Act.put, List.setIfInBounds_toArray, List.set_cons_zero, List.set_cons_succ])
                iterate 1 (refine wpMix_take (v := ?_) ?_ ?_; rotate_left; · (first | (refine Or.inr ⟨by rfl, by rfl⟩) | (refine Or.inl ⟨by rfl, ?_⟩; intro w' hSw; obtain ⟨s0, s1, s2, s3, s4, s5, s6⟩ := hSw; go_simp; (try with_reducible rfl))))
                (try simp only [Act.put, List.setIfInBounds_toArray, List.set_cons_zero, List.set_cons_succ])
                iterate 1 (refine wpMix_take (v := ?_) ?_ ?_; rotate_left; · (first | (refine Or.inr ⟨by rfl, by rfl⟩) | (refine Or.inl ⟨by rfl, ?_⟩; intro w' hSw; obtain ⟨s0, s1, s2, s3, s4, s5, s6⟩ := hSw; go_simp; (try with_reducible rfl))))
                (try simp only [Act.put, List.setIfInBounds_toArray, List.set_cons_zero, List.set_cons_succ])
                iterate 1 (refine wpMix_take (v := ?_) ?_ ?_; rotate_left; · (first | (refine Or.inr ⟨by rfl, by rfl⟩) | (refine Or.inl ⟨by rfl, ?_⟩; intro w' hSw; obtain ⟨s0, s1, s2, s3, s4, s5, s6⟩ := hSw; go_simp; (try with_reducible rfl))))
                (try simp only [Act.put, List.setIfInBounds_toArray, List.set_cons_zero, List.set_cons_succ])
                iterate 1 (refine wpMix_take (v := ?_) ?_ ?_; rotate_left; · (first | (refine Or.inr ⟨by rfl, by rfl⟩) | (refine Or.inl ⟨by rfl, ?_⟩; intro w' hSw; obtain ⟨s0, s1, s2, s3, s4, s5, s6⟩ := hSw; go_simp; (try with_reducible rfl))))
                (try simp only [Act.put, List.setIfInBounds_toArray, List.set_cons_zero, List.set_cons_succ])
                iterate 1 (refine wpMix_take (v := ?_) ?_ ?_; rotate_left; · (first | (refine Or.inr ⟨by rfl, by rfl⟩) | (refine Or.inl ⟨by rfl, ?_⟩; intro w' hSw; obtain ⟨s0, s1, s2, s3, s4, s5, s6⟩ := hSw; go_simp; (try with_reducible rfl))))
                (try simp only [Act.put, List.setIfInBounds_toArray, List.set_cons_zero, List.set_cons_succ])
                iterate 1 (refine wpMix_take (v := ?_) ?_ ?_; rotate_left; · (first | (refine Or.inr ⟨by rfl, by rfl⟩) | (refine Or.inl ⟨by rfl, ?_⟩; intro w' hSw; obtain ⟨s0, s1, s2, s3, s4, s5, s6⟩ := hSw; go_simp; (try with_reducible rfl))))
                (try simp only [Act.put, List.setIfInBounds_toArray, List.set_cons_zero, List.set_cons_succ])
                iterate 1 (refine wpMix_take (v := ?_) ?_ ?_; rotate_left; · (first | (refine Or.inr ⟨by rfl, by rfl⟩) | (refine Or.inl ⟨by rfl, ?_⟩; intro w' hSw; obtain ⟨s0, s1, s2, s3, s4, s5, s6⟩ := hSw; go_simp; (try with_reducible rfl))))
                (try simp only [Act.put, List.setIfInBounds_toArray, List.set_cons_zero, List.set_cons_succ])
                iterate 1 (refine wpMix_take (v := ?_) ?_ ?_; rotate_left; · (first | (refine Or.inr ⟨by rfl, by rfl⟩) | (refine Or.inl ⟨by rfl, ?_⟩; intro w' hSw; obtain ⟨s0, s1, s2, s3, s4, s5, s6⟩ := hSw; go_simp; (try with_reducible rfl))))
                (try simp only [Act.put, List.setIfInBounds_toArray, List.set_cons_zero, List.set_cons_succ])
                iterate 1 (refine wpMix_take (v := ?_) ?_ ?_; rotate_left; · (first | (refine Or.inr ⟨by rfl, by rfl⟩) | (refine Or.inl ⟨by rfl, ?_⟩; intro w' hSw; obtain ⟨s0, s1, s2, s3, s4, s5, s6⟩ := hSw; go_simp; (try with_reducible rfl))))
                (try simp only [Act.put, List.setIfInBounds_toArray, List.set_cons_zero, List.set_cons_succ])
                iterate 1 (refine wpMix_take (v := ?_) ?_ ?_; rotate_left; · (first | (refine Or.inr ⟨by rfl, by rfl⟩) | (refine Or.inl ⟨by rfl, ?_⟩; intro w' hSw; obtain ⟨s0, s1, s2, s3, s4, s5, s6⟩ := hSw; go_simp; (try with_reducible rfl))))
                (try simp only [Act.put, List.setIfInBounds_toArray, List.set_cons_zero, List.set_cons_succ])
                iterate 1 (refine wpMix_take (v := ?_) ?_ ?_; rotate_left; · (first | (refine Or.inr ⟨by rfl, by rfl⟩) | (refine Or.inl ⟨by rfl, ?_⟩; intro w' hSw; obtain ⟨s0, s1, s2, s3, s4, s5, s6⟩ := hSw; go_simp; (try with_reducible rfl))))
                (try simp only [Act.put, List.setIfInBounds_toArray, List.set_cons_zero, List.set_cons_succ])
                iterate 1 (refine wpMix_take (v := ?_) ?_ ?_; rotate_left; · (first | (refine Or.inr ⟨by rfl, by rfl⟩) | (refine Or.inl ⟨by rfl, ?_⟩; intro w' hSw; obtain ⟨s0, s1, s2, s3, s4, s5, s6⟩ := hSw; go_simp; (try with_reducible rfl))))
                (try simp only [Act.put, List.setIfInBounds_toArray, List.set_cons_zero, List.set_cons_succ])
                iterate 1 (refine wpMix_take (v := ?_) ?_ ?_; rotate_left; · (first | (refine Or.inr ⟨by rfl, by rfl⟩) | (refine Or.inl ⟨by rfl, ?_⟩; intro w' hSw; obtain ⟨s0, s1, s2, s3, s4, s5, s6⟩ := hSw; go_simp; (try with_reducible rfl))))
                (try simp only [Act.put, List.setIfInBounds_toArray, List.set_cons_zero, List.set_cons_succ])
                iterate 1 (refine wpMix_take (v := ?_) ?_ ?_; rotate_left; · (first | (refine Or.inr ⟨by rfl, by rfl⟩) | (refine Or.inl ⟨by rfl, ?_⟩; intro w' hSw; obtain ⟨s0, s1, s2, s3, s4, s5, s6⟩ := hSw; go_simp; (try with_reducible rfl))))
                (try simp only [Act.put, List.setIfInBounds_toArray, List.set_cons_zero, List.set_cons_succ])
                iterate 1 (refine wpMix_take (v := ?_) ?_ ?_; rotate_left; · (first | (refine Or.inr ⟨by rfl, by rfl⟩) | (refine Or.inl ⟨by rfl, ?_⟩; intro w' hSw; obtain ⟨s0, s1, s2, s3, s4, s5, s6⟩ := hSw; go_simp; (try with_reducible rfl))))
                (try simp only [Act.put, List.setIfInBounds_toArray, List.set_cons_zero, List.set_cons_succ])
                iterate 1 (refine wpMix_take (v := ?_) ?_ ?_; rotate_left; · (first | (refine Or.inr ⟨by rfl, by rfl⟩) | (refine Or.inl ⟨by rfl, ?_⟩; intro w' hSw; obtain ⟨s0, s1, s2, s3, s4, s5, s6⟩ := hSw; go_simp; (try with_reducible rfl))))
                (try simp only [Act.put, List.setIfInBounds_toArray, List.set_cons_zero, List.set_cons_succ])
                iterate 1 (refine wpMix_take (v := ?_) ?_ ?_; rotate_left; · (first | (refine Or.inr ⟨by rfl, by rfl⟩) | (refine Or.inl ⟨by rfl, ?_⟩; intro w' hSw; obtain ⟨s0, s1, s2, s3, s4, s5, s6⟩ := hSw; go_simp; (try with_reducible rfl))))
                (try simp only [Act.put, List.setIfInBounds_toArray, List.set_cons_zero, List.set_cons_succ])
                iterate 1 (refine wpMix_take (v := ?_) ?_ ?_; rotate_left; · (first | (refine Or.inr ⟨by rfl, by rfl⟩) | (refine Or.inl ⟨by rfl, ?_⟩; intro w' hSw; obtain ⟨s0, s1, s2, s3, s4, s5, s6⟩ := hSw; go_simp; (try with_reducible rfl))))
                (try simp only [Act.put, List.setIfInBounds_toArray, List.set_cons_zero, List.set_cons_succ])
                iterate 1 (refine wpMix_take (v := ?_) ?_ ?_; rotate_left; · (first | (refine Or.inr ⟨by rfl, by rfl⟩) | (refine Or.inl ⟨by rfl, ?_⟩; intro w' hSw; obtain ⟨s0, s1, s2, s3, s4, s5, s6⟩ := hSw; go_simp; (try with_reducible rfl))))
                (try simp only [Act.put, List.setIfInBounds_toArray, List.set_cons_zero, List.set_cons_succ])
                iterate 1 (refine wpMix_take (v := ?_) ?_ ?_; rotate_left; · (first | (refine Or.inr ⟨by rfl, by rfl⟩) | (refine Or.inl ⟨by rfl, ?_⟩; intro w' hSw; obtain ⟨s0, s1, s2, s3, s4, s5, s6⟩ := hSw; go_simp; (try with_reducible rfl))))
                (try simp only [Act.put, List.setIfInBounds_toArray, List.set_cons_zero, List.set_cons_succ])
                refine wpMix_nil ?_
                clear HSK
                go_wp2_with fail
                go_ret2
                exact .inr ⟨HNO.out, rfl, HB.out.trans ((below_then HB2.out hb4').mono HB.out.size)⟩
          · as_aux_lemma =>
              have t0 : (pt != (n : Int)) = false := by simp [q0]
              have t1 : (pi != (k : Int)) = true := by rw [bne_iff_ne]; exact q1
              have HRT := Lib.hid (show rightN pe psq pi pt nu = true from by rw [← hnu, rightN_eq ⟨pe, psq, pi, pt, pd⟩]; exact decide_eq_true hr)
              have hno : ¬ StampMath.fits n e0 s0q k ⟨pe, psq, pi, pt, pd⟩ := fun hp => q1 hp.2.2.1
              have HNO := Lib.hid (JN.out.2 k _ HX.out hno)
              clear hno
              clear q0
              go_wp2_with (first
                | refine wpList_load_mid rfl 130 (.tmp 12) rfl g (k * 5) rfl (partCells ⟨pe, psq, pi, pt, pd⟩ (.slice Au nu cu)) _ HRG.out hus rfl hib ?_
                | refine wpList_store_new rfl 130 (.tmp 6) (.tmp 13) rfl rfl (partCells ⟨pe, psq, pi, pt, pd⟩ (.slice Au nu cu)) rfl rfl (by show Z.toArray.size = _; rw [List.size_toArray, HZL.out]; rfl) hib (fun u hu => by simp at hu; rcases hu with rfl | rfl | rfl | rfl | rfl <;> rfl) ?_; intro w2 hr2 hb2 hs2; have HR2 := Lib.hid hr2; have HB2 := Lib.hid hb2; clear hr2 hb2)
              obtain ⟨w2b, hw2b⟩ : ∃ w2b, wo.heap.size = w2b := ⟨_, rfl⟩
              have HSK := Lib.hid (skFacts (w2b := w2b) HR2.out hw2b HG.out.1 HG.out.2 HB2.out HGL.out)
              rw [hw2b]
              clear hw2b
              refine wp_region_mix [(true, 0), (false, 1), (true, 2), (true, 3), (true, 4), (true, 5), (true, 6), (true, 7), (true, 8), (true, 9), (true, 10), (true, 11), (true, 12), (true, 13), (true, 14), (true, 15), (true, 16), (true, 17), (true, 18), (true, 19), (true, 20), (true, 21), (true, 22), (true, 23), (true, 24), (true, 25), (true, 26), (true, 27), (true, 28), (true, 29), (true, 30), (true, 31), (true, 32), (true, 33), (true, 34), (true, 35), (true, 36), (true, 37), (true, 38), (true, 39), (true, 40)] 41 (fun w' => w'.cell? ⟨w2b, 0, none⟩ = some (.int .i64 pe) ∧ w'.cell? ⟨w2b, 1, none⟩ = some (.int .i64 psq) ∧ w'.cell? ⟨w2b, 2, none⟩ = some (.int .i64 pi) ∧ w'.cell? ⟨w2b, 3, none⟩ = some (.int .i64 pt) ∧ w'.cell? ⟨w2b, 4, none⟩ = some (.slice Au nu cu) ∧ w'.cell? ⟨g, 0, none⟩ = some (.int .i64 e0) ∧ w'.cell? ⟨g, 1, none⟩ = some (.int .i64 s0q)) (by kernel_rfl) (by kernel_rfl) (by rintro _ ⟨_, _⟩ ⟨_, _⟩ _ rfl h; exact h) (HSK.out _ (Below.refl _ _).drew) ?_
              simp only [pickM, List.getElem?_cons_succ, List.getElem?_cons_zero]
              iterate 1 (refine wpMix_take (v := ?_) ?_ ?_; rotate_left; · (first | (refine Or.inr ⟨by rfl, by rfl⟩) | (refine Or.inl ⟨by rfl, ?_⟩; intro w' hSw; obtain ⟨s0, s1, s2, s3, s4, s5, s6⟩ := hSw; go_simp; (try with_reducible rfl))))
              (try simp only [Act.put, List.setIfInBounds_toArray, List.set_cons_zero, List.set_cons_succ])
              refine wpMix_do rfl fun K hK => ?_
              go_simp
              have hrt := right_any pe psq pi pt Au nu cu w2.drew
              rw [HRT.out] at hrt
              refine hrt.mono ?_
              rintro e w3 ⟨rfl, hb3⟩
              have hb3' : Below w2.heap.size w2 w3 := (Below.refl _ _).drew.trans hb3
              refine hK.out _ _ (fun _ => HSK.out _ hb3') ?_
              clear hK K hrt
              (try simp only [Act.put, List.setIfInBounds_toArray, List.set_cons_zero, List.set_cons_succ])
              have hb4' := hb3'
              iterate 1 (refine wpMix_take (v := ?_) ?_ ?_; rotate_left; · (first | (refine Or.inr ⟨by rfl, by rfl⟩) | (refine Or.inl ⟨by rfl, ?_⟩; intro w' hSw; obtain ⟨s0, s1, s2, s3, s4, s5, s6⟩ := hSw; go_simp; (try with_reducible rfl))))
              (try simp only [Act.put, List.setIfInBounds_toArray, List.set_cons_zero, List.set_cons_succ])
              iterate 1 (refine wpMix_take (v := ?_) ?_ ?_; rotate_left; · (first | (refine Or.inr ⟨by rfl, by rfl⟩) | (refine Or.inl ⟨by rfl, ?_⟩; intro w' hSw; obtain ⟨s0, s1, s2, s3, s4, s5, s6⟩ := hSw; go_simp; (try with_reducible rfl))))
              (try simp only [Act.put, List.setIfInBounds_toArray, List.set_cons_zero, List.set_cons_succ])
              iterate 1 (refine wpMix_take (v := ?_) ?_ ?_; rotate_left; · (first | (refine Or.inr ⟨by rfl, by rfl⟩) | (refine Or.inl ⟨by rfl, ?_⟩; intro w' hSw; obtain ⟨s0, s1, s2, s3, s4, s5, s6⟩ := hSw; go_simp; (try with_reducible rfl))))
              (try simp only [Act.put, List.setIfInBounds_toArray, List.set_cons_zero, List.set_cons_succ])
              iterate 1 (refine wpMix_take (v := ?_) ?_ ?_; rotate_left; · (first | (refine Or.inr ⟨by rfl, by rfl⟩) | (refine Or.inl ⟨by rfl, ?_⟩; intro w' hSw; obtain ⟨s0, s1, s2, s3, s4, s5, s6⟩ := hSw; go_simp; (try with_reducible rfl))))
              (try simp only [Act.put, List.setIfInBounds_toArray, List.set_cons_zero, List.set_cons_succ])
              iterate 1 (refine wpMix_take (v := ?_) ?_ ?_; rotate_left; · (first | (refine Or.inr ⟨by rfl, by rfl⟩) | (refine Or.inl ⟨by rfl, ?_⟩; intro w' hSw; obtain ⟨s0, s1, s2, s3, s4, s5, s6⟩ := hSw; go_simp; (try with_reducible rfl))))
              (try simp only [Act.put, List.setIfInBounds_toArray, List.set_cons_zero, List.set_cons_succ])
              iterate 1 (refine wpMix_take (v := ?_) ?_ ?_; rotate_left; · (first | (refine Or.inr ⟨by rfl, by rfl⟩) | (refine Or.inl ⟨by rfl, ?_⟩; intro w' hSw; obtain ⟨s0, s1, s2, s3, s4, s5, s6⟩ := hSw; go_simp; (try with_reducible rfl))))
              (try simp only [Act.put, List.setIfInBounds_toArray, List.set_cons_zero, List.set_cons_succ])
              iterate 1 (refine wpMix_take (v := ?_) ?_ ?_; rotate_left; · (first | (refine Or.inr ⟨by rfl, by rfl⟩) | (refine Or.inl ⟨by rfl, ?_⟩; intro w' hSw; obtain ⟨s0, s1, s2, s3, s4, s5, s6⟩ := hSw; go_simp; (try with_reducible rfl))))
              (try simp only [Act.put, List.setIfInBounds_toArray, List.set_cons_zero, List.set_cons_succ])
              iterate 1 (refine wpMix_take (v := ?_) ?_ ?_; rotate_left; · (first | (refine Or.inr ⟨by rfl, by rfl⟩) | (refine Or.inl ⟨by rfl, ?_⟩; intro w' hSw; obtain ⟨s0, s1, s2, s3, s4, s5, s6⟩ := hSw; go_simp; (try with_reducible rfl))))
              (try simp only [Act.put, List.setIfInBounds_toArray, List.set_cons_zero, List.set_cons_succ])
              iterate 1 (refine wpMix_take (v := ?_) ?_ ?_; rotate_left; · (first | (refine Or.inr ⟨by rfl, by rfl⟩) | (refine Or.inl ⟨by rfl, ?_⟩; intro w' hSw; obtain ⟨s0, s1, s2, s3, s4, s5, s6⟩ := hSw; go_simp; (try with_reducible rfl))))
              (try simp only [Act.put, List.setIfInBounds_toArray, List.set_cons_zero, List.set_cons_succ])
              iterate 1 (refine wpMix_take (v := ?_) ?_ ?_; rotate_left; · (first | (refine Or.inr ⟨by rfl, by rfl⟩) | (refine Or.inl ⟨by rfl, ?_⟩; intro w' hSw; obtain ⟨s0, s1, s2, s3, s4, s5, s6⟩ := hSw; go_simp; (try with_reducible rfl))))
              (try simp only [Act.put, List.setIfInBounds_toArray, List.set_cons_zero, List.set_cons_succ])
              iterate 1 (refine wpMix_take (v := ?_) ?_ ?_; rotate_left; · (first | (refine Or.inr ⟨by rfl, by rfl⟩) | (refine Or.inl ⟨by rfl, ?_⟩; intro w' hSw; obtain ⟨s0, s1, s2, s3, s4, s5, s6⟩ := hSw; go_simp; (try with_reducible rfl))))
              (try simp only [Act.put, List.setIfInBounds_toArray, List.set_cons_zero, List.set_cons_succ])
              iterate 1 (refine wpMix_take (v := ?_) ?_ ?_; rotate_left; · (first | (refine Or.inr ⟨by rfl, by rfl⟩) | (refine Or.inl ⟨by rfl, ?_⟩; intro w' hSw; obtain ⟨s0, s1, s2, s3, s4, s5, s6⟩ := hSw; go_simp; (try with_reducible rfl))))
              (try simp only [Act.put, List.setIfInBounds_toArray, List.set_cons_zero, List.set_cons_succ])
              iterate 1 (refine wpMix_take (v := ?_) ?_ ?_; rotate_left; · (first | (refine Or.inr ⟨by rfl, by rfl⟩) | (refine Or.inl ⟨by rfl, ?_⟩; intro w' hSw; obtain ⟨s0, s1, s2, s3, s4, s5, s6⟩ := hSw; go_simp; (try with_reducible rfl))))
              (try simp only [Act.put, List.setIfInBounds_toArray, List.set_cons_zero, List.set_cons_succ])
              iterate 1 (refine wpMix_take (v := ?_) ?_ ?_; rotate_left; · (first | (refine Or.inr ⟨by rfl, by rfl⟩) | (refine Or.inl ⟨by rfl, ?_⟩; intro w' hSw; obtain ⟨s0, s1, s2, s3, s4, s5, s6⟩ := hSw; go_simp; (try with_reducible rfl))))
              (try simp only [Act.put, List.setIfInBounds_toArray, List.set_cons_zero, List.set_cons_succ])
              iterate 1 (refine wpMix_take (v := ?_) ?_ ?_; rotate_left; · (first | (refine Or.inr ⟨by rfl, by rfl⟩) | (refine Or.inl ⟨by rfl, ?_⟩; intro w' hSw; obtain ⟨s0, s1, s2, s3, s4, s5, s6⟩ := hSw; go_simp; (try with_reducible rfl))))
              (try simp only [Act.put, List.setIfInBounds_toArray, List.set_cons_zero, List.set_cons_succ])
              iterate 1 (refine wpMix_take (v := ?_) ?_ ?_; rotate_left; · (first | (refine Or.inr ⟨by rfl, by rfl⟩) | (refine Or.inl ⟨by rfl, ?_⟩; intro w' hSw; obtain ⟨s0, s1, s2, s3, s4, s5, s6⟩ := hSw; go_simp; (try with_reducible rfl))))
              (try simp only [Act.put, List.setIfInBounds_toArray, List.set_cons_zero, List.set_cons_succ])
              iterate 1 (refine wpMix_take (v := ?_) ?_ ?_; rotate_left; · (first | (refine Or.inr ⟨by rfl, by rfl⟩) | (refine Or.inl ⟨by rfl, ?_⟩; intro w' hSw; obtain ⟨s0, s1, s2, s3, s4, s5, s6⟩ := hSw; go_simp; (try with_reducible rfl))))
              (try simp only [Act.put, List.setIfInBounds_toArray, List.set_cons_zero, List.set_cons_succ])
              iterate 1 (refine wpMix_take (v := ?_) ?_ ?_; rotate_left; · (first | (refine Or.inr ⟨by rfl, by rfl⟩) | (refine Or.inl ⟨by rfl, ?_⟩; intro w' hSw; obtain ⟨s0, s1, s2, s3, s4, s5, s6⟩ := hSw; go_simp; (try with_reducible rfl))))
              (try simp only [Act.put, List.setIfInBounds_toArray, List.set_cons_zero, List.set_cons_succ])
              iterate 1 (refine wpMix_take (v := ?_) ?_ ?_; rotate_left; · (first | (refine Or.inr ⟨by rfl, by rfl⟩) | (refine Or.inl ⟨by rfl, ?_⟩; intro w' hSw; obtain ⟨s0, s1, s2, s3, s4, s5, s6⟩ := hSw; go_simp; (try with_reducible rfl))))
              (try simp only [Act.put, List.setIfInBounds_toArray, List.set_cons_zero, List.set_cons_succ])
              iterate 1 (refine wpMix_take (v := ?_) ?_ ?_; rotate_left; · (first | (refine Or.inr ⟨by rfl, by rfl⟩) | (refine Or.inl ⟨by rfl, ?_⟩; intro w' hSw; obtain ⟨s0, s1, s2, s3, s4, s5, s6⟩ := hSw; go_simp; (try with_reducible rfl))))
              (try simp only [Act.put, List.setIfInBounds_toArray, List.set_cons_zero, List.set_cons_succ])
              iterate 1 (refine wpMix_take (v := ?_) ?_ ?_; rotate_left; · (first | (refine Or.inr ⟨by rfl, by rfl⟩) | (refine Or.inl ⟨by rfl, ?_⟩; intro w' hSw; obtain ⟨s0, s1, s2, s3, s4, s5, s6⟩ := hSw; go_simp; (try with_reducible rfl))))
              (try simp only [Act.put, List.setIfInBounds_toArray, List.set_cons_zero, List.set_cons_succ])
              iterate 1 (refine wpMix_take (v := ?_) ?_ ?_; rotate_left; · (first | (refine Or.inr ⟨by rfl, by rfl⟩) | (refine Or.inl ⟨by rfl, ?_⟩; intro w' hSw; obtain ⟨s0, s1, s2, s3, s4, s5, s6⟩ := hSw; go_simp; (try with_reducible rfl))))
              (try simp only [Act.put, List.setIfInBounds_toArray, List.set_cons_zero, List.set_cons_succ])
              iterate 1 (refine wpMix_take (v := ?_) ?_ ?_; rotate_left; · (first | (refine Or.inr ⟨by rfl, by rfl⟩) | (refine Or.inl ⟨by rfl, ?_⟩; intro w' hSw; obtain ⟨s0, s1, s2, s3, s4, s5, s6⟩ := hSw; go_simp; (try with_reducible rfl))))
              (try simp only [Act.put, List.setIfInBounds_toArray, List.set_cons_zero, List.set_cons_succ])
              iterate 1 (refine wpMix_take (v := ?_) ?_ ?_; rotate_left; · (first | (refine Or.inr ⟨by rfl, by rfl⟩) | (refine Or.inl ⟨by rfl, ?_⟩; intro w' hSw; obtain ⟨s0, s1, s2, s3, s4, s5, s6⟩ := hSw; go_simp; (try with_reducible rfl))))
              (try simp only [Act.put, List.setIfInBounds_toArray, List.set_cons_zero, List.set_cons_succ])
              iterate 1 (refine wpMix_take (v := ?_) ?_ ?_; rotate_left; · (first | (refine Or.inr ⟨by rfl, by rfl⟩) | (refine Or.inl ⟨by rfl, ?_⟩; intro w' hSw; obtain ⟨s0, s1, s2, s3, s4, s5, s6⟩ := hSw; go_simp; (try with_reducible rfl))))
              (try simp only [Act.put, List.setIfInBounds_toArray, List.set_cons_zero, List.set_cons_succ])
              iterate 1 (refine wpMix_take (v := ?_) ?_ ?_; rotate_left; · (first | (refine Or.inr ⟨by rfl, by rfl⟩) | (refine Or.inl ⟨by rfl, ?_⟩; intro w' hSw; obtain ⟨s0, s1, s2, s3, s4, s5, s6⟩ := hSw; go_simp; (try with_reducible rfl))))
              (try simp only [Act.put, List.setIfInBounds_toArray, List.set_cons_zero, List.set_cons_succ])
              iterate 1 (refine wpMix_take (v := ?_) ?_ ?_; rotate_left; · (first | (refine Or.inr ⟨by rfl, by rfl⟩) | (refine Or.inl ⟨by rfl, ?_⟩; intro w' hSw; obtain ⟨s0, s1, s2, s3, s4, s5, s6⟩ := hSw; go_simp; (try with_reducible rfl))))
              (try simp only [Act.put, List.setIfInBounds_toArray, List.set_cons_zero, List.set_cons_succ])
              iterate 1 (refine wpMix_take (v := ?_) ?_ ?_; rotate_left; · (first | (refine Or.inr ⟨by rfl, by rfl⟩) | (refine Or.inl ⟨by rfl, ?_⟩; intro w' hSw; obtain ⟨s0, s1, s2, s3, s4, s5, s6⟩ := hSw; go_simp; (try with_reducible rfl))))
              (try simp only [Act.put, List.setIfInBounds_toArray, List.set_cons_zero, List.set_cons_succ])
              iterate 1 (refine wpMix_take (v := ?_) ?_ ?_; rotate_left; · (first | (refine Or.inr ⟨by rfl, by rfl⟩) | (refine Or.inl ⟨by rfl, ?_⟩; intro w' hSw; obtain ⟨s0, s1, s2, s3, s4, s5, s6⟩ := hSw; go_simp; (try with_reducible rfl))))
              (try simp only [Act.put, List.setIfInBounds_toArray, List.set_cons_zero, List.set_cons_succ])
              iterate 1 (refine wpMix_take (v := ?_) ?_ ?_; rotate_left; · (first | (refine Or.inr ⟨by rfl, by rfl⟩) | (refine Or.inl ⟨by rfl, ?_⟩; intro w' hSw; obtain ⟨s0, s1, s2, s3, s4, s5, s6⟩ := hSw; go_simp; (try with_reducible rfl))))
              (try simp only [Act.put, List.setIfInBounds_toArray, List.set_cons_zero, List.set_cons_succ])
              iterate 1 (refine wpMix_take (v := ?_) ?_ ?_; rotate_left; · (first | (refine Or.inr ⟨by rfl, by rfl⟩) | (refine Or.inl ⟨by rfl, ?_⟩; intro w' hSw; obtain ⟨s0, s1, s2, s3, s4, s5, s6⟩ := hSw; go_simp; (try with_reducible rfl))))
              (try simp only [Act.put, List.setIfInBounds_toArray, List.set_cons_zero, List.set_cons_succ])
              iterate 1 (refine wpMix_take (v := ?_) ?_ ?_; rotate_left; · (first | (refine Or.inr ⟨by rfl, by rfl⟩) | (refine Or.inl ⟨by rfl, ?_⟩; intro w' hSw; obtain ⟨s0, s1, s2, s3, s4, s5, s6⟩ := hSw; go_simp; (try with_reducible rfl))))
              (try simp only [Act.put, List.setIfInBounds_toArray, List.set_cons_zero, List.set_cons_succ])
              iterate 1 (refine wpMix_take (v := ?_) ?_ ?_; rotate_left; · (first | (refine Or.inr ⟨by rfl, by rfl⟩) | (refine Or.inl ⟨by rfl, ?_⟩; intro w' hSw; obtain ⟨s0, s1, s2, s3, s4, s5, s6⟩ := hSw; go_simp; (try with_reducible rfl))))
              (try simp only [Act.put, List.setIfInBounds_toArray, List.set_cons_zero, List.set_cons_succ])
              iterate 1 (refine wpMix_take (v := ?_) ?_ ?_; rotate_left; · (first | (refine Or.inr ⟨by rfl, by rfl⟩) | (refine Or.inl ⟨by rfl, ?_⟩; intro w' hSw; obtain ⟨s0, s1, s2, s3, s4, s5, s6⟩ := hSw; go_simp; (try with_reducible rfl))))
              (try simp only [Act.put, List.setIfInBounds_toArray, List.set_cons_zero, List.set_cons_succ])
              iterate 1 (refine wpMix_take (v := ?_) ?_ ?_; rotate_left; · (first | (refine Or.inr ⟨by rfl, by rfl⟩) | (refine Or.inl ⟨by rfl, ?_⟩; intro w' hSw; obtain ⟨s0, s1, s2, s3, s4, s5, s6⟩ := hSw; go_simp; (try with_reducible rfl))))
              (try simp only [Act.put, List.setIfInBounds_toArray, List.set_cons_zero, List.set_cons_succ])
              iterate 1 (refine wpMix_take (v := ?_) ?_ ?_; rotate_left; · (first | (refine Or.inr ⟨by rfl, by rfl⟩) | (refine Or.inl ⟨by rfl, ?_⟩; intro w' hSw; obtain ⟨s0, s1, s2, s3, s4, s5, s6⟩ := hSw; go_simp; (try with_reducible rfl))))
              (try simp only [Act.put, List.setIfInBounds_toArray, List.set_cons_zero, List.set_cons_succ])
              iterate 1 (refine wpMix_take (v := ?_) ?_ ?_; rotate_left; · (first | (refine Or.inr ⟨by rfl, by rfl⟩) | (refine Or.inl ⟨by rfl, ?_⟩; intro w' hSw; obtain ⟨s0, s1, s2, s3, s4, s5, s6⟩ := hSw; go_simp; (try with_reducible rfl))))
              (try simp only [Act.put, List.setIfInBounds_toArray, List.set_cons_zero, List.set_cons_succ])
              iterate 1 (refine wpMix_take (v := ?_) ?_ ?_; rotate_left; · (first | (refine Or.inr ⟨by rfl, by rfl⟩) | (refine Or.inl ⟨by rfl, ?_⟩; intro w' hSw; obtain ⟨s0, s1, s2, s3, s4, s5, s6⟩ := hSw; go_simp; (try with_reducible rfl))))
              (try simp only [Act.put, List.setIfInBounds_toArray, List.set_cons_zero, List.set_cons_succ])
              iterate 1 (refine wpMix_take (v := ?_) ?_ ?_; rotate_left; · (first | (refine Or.inr ⟨by rfl, by rfl⟩) | (refine Or.inl ⟨by rfl, ?_⟩; intro w' hSw; obtain ⟨s0, s1, s2, s3, s4, s5, s6⟩ := hSw; go_simp; (try with_reducible rfl))))
              (try simp only [Act.put, List.setIfInBounds_toArray, List.set_cons_zero, List.set_cons_succ])
              refine wpMix_nil ?_
              clear HSK
              go_wp2_with fail
              go_ret2
              exact .inr ⟨HNO.out, rfl, HB.out.trans ((below_then HB2.out hb4').mono HB.out.size)⟩
        · as_aux_lemma =>
            have t0 : (pt != (n : Int)) = true := by rw [bne_iff_ne]; exact q0
            have HRT := Lib.hid (show rightN pe psq pi pt nu = true from by rw [← hnu, rightN_eq ⟨pe, psq, pi, pt, pd⟩]; exact decide_eq_true hr)
            have hno : ¬ StampMath.fits n e0 s0q k ⟨pe, psq, pi, pt, pd⟩ := fun hp => q0 hp.2.1
            have HNO := Lib.hid (JN.out.2 k _ HX.out hno)
            clear hno
            go_wp2_with (first
              | refine wpList_load_mid rfl 130 (.tmp 12) rfl g (k * 5) rfl (partCells ⟨pe, psq, pi, pt, pd⟩ (.slice Au nu cu)) _ HRG.out hus rfl hib ?_
              | refine wpList_store_new rfl 130 (.tmp 6) (.tmp 13) rfl rfl (partCells ⟨pe, psq, pi, pt, pd⟩ (.slice Au nu cu)) rfl rfl (by show Z.toArray.size = _; rw [List.size_toArray, HZL.out]; rfl) hib (fun u hu => by simp at hu; rcases hu with rfl | rfl | rfl | rfl | rfl <;> rfl) ?_; intro w2 hr2 hb2 hs2; have HR2 := Lib.hid hr2; have HB2 := Lib.hid hb2; clear hr2 hb2)
            obtain ⟨w2b, hw2b⟩ : ∃ w2b, wo.heap.size = w2b := ⟨_, rfl⟩
            have HSK := Lib.hid (skFacts (w2b := w2b) HR2.out hw2b HG.out.1 HG.out.2 HB2.out HGL.out)
            rw [hw2b]
            clear hw2b
            refine wp_region_mix [(true, 0), (false, 1), (true, 2), (true, 3), (true, 4), (true, 5), (true, 6), (true, 7), (true, 8), (true, 9), (true, 10), (true, 11), (true, 12), (true, 13), (true, 14), (true, 15), (true, 16), (true, 17), (true, 18), (true, 19), (true, 20), (true, 21), (true, 22), (true, 23), (true, 24), (true, 25), (true, 26), (true, 27), (true, 28), (true, 29), (true, 30), (true, 31), (true, 32), (true, 33), (true, 34), (true, 35), (true, 36), (true, 37), (true, 38), (true, 39), (true, 40)] 41 (fun w' => w'.cell? ⟨w2b, 0, none⟩ = some (.int .i64 pe) ∧ w'.cell? ⟨w2b, 1, none⟩ = some (.int .i64 psq) ∧ w'.cell? ⟨w2b, 2, none⟩ = some (.int .i64 pi) ∧ w'.cell? ⟨w2b, 3, none⟩ = some (.int .i64 pt) ∧ w'.cell? ⟨w2b, 4, none⟩ = some (.slice Au nu cu) ∧ w'.cell? ⟨g, 0, none⟩ = some (.int .i64 e0) ∧ w'.cell? ⟨g, 1, none⟩ = some (.int .i64 s0q)) (by kernel_rfl) (by kernel_rfl) (by rintro _ ⟨_, _⟩ ⟨_, _⟩ _ rfl h; exact h) (HSK.out _ (Below.refl _ _).drew) ?_
            simp only [pickM, List.getElem?_cons_succ, List.getElem?_cons_zero]
            iterate 1 (refine wpMix_take (v := ?_) ?_ ?_; rotate_left; · (first | (refine Or.inr ⟨by rfl, by rfl⟩) | (refine Or.inl ⟨by rfl, ?_⟩; intro w' hSw; obtain ⟨s0, s1, s2, s3, s4, s5, s6⟩ := hSw; go_simp; (try with_reducible rfl))))
            (try simp only [Act.put, List.setIfInBounds_toArray, List.set_cons_zero, List.set_cons_succ])
            refine wpMix_do rfl fun K hK => ?_
            go_simp
            have hrt := right_any pe psq pi pt Au nu cu w2.drew
            rw [HRT.out] at hrt
            refine hrt.mono ?_
            rintro e w3 ⟨rfl, hb3⟩
            have hb3' : Below w2.heap.size w2 w3 := (Below.refl _ _).drew.trans hb3
            refine hK.out _ _ (fun _ => HSK.out _ hb3') ?_
            clear hK K hrt
            (try simp only [Act.put, List.setIfInBounds_toArray, List.set_cons_zero, List.set_cons_succ])
            have hb4' := hb3'
            iterate 1 (refine wpMix_take (v := ?_) ?_ ?_; rotate_left; · (first | (refine Or.inr ⟨by rfl, by rfl⟩) | (refine Or.inl ⟨by rfl, ?_⟩; intro w' hSw; obtain ⟨s0, s1, s2, s3, s4, s5, s6⟩ := hSw; go_simp; (try with_reducible rfl))))
            (try simp only [Act.put, List.setIfInBounds_toArray, List.set_cons_zero, List.set_cons_succ])
            iterate 1 (refine wpMix_take (v := ?_) ?_ ?_; rotate_left; · (first | (refine Or.inr ⟨by rfl, by rfl⟩) | (refine Or.inl ⟨by rfl, ?_⟩; intro w' hSw; obtain ⟨s0, s1, s2, s3, s4, s5, s6⟩ := hSw; go_simp; (try with_reducible rfl))))
            (try simp only [Act.put, List.setIfInBounds_toArray, List.set_cons_zero, List.set_cons_succ])
            iterate 1 (refine wpMix_take (v := ?_) ?_ ?_; rotate_left; · (first | (refine Or.inr ⟨by rfl, by rfl⟩) | (refine Or.inl ⟨by rfl, ?_⟩; intro w' hSw; obtain ⟨s0, s1, s2, s3, s4, s5, s6⟩ := hSw; go_simp; (try with_reducible rfl))))
            (try simp only [Act.put, List.setIfInBounds_toArray, List.set_cons_zero, List.set_cons_succ])
            iterate 1 (refine wpMix_take (v := ?_) ?_ ?_; rotate_left; · (first | (refine Or.inr ⟨by rfl, by rfl⟩) | (refine Or.inl ⟨by rfl, ?_⟩; intro w' hSw; obtain ⟨s0, s1, s2, s3, s4, s5, s6⟩ := hSw; go_simp; (try with_reducible rfl))))
            (try simp only [Act.put, List.setIfInBounds_toArray, List.set_cons_zero, List.set_cons_succ])
            iterate 1 (refine wpMix_take (v := ?_) ?_ ?_; rotate_left; · (first | (refine Or.inr ⟨by rfl, by rfl⟩) | (refine Or.inl ⟨by rfl, ?_⟩; intro w' hSw; obtain ⟨s0, s1, s2, s3, s4, s5, s6⟩ := hSw; go_simp; (try with_reducible rfl))))
            (try simp only [Act.put, List.setIfInBounds_toArray, List.set_cons_zero, List.set_cons_succ])
            iterate 1 (refine wpMix_take (v := ?_) ?_ ?_; rotate_left; · (first | (refine Or.inr ⟨by rfl, by rfl⟩) | (refine Or.inl ⟨by rfl, ?_⟩; intro w' hSw; obtain ⟨s0, s1, s2, s3, s4, s5, s6⟩ := hSw; go_simp; (try with_reducible rfl))))
            (try simp only [Act.put, List.setIfInBounds_toArray, List.set_cons_zero, List.set_cons_succ])
            iterate 1 (refine wpMix_take (v := ?_) ?_ ?_; rotate_left; · (first | (refine Or.inr ⟨by rfl, by rfl⟩) | (refine Or.inl ⟨by rfl, ?_⟩; intro w' hSw; obtain ⟨s0, s1, s2, s3, s4, s5, s6⟩ := hSw; go_simp; (try with_reducible rfl))))
            (try simp only [Act.put, List.setIfInBounds_toArray, List.set_cons_zero, List.set_cons_succ])
            iterate 1 (refine wpMix_take (v := ?_) ?_ ?_; rotate_left; · (first | (refine Or.inr ⟨by rfl, by rfl⟩) | (refine Or.inl ⟨by rfl, ?_⟩; intro w' hSw; obtain ⟨s0, s1, s2, s3, s4, s5, s6⟩ := hSw; go_simp; (try with_reducible rfl))))
            (try simp only [Act.put, List.setIfInBounds_toArray, List.set_cons_zero, List.set_cons_succ])
            iterate 1 (refine wpMix_take (v := ?_) ?_ ?_; rotate_left; · (first | (refine Or.inr ⟨by rfl, by rfl⟩) | (refine Or.inl ⟨by rfl, ?_⟩; intro w' hSw; obtain ⟨s0, s1, s2, s3, s4, s5, s6⟩ := hSw; go_simp; (try with_reducible rfl))))
            (try simp only [Act.put, List.setIfInBounds_toArray, List.set_cons_zero, List.set_cons_succ])
            iterate 1 (refine wpMix_take (v := ?_) ?_ ?_; rotate_left; · (first | (refine Or.inr ⟨by rfl, by rfl⟩) | (refine Or.inl ⟨by rfl, ?_⟩; intro w' hSw; obtain ⟨s0, s1, s2, s3, s4, s5, s6⟩ := hSw; go_simp; (try with_reducible rfl))))
            (try simp only [Act.put, List.setIfInBounds_toArray, List.set_cons_zero, List.set_cons_succ])
            iterate 1 (refine wpMix_take (v := ?_) ?_ ?_; rotate_left; · (first | (refine Or.inr ⟨by rfl, by rfl⟩) | (refine Or.inl ⟨by rfl, ?_⟩; intro w' hSw; obtain ⟨s0, s1, s2, s3, s4, s5, s6⟩ := hSw; go_simp; (try with_reducible rfl))))
            (try simp only [Act.put, List.setIfInBounds_toArray, List.set_cons_zero, List.set_cons_succ])
            iterate 1 (refine wpMix_take (v := ?_) ?_ ?_; rotate_left; · (first | (refine Or.inr ⟨by rfl, by rfl⟩) | (refine Or.inl ⟨by rfl, ?_⟩; intro w' hSw; obtain ⟨s0, s1, s2, s3, s4, s5, s6⟩ := hSw; go_simp; (try with_reducible rfl))))
            (try simp only [Act.put, List.setIfInBounds_toArray, List.set_cons_zero, List.set_cons_succ])
            iterate 1 (refine wpMix_take (v := ?_) ?_ ?_; rotate_left; · (first | (refine Or.inr ⟨by rfl, by rfl⟩) | (refine Or.inl ⟨by rfl, ?_⟩; intro w' hSw; obtain ⟨s0, s1, s2, s3, s4, s5, s6⟩ := hSw; go_simp; (try with_reducible rfl))))
            (try simp only [Act.put, List.setIfInBounds_toArray, List.set_cons_zero, List.set_cons_succ])
            iterate 1 (refine wpMix_take (v := ?_) ?_ ?_; rotate_left; · (first | (refine Or.inr ⟨by rfl, by rfl⟩) | (refine Or.inl ⟨by rfl, ?_⟩; intro w' hSw; obtain ⟨s0, s1, s2, s3, s4, s5, s6⟩ := hSw; go_simp; (try with_reducible rfl))))
            (try simp only [Act.put, List.setIfInBounds_toArray, List.set_cons_zero, List.set_cons_succ])
            iterate 1 (refine wpMix_take (v := ?_) ?_ ?_; rotate_left; · (first | (refine Or.inr ⟨by rfl, by rfl⟩) | (refine Or.inl ⟨by rfl, ?_⟩; intro w' hSw; obtain ⟨s0, s1, s2, s3, s4, s5, s6⟩ := hSw; go_simp; (try with_reducible rfl))))
            (try simp only [Act.put, List.setIfInBounds_toArray, List.set_cons_zero, List.set_cons_succ])
            iterate 1 (refine wpMix_take (v := ?_) ?_ ?_; rotate_left; · (first | (refine Or.inr ⟨by rfl, by rfl⟩) | (refine Or.inl ⟨by rfl, ?_⟩; intro w' hSw; obtain ⟨s0, s1, s2, s3, s4, s5, s6⟩ := hSw; go_simp; (try with_reducible rfl))))
            (try simp only [Act.put, List.setIfInBounds_toArray, List.set_cons_zero, List.set_cons_succ])
            iterate 1 (refine wpMix_take (v := ?_) ?_ ?_; rotate_left; · (first | (refine Or.inr ⟨by rfl, by rfl⟩) | (refine Or.inl ⟨by rfl, ?_⟩; intro w' hSw; obtain ⟨s0, s1, s2, s3, s4, s5, s6⟩ := hSw; go_simp; (try with_reducible rfl))))
            (try simp only [Act.put, List.setIfInBounds_toArray, List.set_cons_zero, List.set_cons_succ])
            iterate 1 (refine wpMix_take (v := ?_) ?_ ?_; rotate_left; · (first | (refine Or.inr ⟨by rfl, by rfl⟩) | (refine Or.inl ⟨by rfl, ?_⟩; intro w' hSw; obtain ⟨s0, s1, s2, s3, s4, s5, s6⟩ := hSw; go_simp; (try with_reducible rfl))))
            (try simp only [Act.put, List.setIfInBounds_toArray, List.set_cons_zero, List.set_cons_succ])
            iterate 1 (refine wpMix_take (v := ?_) ?_ ?_; rotate_left; · (first | (refine Or.inr ⟨by rfl, by rfl⟩) | (refine Or.inl ⟨by rfl, ?_⟩; intro w' hSw; obtain ⟨s0, s1, s2, s3, s4, s5, s6⟩ := hSw; go_simp; (try with_reducible rfl))))
            (try simp only [Act.put, List.setIfInBounds_toArray, List.set_cons_zero, List.set_cons_succ])
            iterate 1 (refine wpMix_take (v := ?_) ?_ ?_; rotate_left; · (first | (refine Or.inr ⟨by rfl, by rfl⟩) | (refine Or.inl ⟨by rfl, ?_⟩; intro w' hSw; obtain ⟨s0, s1, s2, s3, s4, s5, s6⟩ := hSw; go_simp; (try with_reducible rfl))))
            (try simp only [Act.put, List.setIfInBounds_toArray, List.set_cons_zero, List.set_cons_succ])
            iterate 1 (refine wpMix_take (v := ?_) ?_ ?_; rotate_left; · (first | (refine Or.inr ⟨by rfl, by rfl⟩) | (refine Or.inl ⟨by rfl, ?_⟩; intro w' hSw; obtain ⟨s0, s1, s2, s3, s4, s5, s6⟩ := hSw; go_simp; (try with_reducible rfl))))
            (try simp only [Act.put, List.setIfInBounds_toArray, List.set_cons_zero, List.set_cons_succ])
            iterate 1 (refine wpMix_take (v := ?_) ?_ ?_; rotate_left; · (first | (refine Or.inr ⟨by rfl, by rfl⟩) | (refine Or.inl ⟨by rfl, ?_⟩; intro w' hSw; obtain ⟨s0, s1, s2, s3, s4, s5, s6⟩ := hSw; go_simp; (try with_reducible rfl))))
            (try simp only [Act.put, List.setIfInBounds_toArray, List.set_cons_zero, List.set_cons_succ])
            iterate 1 (refine wpMix_take (v := ?_) ?_ ?_; rotate_left; · (first | (refine Or.inr ⟨by rfl, by rfl⟩) | (refine Or.inl ⟨by rfl, ?_⟩; intro w' hSw; obtain ⟨s0, s1, s2, s3, s4, s5, s6⟩ := hSw; go_simp; (try with_reducible rfl))))
            (try simp only [Act.put, List.setIfInBounds_toArray, List.set_cons_zero, List.set_cons_succ])
            iterate 1 (refine wpMix_take (v := ?_) ?_ ?_; rotate_left; · (first | (refine Or.inr ⟨by rfl, by rfl⟩) | (refine Or.inl ⟨by rfl, ?_⟩; intro w' hSw; obtain ⟨s0, s1, s2, s3, s4, s5, s6⟩ := hSw; go_simp; (try with_reducible rfl))))
            (try simp only [Act.put, List.setIfInBounds_toArray, List.set_cons_zero, List.set_cons_succ])
            iterate 1 (refine wpMix_take (v := ?_) ?_ ?_; rotate_left; · (first | (refine Or.inr ⟨by rfl, by rfl⟩) | (refine Or.inl ⟨by rfl, ?_⟩; intro w' hSw; obtain ⟨s0, s1, s2, s3, s4, s5, s6⟩ := hSw; go_simp; (try with_reducible rfl))))
            (try simp only [Act.put, List.setIfInBounds_toArray, List.set_cons_zero, List.set_cons_succ])
            iterate 1 (refine wpMix_take (v := ?_) ?_ ?_; rotate_left; · (first | (refine Or.inr ⟨by rfl, by rfl⟩) | (refine Or.inl ⟨by rfl, ?_⟩; intro w' hSw; obtain ⟨s0, s1, s2, s3, s4, s5, s6⟩ := hSw; go_simp; (try with_reducible rfl))))
            (try simp only [Act.put, List.setIfInBounds_toArray, List.set_cons_zero, List.set_cons_succ])
            iterate 1 (refine wpMix_take (v := ?_) ?_ ?_; rotate_left; · (first | (refine Or.inr ⟨by rfl, by rfl⟩) | (refine Or.inl ⟨by rfl, ?_⟩; intro w' hSw; obtain ⟨s0, s1, s2, s3, s4, s5, s6⟩ := hSw; go_simp; (try with_reducible rfl))))
            (try simp only [Act.put, List.setIfInBounds_toArray, List.set_cons_zero, List.set_cons_succ])
            iterate 1 (refine wpMix_take (v := ?_) ?_ ?_; rotate_left; · (first | (refine Or.inr ⟨by rfl, by rfl⟩) | (refine Or.inl ⟨by rfl, ?_⟩; intro w' hSw; obtain ⟨s0, s1, s2, s3, s4, s5, s6⟩ := hSw; go_simp; (try with_reducible rfl))))
            (try simp only [Act.put, List.setIfInBounds_toArray, List.set_cons_zero, List.set_cons_succ])
            iterate 1 (refine wpMix_take (v := ?_) ?_ ?_; rotate_left; · (first | (refine Or.inr ⟨by rfl, by rfl⟩) | (refine Or.inl ⟨by rfl, ?_⟩; intro w' hSw; obtain ⟨s0, s1, s2, s3, s4, s5, s6⟩ := hSw; go_simp; (try with_reducible rfl))))
            (try simp only [Act.put, List.setIfInBounds_toArray, List.set_cons_zero, List.set_cons_succ])
            iterate 1 (refine wpMix_take (v := ?_) ?_ ?_; rotate_left; · (first | (refine Or.inr ⟨by rfl, by rfl⟩) | (refine Or.inl ⟨by rfl, ?_⟩; intro w' hSw; obtain ⟨s0, s1, s2, s3, s4, s5, s6⟩ := hSw; go_simp; (try with_reducible rfl))))
            (try simp only [Act.put, List.setIfInBounds_toArray, List.set_cons_zero, List.set_cons_succ])
            iterate 1 (refine wpMix_take (v := ?_) ?_ ?_; rotate_left; · (first | (refine Or.inr ⟨by rfl, by rfl⟩) | (refine Or.inl ⟨by rfl, ?_⟩; intro w' hSw; obtain ⟨s0, s1, s2, s3, s4, s5, s6⟩ := hSw; go_simp; (try with_reducible rfl))))
            (try simp only [Act.put, List.setIfInBounds_toArray, List.set_cons_zero, List.set_cons_succ])
            iterate 1 (refine wpMix_take (v := ?_) ?_ ?_; rotate_left; · (first | (refine Or.inr ⟨by rfl, by rfl⟩) | (refine Or.inl ⟨by rfl, ?_⟩; intro w' hSw; obtain ⟨s0, s1, s2, s3, s4, s5, s6⟩ := hSw; go_simp; (try with_reducible rfl))))
            (try simp only [Act.put, List.setIfInBounds_toArray, List.set_cons_zero, List.set_cons_succ])
            iterate 1 (refine wpMix_take (v := ?_) ?_ ?_; rotate_left; · (first | (refine Or.inr ⟨by rfl, by rfl⟩) | (refine Or.inl ⟨by rfl, ?_⟩; intro w' hSw; obtain ⟨s0, s1, s2, s3, s4, s5, s6⟩ := hSw; go_simp; (try with_reducible rfl))))
            (try simp only [Act.put, List.setIfInBounds_toArray, List.set_cons_zero, List.set_cons_succ])
            iterate 1 (refine wpMix_take (v := ?_) ?_ ?_; rotate_left; · (first | (refine Or.inr ⟨by rfl, by rfl⟩) | (refine Or.inl ⟨by rfl, ?_⟩; intro w' hSw; obtain ⟨s0, s1, s2, s3, s4, s5, s6⟩ := hSw; go_simp; (try with_reducible rfl))))
            (try simp only [Act.put, List.setIfInBounds_toArray, List.set_cons_zero, List.set_cons_succ])
            iterate 1 (refine wpMix_take (v := ?_) ?_ ?_; rotate_left; · (first | (refine Or.inr ⟨by rfl, by rfl⟩) | (refine Or.inl ⟨by rfl, ?_⟩; intro w' hSw; obtain ⟨s0, s1, s2, s3, s4, s5, s6⟩ := hSw; go_simp; (try with_reducible rfl))))
            (try simp only [Act.put, List.setIfInBounds_toArray, List.set_cons_zero, List.set_cons_succ])
            iterate 1 (refine wpMix_take (v := ?_) ?_ ?_; rotate_left; · (first | (refine Or.inr ⟨by rfl, by rfl⟩) | (refine Or.inl ⟨by rfl, ?_⟩; intro w' hSw; obtain ⟨s0, s1, s2, s3, s4, s5, s6⟩ := hSw; go_simp; (try with_reducible rfl))))
            (try simp only [Act.put, List.setIfInBounds_toArray, List.set_cons_zero, List.set_cons_succ])
            iterate 1 (refine wpMix_take (v := ?_) ?_ ?_; rotate_left; · (first | (refine Or.inr ⟨by rfl, by rfl⟩) | (refine Or.inl ⟨by rfl, ?_⟩; intro w' hSw; obtain ⟨s0, s1, s2, s3, s4, s5, s6⟩ := hSw; go_simp; (try with_reducible rfl))))
            (try simp only [Act.put, List.setIfInBounds_toArray, List.set_cons_zero, List.set_cons_succ])
            iterate 1 (refine wpMix_take (v := ?_) ?_ ?_; rotate_left; · (first | (refine Or.inr ⟨by rfl, by rfl⟩) | (refine Or.inl ⟨by rfl, ?_⟩; intro w' hSw; obtain ⟨s0, s1, s2, s3, s4, s5, s6⟩ := hSw; go_simp; (try with_reducible rfl))))
            (try simp only [Act.put, List.setIfInBounds_toArray, List.set_cons_zero, List.set_cons_succ])
            iterate 1 (refine wpMix_take (v := ?_) ?_ ?_; rotate_left; · (first | (refine Or.inr ⟨by rfl, by rfl⟩) | (refine Or.inl ⟨by rfl, ?_⟩; intro w' hSw; obtain ⟨s0, s1, s2, s3, s4, s5, s6⟩ := hSw; go_simp; (try with_reducible rfl))))
            (try simp only [Act.put, List.setIfInBounds_toArray, List.set_cons_zero, List.set_cons_succ])
            refine wpMix_nil ?_
            clear HSK
            go_wp2_with fail
            go_ret2
            exact .inr ⟨HNO.out, rfl, HB.out.trans ((below_then HB2.out hb4').mono HB.out.size)⟩
      · as_aux_lemma =>
          have HRT := Lib.hid (show rightN pe psq pi pt nu = false from by rw [← hnu, rightN_eq ⟨pe, psq, pi, pt, pd⟩]; exact decide_eq_false hr)
          have hno : ¬ StampMath.fits n e0 s0q k ⟨pe, psq, pi, pt, pd⟩ := fun hp => hr hp.1
          have HNO := Lib.hid (JN.out.2 k _ HX.out hno)
          clear hno
          go_wp2_with (first
            | refine wpList_load_mid rfl 130 (.tmp 12) rfl g (k * 5) rfl (partCells ⟨pe, psq, pi, pt, pd⟩ (.slice Au nu cu)) _ HRG.out hus rfl hib ?_
            | refine wpList_store_new rfl 130 (.tmp 6) (.tmp 13) rfl rfl (partCells ⟨pe, psq, pi, pt, pd⟩ (.slice Au nu cu)) rfl rfl (by show Z.toArray.size = _; rw [List.size_toArray, HZL.out]; rfl) hib (fun u hu => by simp at hu; rcases hu with rfl | rfl | rfl | rfl | rfl <;> rfl) ?_; intro w2 hr2 hb2 hs2; have HR2 := Lib.hid hr2; have HB2 := Lib.hid hb2; clear hr2 hb2)
          obtain ⟨w2b, hw2b⟩ : ∃ w2b, wo.heap.size = w2b := ⟨_, rfl⟩
          have HSK := Lib.hid (skFacts (w2b := w2b) HR2.out hw2b HG.out.1 HG.out.2 HB2.out HGL.out)
          rw [hw2b]
          clear hw2b
          refine wp_region_mix [(true, 0), (false, 1), (true, 2), (true, 3), (true, 4), (true, 5), (true, 6), (true, 7), (true, 8), (true, 9), (true, 10), (true, 11), (true, 12), (true, 13), (true, 14), (true, 15), (true, 16), (true, 17), (true, 18), (true, 19), (true, 20), (true, 21), (true, 22), (true, 23), (true, 24), (true, 25), (true, 26), (true, 27), (true, 28), (true, 29), (true, 30), (true, 31), (true, 32), (true, 33), (true, 34), (true, 35), (true, 36), (true, 37), (true, 38), (true, 39), (true, 40)] 41 (fun w' => w'.cell? ⟨w2b, 0, none⟩ = some (.int .i64 pe) ∧ w'.cell? ⟨w2b, 1, none⟩ = some (.int .i64 psq) ∧ w'.cell? ⟨w2b, 2, none⟩ = some (.int .i64 pi) ∧ w'.cell? ⟨w2b, 3, none⟩ = some (.int .i64 pt) ∧ w'.cell? ⟨w2b, 4, none⟩ = some (.slice Au nu cu) ∧ w'.cell? ⟨g, 0, none⟩ = some (.int .i64 e0) ∧ w'.cell? ⟨g, 1, none⟩ = some (.int .i64 s0q)) (by kernel_rfl) (by kernel_rfl) (by rintro _ ⟨_, _⟩ ⟨_, _⟩ _ rfl h; exact h) (HSK.out _ (Below.refl _ _).drew) ?_
          simp only [pickM, List.getElem?_cons_succ, List.getElem?_cons_zero]
          iterate 1 (refine wpMix_take (v := ?_) ?_ ?_; rotate_left; · (first | (refine Or.inr ⟨by rfl, by rfl⟩) | (refine Or.inl ⟨by rfl, ?_⟩; intro w' hSw; obtain ⟨s0, s1, s2, s3, s4, s5, s6⟩ := hSw; go_simp; (try with_reducible rfl))))
          (try simp only [Act.put, List.setIfInBounds_toArray, List.set_cons_zero, List.set_cons_succ])
          refine wpMix_do rfl fun K hK => ?_
          go_simp
          have hrt := right_any pe psq pi pt Au nu cu w2.drew
          rw [HRT.out] at hrt
          refine hrt.mono ?_
          rintro e w3 ⟨rfl, hb3⟩
          have hb3' : Below w2.heap.size w2 w3 := (Below.refl _ _).drew.trans hb3
          refine hK.out _ _ (fun _ => HSK.out _ hb3') ?_
          clear hK K hrt
          (try simp only [Act.put, List.setIfInBounds_toArray, List.set_cons_zero, List.set_cons_succ])
          have hb4' := hb3'
          iterate 1 (refine wpMix_take (v := ?_) ?_ ?_; rotate_left; · (first | (refine Or.inr ⟨by rfl, by rfl⟩) | (refine Or.inl ⟨by rfl, ?_⟩; intro w' hSw; obtain ⟨s0, s1, s2, s3, s4, s5, s6⟩ := hSw; go_simp; (try with_reducible rfl))))
          (try simp only [Act.put, List.setIfInBounds_toArray, List.set_cons_zero, List.set_cons_succ])
          iterate 1 (refine wpMix_take (v := ?_) ?_ ?_; rotate_left; · (first | (refine Or.inr ⟨by rfl, by rfl⟩) | (refine Or.inl ⟨by rfl, ?_⟩; intro w' hSw; obtain ⟨s0, s1, s2, s3, s4, s5, s6⟩ := hSw; go_simp; (try with_reducible rfl))))
          (try simp only [Act.put, List.setIfInBounds_toArray, List.set_cons_zero, List.set_cons_succ])
          iterate 1 (refine wpMix_take (v := ?_) ?_ ?_; rotate_left; · (first | (refine Or.inr ⟨by rfl, by rfl⟩) | (refine Or.inl ⟨by rfl, ?_⟩; intro w' hSw; obtain ⟨s0, s1, s2, s3, s4, s5, s6⟩ := hSw; go_simp; (try with_reducible rfl))))
          (try simp only [Act.put, List.setIfInBounds_toArray, List.set_cons_zero, List.set_cons_succ])
          iterate 1 (refine wpMix_take (v := ?_) ?_ ?_; rotate_left; · (first | (refine Or.inr ⟨by rfl, by rfl⟩) | (refine Or.inl ⟨by rfl, ?_⟩; intro w' hSw; obtain ⟨s0, s1, s2, s3, s4, s5, s6⟩ := hSw; go_simp; (try with_reducible rfl))))
          (try simp only [Act.put, List.setIfInBounds_toArray, List.set_cons_zero, List.set_cons_succ])
          iterate 1 (refine wpMix_take (v := ?_) ?_ ?_; rotate_left; · (first | (refine Or.inr ⟨by rfl, by rfl⟩) | (refine Or.inl ⟨by rfl, ?_⟩; intro w' hSw; obtain ⟨s0, s1, s2, s3, s4, s5, s6⟩ := hSw; go_simp; (try with_reducible rfl))))
          (try simp only [Act.put, List.setIfInBounds_toArray, List.set_cons_zero, List.set_cons_succ])
          iterate 1 (refine wpMix_take (v := ?_) ?_ ?_; rotate_left; · (first | (refine Or.inr ⟨by rfl, by rfl⟩) | (refine Or.inl ⟨by rfl, ?_⟩; intro w' hSw; obtain ⟨s0, s1, s2, s3, s4, s5, s6⟩ := hSw; go_simp; (try with_reducible rfl))))
          (try simp only [Act.put, List.setIfInBounds_toArray, List.set_cons_zero, List.set_cons_succ])
          iterate 1 (refine wpMix_take (v := ?_) ?_ ?_; rotate_left; · (first | (refine Or.inr ⟨by rfl, by rfl⟩) | (refine Or.inl ⟨by rfl, ?_⟩; intro w' hSw; obtain ⟨s0, s1, s2, s3, s4, s5, s6⟩ := hSw; go_simp; (try with_reducible rfl))))
          (try simp only [Act.put, List.setIfInBounds_toArray, List.set_cons_zero, List.set_cons_succ])
          iterate 1 (refine wpMix_take (v := ?_) ?_ ?_; rotate_left; · (first | (refine Or.inr ⟨by rfl, by rfl⟩) | (refine Or.inl ⟨by rfl, ?_⟩; intro w' hSw; obtain ⟨s0, s1, s2, s3, s4, s5, s6⟩ := hSw; go_simp; (try with_reducible rfl))))
          (try simp only [Act.put, List.setIfInBounds_toArray, List.set_cons_zero, List.set_cons_succ])
          iterate 1 (refine wpMix_take (v := ?_) ?_ ?_; rotate_left; · (first | (refine Or.inr ⟨by rfl, by rfl⟩) | (refine Or.inl ⟨by rfl, ?_⟩; intro w' hSw; obtain ⟨s0, s1, s2, s3, s4, s5, s6⟩ := hSw; go_simp; (try with_reducible rfl))))
          (try simp only [Act.put, List.setIfInBounds_toArray, List.set_cons_zero, List.set_cons_succ])
          iterate 1 (refine wpMix_take (v := ?_) ?_ ?_; rotate_left; · (first | (refine Or.inr ⟨by rfl, by rfl⟩) | (refine Or.inl ⟨by rfl, ?_⟩; intro w' hSw; obtain ⟨s0, s1, s2, s3, s4, s5, s6⟩ := hSw; go_simp; (try with_reducible rfl))))
          (try simp only [Act.put, List.setIfInBounds_toArray, List.set_cons_zero, List.set_cons_succ])
          iterate 1 (refine wpMix_take (v := ?_) ?_ ?_; rotate_left; · (first | (refine Or.inr ⟨by rfl, by rfl⟩) | (refine Or.inl ⟨by rfl, ?_⟩; intro w' hSw; obtain ⟨s0, s1, s2, s3, s4, s5, s6⟩ := hSw; go_simp; (try with_reducible rfl))))
          (try simp only [Act.put, List.setIfInBounds_toArray, List.set_cons_zero, List.set_cons_succ])
          iterate 1 (refine wpMix_take (v := ?_) ?_ ?_; rotate_left; · (first | (refine Or.inr ⟨by rfl, by rfl⟩) | (refine Or.inl ⟨by rfl, ?_⟩; intro w' hSw; obtain ⟨s0, s1, s2, s3, s4, s5, s6⟩ := hSw; go_simp; (try with_reducible rfl))))
          (try simp only [Act.put, List.setIfInBounds_toArray, List.set_cons_zero, List.set_cons_succ])
          iterate 1 (refine wpMix_take (v := ?_) ?_ ?_; rotate_left; · (first | (refine Or.inr ⟨by rfl, by rfl⟩) | (refine Or.inl ⟨by rfl, ?_⟩; intro w' hSw; obtain ⟨s0, s1, s2, s3, s4, s5, s6⟩ := hSw; go_simp; (try with_reducible rfl))))
          (try simp only [Act.put, List.setIfInBounds_toArray, List.set_cons_zero, List.set_cons_succ])
          iterate 1 (refine wpMix_take (v := ?_) ?_ ?_; rotate_left; · (first | (refine Or.inr ⟨by rfl, by rfl⟩) | (refine Or.inl ⟨by rfl, ?_⟩; intro w' hSw; obtain ⟨s0, s1, s2, s3, s4, s5, s6⟩ := hSw; go_simp; (try with_reducible rfl))))
          (try simp only [Act.put, List.setIfInBounds_toArray, List.set_cons_zero, List.set_cons_succ])
          iterate 1 (refine wpMix_take (v := ?_) ?_ ?_; rotate_left; · (first | (refine Or.inr ⟨by rfl, by rfl⟩) | (refine Or.inl ⟨by rfl, ?_⟩; intro w' hSw; obtain ⟨s0, s1, s2, s3, s4, s5, s6⟩ := hSw; go_simp; (try with_reducible rfl))))
          (try simp only [Act.put, List.setIfInBounds_toArray, List.set_cons_zero, List.set_cons_succ])
          iterate 1 (refine wpMix_take (v := ?_) ?_ ?_; rotate_left; · (first | (refine Or.inr ⟨by rfl, by rfl⟩) | (refine Or.inl ⟨by rfl, ?_⟩; intro w' hSw; obtain ⟨s0, s1, s2, s3, s4, s5, s6⟩ := hSw; go_simp; (try with_reducible rfl))))
          (try simp only [Act.put, List.setIfInBounds_toArray, List.set_cons_zero, List.set_cons_succ])
          iterate 1 (refine wpMix_take (v := ?_) ?_ ?_; rotate_left; · (first | (refine Or.inr ⟨by rfl, by rfl⟩) | (refine Or.inl ⟨by rfl, ?_⟩; intro w' hSw; obtain ⟨s0, s1, s2, s3, s4, s5, s6⟩ := hSw; go_simp; (try with_reducible rfl))))
          (try simp only [Act.put, List.setIfInBounds_toArray, List.set_cons_zero, List.set_cons_succ])
          iterate 1 (refine wpMix_take (v := ?_) ?_ ?_; rotate_left; · (first | (refine Or.inr ⟨by rfl, by rfl⟩) | (refine Or.inl ⟨by rfl, ?_⟩; intro w' hSw; obtain ⟨s0, s1, s2, s3, s4, s5, s6⟩ := hSw; go_simp; (try with_reducible rfl))))
          (try simp only [Act.put, List.setIfInBounds_toArray, List.set_cons_zero, List.set_cons_succ])
          iterate 1 (refine wpMix_take (v := ?_) ?_ ?_; rotate_left; · (first | (refine Or.inr ⟨by rfl, by rfl⟩) | (refine Or.inl ⟨by rfl, ?_⟩; intro w' hSw; obtain ⟨s0, s1, s2, s3, s4, s5, s6⟩ := hSw; go_simp; (try with_reducible rfl))))
          (try simp only [Act.put, List.setIfInBounds_toArray, List.set_cons_zero, List.set_cons_succ])
          iterate 1 (refine wpMix_take (v := ?_) ?_ ?_; rotate_left; · (first | (refine Or.inr ⟨by rfl, by rfl⟩) | (refine Or.inl ⟨by rfl, ?_⟩; intro w' hSw; obtain ⟨s0, s1, s2, s3, s4, s5, s6⟩ := hSw; go_simp; (try with_reducible rfl))))
          (try simp only [Act.put, List.setIfInBounds_toArray, List.set_cons_zero, List.set_cons_succ])
          iterate 1 (refine wpMix_take (v := ?_) ?_ ?_; rotate_left; · (first | (refine Or.inr ⟨by rfl, by rfl⟩) | (refine Or.inl ⟨by rfl, ?_⟩; intro w' hSw; obtain ⟨s0, s1, s2, s3, s4, s5, s6⟩ := hSw; go_simp; (try with_reducible rfl))))
          (try simp only [Act.put, List.setIfInBounds_toArray, List.set_cons_zero, List.set_cons_succ])
          iterate 1 (refine wpMix_take (v := ?_) ?_ ?_; rotate_left; · (first | (refine Or.inr ⟨by rfl, by rfl⟩) | (refine Or.inl ⟨by rfl, ?_⟩; intro w' hSw; obtain ⟨s0, s1, s2, s3, s4, s5, s6⟩ := hSw; go_simp; (try with_reducible rfl))))
          (try simp only [Act.put, List.setIfInBounds_toArray, List.set_cons_zero, List.set_cons_succ])
          iterate 1 (refine wpMix_take (v := ?_) ?_ ?_; rotate_left; · (first | (refine Or.inr ⟨by rfl, by rfl⟩) | (refine Or.inl ⟨by rfl, ?_⟩; intro w' hSw; obtain ⟨s0, s1, s2, s3, s4, s5, s6⟩ := hSw; go_simp; (try with_reducible rfl))))
          (try simp only [Act.put, List.setIfInBounds_toArray, List.set_cons_zero, List.set_cons_succ])
          iterate 1 (refine wpMix_take (v := ?_) ?_ ?_; rotate_left; · (first | (refine Or.inr ⟨by rfl, by rfl⟩) | (refine Or.inl ⟨by rfl, ?_⟩; intro w' hSw; obtain ⟨s0, s1, s2, s3, s4, s5, s6⟩ := hSw; go_simp; (try with_reducible rfl))))
          (try simp only [Act.put, List.setIfInBounds_toArray, List.set_cons_zero, List.set_cons_succ])
          iterate 1 (refine wpMix_take (v := ?_) ?_ ?_; rotate_left; · (first | (refine Or.inr ⟨by rfl, by rfl⟩) | (refine Or.inl ⟨by rfl, ?_⟩; intro w' hSw; obtain ⟨s0, s1, s2, s3, s4, s5, s6⟩ := hSw; go_simp; (try with_reducible rfl))))
          (try simp only [Act.put, List.setIfInBounds_toArray, List.set_cons_zero, List.set_cons_succ])
          iterate 1 (refine wpMix_take (v := ?_) ?_ ?_; rotate_left; · (first | (refine Or.inr ⟨by rfl, by rfl⟩) | (refine Or.inl ⟨by rfl, ?_⟩; intro w' hSw; obtain ⟨s0, s1, s2, s3, s4, s5, s6⟩ := hSw; go_simp; (try with_reducible rfl))))
          (try simp only [Act.put, List.setIfInBounds_toArray, List.set_cons_zero, List.set_cons_succ])
          iterate 1 (refine wpMix_take (v := ?_) ?_ ?_; rotate_left; · (first | (refine Or.inr ⟨by rfl, by rfl⟩) | (refine Or.inl ⟨by rfl, ?_⟩; intro w' hSw; obtain ⟨s0, s1, s2, s3, s4, s5, s6⟩ := hSw; go_simp; (try with_reducible rfl))))
          (try simp only [Act.put, List.setIfInBounds_toArray, List.set_cons_zero, List.set_cons_succ])
          iterate 1 (refine wpMix_take (v := ?_) ?_ ?_; rotate_left; · (first | (refine Or.inr ⟨by rfl, by rfl⟩) | (refine Or.inl ⟨by rfl, ?_⟩; intro w' hSw; obtain ⟨s0, s1, s2, s3, s4, s5, s6⟩ := hSw; go_simp; (try with_reducible rfl))))
          (try simp only [Act.put, List.setIfInBounds_toArray, List.set_cons_zero, List.set_cons_succ])
          iterate 1 (refine wpMix_take (v := ?_) ?_ ?_; rotate_left; · (first | (refine Or.inr ⟨by rfl, by rfl⟩) | (refine Or.inl ⟨by rfl, ?_⟩; intro w' hSw; obtain ⟨s0, s1, s2, s3, s4, s5, s6⟩ := hSw; go_simp; (try with_reducible rfl))))
          (try simp only [Act.put, List.setIfInBounds_toArray, List.set_cons_zero, List.set_cons_succ])
          iterate 1 (refine wpMix_take (v := ?_) ?_ ?_; rotate_left; · (first | (refine Or.inr ⟨by rfl, by rfl⟩) | (refine Or.inl ⟨by rfl, ?_⟩; intro w' hSw; obtain ⟨s0, s1, s2, s3, s4, s5, s6⟩ := hSw; go_simp; (try with_reducible rfl))))
          (try simp only [Act.put, List.setIfInBounds_toArray, List.set_cons_zero, List.set_cons_succ])
          iterate 1 (refine wpMix_take (v := ?_) ?_ ?_; rotate_left; · (first | (refine Or.inr ⟨by rfl, by rfl⟩) | (refine Or.inl ⟨by rfl, ?_⟩; intro w' hSw; obtain ⟨s0, s1, s2, s3, s4, s5, s6⟩ := hSw; go_simp; (try with_reducible rfl))))
          (try simp only [Act.put, List.setIfInBounds_toArray, List.set_cons_zero, List.set_cons_succ])
          iterate 1 (refine wpMix_take (v := ?_) ?_ ?_; rotate_left; · (first | (refine Or.inr ⟨by rfl, by rfl⟩) | (refine Or.inl ⟨by rfl, ?_⟩; intro w' hSw; obtain ⟨s0, s1, s2, s3, s4, s5, s6⟩ := hSw; go_simp; (try with_reducible rfl))))
          (try simp only [Act.put, List.setIfInBounds_toArray, List.set_cons_zero, List.set_cons_succ])
          iterate 1 (refine wpMix_take (v := ?_) ?_ ?_; rotate_left; · (first | (refine Or.inr ⟨by rfl, by rfl⟩) | (refine Or.inl ⟨by rfl, ?_⟩; intro w' hSw; obtain ⟨s0, s1, s2, s3, s4, s5, s6⟩ := hSw; go_simp; (try with_reducible rfl))))
          (try simp only [Act.put, List.setIfInBounds_toArray, List.set_cons_zero, List.set_cons_succ])
          iterate 1 (refine wpMix_take (v := ?_) ?_ ?_; rotate_left; · (first | (refine Or.inr ⟨by rfl, by rfl⟩) | (refine Or.inl ⟨by rfl, ?_⟩; intro w' hSw; obtain ⟨s0, s1, s2, s3, s4, s5, s6⟩ := hSw; go_simp; (try with_reducible rfl))))
          (try simp only [Act.put, List.setIfInBounds_toArray, List.set_cons_zero, List.set_cons_succ])
          iterate 1 (refine wpMix_take (v := ?_) ?_ ?_; rotate_left; · (first | (refine Or.inr ⟨by rfl, by rfl⟩) | (refine Or.inl ⟨by rfl, ?_⟩; intro w' hSw; obtain ⟨s0, s1, s2, s3, s4, s5, s6⟩ := hSw; go_simp; (try with_reducible rfl))))
          (try simp only [Act.put, List.setIfInBounds_toArray, List.set_cons_zero, List.set_cons_succ])
          iterate 1 (refine wpMix_take (v := ?_) ?_ ?_; rotate_left; · (first | (refine Or.inr ⟨by rfl, by rfl⟩) | (refine Or.inl ⟨by rfl, ?_⟩; intro w' hSw; obtain ⟨s0, s1, s2, s3, s4, s5, s6⟩ := hSw; go_simp; (try with_reducible rfl))))
          (try simp only [Act.put, List.setIfInBounds_toArray, List.set_cons_zero, List.set_cons_succ])
          iterate 1 (refine wpMix_take (v := ?_) ?_ ?_; rotate_left; · (first | (refine Or.inr ⟨by rfl, by rfl⟩) | (refine Or.inl ⟨by rfl, ?_⟩; intro w' hSw; obtain ⟨s0, s1, s2, s3, s4, s5, s6⟩ := hSw; go_simp; (try with_reducible rfl))))
          (try simp only [Act.put, List.setIfInBounds_toArray, List.set_cons_zero, List.set_cons_succ])
          iterate 1 (refine wpMix_take (v := ?_) ?_ ?_; rotate_left; · (first | (refine Or.inr ⟨by rfl, by rfl⟩) | (refine Or.inl ⟨by rfl, ?_⟩; intro w' hSw; obtain ⟨s0, s1, s2, s3, s4, s5, s6⟩ := hSw; go_simp; (try with_reducible rfl))))
          (try simp only [Act.put, List.setIfInBounds_toArray, List.set_cons_zero, List.set_cons_succ])
          iterate 1 (refine wpMix_take (v := ?_) ?_ ?_; rotate_left; · (first | (refine Or.inr ⟨by rfl, by rfl⟩) | (refine Or.inl ⟨by rfl, ?_⟩; intro w' hSw; obtain ⟨s0, s1, s2, s3, s4, s5, s6⟩ := hSw; go_simp; (try with_reducible rfl))))
          (try simp only [Act.put, List.setIfInBounds_toArray, List.set_cons_zero, List.set_cons_succ])
          refine wpMix_nil ?_
          clear HSK
          go_wp2_with fail
          go_ret2
          exact .inr ⟨HNO.out, rfl, HB.out.trans ((below_then HB2.out hb4').mono HB.out.size)⟩
    · obtain rfl : k = n := by omega
      have hall : ∀ (j : Nat) p, L[j]? = some p → StampMath.fits k e0 s0q j p := fun j p hj => HFT.out j p (by rw [List.getElem?_take_of_lt (by have := (List.getElem?_eq_some_iff.1 hj).1; have := HN.out; omega)]; exact hj)
      have hfm : (L.take k) = L := List.take_of_length_le (by have := HN.out; omega)
      rw [hfm] at HO
      by_cases h0 : 0 < k
      · have HJ := Lib.hid (JN.out.1 hall h0)
        have hk0 : ((k : Int) == 0) = false := by rw [beq_eq_false_iff_ne]; omega
        clear hall hfm
        go_wp2_with fail
        go_ret2
        exact .inl ⟨_, _, HJ.out, rfl, HO.out, HB.out⟩
      · obtain rfl : k = 0 := by omega
        have HJ := Lib.hid (J0.out rfl)
        clear hall hfm
        go_wp2_with fail
        go_ret2
        exact .inr ⟨HJ.out, rfl, HB.out⟩
end Go.Proofs.YtckihiiimomgfaaDoor
