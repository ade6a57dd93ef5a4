/- The contract of wal.part. Printed by gen_walpart.py. -/
import Derived.Test.YtckihiiimomgfaaDoorGWal
import Derived.Test.YtckihiiimomgfaaDoorPRow
import Derived.Test.YtckihiiimomgfaaDoorGDisk
namespace Go.Proofs.YtckihiiimomgfaaDoor
open Go.RowKit DiskMath
def PartYes (p : StampMath.Part) (w : World) (e : Ending) (w' : World) : Prop := ∃ u, e = .returned (.tuple #[.agg #[.int .i64 p.epoch, .int .i64 p.seq, .int .i64 p.index, .int .i64 p.total, u], .bool true]) ∧ Own8 w' w.heap.size u p.data ∧ Below w.heap.size w w'
def PartNo (w : World) (e : Ending) (w' : World) : Prop := ∃ (p : StampMath.Part) (A : Option Addr) (n c : Nat), e = .returned (.tuple #[.agg #[.int .i64 p.epoch, .int .i64 p.seq, .int .i64 p.index, .int .i64 p.total, .slice A n c], .bool false]) ∧ Below w.heap.size w w'
def PartPost (q : StampMath.Part) (i s : Int) (w : World) (e : Ending) (w' : World) : Prop := if q.index = i ∧ q.seq = s then PartYes q w e w' else PartNo w e w'
theorem info_part_zero3 : ∃ Z : List Value, Z.length = 5 ∧ ∀ w : World, (zeroValue 130).run Tryd.prog w = .ok (.agg Z.toArray) w := ⟨[.int .i64 0, .int .i64 0, .int .i64 0, .int .i64 0, .slice none 0 0], rfl, fun w => by kernel_rfl⟩
set_option maxRecDepth 100000 in
set_option maxHeartbeats 4000000 in
theorem walPart_far (w : World) (lp p a : Nat) (g : WalMath.Lg) (at_ i s : Int) (hl : LogB w lp p a g) (h : (g.to : Int) ≤ at_) :
    Calls Tryd.prog 90 #[.pointer (some ⟨lp, 0, none⟩), .int .i64 at_, .int .i64 i, .int .i64 s] w (PartNo w) := by
  obtain ⟨_, _, c2, _⟩ := hl.cells
  have hlt := hl.lt
  clear hl
  have hb := below_alloc w (.cells #[.int .i64 0, .int .i64 0, .int .i64 0, .int .i64 0, .slice none 0 0] 130)
  go_enter Tryd.func90, Tryd.ntmps90
  go_wp2_with fail
  refine bodyPost_ret (v := .tuple #[.agg #[.int .i64 0, .int .i64 0, .int .i64 0, .int .i64 0, .slice none 0 0], .bool false]) (by simp [results, Tryd.results90, go_sem]) rfl ⟨⟨0, 0, 0, 0, []⟩, none, 0, 0, rfl, ?_⟩
  exact hb
set_option maxRecDepth 100000 in
set_option maxHeartbeats 4000000 in
theorem walPart_near (w : World) (F : Nat → Prop) (lp p a at_ : Nat) (i s : Int) (g : WalMath.Lg) (d : Dk) (hl : LogB w lp p a g) (hd : DiskAt w F p d) (ht : Halves w) (h : at_ < g.to) (hto : g.to ≤ d.fast.length) (q : StampMath.Part) (hq : StampMath.read ((view d).getD at_ []) = some q) :
    Calls Tryd.prog 90 #[.pointer (some ⟨lp, 0, none⟩), .int .i64 at_, .int .i64 i, .int .i64 s] w (PartPost q i s w) := by
  obtain ⟨c0, _, c2, _⟩ := hl.cells
  have hlt := hl.lt
  have hb0 := below_alloc w (.cells #[.int .i64 0, .int .i64 0, .int .i64 0, .int .i64 0, .slice none 0 0] 130)
  have HQ := Lib.hid hq
  have HD := Lib.hid hd
  have HT := Lib.hid ht
  have HB0 := Lib.hid hb0
  have hib : (Tryd.prog.info? 130).map (·.size) = some 5 := by kernel_rfl
  clear hl hq hd ht hb0
  go_enter Tryd.func90, Tryd.ntmps90
  go_wp2_with fail
  refine (diskRead_yes _ F p d at_ (HD.out.below HB0.out) (by omega)).mono ?_
  rintro e w1 ⟨v1, b, rfl, hvb, hbl, ho1, hb1⟩
  obtain ⟨_, ho⟩ : ∃ x, Own8 w1 x v1 b := by unfold Own8; rw [hbl]; exact ⟨_, ho1⟩
  obtain ⟨A1, c1, rfl, hc1, hcm1⟩ := ho.shape
  have hgd : (view d).getD at_ [] = b := by rw [List.getD_eq_getElem?_getD, hvb]; rfl
  rw [hgd] at HQ
  have HB1 := Lib.hid (below_then HB0.out hb1)
  have HBS := Lib.hid ho.bs
  have HBL := Lib.hid hbl
  have HBX1 := Lib.hid hb1
  have HT1 := Lib.hid ((HT.out.below HB0.out).below hb1)
  have hs1 := hb1.size
  rw [hbl] at hc1 ⊢
  clear hvb hbl hb1 hgd ho ho1
  go_wp2_with fail
  refine (stampRead_some A1 c1 64 b q w1 HBL.out hc1 hcm1 HBS.out HT1.out HQ.out).mono ?_
  rintro e w2 ⟨B, c2', rfl, ho2, hb2⟩
  obtain ⟨pe, ps, pi, pt, pd⟩ := q
  obtain ⟨nu, hnu⟩ : ∃ nu, pd.length = nu := ⟨_, rfl⟩
  simp only at ho2 ⊢
  rw [hnu] at ho2 ⊢
  have HO2 := Lib.hid ho2
  have HB2 := Lib.hid (below_then HB1.out hb2)
  have HBX2 := Lib.hid (below_then HBX1.out hb2)
  have hs2 := hb2.size
  clear ho2 hb2 HT1 HBS HBL
  go_wp2_with (refine wpList_store_new rfl 130 (.tmp 12) (.tmp 35) rfl rfl (partCells ⟨pe, ps, pi, pt, pd⟩ (.slice B nu c2')) rfl rfl rfl hib (fun u hu => by simp at hu; rcases hu with rfl | rfl | rfl | rfl | rfl <;> rfl) ?_; intro w4 hr4 hb4 hs4; have HR4 := Lib.hid hr4; have HB4 := Lib.hid hb4; clear hr4 hb4)
  have HBX4 := Lib.hid (below_then HBX2.out HB4.out)
  have hlt4 : w.heap.size < w2.heap.size := by simp at hs1; omega
  have HSK0 : ∀ w' : World, Below w4.heap.size w4 w' → w'.cell? ⟨w2.heap.size, 0, none⟩ = some (.int .i64 pe) ∧ w'.cell? ⟨w2.heap.size, 1, none⟩ = some (.int .i64 ps) ∧ w'.cell? ⟨w2.heap.size, 2, none⟩ = some (.int .i64 pi) ∧ w'.cell? ⟨w2.heap.size, 3, none⟩ = some (.int .i64 pt) ∧ w'.cell? ⟨w2.heap.size, 4, none⟩ = some (.slice B nu c2') := fun w' hb => by
    have hr' := HR4.out.below hb
    exact ⟨by rw [hr'.cell]; rfl, by rw [hr'.cell]; rfl, by rw [hr'.cell]; rfl, by rw [hr'.cell]; rfl, by rw [hr'.cell]; rfl⟩
  have HSK := Lib.hid HSK0
  obtain ⟨g4, hg4⟩ : ∃ g4, w2.heap.size = g4 := ⟨_, rfl⟩
  rw [hg4] at HSK hlt4 ⊢
  clear HSK0
  have z0 : w4.cell? ⟨w.heap.size, 0, none⟩ = some (.int .i64 0) := box_cell HBX4.out (by simp) 0
  have y0 : w4.frozen? ⟨w.heap.size, 0, none⟩ = false := box_free HBX4.out (by simp) 0
  have z1 : w4.cell? ⟨w.heap.size, 1, none⟩ = some (.int .i64 0) := box_cell HBX4.out (by simp) 1
  have y1 : w4.frozen? ⟨w.heap.size, 1, none⟩ = false := box_free HBX4.out (by simp) 1
  have z2 : w4.cell? ⟨w.heap.size, 2, none⟩ = some (.int .i64 0) := box_cell HBX4.out (by simp) 2
  have y2 : w4.frozen? ⟨w.heap.size, 2, none⟩ = false := box_free HBX4.out (by simp) 2
  have z3 : w4.cell? ⟨w.heap.size, 3, none⟩ = some (.int .i64 0) := box_cell HBX4.out (by simp) 3
  have y3 : w4.frozen? ⟨w.heap.size, 3, none⟩ = false := box_free HBX4.out (by simp) 3
  have z4 : w4.cell? ⟨w.heap.size, 4, none⟩ = some (.slice none 0 0) := box_cell HBX4.out (by simp) 4
  have y4 : w4.frozen? ⟨w.heap.size, 4, none⟩ = false := box_free HBX4.out (by simp) 4
  by_cases e1 : pi = i
  · subst e1
    by_cases e2 : ps = s
    · subst e2
      refine wp_region_mix [(true, 0), (true, 1), (true, 2), (true, 3), (true, 4), (true, 5), (true, 6), (true, 7), (true, 8), (true, 9), (true, 10), (true, 11), (true, 12), (true, 13), (true, 14), (false, 15), (true, 16)] 17 (fun w' => w'.cell? ⟨g4, 0, none⟩ = some (.int .i64 pe) ∧ w'.cell? ⟨g4, 1, none⟩ = some (.int .i64 ps) ∧ w'.cell? ⟨g4, 2, none⟩ = some (.int .i64 pi) ∧ w'.cell? ⟨g4, 3, none⟩ = some (.int .i64 pt) ∧ w'.cell? ⟨g4, 4, none⟩ = some (.slice B nu c2')) (by kernel_rfl) (by kernel_rfl) (by rintro _ ⟨_, _⟩ ⟨_, _⟩ _ rfl h; exact h) (HSK.out _ (Below.refl _ _).drew) ?_
      simp only [pickM, List.getElem?_cons_succ, List.getElem?_cons_zero]
      iterate 1 (refine wpMix_take (v := ?_) ?_ ?_; rotate_left; · (first | (refine Or.inr ⟨by rfl, by rfl⟩) | (refine Or.inl ⟨by rfl, ?_⟩; intro w' hSw; obtain ⟨s0, s1, s2, s3, s4⟩ := hSw; go_simp; (try with_reducible rfl))))
      (try simp only [Act.put, List.setIfInBounds_toArray, List.set_cons_zero, List.set_cons_succ])
      iterate 1 (refine wpMix_take (v := ?_) ?_ ?_; rotate_left; · (first | (refine Or.inr ⟨by rfl, by rfl⟩) | (refine Or.inl ⟨by rfl, ?_⟩; intro w' hSw; obtain ⟨s0, s1, s2, s3, s4⟩ := hSw; go_simp; (try with_reducible rfl))))
      (try simp only [Act.put, List.setIfInBounds_toArray, List.set_cons_zero, List.set_cons_succ])
      iterate 1 (refine wpMix_take (v := ?_) ?_ ?_; rotate_left; · (first | (refine Or.inr ⟨by rfl, by rfl⟩) | (refine Or.inl ⟨by rfl, ?_⟩; intro w' hSw; obtain ⟨s0, s1, s2, s3, s4⟩ := hSw; go_simp; (try with_reducible rfl))))
      (try simp only [Act.put, List.setIfInBounds_toArray, List.set_cons_zero, List.set_cons_succ])
      iterate 1 (refine wpMix_take (v := ?_) ?_ ?_; rotate_left; · (first | (refine Or.inr ⟨by rfl, by rfl⟩) | (refine Or.inl ⟨by rfl, ?_⟩; intro w' hSw; obtain ⟨s0, s1, s2, s3, s4⟩ := hSw; go_simp; (try with_reducible rfl))))
      (try simp only [Act.put, List.setIfInBounds_toArray, List.set_cons_zero, List.set_cons_succ])
      iterate 1 (refine wpMix_take (v := ?_) ?_ ?_; rotate_left; · (first | (refine Or.inr ⟨by rfl, by rfl⟩) | (refine Or.inl ⟨by rfl, ?_⟩; intro w' hSw; obtain ⟨s0, s1, s2, s3, s4⟩ := hSw; go_simp; (try with_reducible rfl))))
      (try simp only [Act.put, List.setIfInBounds_toArray, List.set_cons_zero, List.set_cons_succ])
      iterate 1 (refine wpMix_take (v := ?_) ?_ ?_; rotate_left; · (first | (refine Or.inr ⟨by rfl, by rfl⟩) | (refine Or.inl ⟨by rfl, ?_⟩; intro w' hSw; obtain ⟨s0, s1, s2, s3, s4⟩ := hSw; go_simp; (try with_reducible rfl))))
      (try simp only [Act.put, List.setIfInBounds_toArray, List.set_cons_zero, List.set_cons_succ])
      iterate 1 (refine wpMix_take (v := ?_) ?_ ?_; rotate_left; · (first | (refine Or.inr ⟨by rfl, by rfl⟩) | (refine Or.inl ⟨by rfl, ?_⟩; intro w' hSw; obtain ⟨s0, s1, s2, s3, s4⟩ := hSw; go_simp; (try with_reducible rfl))))
      (try simp only [Act.put, List.setIfInBounds_toArray, List.set_cons_zero, List.set_cons_succ])
      iterate 1 (refine wpMix_take (v := ?_) ?_ ?_; rotate_left; · (first | (refine Or.inr ⟨by rfl, by rfl⟩) | (refine Or.inl ⟨by rfl, ?_⟩; intro w' hSw; obtain ⟨s0, s1, s2, s3, s4⟩ := hSw; go_simp; (try with_reducible rfl))))
      (try simp only [Act.put, List.setIfInBounds_toArray, List.set_cons_zero, List.set_cons_succ])
      iterate 1 (refine wpMix_take (v := ?_) ?_ ?_; rotate_left; · (first | (refine Or.inr ⟨by rfl, by rfl⟩) | (refine Or.inl ⟨by rfl, ?_⟩; intro w' hSw; obtain ⟨s0, s1, s2, s3, s4⟩ := hSw; go_simp; (try with_reducible rfl))))
      (try simp only [Act.put, List.setIfInBounds_toArray, List.set_cons_zero, List.set_cons_succ])
      iterate 1 (refine wpMix_take (v := ?_) ?_ ?_; rotate_left; · (first | (refine Or.inr ⟨by rfl, by rfl⟩) | (refine Or.inl ⟨by rfl, ?_⟩; intro w' hSw; obtain ⟨s0, s1, s2, s3, s4⟩ := hSw; go_simp; (try with_reducible rfl))))
      (try simp only [Act.put, List.setIfInBounds_toArray, List.set_cons_zero, List.set_cons_succ])
      iterate 1 (refine wpMix_take (v := ?_) ?_ ?_; rotate_left; · (first | (refine Or.inr ⟨by rfl, by rfl⟩) | (refine Or.inl ⟨by rfl, ?_⟩; intro w' hSw; obtain ⟨s0, s1, s2, s3, s4⟩ := hSw; go_simp; (try with_reducible rfl))))
      (try simp only [Act.put, List.setIfInBounds_toArray, List.set_cons_zero, List.set_cons_succ])
      iterate 1 (refine wpMix_take (v := ?_) ?_ ?_; rotate_left; · (first | (refine Or.inr ⟨by rfl, by rfl⟩) | (refine Or.inl ⟨by rfl, ?_⟩; intro w' hSw; obtain ⟨s0, s1, s2, s3, s4⟩ := hSw; go_simp; (try with_reducible rfl))))
      (try simp only [Act.put, List.setIfInBounds_toArray, List.set_cons_zero, List.set_cons_succ])
      iterate 1 (refine wpMix_take (v := ?_) ?_ ?_; rotate_left; · (first | (refine Or.inr ⟨by rfl, by rfl⟩) | (refine Or.inl ⟨by rfl, ?_⟩; intro w' hSw; obtain ⟨s0, s1, s2, s3, s4⟩ := hSw; go_simp; (try with_reducible rfl))))
      (try simp only [Act.put, List.setIfInBounds_toArray, List.set_cons_zero, List.set_cons_succ])
      iterate 1 (refine wpMix_take (v := ?_) ?_ ?_; rotate_left; · (first | (refine Or.inr ⟨by rfl, by rfl⟩) | (refine Or.inl ⟨by rfl, ?_⟩; intro w' hSw; obtain ⟨s0, s1, s2, s3, s4⟩ := hSw; go_simp; (try with_reducible rfl))))
      (try simp only [Act.put, List.setIfInBounds_toArray, List.set_cons_zero, List.set_cons_succ])
      iterate 1 (refine wpMix_take (v := ?_) ?_ ?_; rotate_left; · (first | (refine Or.inr ⟨by rfl, by rfl⟩) | (refine Or.inl ⟨by rfl, ?_⟩; intro w' hSw; obtain ⟨s0, s1, s2, s3, s4⟩ := hSw; go_simp; (try with_reducible rfl))))
      (try simp only [Act.put, List.setIfInBounds_toArray, List.set_cons_zero, List.set_cons_succ])
      refine wpMix_do rfl fun K hK => ?_
      go_simp
      obtain ⟨u, hu⟩ : ∃ u : World, (((((w4.setCell ⟨w.heap.size, 0, none⟩ (.int .i64 pe)).setCell ⟨w.heap.size, 1, none⟩ (.int .i64 ps)).setCell ⟨w.heap.size, 2, none⟩ (.int .i64 pi)).setCell ⟨w.heap.size, 3, none⟩ (.int .i64 pt)).setCell ⟨w.heap.size, 4, none⟩ (.slice B nu c2')) = u := ⟨_, rfl⟩
      rw [hu]
      obtain ⟨hpa, hoa, hba⟩ := box_ahead (W0 := w) (w0 := w) (B := w.heap.size) (Below.refl _ _) (Nat.le_refl _) HBX4.out (own_base (own_below HO2.out HB4.out) (show _ ≤ w1.heap.size by simpa using hs1)) u hu.symm
      have hku : Kept (fun k => k = w.heap.size) w4 u := by
        subst hu
        exact (((((Kept.refl (fun k => k = w.heap.size) w4).setCell (p := ⟨w.heap.size, 0, none⟩) (.inl rfl) _).setCell (p := ⟨w.heap.size, 1, none⟩) (.inl rfl) _).setCell (p := ⟨w.heap.size, 2, none⟩) (.inl rfl) _).setCell (p := ⟨w.heap.size, 3, none⟩) (.inl rfl) _).setCell (p := ⟨w.heap.size, 4, none⟩) (.inl rfl) _
      have hru := HR4.out.keep hku (by omega)
      rw [hg4] at hru
      clear hu hku
      refine hK.out _ _ (fun _ => ⟨by exact (hru.cell _).trans rfl, by exact (hru.cell _).trans rfl, by exact (hru.cell _).trans rfl, by exact (hru.cell _).trans rfl, by exact (hru.cell _).trans rfl⟩) ?_
      clear hK K hru
      (try simp only [Act.put, List.setIfInBounds_toArray, List.set_cons_zero, List.set_cons_succ])
      iterate 1 (refine wpMix_take (v := ?_) ?_ ?_; rotate_left; · (first | (refine Or.inr ⟨by rfl, by rfl⟩) | (refine Or.inl ⟨by rfl, ?_⟩; intro w' hSw; obtain ⟨s0, s1, s2, s3, s4⟩ := hSw; go_simp; (try with_reducible rfl))))
      (try simp only [Act.put, List.setIfInBounds_toArray, List.set_cons_zero, List.set_cons_succ])
      refine wpMix_nil ?_
      have x0 := hpa.c0
      have x1 := hpa.c1
      have x2 := hpa.c2
      have x3 := hpa.c3
      have x4 := hpa.c4
      clear hpa
      go_wp2_with fail
      refine bodyPost_ret (v := .tuple #[.agg #[.int .i64 pe, .int .i64 ps, .int .i64 pi, .int .i64 pt, .slice B nu c2'], .bool true]) (by simp [results, Tryd.results90, go_sem, x0, x1, x2, x3, x4]) rfl ?_
      unfold PartPost
      rw [if_pos ⟨rfl, rfl⟩]
      exact ⟨_, rfl, by unfold Own8; rw [hnu]; exact hoa, hba.drew⟩
    · have t2 : (ps == s) = false := by rw [beq_eq_false_iff_ne]; exact e2
      clear e2
      refine wp_region_mix [(true, 0), (true, 1), (true, 2), (true, 3), (true, 4), (true, 5), (true, 6), (true, 7), (true, 8), (true, 9), (true, 10), (true, 11), (true, 12), (true, 13), (true, 14), (false, 15), (true, 16)] 17 (fun w' => w'.cell? ⟨g4, 0, none⟩ = some (.int .i64 pe) ∧ w'.cell? ⟨g4, 1, none⟩ = some (.int .i64 ps) ∧ w'.cell? ⟨g4, 2, none⟩ = some (.int .i64 pi) ∧ w'.cell? ⟨g4, 3, none⟩ = some (.int .i64 pt) ∧ w'.cell? ⟨g4, 4, none⟩ = some (.slice B nu c2')) (by kernel_rfl) (by kernel_rfl) (by rintro _ ⟨_, _⟩ ⟨_, _⟩ _ rfl h; exact h) (HSK.out _ (Below.refl _ _).drew) ?_
      simp only [pickM, List.getElem?_cons_succ, List.getElem?_cons_zero]
      iterate 1 (refine wpMix_take (v := ?_) ?_ ?_; rotate_left; · (first | (refine Or.inr ⟨by rfl, by rfl⟩) | (refine Or.inl ⟨by rfl, ?_⟩; intro w' hSw; obtain ⟨s0, s1, s2, s3, s4⟩ := hSw; go_simp; (try with_reducible rfl))))
      (try simp only [Act.put, List.setIfInBounds_toArray, List.set_cons_zero, List.set_cons_succ])
      iterate 1 (refine wpMix_take (v := ?_) ?_ ?_; rotate_left; · (first | (refine Or.inr ⟨by rfl, by rfl⟩) | (refine Or.inl ⟨by rfl, ?_⟩; intro w' hSw; obtain ⟨s0, s1, s2, s3, s4⟩ := hSw; go_simp; (try with_reducible rfl))))
      (try simp only [Act.put, List.setIfInBounds_toArray, List.set_cons_zero, List.set_cons_succ])
      iterate 1 (refine wpMix_take (v := ?_) ?_ ?_; rotate_left; · (first | (refine Or.inr ⟨by rfl, by rfl⟩) | (refine Or.inl ⟨by rfl, ?_⟩; intro w' hSw; obtain ⟨s0, s1, s2, s3, s4⟩ := hSw; go_simp; (try with_reducible rfl))))
      (try simp only [Act.put, List.setIfInBounds_toArray, List.set_cons_zero, List.set_cons_succ])
      iterate 1 (refine wpMix_take (v := ?_) ?_ ?_; rotate_left; · (first | (refine Or.inr ⟨by rfl, by rfl⟩) | (refine Or.inl ⟨by rfl, ?_⟩; intro w' hSw; obtain ⟨s0, s1, s2, s3, s4⟩ := hSw; go_simp; (try with_reducible rfl))))
      (try simp only [Act.put, List.setIfInBounds_toArray, List.set_cons_zero, List.set_cons_succ])
      iterate 1 (refine wpMix_take (v := ?_) ?_ ?_; rotate_left; · (first | (refine Or.inr ⟨by rfl, by rfl⟩) | (refine Or.inl ⟨by rfl, ?_⟩; intro w' hSw; obtain ⟨s0, s1, s2, s3, s4⟩ := hSw; go_simp; (try with_reducible rfl))))
      (try simp only [Act.put, List.setIfInBounds_toArray, List.set_cons_zero, List.set_cons_succ])
      iterate 1 (refine wpMix_take (v := ?_) ?_ ?_; rotate_left; · (first | (refine Or.inr ⟨by rfl, by rfl⟩) | (refine Or.inl ⟨by rfl, ?_⟩; intro w' hSw; obtain ⟨s0, s1, s2, s3, s4⟩ := hSw; go_simp; (try with_reducible rfl))))
      (try simp only [Act.put, List.setIfInBounds_toArray, List.set_cons_zero, List.set_cons_succ])
      iterate 1 (refine wpMix_take (v := ?_) ?_ ?_; rotate_left; · (first | (refine Or.inr ⟨by rfl, by rfl⟩) | (refine Or.inl ⟨by rfl, ?_⟩; intro w' hSw; obtain ⟨s0, s1, s2, s3, s4⟩ := hSw; go_simp; (try with_reducible rfl))))
      (try simp only [Act.put, List.setIfInBounds_toArray, List.set_cons_zero, List.set_cons_succ])
      iterate 1 (refine wpMix_take (v := ?_) ?_ ?_; rotate_left; · (first | (refine Or.inr ⟨by rfl, by rfl⟩) | (refine Or.inl ⟨by rfl, ?_⟩; intro w' hSw; obtain ⟨s0, s1, s2, s3, s4⟩ := hSw; go_simp; (try with_reducible rfl))))
      (try simp only [Act.put, List.setIfInBounds_toArray, List.set_cons_zero, List.set_cons_succ])
      iterate 1 (refine wpMix_take (v := ?_) ?_ ?_; rotate_left; · (first | (refine Or.inr ⟨by rfl, by rfl⟩) | (refine Or.inl ⟨by rfl, ?_⟩; intro w' hSw; obtain ⟨s0, s1, s2, s3, s4⟩ := hSw; go_simp; (try with_reducible rfl))))
      (try simp only [Act.put, List.setIfInBounds_toArray, List.set_cons_zero, List.set_cons_succ])
      iterate 1 (refine wpMix_take (v := ?_) ?_ ?_; rotate_left; · (first | (refine Or.inr ⟨by rfl, by rfl⟩) | (refine Or.inl ⟨by rfl, ?_⟩; intro w' hSw; obtain ⟨s0, s1, s2, s3, s4⟩ := hSw; go_simp; (try with_reducible rfl))))
      (try simp only [Act.put, List.setIfInBounds_toArray, List.set_cons_zero, List.set_cons_succ])
      iterate 1 (refine wpMix_take (v := ?_) ?_ ?_; rotate_left; · (first | (refine Or.inr ⟨by rfl, by rfl⟩) | (refine Or.inl ⟨by rfl, ?_⟩; intro w' hSw; obtain ⟨s0, s1, s2, s3, s4⟩ := hSw; go_simp; (try with_reducible rfl))))
      (try simp only [Act.put, List.setIfInBounds_toArray, List.set_cons_zero, List.set_cons_succ])
      iterate 1 (refine wpMix_take (v := ?_) ?_ ?_; rotate_left; · (first | (refine Or.inr ⟨by rfl, by rfl⟩) | (refine Or.inl ⟨by rfl, ?_⟩; intro w' hSw; obtain ⟨s0, s1, s2, s3, s4⟩ := hSw; go_simp; (try with_reducible rfl))))
      (try simp only [Act.put, List.setIfInBounds_toArray, List.set_cons_zero, List.set_cons_succ])
      iterate 1 (refine wpMix_take (v := ?_) ?_ ?_; rotate_left; · (first | (refine Or.inr ⟨by rfl, by rfl⟩) | (refine Or.inl ⟨by rfl, ?_⟩; intro w' hSw; obtain ⟨s0, s1, s2, s3, s4⟩ := hSw; go_simp; (try with_reducible rfl))))
      (try simp only [Act.put, List.setIfInBounds_toArray, List.set_cons_zero, List.set_cons_succ])
      iterate 1 (refine wpMix_take (v := ?_) ?_ ?_; rotate_left; · (first | (refine Or.inr ⟨by rfl, by rfl⟩) | (refine Or.inl ⟨by rfl, ?_⟩; intro w' hSw; obtain ⟨s0, s1, s2, s3, s4⟩ := hSw; go_simp; (try with_reducible rfl))))
      (try simp only [Act.put, List.setIfInBounds_toArray, List.set_cons_zero, List.set_cons_succ])
      iterate 1 (refine wpMix_take (v := ?_) ?_ ?_; rotate_left; · (first | (refine Or.inr ⟨by rfl, by rfl⟩) | (refine Or.inl ⟨by rfl, ?_⟩; intro w' hSw; obtain ⟨s0, s1, s2, s3, s4⟩ := hSw; go_simp; (try with_reducible rfl))))
      (try simp only [Act.put, List.setIfInBounds_toArray, List.set_cons_zero, List.set_cons_succ])
      refine wpMix_do rfl fun K hK => ?_
      go_simp
      obtain ⟨u, hu⟩ : ∃ u : World, (((((w4.setCell ⟨w.heap.size, 0, none⟩ (.int .i64 pe)).setCell ⟨w.heap.size, 1, none⟩ (.int .i64 ps)).setCell ⟨w.heap.size, 2, none⟩ (.int .i64 pi)).setCell ⟨w.heap.size, 3, none⟩ (.int .i64 pt)).setCell ⟨w.heap.size, 4, none⟩ (.slice B nu c2')) = u := ⟨_, rfl⟩
      rw [hu]
      obtain ⟨hpa, hoa, hba⟩ := box_ahead (W0 := w) (w0 := w) (B := w.heap.size) (Below.refl _ _) (Nat.le_refl _) HBX4.out (own_base (own_below HO2.out HB4.out) (show _ ≤ w1.heap.size by simpa using hs1)) u hu.symm
      have hku : Kept (fun k => k = w.heap.size) w4 u := by
        subst hu
        exact (((((Kept.refl (fun k => k = w.heap.size) w4).setCell (p := ⟨w.heap.size, 0, none⟩) (.inl rfl) _).setCell (p := ⟨w.heap.size, 1, none⟩) (.inl rfl) _).setCell (p := ⟨w.heap.size, 2, none⟩) (.inl rfl) _).setCell (p := ⟨w.heap.size, 3, none⟩) (.inl rfl) _).setCell (p := ⟨w.heap.size, 4, none⟩) (.inl rfl) _
      have hru := HR4.out.keep hku (by omega)
      rw [hg4] at hru
      clear hu hku
      refine hK.out _ _ (fun _ => ⟨by exact (hru.cell _).trans rfl, by exact (hru.cell _).trans rfl, by exact (hru.cell _).trans rfl, by exact (hru.cell _).trans rfl, by exact (hru.cell _).trans rfl⟩) ?_
      clear hK K hru
      (try simp only [Act.put, List.setIfInBounds_toArray, List.set_cons_zero, List.set_cons_succ])
      iterate 1 (refine wpMix_take (v := ?_) ?_ ?_; rotate_left; · (first | (refine Or.inr ⟨by rfl, by rfl⟩) | (refine Or.inl ⟨by rfl, ?_⟩; intro w' hSw; obtain ⟨s0, s1, s2, s3, s4⟩ := hSw; go_simp; (try with_reducible rfl))))
      (try simp only [Act.put, List.setIfInBounds_toArray, List.set_cons_zero, List.set_cons_succ])
      refine wpMix_nil ?_
      have x0 := hpa.c0
      have x1 := hpa.c1
      have x2 := hpa.c2
      have x3 := hpa.c3
      have x4 := hpa.c4
      clear hpa
      go_wp2_with fail
      refine bodyPost_ret (v := .tuple #[.agg #[.int .i64 pe, .int .i64 ps, .int .i64 pi, .int .i64 pt, .slice B nu c2'], .bool false]) (by simp [results, Tryd.results90, go_sem, x0, x1, x2, x3, x4]) rfl ?_
      unfold PartPost
      rw [if_neg (fun h => by first | (have h2 : ps = s := h.2; rw [h2] at t2; simp at t2) | (have h2 : pi = i := h.1; rw [h2] at t1; simp at t1))]
      exact ⟨⟨pe, ps, pi, pt, pd⟩, _, _, _, rfl, hba.drew⟩
  · have t1 : (pi == i) = false := by rw [beq_eq_false_iff_ne]; exact e1
    clear e1
    refine wp_region_mix [(true, 0), (true, 1), (true, 2), (true, 3), (true, 4), (true, 5), (true, 6), (true, 7), (true, 8), (true, 9), (true, 10), (true, 11), (true, 12), (true, 13), (true, 14), (false, 15), (true, 16)] 17 (fun w' => w'.cell? ⟨g4, 0, none⟩ = some (.int .i64 pe) ∧ w'.cell? ⟨g4, 1, none⟩ = some (.int .i64 ps) ∧ w'.cell? ⟨g4, 2, none⟩ = some (.int .i64 pi) ∧ w'.cell? ⟨g4, 3, none⟩ = some (.int .i64 pt) ∧ w'.cell? ⟨g4, 4, none⟩ = some (.slice B nu c2')) (by kernel_rfl) (by kernel_rfl) (by rintro _ ⟨_, _⟩ ⟨_, _⟩ _ rfl h; exact h) (HSK.out _ (Below.refl _ _).drew) ?_
    simp only [pickM, List.getElem?_cons_succ, List.getElem?_cons_zero]
    iterate 1 (refine wpMix_take (v := ?_) ?_ ?_; rotate_left; · (first | (refine Or.inr ⟨by rfl, by rfl⟩) | (refine Or.inl ⟨by rfl, ?_⟩; intro w' hSw; obtain ⟨s0, s1, s2, s3, s4⟩ := hSw; go_simp; (try with_reducible rfl))))
    (try simp only [Act.put, List.setIfInBounds_toArray, List.set_cons_zero, List.set_cons_succ])
    iterate 1 (refine wpMix_take (v := ?_) ?_ ?_; rotate_left; · (first | (refine Or.inr ⟨by rfl, by rfl⟩) | (refine Or.inl ⟨by rfl, ?_⟩; intro w' hSw; obtain ⟨s0, s1, s2, s3, s4⟩ := hSw; go_simp; (try with_reducible rfl))))
    (try simp only [Act.put, List.setIfInBounds_toArray, List.set_cons_zero, List.set_cons_succ])
    iterate 1 (refine wpMix_take (v := ?_) ?_ ?_; rotate_left; · (first | (refine Or.inr ⟨by rfl, by rfl⟩) | (refine Or.inl ⟨by rfl, ?_⟩; intro w' hSw; obtain ⟨s0, s1, s2, s3, s4⟩ := hSw; go_simp; (try with_reducible rfl))))
    (try simp only [Act.put, List.setIfInBounds_toArray, List.set_cons_zero, List.set_cons_succ])
    iterate 1 (refine wpMix_take (v := ?_) ?_ ?_; rotate_left; · (first | (refine Or.inr ⟨by rfl, by rfl⟩) | (refine Or.inl ⟨by rfl, ?_⟩; intro w' hSw; obtain ⟨s0, s1, s2, s3, s4⟩ := hSw; go_simp; (try with_reducible rfl))))
    (try simp only [Act.put, List.setIfInBounds_toArray, List.set_cons_zero, List.set_cons_succ])
    iterate 1 (refine wpMix_take (v := ?_) ?_ ?_; rotate_left; · (first | (refine Or.inr ⟨by rfl, by rfl⟩) | (refine Or.inl ⟨by rfl, ?_⟩; intro w' hSw; obtain ⟨s0, s1, s2, s3, s4⟩ := hSw; go_simp; (try with_reducible rfl))))
    (try simp only [Act.put, List.setIfInBounds_toArray, List.set_cons_zero, List.set_cons_succ])
    iterate 1 (refine wpMix_take (v := ?_) ?_ ?_; rotate_left; · (first | (refine Or.inr ⟨by rfl, by rfl⟩) | (refine Or.inl ⟨by rfl, ?_⟩; intro w' hSw; obtain ⟨s0, s1, s2, s3, s4⟩ := hSw; go_simp; (try with_reducible rfl))))
    (try simp only [Act.put, List.setIfInBounds_toArray, List.set_cons_zero, List.set_cons_succ])
    iterate 1 (refine wpMix_take (v := ?_) ?_ ?_; rotate_left; · (first | (refine Or.inr ⟨by rfl, by rfl⟩) | (refine Or.inl ⟨by rfl, ?_⟩; intro w' hSw; obtain ⟨s0, s1, s2, s3, s4⟩ := hSw; go_simp; (try with_reducible rfl))))
    (try simp only [Act.put, List.setIfInBounds_toArray, List.set_cons_zero, List.set_cons_succ])
    iterate 1 (refine wpMix_take (v := ?_) ?_ ?_; rotate_left; · (first | (refine Or.inr ⟨by rfl, by rfl⟩) | (refine Or.inl ⟨by rfl, ?_⟩; intro w' hSw; obtain ⟨s0, s1, s2, s3, s4⟩ := hSw; go_simp; (try with_reducible rfl))))
    (try simp only [Act.put, List.setIfInBounds_toArray, List.set_cons_zero, List.set_cons_succ])
    iterate 1 (refine wpMix_take (v := ?_) ?_ ?_; rotate_left; · (first | (refine Or.inr ⟨by rfl, by rfl⟩) | (refine Or.inl ⟨by rfl, ?_⟩; intro w' hSw; obtain ⟨s0, s1, s2, s3, s4⟩ := hSw; go_simp; (try with_reducible rfl))))
    (try simp only [Act.put, List.setIfInBounds_toArray, List.set_cons_zero, List.set_cons_succ])
    iterate 1 (refine wpMix_take (v := ?_) ?_ ?_; rotate_left; · (first | (refine Or.inr ⟨by rfl, by rfl⟩) | (refine Or.inl ⟨by rfl, ?_⟩; intro w' hSw; obtain ⟨s0, s1, s2, s3, s4⟩ := hSw; go_simp; (try with_reducible rfl))))
    (try simp only [Act.put, List.setIfInBounds_toArray, List.set_cons_zero, List.set_cons_succ])
    iterate 1 (refine wpMix_take (v := ?_) ?_ ?_; rotate_left; · (first | (refine Or.inr ⟨by rfl, by rfl⟩) | (refine Or.inl ⟨by rfl, ?_⟩; intro w' hSw; obtain ⟨s0, s1, s2, s3, s4⟩ := hSw; go_simp; (try with_reducible rfl))))
    (try simp only [Act.put, List.setIfInBounds_toArray, List.set_cons_zero, List.set_cons_succ])
    iterate 1 (refine wpMix_take (v := ?_) ?_ ?_; rotate_left; · (first | (refine Or.inr ⟨by rfl, by rfl⟩) | (refine Or.inl ⟨by rfl, ?_⟩; intro w' hSw; obtain ⟨s0, s1, s2, s3, s4⟩ := hSw; go_simp; (try with_reducible rfl))))
    (try simp only [Act.put, List.setIfInBounds_toArray, List.set_cons_zero, List.set_cons_succ])
    iterate 1 (refine wpMix_take (v := ?_) ?_ ?_; rotate_left; · (first | (refine Or.inr ⟨by rfl, by rfl⟩) | (refine Or.inl ⟨by rfl, ?_⟩; intro w' hSw; obtain ⟨s0, s1, s2, s3, s4⟩ := hSw; go_simp; (try with_reducible rfl))))
    (try simp only [Act.put, List.setIfInBounds_toArray, List.set_cons_zero, List.set_cons_succ])
    iterate 1 (refine wpMix_take (v := ?_) ?_ ?_; rotate_left; · (first | (refine Or.inr ⟨by rfl, by rfl⟩) | (refine Or.inl ⟨by rfl, ?_⟩; intro w' hSw; obtain ⟨s0, s1, s2, s3, s4⟩ := hSw; go_simp; (try with_reducible rfl))))
    (try simp only [Act.put, List.setIfInBounds_toArray, List.set_cons_zero, List.set_cons_succ])
    iterate 1 (refine wpMix_take (v := ?_) ?_ ?_; rotate_left; · (first | (refine Or.inr ⟨by rfl, by rfl⟩) | (refine Or.inl ⟨by rfl, ?_⟩; intro w' hSw; obtain ⟨s0, s1, s2, s3, s4⟩ := hSw; go_simp; (try with_reducible rfl))))
    (try simp only [Act.put, List.setIfInBounds_toArray, List.set_cons_zero, List.set_cons_succ])
    refine wpMix_do rfl fun K hK => ?_
    go_simp
    obtain ⟨u, hu⟩ : ∃ u : World, (((((w4.setCell ⟨w.heap.size, 0, none⟩ (.int .i64 pe)).setCell ⟨w.heap.size, 1, none⟩ (.int .i64 ps)).setCell ⟨w.heap.size, 2, none⟩ (.int .i64 pi)).setCell ⟨w.heap.size, 3, none⟩ (.int .i64 pt)).setCell ⟨w.heap.size, 4, none⟩ (.slice B nu c2')) = u := ⟨_, rfl⟩
    rw [hu]
    obtain ⟨hpa, hoa, hba⟩ := box_ahead (W0 := w) (w0 := w) (B := w.heap.size) (Below.refl _ _) (Nat.le_refl _) HBX4.out (own_base (own_below HO2.out HB4.out) (show _ ≤ w1.heap.size by simpa using hs1)) u hu.symm
    have hku : Kept (fun k => k = w.heap.size) w4 u := by
      subst hu
      exact (((((Kept.refl (fun k => k = w.heap.size) w4).setCell (p := ⟨w.heap.size, 0, none⟩) (.inl rfl) _).setCell (p := ⟨w.heap.size, 1, none⟩) (.inl rfl) _).setCell (p := ⟨w.heap.size, 2, none⟩) (.inl rfl) _).setCell (p := ⟨w.heap.size, 3, none⟩) (.inl rfl) _).setCell (p := ⟨w.heap.size, 4, none⟩) (.inl rfl) _
    have hru := HR4.out.keep hku (by omega)
    rw [hg4] at hru
    clear hu hku
    refine hK.out _ _ (fun _ => ⟨by exact (hru.cell _).trans rfl, by exact (hru.cell _).trans rfl, by exact (hru.cell _).trans rfl, by exact (hru.cell _).trans rfl, by exact (hru.cell _).trans rfl⟩) ?_
    clear hK K hru
    (try simp only [Act.put, List.setIfInBounds_toArray, List.set_cons_zero, List.set_cons_succ])
    iterate 1 (refine wpMix_take (v := ?_) ?_ ?_; rotate_left; · (first | (refine Or.inr ⟨by rfl, by rfl⟩) | (refine Or.inl ⟨by rfl, ?_⟩; intro w' hSw; obtain ⟨s0, s1, s2, s3, s4⟩ := hSw; go_simp; (try with_reducible rfl))))
    (try simp only [Act.put, List.setIfInBounds_toArray, List.set_cons_zero, List.set_cons_succ])
    refine wpMix_nil ?_
    have x0 := hpa.c0
    have x1 := hpa.c1
    have x2 := hpa.c2
    have x3 := hpa.c3
    have x4 := hpa.c4
    clear hpa
    go_wp2_with fail
    refine bodyPost_ret (v := .tuple #[.agg #[.int .i64 pe, .int .i64 ps, .int .i64 pi, .int .i64 pt, .slice B nu c2'], .bool false]) (by simp [results, Tryd.results90, go_sem, x0, x1, x2, x3, x4]) rfl ?_
    unfold PartPost
    rw [if_neg (fun h => by first | (have h2 : ps = s := h.2; rw [h2] at t2; simp at t2) | (have h2 : pi = i := h.1; rw [h2] at t1; simp at t1))]
    exact ⟨⟨pe, ps, pi, pt, pd⟩, _, _, _, rfl, hba.drew⟩
set_option maxRecDepth 100000 in
set_option maxHeartbeats 4000000 in
theorem walPart_none (w : World) (F : Nat → Prop) (lp p a at_ : Nat) (i s : Int) (g : WalMath.Lg) (d : Dk) (hl : LogB w lp p a g) (hd : DiskAt w F p d) (ht : Halves w) (h : at_ < g.to) (hto : g.to ≤ d.fast.length) (hq : StampMath.read ((view d).getD at_ []) = none) :
    Calls Tryd.prog 90 #[.pointer (some ⟨lp, 0, none⟩), .int .i64 at_, .int .i64 i, .int .i64 s] w (PartNo w) := by
  obtain ⟨c0, _, c2, _⟩ := hl.cells
  have hlt := hl.lt
  have hb0 := below_alloc w (.cells #[.int .i64 0, .int .i64 0, .int .i64 0, .int .i64 0, .slice none 0 0] 130)
  have HQ := Lib.hid hq
  have HD := Lib.hid hd
  have HT := Lib.hid ht
  have HB0 := Lib.hid hb0
  have hib : (Tryd.prog.info? 130).map (·.size) = some 5 := by kernel_rfl
  clear hl hq hd ht hb0
  go_enter Tryd.func90, Tryd.ntmps90
  go_wp2_with fail
  refine (diskRead_yes _ F p d at_ (HD.out.below HB0.out) (by omega)).mono ?_
  rintro e w1 ⟨v1, b, rfl, hvb, hbl, ho1, hb1⟩
  obtain ⟨_, ho⟩ : ∃ x, Own8 w1 x v1 b := by unfold Own8; rw [hbl]; exact ⟨_, ho1⟩
  obtain ⟨A1, c1, rfl, hc1, hcm1⟩ := ho.shape
  have hgd : (view d).getD at_ [] = b := by rw [List.getD_eq_getElem?_getD, hvb]; rfl
  rw [hgd] at HQ
  have HB1 := Lib.hid (below_then HB0.out hb1)
  have HBS := Lib.hid ho.bs
  have HBL := Lib.hid hbl
  have HBX1 := Lib.hid hb1
  have HT1 := Lib.hid ((HT.out.below HB0.out).below hb1)
  have hs1 := hb1.size
  rw [hbl] at hc1 ⊢
  clear hvb hbl hb1 hgd ho ho1
  go_wp2_with fail
  refine (stampRead_none A1 c1 64 b w1 HBL.out hc1 hcm1 (by decide) HBS.out HT1.out HQ.out).mono ?_
  rintro e w2 ⟨rfl, hb2⟩
  have HB2 := Lib.hid (below_then HB1.out hb2)
  have HBX2 := Lib.hid (below_then HBX1.out hb2)
  have hs2 := hb2.size
  clear hb2 HT1 HBS HBL
  go_wp2_with (refine wpList_store_new rfl 130 (.tmp 12) (.tmp 35) rfl rfl (partCells ⟨0, 0, 0, 0, []⟩ (.slice none 0 0)) rfl rfl rfl hib (fun u hu => by simp at hu; rcases hu with rfl | rfl <;> rfl) ?_; intro w4 hr4 hb4 hs4; have HR4 := Lib.hid hr4; have HB4 := Lib.hid hb4; clear hr4 hb4)
  have HBX4 := Lib.hid (below_then HBX2.out HB4.out)
  have hlt4 : w.heap.size < w2.heap.size := by simp at hs1; omega
  have HSK0 : ∀ w' : World, Below w4.heap.size w4 w' → w'.cell? ⟨w2.heap.size, 0, none⟩ = some (.int .i64 0) ∧ w'.cell? ⟨w2.heap.size, 1, none⟩ = some (.int .i64 0) ∧ w'.cell? ⟨w2.heap.size, 2, none⟩ = some (.int .i64 0) ∧ w'.cell? ⟨w2.heap.size, 3, none⟩ = some (.int .i64 0) ∧ w'.cell? ⟨w2.heap.size, 4, none⟩ = some (.slice none 0 0) := fun w' hb => by
    have hr' := HR4.out.below hb
    exact ⟨by rw [hr'.cell]; rfl, by rw [hr'.cell]; rfl, by rw [hr'.cell]; rfl, by rw [hr'.cell]; rfl, by rw [hr'.cell]; rfl⟩
  have HSK := Lib.hid HSK0
  obtain ⟨g4, hg4⟩ : ∃ g4, w2.heap.size = g4 := ⟨_, rfl⟩
  rw [hg4] at HSK hlt4 ⊢
  clear HSK0
  have z0 : w4.cell? ⟨w.heap.size, 0, none⟩ = some (.int .i64 0) := box_cell HBX4.out (by simp) 0
  have y0 : w4.frozen? ⟨w.heap.size, 0, none⟩ = false := box_free HBX4.out (by simp) 0
  have z1 : w4.cell? ⟨w.heap.size, 1, none⟩ = some (.int .i64 0) := box_cell HBX4.out (by simp) 1
  have y1 : w4.frozen? ⟨w.heap.size, 1, none⟩ = false := box_free HBX4.out (by simp) 1
  have z2 : w4.cell? ⟨w.heap.size, 2, none⟩ = some (.int .i64 0) := box_cell HBX4.out (by simp) 2
  have y2 : w4.frozen? ⟨w.heap.size, 2, none⟩ = false := box_free HBX4.out (by simp) 2
  have z3 : w4.cell? ⟨w.heap.size, 3, none⟩ = some (.int .i64 0) := box_cell HBX4.out (by simp) 3
  have y3 : w4.frozen? ⟨w.heap.size, 3, none⟩ = false := box_free HBX4.out (by simp) 3
  have z4 : w4.cell? ⟨w.heap.size, 4, none⟩ = some (.slice none 0 0) := box_cell HBX4.out (by simp) 4
  have y4 : w4.frozen? ⟨w.heap.size, 4, none⟩ = false := box_free HBX4.out (by simp) 4
  refine wp_region_mix [(true, 0), (true, 1), (true, 2), (true, 3), (true, 4), (true, 5), (true, 6), (true, 7), (true, 8), (true, 9), (true, 10), (true, 11), (true, 12), (true, 13), (true, 14), (false, 15), (true, 16)] 17 (fun w' => w'.cell? ⟨g4, 0, none⟩ = some (.int .i64 0) ∧ w'.cell? ⟨g4, 1, none⟩ = some (.int .i64 0) ∧ w'.cell? ⟨g4, 2, none⟩ = some (.int .i64 0) ∧ w'.cell? ⟨g4, 3, none⟩ = some (.int .i64 0) ∧ w'.cell? ⟨g4, 4, none⟩ = some (.slice none 0 0)) (by kernel_rfl) (by kernel_rfl) (by rintro _ ⟨_, _⟩ ⟨_, _⟩ _ rfl h; exact h) (HSK.out _ (Below.refl _ _).drew) ?_
  simp only [pickM, List.getElem?_cons_succ, List.getElem?_cons_zero]
  iterate 1 (refine wpMix_take (v := ?_) ?_ ?_; rotate_left; · (first | (refine Or.inr ⟨by rfl, by rfl⟩) | (refine Or.inl ⟨by rfl, ?_⟩; intro w' hSw; obtain ⟨s0, s1, s2, s3, s4⟩ := hSw; go_simp; (try with_reducible rfl))))
  (try simp only [Act.put, List.setIfInBounds_toArray, List.set_cons_zero, List.set_cons_succ])
  iterate 1 (refine wpMix_take (v := ?_) ?_ ?_; rotate_left; · (first | (refine Or.inr ⟨by rfl, by rfl⟩) | (refine Or.inl ⟨by rfl, ?_⟩; intro w' hSw; obtain ⟨s0, s1, s2, s3, s4⟩ := hSw; go_simp; (try with_reducible rfl))))
  (try simp only [Act.put, List.setIfInBounds_toArray, List.set_cons_zero, List.set_cons_succ])
  iterate 1 (refine wpMix_take (v := ?_) ?_ ?_; rotate_left; · (first | (refine Or.inr ⟨by rfl, by rfl⟩) | (refine Or.inl ⟨by rfl, ?_⟩; intro w' hSw; obtain ⟨s0, s1, s2, s3, s4⟩ := hSw; go_simp; (try with_reducible rfl))))
  (try simp only [Act.put, List.setIfInBounds_toArray, List.set_cons_zero, List.set_cons_succ])
  iterate 1 (refine wpMix_take (v := ?_) ?_ ?_; rotate_left; · (first | (refine Or.inr ⟨by rfl, by rfl⟩) | (refine Or.inl ⟨by rfl, ?_⟩; intro w' hSw; obtain ⟨s0, s1, s2, s3, s4⟩ := hSw; go_simp; (try with_reducible rfl))))
  (try simp only [Act.put, List.setIfInBounds_toArray, List.set_cons_zero, List.set_cons_succ])
  iterate 1 (refine wpMix_take (v := ?_) ?_ ?_; rotate_left; · (first | (refine Or.inr ⟨by rfl, by rfl⟩) | (refine Or.inl ⟨by rfl, ?_⟩; intro w' hSw; obtain ⟨s0, s1, s2, s3, s4⟩ := hSw; go_simp; (try with_reducible rfl))))
  (try simp only [Act.put, List.setIfInBounds_toArray, List.set_cons_zero, List.set_cons_succ])
  iterate 1 (refine wpMix_take (v := ?_) ?_ ?_; rotate_left; · (first | (refine Or.inr ⟨by rfl, by rfl⟩) | (refine Or.inl ⟨by rfl, ?_⟩; intro w' hSw; obtain ⟨s0, s1, s2, s3, s4⟩ := hSw; go_simp; (try with_reducible rfl))))
  (try simp only [Act.put, List.setIfInBounds_toArray, List.set_cons_zero, List.set_cons_succ])
  iterate 1 (refine wpMix_take (v := ?_) ?_ ?_; rotate_left; · (first | (refine Or.inr ⟨by rfl, by rfl⟩) | (refine Or.inl ⟨by rfl, ?_⟩; intro w' hSw; obtain ⟨s0, s1, s2, s3, s4⟩ := hSw; go_simp; (try with_reducible rfl))))
  (try simp only [Act.put, List.setIfInBounds_toArray, List.set_cons_zero, List.set_cons_succ])
  iterate 1 (refine wpMix_take (v := ?_) ?_ ?_; rotate_left; · (first | (refine Or.inr ⟨by rfl, by rfl⟩) | (refine Or.inl ⟨by rfl, ?_⟩; intro w' hSw; obtain ⟨s0, s1, s2, s3, s4⟩ := hSw; go_simp; (try with_reducible rfl))))
  (try simp only [Act.put, List.setIfInBounds_toArray, List.set_cons_zero, List.set_cons_succ])
  iterate 1 (refine wpMix_take (v := ?_) ?_ ?_; rotate_left; · (first | (refine Or.inr ⟨by rfl, by rfl⟩) | (refine Or.inl ⟨by rfl, ?_⟩; intro w' hSw; obtain ⟨s0, s1, s2, s3, s4⟩ := hSw; go_simp; (try with_reducible rfl))))
  (try simp only [Act.put, List.setIfInBounds_toArray, List.set_cons_zero, List.set_cons_succ])
  iterate 1 (refine wpMix_take (v := ?_) ?_ ?_; rotate_left; · (first | (refine Or.inr ⟨by rfl, by rfl⟩) | (refine Or.inl ⟨by rfl, ?_⟩; intro w' hSw; obtain ⟨s0, s1, s2, s3, s4⟩ := hSw; go_simp; (try with_reducible rfl))))
  (try simp only [Act.put, List.setIfInBounds_toArray, List.set_cons_zero, List.set_cons_succ])
  iterate 1 (refine wpMix_take (v := ?_) ?_ ?_; rotate_left; · (first | (refine Or.inr ⟨by rfl, by rfl⟩) | (refine Or.inl ⟨by rfl, ?_⟩; intro w' hSw; obtain ⟨s0, s1, s2, s3, s4⟩ := hSw; go_simp; (try with_reducible rfl))))
  (try simp only [Act.put, List.setIfInBounds_toArray, List.set_cons_zero, List.set_cons_succ])
  iterate 1 (refine wpMix_take (v := ?_) ?_ ?_; rotate_left; · (first | (refine Or.inr ⟨by rfl, by rfl⟩) | (refine Or.inl ⟨by rfl, ?_⟩; intro w' hSw; obtain ⟨s0, s1, s2, s3, s4⟩ := hSw; go_simp; (try with_reducible rfl))))
  (try simp only [Act.put, List.setIfInBounds_toArray, List.set_cons_zero, List.set_cons_succ])
  iterate 1 (refine wpMix_take (v := ?_) ?_ ?_; rotate_left; · (first | (refine Or.inr ⟨by rfl, by rfl⟩) | (refine Or.inl ⟨by rfl, ?_⟩; intro w' hSw; obtain ⟨s0, s1, s2, s3, s4⟩ := hSw; go_simp; (try with_reducible rfl))))
  (try simp only [Act.put, List.setIfInBounds_toArray, List.set_cons_zero, List.set_cons_succ])
  iterate 1 (refine wpMix_take (v := ?_) ?_ ?_; rotate_left; · (first | (refine Or.inr ⟨by rfl, by rfl⟩) | (refine Or.inl ⟨by rfl, ?_⟩; intro w' hSw; obtain ⟨s0, s1, s2, s3, s4⟩ := hSw; go_simp; (try with_reducible rfl))))
  (try simp only [Act.put, List.setIfInBounds_toArray, List.set_cons_zero, List.set_cons_succ])
  iterate 1 (refine wpMix_take (v := ?_) ?_ ?_; rotate_left; · (first | (refine Or.inr ⟨by rfl, by rfl⟩) | (refine Or.inl ⟨by rfl, ?_⟩; intro w' hSw; obtain ⟨s0, s1, s2, s3, s4⟩ := hSw; go_simp; (try with_reducible rfl))))
  (try simp only [Act.put, List.setIfInBounds_toArray, List.set_cons_zero, List.set_cons_succ])
  refine wpMix_do rfl fun K hK => ?_
  go_simp
  obtain ⟨u, hu⟩ : ∃ u : World, (((((w4.setCell ⟨w.heap.size, 0, none⟩ (.int .i64 0)).setCell ⟨w.heap.size, 1, none⟩ (.int .i64 0)).setCell ⟨w.heap.size, 2, none⟩ (.int .i64 0)).setCell ⟨w.heap.size, 3, none⟩ (.int .i64 0)).setCell ⟨w.heap.size, 4, none⟩ (.slice none 0 0)) = u := ⟨_, rfl⟩
  rw [hu]
  obtain ⟨hpa, hoa, hba⟩ := box_ahead (W0 := w) (w0 := w) (B := w.heap.size) (Below.refl _ _) (Nat.le_refl _) HBX4.out (World.ownsRow_nil _ _ _ _ : w4.ownsRow _ 5 1 (.slice none 0 0) 0 []) u hu.symm
  have hku : Kept (fun k => k = w.heap.size) w4 u := by
    subst hu
    exact (((((Kept.refl (fun k => k = w.heap.size) w4).setCell (p := ⟨w.heap.size, 0, none⟩) (.inl rfl) _).setCell (p := ⟨w.heap.size, 1, none⟩) (.inl rfl) _).setCell (p := ⟨w.heap.size, 2, none⟩) (.inl rfl) _).setCell (p := ⟨w.heap.size, 3, none⟩) (.inl rfl) _).setCell (p := ⟨w.heap.size, 4, none⟩) (.inl rfl) _
  have hru := HR4.out.keep hku (by omega)
  rw [hg4] at hru
  clear hu hku
  refine hK.out _ _ (fun _ => ⟨by exact (hru.cell _).trans rfl, by exact (hru.cell _).trans rfl, by exact (hru.cell _).trans rfl, by exact (hru.cell _).trans rfl, by exact (hru.cell _).trans rfl⟩) ?_
  clear hK K hru
  (try simp only [Act.put, List.setIfInBounds_toArray, List.set_cons_zero, List.set_cons_succ])
  iterate 1 (refine wpMix_take (v := ?_) ?_ ?_; rotate_left; · (first | (refine Or.inr ⟨by rfl, by rfl⟩) | (refine Or.inl ⟨by rfl, ?_⟩; intro w' hSw; obtain ⟨s0, s1, s2, s3, s4⟩ := hSw; go_simp; (try with_reducible rfl))))
  (try simp only [Act.put, List.setIfInBounds_toArray, List.set_cons_zero, List.set_cons_succ])
  refine wpMix_nil ?_
  have x0 := hpa.c0
  have x1 := hpa.c1
  have x2 := hpa.c2
  have x3 := hpa.c3
  have x4 := hpa.c4
  clear hpa
  go_wp2_with fail
  refine bodyPost_ret (v := .tuple #[.agg #[.int .i64 0, .int .i64 0, .int .i64 0, .int .i64 0, .slice none 0 0], .bool false]) (by simp [results, Tryd.results90, go_sem, x0, x1, x2, x3, x4]) rfl ?_
  exact ⟨⟨0, 0, 0, 0, []⟩, none, 0, 0, rfl, hba.drew⟩
theorem walPart_any (w : World) (F : Nat → Prop) (lp p a at_ i s : Nat) (g : WalMath.Lg) (d : Dk) (hl : LogB w lp p a g) (hd : DiskAt w F p d) (ht : Halves w) (hto : g.to ≤ d.fast.length) :
    Calls Tryd.prog 90 #[.pointer (some ⟨lp, 0, none⟩), .int .i64 at_, .int .i64 i, .int .i64 s] w (fun e w' => match WalMath.partAt (view d) g.to at_ i s with | some q => PartYes q w e w' | none => PartNo w e w') := by
  unfold WalMath.partAt
  by_cases h : at_ < g.to
  · rw [if_pos h]
    cases hq : StampMath.read ((view d).getD at_ []) with
    | none => exact walPart_none w F lp p a at_ i s g d hl hd ht h hto hq
    | some q =>
      have := walPart_near w F lp p a at_ i s g d hl hd ht h hto q hq
      simp only
      by_cases hc : q.index = i ∧ q.seq = s
      · rw [if_pos hc]
        refine this.mono fun e w' hp => ?_
        unfold PartPost at hp
        rwa [if_pos hc] at hp
      · rw [if_neg hc]
        refine this.mono fun e w' hp => ?_
        unfold PartPost at hp
        rwa [if_neg hc] at hp
  · rw [if_neg h]
    exact walPart_far w lp p a g at_ i s hl (by omega)
end Go.Proofs.YtckihiiimomgfaaDoor
