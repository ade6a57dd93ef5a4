/- The contracts of a disk: Write (under way, NOT BUILT; three places stand open in it). -/
import Derived.Test.YtckihiiimomgfaaDisk4
import Derived.Test.YtckihiiimomgfaaBuildV
import Derived.Laws.Cover3
import Derived.Deep.MidRow
import Derived.StillTailTactics
import Derived.IntWalk
namespace Go.Proofs.Ytckihiiimomgfaa
open Go.RowKit DiskMath
def zeroWrite : Value := .agg (.int .i64 0 :: bvs (List.replicate 64 0)).toArray
theorem info_write : (Try.prog.info? 68).map (fun i => (i.zero, i.size, i.bytes)) = some (some zeroWrite, 65, 72) := by kernel_rfl
theorem write_fields : ∃ fs, Try.prog.underlying 68 = some (.struct fs) ∧ fs.toList.mapM (fun f => (Try.prog.info? f.type).map fun i => (f.offset, i.size)) = some [(0, 1), (1, 64)] := ⟨_, Try.underlying68, by kernel_rfl⟩
set_option maxRecDepth 100000 in
set_option maxHeartbeats 1000000 in
theorem diskWrite_yes (w : World) (F : Nat → Prop) (p : Nat) (d : Dk) (i : Nat) (gb ob c : Nat) (b : List UInt8) (h : DiskAt w F p d) (hi : i < d.fast.length) (hl : b.length = 64) (hc : 64 ≤ c) (hr : Bs w (some ⟨gb, ob, none⟩) b) (hgb : ¬ F gb) (hf : d.waits.length < 100000) :
    Calls Try.prog 13 #[.pointer (some ⟨p, 0, none⟩), .int .i64 (i : Int), .slice (some ⟨gb, ob, none⟩) 64 c] w fun e w' => e = .returned (.int .i64 ((write d i b).2 : Nat)) ∧ DiskAt w' (fun k => F k ∨ w.heap.size ≤ k) p (write d i b).1 ∧ Kept F w w' := by
  obtain ⟨gf, gm, n, vw, hb, q1, q2, q3, q4⟩ := h
  obtain ⟨c0, _⟩ := hb.cells
  rw [hb.len] at hi
  have hwr : write d i b = if (DiskMath.step d).2 then ({ (DiskMath.step d).1 with waits := d.waits ++ [(i, b)] }, 0) else ((DiskMath.step d).1, 7) := by
    unfold write
    rw [if_pos ⟨by omega, by rw [hb.len]; omega, hl⟩]
    simp
  have HW := Lib.hid hwr
  have HH := Lib.hid hb
  have h1 : ¬ (i : Int) < 0 := by omega
  have h2 : ¬ (n : Int) ≤ i := by omega
  have h3 : (i : Int) < n := by omega
  clear hb hwr
  obtain ⟨iw, hiw, hzw, hsw, hbw⟩ := info_parts info_write
  obtain ⟨zw, hzwe⟩ : ∃ zw : Value, zeroWrite = zw := ⟨_, rfl⟩
  have hzsw : zw.cells.size = 65 := by rw [← hzwe]; rfl
  rw [hzwe] at hzw
  clear hzwe
  go_enter Try.func13, Try.ntmps13
  go_wp2_with fail
  refine (diskOk_any w p gf gm n _ d HH.out).mono ?_
  rintro e w' ⟨rfl, rfl⟩
  go_wp2_with fail
  refine (diskStep_any w F p gf gm n vw d HH.out q1).mono ?_
  rintro e w1 ⟨rfl, hb1, hk1, hs1⟩
  have HB1 := Lib.hid hb1
  have HK1 := Lib.hid hk1
  have HS1 := Lib.hid hs1
  clear hb1 hk1 hs1
  by_cases hd : (DiskMath.step d).2 = true
  · have HD := Lib.hid hd
    have hrg : w1.rangeAt gb ob (bvs b) := by
      intro j v hj
      have hj' : j < b.length := by have := (List.getElem?_eq_some_iff.1 hj).1; rwa [bvs_length] at this
      obtain ⟨ad, e, hlt, hce⟩ := hr.at_ hj'
      obtain rfl : ad = ⟨gb, ob, none⟩ := (Option.some.inj e).symm
      have := bvs_get b j _ (List.getElem?_eq_getElem hj')
      rw [this] at hj
      obtain rfl := Option.some.inj hj
      rw [HK1.out.cell (p := ⟨gb, ob + j, none⟩) hlt hgb]
      rw [Addr.add_lit] at hce
      exact hce
    have hus := Try.underlying66
    have hib : (Try.prog.info? 66).map (·.size) = some (bvs b).length := by rw [bvs_length, hl]; kernel_rfl
    have HRG := Lib.hid hrg
    have hat : ∀ w, (Instr.arrayAt 66 (.slice (some ⟨gb, ob, none⟩) 64 c)).run Try.prog w = .ok (.pointer (some ⟨gb, ob, none⟩)) w := fun w => run_arrayAt w _ _ 64 _ _ _ hus (by omega)
    obtain ⟨Z, hZ⟩ : ∃ Z : List UInt8, List.replicate 64 0 = Z := ⟨_, rfl⟩
    have hzv : ∀ w : World, (zeroValue 66).run Try.prog w = .ok (secV Z) w := fun w => by rw [← hZ]; kernel_rfl
    have hZl : (bvs Z).toArray.size = (bvs b).length := by rw [← hZ, List.size_toArray, bvs_length, bvs_length, hl]; rfl
    clear hZ
    rw [if_pos hd]
    clear hd hrg
    have hc' : (64 : Int) ≤ c := by omega
    go_wp2_with (first
      | refine wpList_load_mid rfl 66 (.tmp 36) rfl gb ob rfl (bvs b) _ HRG.out hus rfl hib ?_
      | refine wpList_store_new rfl 66 (.tmp 8) (.tmp 37) rfl rfl (bvs b) rfl rfl (by show (bvs Z).toArray.size = (bvs b).length; exact hZl) hib (bvs_one b) ?_; intro w2 hr2 hb2 hs2; have HR2 := Lib.hid hr2; have HB2 := Lib.hid hb2; clear hr2 hb2)
    have hd2 := HB1.out.kept (Kept.of_below (F := fun _ => False) HB2.out) (fun h => h) (fun h => h) (fun h => h) (fun _ _ h => h)
    have hm2 : MapIs w2.drew gm (nowOf (DiskMath.step d).1.waits) := hd2.map
    have HM2 := Lib.hid hm2
    have HD2 := Lib.hid hd2
    have u1 := Try.underlying61
    have u2 := Try.underlying3
    have hRG2 : w2.rangeAt w1.heap.size 0 (bvs b) := by have := HR2.out.range 0 (bvs b).length; rwa [List.drop_zero, List.take_length] at this
    have b1 : w2.cell? ⟨p, 1, none⟩ = some (.map (some gm)) := hd2.cells.2.1
    have HRG2 := Lib.hid hRG2
    clear hd2 hm2 hzv hat hRG2
    refine wp_region_headS 6 6 (fun w' => w'.cell? ⟨p, 1, none⟩ = some (.map (some gm)) ∧ w'.rangeAt w1.heap.size 0 (bvs b)) (by kernel_rfl) (by kernel_rfl) (by rintro _ ⟨_, _⟩ ⟨_, _⟩ _ rfl h; exact h) ⟨b1, HRG2.out⟩ ?_
    iterate 5 (refine wpHeadS_step (v := ?_) (Or.inl ⟨by rfl, ?_⟩) ?_; rotate_left; · intro w' hSw; obtain ⟨s1, -⟩ := hSw; go_simp; (try with_reducible rfl))
    refine wpHeadS_step (yieldsIf_load_mid (by rfl) 66 (.tmp 8) rfl w1.heap.size 0 (by rfl) (bvs b) _ (fun w' hS => hS.2) hus rfl hib) (wpHeadS_nil (wpTailS_end (by decide) ?_))
    simp only [Act.put, List.setIfInBounds_toArray, List.set_cons_zero, List.set_cons_succ]
    refine wpList_put rfl (.tmp 41) (.tmp 42) (.tmp 43) 61 rfl 3 66 u1 u2 gm _ (i : Int) (secV b) rfl rfl rfl HM2.out ?_
    intro w3 hm3 hk3 hs3
    have HM3 := Lib.hid hm3
    have HK3 := Lib.hid hk3
    have HS3 := Lib.hid hs3
    clear hm3 hk3 hs3
    go_wp2_with fail
    have hd3 : DiskB w2.drew p gf gm n vw (DiskMath.step d).1 := HD2.out.kept (Kept.refl (fun _ => False) w2).drew (fun h => h) (fun h => h) (fun h => h) (fun _ _ h => h)
    obtain ⟨n1, n2, n3, n4⟩ := hd3.ne
    have c2 : w3.cell? ⟨p, 2, none⟩ = some vw := by rw [HK3.out.cell (p := ⟨p, 2, none⟩) hd3.lt.1 n2]; exact hd3.cells.2.2.1
    have hgm1 : w1.heap.size ≠ gm := by have := HB1.out.lt.2.2.1; omega
    have hr3 := RowV.keep (w := w2.drew) (w' := w3) (F := fun x => x = gm) HR2.out HK3.out hgm1
    have HR3 := Lib.hid hr3
    have hRG3 : w3.rangeAt w1.heap.size 0 (bvs b) := by
      have := hr3.range 0 (bvs b).length; rwa [List.drop_zero, List.take_length] at this
    have hown3 : w3.ownsRow 0 68 65 vw (DiskMath.step d).1.waits.length (wcells (DiskMath.step d).1.waits) := HK3.out.own hd3.waits (fun g hg e => (n4 g hg).2.2 e)
    have hblk3 := HK3.out.heap hd3.blk n2
    have HRG3 := Lib.hid hRG3
    have HOWN3 := Lib.hid hown3
    have HBLK3 := Lib.hid hblk3
    have HN4 := Lib.hid n4
    have HN1 := Lib.hid n1
    have HN2 := Lib.hid n2
    have HN3 := Lib.hid n3
    clear hd3 hr3 hRG3 hown3 hblk3 n1 n2 n3 n4
    refine wp_region_headS 8 10 (fun w' => w'.cell? ⟨p, 2, none⟩ = some vw ∧ w'.rangeAt w1.heap.size 0 (bvs b)) (by kernel_rfl) (by kernel_rfl) (by rintro _ ⟨_, _⟩ ⟨_, _⟩ _ rfl h; exact h) ⟨c2, HRG3.out⟩ ?_
    simp only [Act.put]
    iterate 6 (refine wpHeadS_step (v := ?_) (Or.inl ⟨by rfl, ?_⟩) ?_; rotate_left; · intro w' hSw; obtain ⟨s1, -⟩ := hSw; go_simp; (try with_reducible rfl))
    refine wpHeadS_step (yieldsIf_load_mid (by rfl) 66 (.tmp 8) rfl w1.heap.size 0 (by rfl) (bvs b) _ (fun w' hS => hS.2) hus rfl hib) ?_
    simp only [Act.put, List.setIfInBounds_toArray, List.set_cons_zero, List.set_cons_succ]
    obtain ⟨fsw, hfs, hpl⟩ := write_fields
    refine wpHeadS_step (yieldsIf_build_two (by rfl) 68 (.tmp 49) (.tmp 50) rfl fsw iw zw 64 hiw hfs hzw hpl hzsw .i64 (i : Int) (bvs b) (by rw [bvs_length]; exact hl) rfl rfl) (wpHeadS_nil ?_)
    simp only [Act.put, List.setIfInBounds_toArray, List.set_cons_zero, List.set_cons_succ]
    refine wpTailS_buildSlice (by decide) rfl 62 68 (.tmp 51) rfl iw zw (.int .i64 (i : Int) :: bvs b) Try.underlying62 hiw hzw (by rw [List.length_cons, bvs_length, hl]; exact hsw) (by rw [List.length_cons, bvs_length, hl]; exact hzsw) (by simp) (by simp [bvs_length, hl]) rfl ⟨?_, ?_⟩ ?_
    · show (w3.alloc _).cell? _ = _
      rw [World.cell?_alloc_lt _ _ _ (show p < w3.heap.size by have := cell_lt' c2; exact this)]
      exact c2
    · exact World.rangeAt_alloc (w := w3.drew) HRG3.out _
    have hst := (step_fst d).2.1
    have hlw : (DiskMath.step d).1.waits.length = d.waits.length := by rw [hst]
    refine wpTailS_push (by decide) rfl (.tmp 48) (.tmp 52) 62 rfl 0 68 iw zw 65 72 Try.underlying62 hiw hzw hsw hbw hzsw (by decide) vw _ (wcells (DiskMath.step d).1.waits) rfl (w0 := w3.drew) HOWN3.out.drew (.int .i64 (i : Int) :: bvs b) rfl rfl (by rw [List.length_cons, bvs_length, hl]) (List.forall_mem_cons.2 ⟨rfl, bvs_one b⟩) (by rw [hlw]; unfold maxLen; omega) (by rw [hlw]; omega) (Nat.zero_le _) ?_
    intro v' w4 ho4 hk4 hv4
    have hp3 : p < w3.heap.size := cell_lt' c2
    have c24 : w4.cell? ⟨p, 2, none⟩ = some vw := by rw [hk4.cell (p := ⟨p, 2, none⟩) hp3 (fun h => (HN4.out p h).1 rfl)]; exact c2
    have hv1 : vw.ownBlock ≠ some w1.heap.size := fun e => by have := HB1.out.lt.2.2.2 _ e; omega
    have hr4 : RowV w4 w1.heap.size 66 (bvs b) := RowV.keep (w := w3.drew) HR3.out hk4 hv1
    have f24 : w4.frozen? ⟨p, 2, none⟩ = false := block_free (hk4.heap (a := w3.drew) HBLK3.out (fun h => (HN4.out p h).1 rfl))
    obtain ⟨A', c', rfl, hc4⟩ := own_shape ho4
    have HO4 := Lib.hid ho4
    have HK4 := Lib.hid hk4
    have HV4 := Lib.hid hv4
    have HST := Lib.hid hst
    have HLW := Lib.hid hlw
    clear ho4 hk4 hv4 hst hlw hc4
    refine ⟨⟨c24, by have := hr4.range 0 (bvs b).length; rwa [List.drop_zero, List.take_length] at this⟩, wpTailS_end (by decide) ?_⟩
    simp only [Act.put, List.setIfInBounds_toArray, List.set_cons_zero, List.set_cons_succ]
    go_wp2_with fail
    go_ret
    rw [HW.out, HD.out]
    have hne : (Value.slice A' ((DiskMath.step d).1.waits.length + 1) c').ownBlock ≠ some p := own_ne HO4.out (HK4.out.heap (a := w3.drew) HBLK3.out (fun h => (HN4.out p h).1 rfl)) (by decide)
    have hkp : Kept (fun k => k = p) w4 (w4.setCell ⟨p, 2, none⟩ (.slice A' ((DiskMath.step d).1.waits.length + 1) c')) := (Kept.refl (fun k => k = p) w4).setCell (p := ⟨p, 2, none⟩) (.inl rfl) _
    have hf3 := RowV.keep (w := w2.drew) (w' := w3) (F := fun x => x = gm) HD2.out.fast HK3.out HN3.out
    have hf4 := RowV.keep (w := w3.drew) (w' := w4) hf3 HK4.out (fun h => (HN4.out gf h).2.1 rfl)
    have hm4 := MapIs.kept (w := w3.drew) HM3.out HK4.out (fun h => (HN4.out gm h).2.2 rfl)
    have hs34 := HK4.out.size
    have hs23 : w2.heap.size ≤ w3.heap.size := HK3.out.size
    have hs12 := HB2.out.size
    have hs01 := HK1.out.size
    have hb4 : w4.heap[p]? = _ := HK4.out.heap (a := w3.drew) HBLK3.out (fun h => (HN4.out p h).1 rfl)
    have ho4 : w4.ownsRow 0 68 65 (.slice A' ((DiskMath.step d).1.waits.length + 1) c') ((DiskMath.step d).1.waits ++ [(i, b)]).length (wcells ((DiskMath.step d).1.waits ++ [(i, b)])) := by
      rw [wcells_snoc, List.length_append]
      exact HO4.out
    have hd1 := HB1.out
    rw [if_pos rfl, ← HST.out]
    refine ⟨rfl, ⟨gf, gm, n, .slice A' ((DiskMath.step d).1.waits.length + 1) c', ⟨set_block hb4 2 _, hf4.keep hkp (fun e => HN1.out e.symm), ?_, hkp.own ho4 (fun g hg e => by subst e; exact hne hg), hd1.len, hd1.pos, hd1.max, hd1.sec, ?_, ?_, hd1.arm⟩, .inl q1, .inl q2, .inl q3, ?_⟩, ?_⟩
    · show MapIs _ gm (nowOf ((DiskMath.step d).1.waits ++ [(i, b)]))
      rw [nowOf_snoc]
      exact hm4.kept hkp (fun e => HN2.out e.symm)
    · intro x hx
      rcases List.mem_append.1 hx with hx | hx
      · exact hd1.wsec x hx
      · simp at hx; subst hx; exact ⟨hi, hl⟩
    · show ((DiskMath.step d).1.waits ++ [(i, b)]).length ≤ 100000
      rw [List.length_append, HLW.out]; simp; omega
    · intro g hg
      rcases HV4.out g hg with h | h
      · exact .inl (q4 g h)
      · right; have h' : w3.heap.size ≤ g := h; omega
    · have k1 : Kept F w w2 := HK1.out.then_below HB2.out
      have k2 : Kept F w w3 := (Kept.drew k1).trans HK3.out (fun k hk => by subst hk; exact .inl q3)
      have k3 : Kept F w w4 := (Kept.drew k2).trans HK4.out (fun k hk => .inl (q4 k hk))
      exact k3.trans hkp (fun k hk => by subst hk; exact .inl q1)
  · have hd' : (DiskMath.step d).2 = false := by simpa using hd
    have HD := Lib.hid hd'
    rw [hd']
    clear hd hd'
    go_wp2_with fail
    go_ret
    rw [HW.out, HD.out]
    exact ⟨rfl, ⟨gf, gm, n, vw, HB1.out, .inl q1, .inl q2, .inl q3, fun g hg => .inl (q4 g hg)⟩, HK1.out⟩
end Go.Proofs.Ytckihiiimomgfaa
