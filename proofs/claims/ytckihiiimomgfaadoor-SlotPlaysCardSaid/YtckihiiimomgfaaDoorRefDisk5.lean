/- The contracts of the document's disk: Crash. -/
import Derived.Test.YtckihiiimomgfaaDoorRefDisk4
namespace Go.Proofs.YtckihiiimomgfaaDoor
open Go.RowKit DiskMath
def RCrRel (w : World) (G : Nat → Prop) (p : Nat) (vf vw : Value) (ar : Bool) (lf : Int) (d : Dk) (c : Nat) (l : List Int) (i : Value) (wr : World) : Prop :=
  ∃ k : Nat, k ≤ d.waits.length ∧ k ≤ l.length ∧ i = .int .i64 (k : Int) ∧ RDiskB wr (fun g => G g ∨ w.heap.size ≤ g) p vf vw ar lf { d with fast := torn d.fast (d.waits.take k) l } c ∧ Kept G w wr
theorem RDiskB.mono {w : World} {G H : Nat → Prop} {p : Nat} {vf vw : Value} {ar : Bool} {lf : Int} {d : Dk} {c : Nat} (h : RDiskB w G p vf vw ar lf d c) (hs : ∀ k, G k → H k) : RDiskB w H p vf vw ar lf d c :=
  ⟨h.blk, h.fast.mono hs, h.waits.mono hs, h.pos, h.max, h.sec, h.wsec, h.few, h.arm, h.cnt⟩
theorem RDiskB.kept0 {w w' : World} {G : Nat → Prop} {p : Nat} {vf vw : Value} {ar : Bool} {lf : Int} {d : Dk} {c : Nat} (h : RDiskB w G p vf vw ar lf d c) (hk : Kept (fun _ => False) w w') : RDiskB w' G p vf vw ar lf d c :=
  ⟨hk.heap h.blk (fun h => h), h.fast.kept hk (fun _ _ h => h), h.waits.kept hk (fun _ _ h => h), h.pos, h.max, h.sec, h.wsec, h.few, h.arm, h.cnt⟩
set_option maxRecDepth 100000 in
set_option maxHeartbeats 2000000 in
theorem refCrash_any (w : World) (G : Nat → Prop) (p : Nat) (d : Dk) (c : Nat) (A0 : Option Addr) (c0 : Nat) (l : List Int) (h : RDiskAt w G p d c) (_hlc : l.length ≤ c0) (hlm : c0 ≤ maxLen) (hr : Ns w A0 l) (hA : ∀ ad, A0 = some ad → l ≠ [] → ¬ G ad.block) :
    Calls Tryd.prog 26 #[.pointer (some ⟨p, 0, none⟩), .slice A0 l.length c0] w fun e w' => e = .returned (.tuple #[]) ∧ RDiskAt w' (fun g => G g ∨ w.heap.size ≤ g) p (crash d l) c ∧ Kept G w w' := by
  obtain ⟨hp, vf, vw, ar, lf, h⟩ := h
  obtain ⟨Aw, cw, rfl, hcw⟩ := h.waits.shape
  obtain ⟨Af, cf, rfl, hcf⟩ := h.fast.shape
  have hfew := h.few
  have hmax := h.max
  obtain ⟨m, hm⟩ : ∃ m, d.waits.length = m := ⟨_, rfl⟩
  obtain ⟨n, hn⟩ : ∃ n, d.fast.length = n := ⟨_, rfl⟩
  obtain ⟨nl, hnl⟩ : ∃ nl, l.length = nl := ⟨_, rfl⟩
  rw [hm, hn] at h
  rw [hm] at hfew hcw
  rw [hn] at hmax hcf
  rw [hnl] at _hlc ⊢
  have hGF : ∀ g, (Value.slice Af n cf).ownBlock = some g → G g := by obtain ⟨vs, _, h2, _⟩ := h.fast; exact h2
  have hcm : c0 ≤ 9223372036854775807 := by unfold maxLen at hlm; omega
  have HM := Lib.hid hm
  have HN := Lib.hid hn
  have HNL := Lib.hid hnl
  have HGF := Lib.hid hGF
  have HA := Lib.hid hA
  have HR := Lib.hid hr
  have HREL := Lib.hid (show RCrRel w G p (.slice Af n cf) (.slice Aw m cw) ar lf d c l (.int .i64 (0 : Nat)) w from ⟨0, Nat.zero_le _, Nat.zero_le _, rfl, h.mono (fun _ h => .inl h), Kept.refl _ _⟩)
  obtain ⟨i0, hi0, hz0, hz1, hz2⟩ := info_parts info_u8
  clear h hm hn hnl hlm hGF hA hr
  go_enter Tryd.func26, Tryd.ntmps26
  go_wp2_with fail
  go_loopw [4] (fun i wr => RCrRel w G p (.slice Af n cf) (.slice Aw m cw) ar lf d c l i wr) (fun i _ => m - (intOf i).toNat)
  case atStart => exact HREL.out
  case round =>
    clear HREL
    obtain ⟨k, hk, hkl, rfl, hbk, hkk⟩ := hrel
    obtain ⟨wo, rfl⟩ : ∃ wo : World, wo = wr := ⟨_, rfl⟩
    rw [HM.out] at hk
    rw [HNL.out] at hkl
    obtain ⟨c0', c1, _, _, _, _⟩ := hbk.cells
    by_cases hgo : k < m ∧ k < nl
    · obtain ⟨hlt, hkn⟩ := hgo
      obtain ⟨z, hz⟩ : ∃ z, l[k]? = some z := ⟨_, List.getElem?_eq_getElem (by have := HNL.out; omega)⟩
      obtain ⟨ad, rfl, had, hcz⟩ := HR.out k z hz
      have hadG : ¬ G ad.block := HA.out ad rfl (by intro e; have := HNL.out; rw [e] at this; simp at this; omega)
      have hczo : wo.cell? (ad.add k) = some (.int .i64 z) := by
        rw [hkk.cell (by rw [addr_block]; exact had) (by rw [addr_block]; exact hadG)]
        exact hcz
      obtain ⟨⟨a, b⟩, hx⟩ : ∃ x, d.waits[k]? = some x := ⟨_, List.getElem?_eq_getElem (by have := HM.out; omega)⟩
      obtain ⟨gw, cw', u, hvw, _, hgwl, _, hca, hcu, hou, hGu⟩ := hbk.waits.at_ hx
      obtain ⟨haf, hb64⟩ := hbk.wsec (a, b) (List.mem_of_getElem? hx)
      have hfl : (torn d.fast (d.waits.take k) l).length = n := by rw [torn_length]; exact HN.out
      obtain ⟨s0, hs0⟩ : ∃ s, (torn d.fast (d.waits.take k) l)[a]? = some s := ⟨_, List.getElem?_eq_getElem haf⟩
      obtain ⟨gf, cf', u0, hvf, _, hgfl, _, hcf0, hou0, hGu0⟩ := hbk.fast.at_ hs0
      have hs64 := hbk.sec s0 (List.mem_of_getElem? hs0)
      injection hvw with e1 e2 e3
      subst e1
      injection hvf with e4 e5 e6
      subst e4
      obtain ⟨Au, nu, cu, rfl, hnu, hcu64, _⟩ := hou.shape'
      obtain ⟨A1, n1, c1', rfl, hn1, hc164, _⟩ := hou0.shape'
      simp only at hca hcu haf hb64 hnu hou hGu
      obtain rfl : nu = 64 := by rw [← hnu]; exact hb64
      obtain rfl : n1 = 64 := by rw [← hn1]; exact hs64
      have han : a < n := by rw [← hfl]; exact haf
      have hani : (a : Int) < (n : Int) := by omega
      have ha0 : (0 : Int) ≤ (a : Int) := by omega
      have hkm : (k : Int) < (m : Int) := by omega
      have hkn1 : (k : Int) < (nl : Int) := by omega
      have hk0 : (0 : Int) ≤ (k : Int) := by omega
      obtain ⟨cl, hcl⟩ : ∃ cl, clamp z = cl := ⟨_, rfl⟩
      have hcl64 : cl ≤ 64 := by rw [← hcl]; exact clamp_le z
      have hwi := within_any z 0 64 wo (by decide)
      have hcw2 : max 0 (min z 64) = ((clamp z : Nat) : Int) := by unfold clamp; omega
      rw [hcw2, hcl] at hwi
      have htl : (b.take cl).length = cl := by rw [List.length_take]; omega
      have hcp := copy_any Au cu (b.take cl) wo (by omega) (hou.bs.take cl)
      rw [htl] at hcp
      have hcli : (cl : Int) ≤ 64 := by omega
      have hclc : cl ≤ cu := by omega
      obtain ⟨g1, rfl⟩ : ∃ g1, A1 = some ⟨g1, 0, none⟩ := by
        rcases hou0.2 with ⟨e, _⟩ | ⟨g, cap, cur, e, _⟩
        · injection e with _ e; exact absurd e (by decide)
        · injection e with e; exact ⟨g, e⟩
      have ff : wo.frozen? ⟨gf, a, none⟩ = false := by
        obtain ⟨vs, ho, _⟩ := hbk.fast
        rcases ho.2 with ⟨e, _⟩ | ⟨g', cap, cur, e, _, hb, _⟩
        · injection e with e; cases e
        · injection e with e; injection e with e; injection e with e; subst e; exact block_free hb
      have hclc1 : cl ≤ c1' := by omega
      have HCC := Lib.hid (show _ ∧ _ ∧ _ ∧ _ ∧ _ ∧ _ from ⟨c0', c1, hca, hcu, hcf0, ff⟩)
      have HOU0 := Lib.hid hou0
      have HWI := Lib.hid hwi
      have HCP := Lib.hid hcp
      have HCL := Lib.hid hcl
      have HZ := Lib.hid hz
      have HBK := Lib.hid hbk
      have HKK := Lib.hid hkk
      have HX := Lib.hid hx
      have HS0 := Lib.hid hs0
      have HS64 := Lib.hid hs64
      have HB64 := Lib.hid hb64
      have HTL := Lib.hid htl
      have HFL := Lib.hid hfl
      have HAF := Lib.hid haf
      clear hwi hcw2 hcp hcl hz hbk hkk hx hs0 hs64 hb64 htl hfl haf hou hGu hou0 hGu0 e2 e3 e5 e6 hnu hn1 hcz hadG
      go_wp2_with fail
      refine HWI.out.mono ?_
      rintro e w' ⟨rfl, rfl⟩
      clear HWI
      go_wp2_with fail
      refine HCP.out.mono ?_
      rintro e w2 ⟨v2, rfl, ho2, hb2⟩
      clear HCP
      have HO2 := Lib.hid ho2
      have HB2 := Lib.hid hb2
      have hcells : ∀ w' : World, Below wo.heap.size wo w' → w'.cell? ⟨p, 0, none⟩ = some (.slice (some ⟨gf, 0, none⟩) n cf) ∧ w'.cell? ⟨p, 1, none⟩ = some (.slice (some ⟨gw, 0, none⟩) m cw) ∧ w'.cell? ⟨gw, k * 2, none⟩ = some (.int .i64 (a : Int)) ∧ w'.cell? ⟨gf, a, none⟩ = some (.slice (some ⟨g1, 0, none⟩) 64 c1') := fun w' hb => by
        obtain ⟨q0, q1, q2, q3, q4, _⟩ := HCC.out
        exact ⟨(hb.cell (p := ⟨p, 0, none⟩) (cell_lt' q0)).trans q0, (hb.cell (p := ⟨p, 1, none⟩) (cell_lt' q1)).trans q1, (hb.cell (p := ⟨gw, k * 2, none⟩) (cell_lt' q2)).trans q2, (hb.cell (p := ⟨gf, a, none⟩) (cell_lt' q4)).trans q4⟩
      have HCELL := Lib.hid hcells
      obtain ⟨A2, c2, rfl, _⟩ := own_shape ho2
      clear ho2 hb2 hcells c0' c1 hca hcu hcf0 ff hczo
      go_wp2_with fail
      refine wp_region_takeS [0, 1, 2, 3, 4, 5, 6, 7, 8, 9, 10, 11, 12, 13, 14, 15, 16] [17, 18] 19 (fun w' => w'.cell? ⟨p, 0, none⟩ = some (.slice (some ⟨gf, 0, none⟩) n cf) ∧ w'.cell? ⟨p, 1, none⟩ = some (.slice (some ⟨gw, 0, none⟩) m cw) ∧ w'.cell? ⟨gw, k * 2, none⟩ = some (.int .i64 (a : Int)) ∧ w'.cell? ⟨gf, a, none⟩ = some (.slice (some ⟨g1, 0, none⟩) 64 c1')) (by kernel_rfl) (by kernel_rfl) (by rintro _ ⟨_, _⟩ ⟨_, _⟩ _ rfl h; exact h) (HCELL.out _ HB2.out.drew) ?_
      simp only [pick, List.getElem?_cons_succ, List.getElem?_cons_zero]
      iterate 17 (refine wpHeadI_step (v := ?_) (Or.inl ⟨by rfl, ?_⟩) ?_; rotate_left; · intro w' hSw; obtain ⟨s1, s2, s3, s4⟩ := hSw; go_simp; (try with_reducible rfl))
      refine wpHeadI_nil ?_
      simp only [Act.put, List.setIfInBounds_toArray, List.set_cons_zero, List.set_cons_succ]
      refine wpTailI_op (by decide) rfl fun K hK => ?_
      refine wp_append_bs _ (.tmp 38) (.tmp 54) 29 rfl wo.heap.size 5 i0 (.int .u8 0) Tryd.underlying29 hi0 hz0 hz1 hz2 rfl (.slice A2 cl c2) (bvs (b.take cl)) rfl (by rw [bvs_length, HTL.out]; exact HO2.out.drew) _ _ _ (s0.drop cl) ?_ rfl ?_ ?_ ?_ ?_
      · rw [List.length_drop, HS64.out]
      · have h := ((HOU0.out.bs.below HB2.out).drop (k := cl) (cap := c1') (by rw [HS64.out]; exact hc164))
        have h' := h.drew
        simpa [Addr.add_lit] using h'
      · rw [bvs_length, HTL.out, List.length_drop, HS64.out]; omega
      · exact HB2.out.size
      · intro v3 w3 ho3 hg3 _
        have hb3 : Below wo.heap.size wo w3 := HB2.out.drew.grown hg3 HB2.out.size (fun g e => (HO2.out.lt g e).1)
        have hl3 : (bvs (b.take cl)).length + (s0.drop cl).length = 64 := by rw [bvs_length, HTL.out, List.length_drop, HS64.out]; omega
        rw [hl3, ← bvs_append] at ho3
        obtain ⟨A3, c3, rfl, _⟩ := own_shape ho3
        obtain ⟨nb, hnb⟩ : ∃ nb, b.take cl ++ s0.drop cl = nb := ⟨_, rfl⟩
        rw [hnb] at ho3
        have hnb64 : nb.length = 64 := by rw [← hnb, List.length_append, HTL.out, List.length_drop, HS64.out]; omega
        have ho3' : Own8 w3 wo.heap.size (.slice A3 64 c3) nb := by unfold Own8; rw [hnb64]; exact ho3
        have hS3 := HCELL.out w3 hb3
        have HB3 := Lib.hid hb3
        have HO3 := Lib.hid ho3'
        have HNB := Lib.hid hnb
        have HNB64 := Lib.hid hnb64
        refine hK.out _ _ hS3 ?_
        clear hK K ho3 ho3' hg3 hb3 hl3 hnb hnb64
        try simp only [Act.put, List.setIfInBounds_toArray, List.set_cons_zero, List.set_cons_succ]
        refine wpTailI_op (by decide) rfl fun K hK => ?_
        go_simp
        refine hK.out _ _ hS3 ?_
        clear hK K hS3
        try simp only [Act.put, List.setIfInBounds_toArray, List.set_cons_zero, List.set_cons_succ]
        refine wpTailI_nil ?_
        go_wp2_with fail
        all_goals
          refine wp_region_headS 14 14 (fun w' => w'.cell? ⟨p, 0, none⟩ = some (.slice (some ⟨gf, 0, none⟩) n cf) ∧ w'.cell? ⟨p, 1, none⟩ = some (.slice (some ⟨gw, 0, none⟩) m cw) ∧ w'.cell? ⟨gw, k * 2, none⟩ = some (.int .i64 (a : Int)) ∧ w'.cell? ⟨gf, a, none⟩ = some (.slice (some ⟨g1, 0, none⟩) 64 c1')) (by kernel_rfl) (by kernel_rfl) (by rintro _ ⟨_, _⟩ ⟨_, _⟩ _ rfl h; exact h) (HCELL.out _ HB3.out.drew) ?_
          iterate 14 (refine wpHeadS_step (v := ?_) (Or.inl ⟨by rfl, ?_⟩) ?_; rotate_left; · intro w' hSw; obtain ⟨s1, s2, s3, s4⟩ := hSw; go_simp; (try with_reducible rfl))
          refine wpHeadS_nil (wpTailS_end (by decide) ?_)
          simp only [Act.put, List.setIfInBounds_toArray, List.set_cons_zero, List.set_cons_succ]
          have h4 := (HCELL.out _ HB3.out).2.2.2
          have hff : w3.frozen? ⟨gf, a, none⟩ = false := by rw [HB3.out.frozen (p := ⟨gf, a, none⟩) hgfl]; exact HCC.out.2.2.2.2.2
          go_wp2_with fail
          go_roundw
          case rel =>
            have hbk3 : RDiskB w3.drew (fun g => G g ∨ w.heap.size ≤ g) p (.slice (some ⟨gf, 0, none⟩) n cf) (.slice (some ⟨gw, 0, none⟩) m cw) ar lf { d with fast := torn d.fast (d.waits.take k) l } c :=
              HBK.out.kept0 (Kept.of_below (F := fun _ => False) HB3.out).drew
            have hwo := HKK.out.size
            have hnx := hbk3.setFast (g := gf) (cf := cf) (i := a) (b := nb) (u := .slice A3 64 c3) (by rw [HFL.out]) HAF.out (own_base HO3.out.drew (Nat.zero_le _)) (fun g hg => .inr (by have := (HO3.out.lt g hg).1; omega)) HNB64.out
            have hk0' : (d.waits.take k).length = k := by rw [List.length_take]; have := HM.out; omega
            have hsn : torn d.fast (d.waits.take (k + 1)) l = (torn d.fast (d.waits.take k) l).set a nb := by
              have e : d.waits.take (k + 1) = d.waits.take k ++ [(a, b)] := by rw [List.take_add_one, HX.out]; rfl
              rw [e, torn_snoc _ _ _ _ z (by rw [hk0']; exact HZ.out), HCL.out]
              unfold tearAt StampMath.tear
              rw [← HNB.out, List.getD_eq_getElem?_getD, HS0.out]
              rfl
            refine ⟨k + 1, by have := HM.out; omega, by have := HNL.out; omega, by go_num, by rw [hsn]; exact hnx, ?_⟩
            exact ((HKK.out.then_below HB3.out).drew).setCell (p := ⟨gf, a, none⟩) (.inl (HGF.out gf rfl)) _
          case measure => simp [intOf]; omega
    · have hts : torn d.fast (d.waits.take k) l = torn d.fast d.waits l := by
        by_cases h1 : k < m
        · exact torn_take _ _ _ _ (by have := HNL.out; omega)
        · rw [List.take_of_length_le (by have := HM.out; omega)]
      rw [hts] at hbk
      have hx : ¬ k < m ∨ (k < m ∧ ¬ k < nl) := by omega
      obtain ⟨r1, _⟩ := hbk.setP 1 (.slice none 0 0)
      have hb1 := set_block hbk.blk 1 (.slice none 0 0)
      have HBK := Lib.hid hbk
      have HR1 := Lib.hid r1
      have HB1 := Lib.hid hb1
      have HKK := Lib.hid hkk
      have f1 := hbk.cells.2.2.2.2.2 1
      have c1' := (block_cell hb1 : (wo.setCell ⟨p, 1, none⟩ (.slice none 0 0)).cell? ⟨p, 2, none⟩ = some (.bool ar))
      have c2' := (block_cell hb1 : (wo.setCell ⟨p, 1, none⟩ (.slice none 0 0)).cell? ⟨p, 4, none⟩ = some (.bool d.dead))
      have f2 : (wo.setCell ⟨p, 1, none⟩ (.slice none 0 0)).frozen? ⟨p, 2, none⟩ = false := block_free hb1
      have f4 : (wo.setCell ⟨p, 1, none⟩ (.slice none 0 0)).frozen? ⟨p, 4, none⟩ = false := block_free hb1
      have e2 := hbk.cells.2.2.1
      have e4 := hbk.cells.2.2.2.2.1
      have g2 := hbk.cells.2.2.2.2.2 2
      have g4 := hbk.cells.2.2.2.2.2 4
      simp only at e4
      clear hgo hbk hkk hts r1 hb1
      rcases hx with hx | ⟨hx, hy⟩
      all_goals
        go_wp2_with fail
        go_end0
        have hc := HBK.out.cnt
        have hk2 : ∀ (wx : World) (i : Nat) (u : Value), Kept (fun g => g = p) wx (wx.setCell ⟨p, i, none⟩ u) := fun wx i u => (Kept.refl (fun g => g = p) wx).setCell (p := ⟨p, i, none⟩) (.inl rfl) u
        have hb2 := set_block HB1.out 2 (.bool false)
        have hb4 := set_block hb2 4 (.bool false)
        have r2 := HR1.out.other (hk2 _ 2 (.bool false)) (NoT.of HB1.out (by decide)) (NoT.of HB1.out (by decide))
        have r4 := r2.other (hk2 _ 4 (.bool false)) (NoT.of hb2 (by decide)) (NoT.of hb2 (by decide))
        refine ⟨rfl, ⟨.inl hp, .slice Af n cf, .slice none 0 0, false, lf, hb4, r4, RWaits.nil _ _, HBK.out.pos, HBK.out.max, HBK.out.sec, fun x hx => by simp [crash] at hx, by simp [crash], ⟨HBK.out.arm.1, fun _ => rfl, fun _ => .inl ⟨rfl, rfl⟩⟩, hc⟩, ?_⟩
        exact ((HKK.out.setCell (p := ⟨p, 1, none⟩) (.inl hp) _).setCell (p := ⟨p, 2, none⟩) (.inl hp) _).setCell (p := ⟨p, 4, none⟩) (.inl hp) _
end Go.Proofs.YtckihiiimomgfaaDoor
