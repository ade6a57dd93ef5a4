/- The walk of the statement which record any parts are: StampJoins. Printed by gen_stampjoins.py. -/
import Derived.Test.YtpejfngkdkkfnaaDoorStampLaws
import Derived.Test.YtpejfngkdkkfnaaDoorSplit
import Derived.Test.YtpejfngkdkkfnaaDoorJoin2
import Derived.Test.YtpejfngkdkkfnaaDoorRefJoin
import Derived.Test.YtpejfngkdkkfnaaDoorOpenP8
namespace Go.Proofs.YtpejfngkdkkfnaaDoor
open Go.RowKit
theorem info_partR : (Tryd.prog.info? 37).map (fun i => (i.zero, i.size, i.bytes)) = some (some (.agg #[.int .i64 0, .int .i64 0, .int .i64 0, .int .i64 0, .slice none 0 0]), 5, 56) := by kernel_rfl
section
variable {P : Program}
/-- an aggregate's load in a region that draws, at any address -/
theorem yieldsIf_load_at {ops : Array Oper} {S : World → Prop} {op : Oper} {a : Act} (hw : Region.wanted op (yielded ops a.tmps) = true) (ty : TypeId) (x : Operand) (ho : op.op = .load ty x)
    (p : Addr) (hx : a.eval x = .pointer (some p)) (cs : List Value) (d : TypeDesc) (hS : ∀ w, S w → ∀ j v, cs[j]? = some v → w.cell? (p.add j) = some v)
    (hu : P.underlying ty = some d) (hd : d.isRow = true) (hi : (P.info? ty).map (·.size) = some cs.length) : YieldsIf P ops S op (.agg cs.toArray) a :=
  .inl ⟨hw, fun w hw' => by
    have hl : (loadCells p cs.length).run P w = .ok cs.toArray w := run_loadCells_list (P := P) w p cs (hS w hw')
    have hv : (loadVar ty p).run P w = .ok (.agg cs.toArray) w := by
      cases hq : P.info? ty with
      | none => simp [hq] at hi
      | some i =>
        have hs : i.size = cs.length := by simpa [hq] using hi
        have hagg : (isAgg ty).run P w = .ok true w := by
          unfold isAgg
          rw [Sem.run_bind, run_underlying hu w]
          cases d <;> simp_all
        simp [loadVar, Sem.run_bind, hagg, sizeOf, typeInfo, hq, hs, hl]
    unfold execOp
    simp only [ho, hx, Instr.loadAt, Instr.sureAddr, Sem.run_bind, Sem.run_pure, Result.andThen_ok, hv]⟩
/-- a slice of one element is built -/
theorem wp_buildOne {o : Oper} {a : Act} {w : World} {K : Act → World → Prop} {Q : Exit → Act → World → Prop} (t e : TypeId) (x : Operand) (ho : o.op = .buildSlice t 1 #[(0, x)]) (ie : TypeInfo) (z : Value) (cs : List Value)
    (hu : P.underlying t = some (.slice e)) (hie : P.info? e = some ie) (hz : ie.zero = some z) (hs : ie.size = cs.length) (hzs : z.cells.size = cs.length) (hpos : 0 < cs.length) (hsm : cs.length ≤ 1000) (hx : (a.eval x).cells = cs.toArray)
    (h : K (a.put o.dst (.slice (some ⟨w.heap.size, 0, none⟩) 1 1)) (w.alloc (.cells cs.toArray e))) : o.wp P a w K Q := by
  unfold Oper.wp execOp
  simp only [ho, List.map_toArray, List.map_cons, List.map_nil, Sem.run_bind, run_buildSlice_one w t e ie z cs hu hie hz hs hzs hpos hsm _ hx, Result.andThen_ok]
  exact h
end
/-- the part of a drawn part: its bytes cut to 50 -/
def cutP (d : P8) : StampMath.Part := ⟨d.epoch, d.seq, d.index, d.total, d.data.take 50⟩
theorem PRow.own {w : World} {T : TypeId} {G : Nat → Prop} {v : Value} {ps : List StampMath.Part} (h : PRow w T G v ps) : ∀ g, v.ownBlock = some g → G g := h.choose_spec.2.1
def SjRel (w : World) (L : List StampMath.Part) (va vb i : Value) (wr : World) : Prop :=
  ∃ (k : Nat) (Ga Gb : Nat → Prop), k ≤ L.length ∧ i = .int .i64 (k : Int) ∧ PRow wr 38 Ga va (L.take k) ∧ PRow wr 37 Gb vb (L.take k) ∧ (∀ x, Ga x → w.heap.size ≤ x ∧ x < wr.heap.size ∧ ¬ Gb x) ∧ (∀ x, Gb x → w.heap.size ≤ x ∧ x < wr.heap.size) ∧ Below w.heap.size w wr
set_option maxRecDepth 100000 in
set_option maxHeartbeats 1000000 in
theorem stampJoins_walk (A : Option Addr) (n c : Nat) (ds : List P8) (w : World) (hn : ds.length = n) (hm : c ≤ maxLen) (hr : P8s w A ds) (ht : Halves w) :
    Calls Tryd.prog 11 #[.slice A n c] w fun e w' => e = .returned (.bool true) ∧ Below w.heap.size w w' := by
  obtain ⟨L, hL⟩ : ∃ L, (ds.take 8).map cutP = L := ⟨_, rfl⟩
  have hLl : L.length = min n 8 := by rw [← hL, List.length_map, List.length_take, hn, Nat.min_comm]
  obtain ⟨m, hm0⟩ : ∃ m, min n 8 = m := ⟨_, rfl⟩
  rw [hm0] at hLl
  have hm8 : m ≤ 8 ∧ m ≤ n := by omega
  obtain ⟨hm8, hmn⟩ := hm8
  have hmx : ¬ m < n → m = n := by omega
  have hmy : m < n → m = 8 := by omega
  have hLk : ∀ (k : Nat) d, k < 8 → ds[k]? = some d → L[k]? = some (cutP d) := fun k d hk hd => by
    rw [← hL, List.getElem?_map, List.getElem?_take_of_lt hk, hd]; rfl
  have hLd : ∀ p ∈ L, p.data.length ≤ 65536 ∧ -9223372036854775808 ≤ p.seq ∧ p.seq ≤ 9223372036854775807 := fun p hp => by
    rw [← hL] at hp
    obtain ⟨d, hd, rfl⟩ := List.mem_map.1 hp
    obtain ⟨j, hj⟩ := List.getElem?_of_mem hd
    have hj' : ds[j]? = some d := by
      have h8 : j < 8 := by have := (List.getElem?_eq_some_iff.1 hj).1; simp at this; omega
      rwa [List.getElem?_take_of_lt h8] at hj
    obtain ⟨_, _, _, _, _, hp8⟩ := hr j d hj'
    exact ⟨by show (d.data.take 50).length ≤ 65536; rw [List.length_take]; omega, hp8.hseq.1, hp8.hseq.2⟩
  obtain ⟨ia, hia0, hia1, hia2, hia3⟩ := info_parts info_part
  obtain ⟨ib, hib0, hib1, hib2, hib3⟩ := info_parts info_partR
  have hus := Tryd.underlying37
  have HR := Lib.hid hr
  have HT := Lib.hid ht
  have HN := Lib.hid hn
  have HL := Lib.hid hLl
  have HLK := Lib.hid hLk
  have HLD := Lib.hid hLd
  have HM := Lib.hid hm
  have HMX := Lib.hid hmx
  have HMY := Lib.hid hmy
  clear hr ht hn hLl hLk hLd hm hL hm0 hmx hmy
  go_enter Tryd.func11, Tryd.ntmps11
  go_wp2_with fail
  go_loopw [3, 4, 5] (fun va vb i wr => SjRel w L va vb i wr) (fun _ _ i _ => m - (intOf i).toNat)
  case atStart => exact ⟨0, fun _ => False, fun _ => False, Nat.zero_le _, rfl, PRow.nil _ _ _, PRow.nil _ _ _, fun x h => h.elim, fun x h => h.elim, Below.refl _ _⟩
  case round =>
    obtain ⟨k, Ga, Gb, hk, rfl, hra, hrb, hga, hgb, hb⟩ := hrel
    obtain ⟨wo, rfl⟩ : ∃ wo : World, wo = wr := ⟨_, rfl⟩
    rw [HL.out] at hk
    obtain ⟨A3, c3, rfl, hc3⟩ := hra.shape
    obtain ⟨A4, c4, rfl, hc4⟩ := hrb.shape
    have hlk : (L.take k).length = k := by rw [List.length_take]; have := HL.out; omega
    rw [hlk] at hra hrb hc3 hc4 ⊢
    have HRA := Lib.hid hra
    have HRB := Lib.hid hrb
    have HGA := Lib.hid hga
    have HGB := Lib.hid hgb
    have HB := Lib.hid hb
    have hsz := hb.size
    clear hra hrb hga hgb hb
    by_cases hlt : k < m
    · have hkn : k < n := by omega
      have hk8 : k < 8 := by omega
      obtain ⟨d, hx⟩ : ∃ d, ds[k]? = some d := ⟨_, List.getElem?_eq_getElem (by have := HN.out; omega)⟩
      have hLx := HLK.out k d hk8 hx
      obtain ⟨ad, Ad, cd, rfl, hadl, hp8⟩ := HR.out k d hx
      obtain ⟨pe, ps, pi, pt, pd⟩ := d
      obtain ⟨nd, hnd⟩ : ∃ nd, pd.length = nd := ⟨_, rfl⟩
      have hib : (Tryd.prog.info? 37).map (·.size) = some (partCells ⟨pe, ps, pi, pt, pd⟩ (.slice Ad nd cd)).length := by kernel_rfl
      have hsk : ∀ w', Below w.heap.size w w' → ∀ j v, (partCells ⟨pe, ps, pi, pt, pd⟩ (.slice Ad nd cd))[j]? = some v → w'.cell? ((ad.add (k * 5)).add j) = some v := fun w' hb j v hj => by
        have hc := fun q (hq : q.block = ad.block) => hb.cell (p := q) (by rw [hq]; exact hadl)
        have hh := hp8
        obtain ⟨h0, h1, h2, h3, h4, _⟩ := hh
        simp only [hnd] at h0 h1 h2 h3 h4
        match j, hj with
        | 0, hj => simp at hj; subst hj; rw [hc _ (by rw [addr_block, addr_block]), addr_add]; exact h0
        | 1, hj => simp at hj; subst hj; rw [hc _ (by rw [addr_block, addr_block]), addr_add]; exact h1
        | 2, hj => simp at hj; subst hj; rw [hc _ (by rw [addr_block, addr_block]), addr_add]; exact h2
        | 3, hj => simp at hj; subst hj; rw [hc _ (by rw [addr_block, addr_block]), addr_add]; exact h3
        | 4, hj => simp at hj; subst hj; rw [hc _ (by rw [addr_block, addr_block]), addr_add]; exact h4
        | j + 5, hj => simp at hj
      have hmine : ∀ w', Below w.heap.size w w' → _ := fun w' hb => mine_any ⟨pe, ps, pi, pt, pd⟩ Ad cd w' hp8.hdata.1 hp8.hdata.2.1 (hp8.hdata.2.2.below hb)
      simp only [hnd] at hmine
      obtain ⟨pd50, hpd50⟩ : ∃ pd50, pd.take 50 = pd50 := ⟨_, rfl⟩
      obtain ⟨n50, hn50⟩ : ∃ n50, pd50.length = n50 := ⟨_, rfl⟩
      rw [hpd50] at hmine
      have hLx' : L[k]? = some ⟨pe, ps, pi, pt, pd50⟩ := by rw [hLx]; unfold cutP; simp only [hpd50]
      rw [hn50] at hmine
      have HSK := Lib.hid hsk
      have HMINE := Lib.hid hmine
      have HX := Lib.hid hLx'
      have HN50 := Lib.hid hn50
      clear hsk hmine hLx hLx' hx hp8 hnd hpd50 hn50
      go_wp2_with fail
      have HBD := Lib.hid (show Below wo.heap.size wo wo.drew from (Below.refl _ _).drew)
      refine wp_region_mix [(true, 0), (true, 1), (true, 2), (true, 3), (true, 4), (true, 8), (true, 9), (true, 10), (true, 11), (true, 12), (false, 5), (false, 6), (false, 7), (false, 13), (false, 14), (false, 15), (false, 16), (true, 17), (true, 18)] 19 (fun w' => ∀ j v, (partCells ⟨pe, ps, pi, pt, pd⟩ (.slice Ad nd cd))[j]? = some v → w'.cell? ((ad.add (k * 5)).add j) = some v) (by kernel_rfl) (by kernel_rfl) (by rintro _ ⟨_, _⟩ ⟨_, _⟩ _ rfl h; exact h) (HSK.out _ HB.out.drew) ?_
      simp only [pickM, List.getElem?_cons_succ, List.getElem?_cons_zero]
      (refine wpMix_take (v := ?_) ?_ ?_; rotate_left; · (refine Or.inl ⟨by rfl, ?_⟩; intro w' hSw; go_simp; (try with_reducible rfl)))
      (try simp only [Act.put, List.setIfInBounds_toArray, List.set_cons_zero, List.set_cons_succ])
      (refine wpMix_take (v := ?_) ?_ ?_; rotate_left; · (refine Or.inl ⟨by rfl, ?_⟩; intro w' hSw; go_simp; (try with_reducible rfl)))
      (try simp only [Act.put, List.setIfInBounds_toArray, List.set_cons_zero, List.set_cons_succ])
      (refine wpMix_take (v := ?_) ?_ ?_; rotate_left; · (refine Or.inl ⟨by rfl, ?_⟩; intro w' hSw; go_simp; (try with_reducible rfl)))
      (try simp only [Act.put, List.setIfInBounds_toArray, List.set_cons_zero, List.set_cons_succ])
      (refine wpMix_take (v := ?_) ?_ ?_; rotate_left; · (refine Or.inl ⟨by rfl, ?_⟩; intro w' hSw; go_simp; (try with_reducible rfl)))
      (try simp only [Act.put, List.setIfInBounds_toArray, List.set_cons_zero, List.set_cons_succ])
      refine wpMix_take (yieldsIf_load_at (by rfl) 37 (.tmp 23) rfl (ad.add (k * 5)) (by rfl) (partCells ⟨pe, ps, pi, pt, pd⟩ (.slice Ad nd cd)) _ (fun w' hS => hS) hus rfl hib) ?_
      (try simp only [Act.put, List.setIfInBounds_toArray, List.set_cons_zero, List.set_cons_succ])
      (refine wpMix_take (v := ?_) ?_ ?_; rotate_left; · (refine Or.inl ⟨by rfl, ?_⟩; intro w' hSw; go_simp; (try with_reducible rfl)))
      (try simp only [Act.put, List.setIfInBounds_toArray, List.set_cons_zero, List.set_cons_succ])
      (refine wpMix_take (v := ?_) ?_ ?_; rotate_left; · (refine Or.inl ⟨by rfl, ?_⟩; intro w' hSw; go_simp; (try with_reducible rfl)))
      (try simp only [Act.put, List.setIfInBounds_toArray, List.set_cons_zero, List.set_cons_succ])
      (refine wpMix_take (v := ?_) ?_ ?_; rotate_left; · (refine Or.inl ⟨by rfl, ?_⟩; intro w' hSw; go_simp; (try with_reducible rfl)))
      (try simp only [Act.put, List.setIfInBounds_toArray, List.set_cons_zero, List.set_cons_succ])
      (refine wpMix_take (v := ?_) ?_ ?_; rotate_left; · (refine Or.inl ⟨by rfl, ?_⟩; intro w' hSw; go_simp; (try with_reducible rfl)))
      (try simp only [Act.put, List.setIfInBounds_toArray, List.set_cons_zero, List.set_cons_succ])
      refine wpMix_take (yieldsIf_load_at (by rfl) 37 (.tmp 31) rfl (ad.add (k * 5)) (by rfl) (partCells ⟨pe, ps, pi, pt, pd⟩ (.slice Ad nd cd)) _ (fun w' hS => hS) hus rfl hib) ?_
      (try simp only [Act.put, List.setIfInBounds_toArray, List.set_cons_zero, List.set_cons_succ])
      refine wpMix_do rfl fun K hK => ?_
      go_simp
      refine (HMINE.out _ HB.out.drew).mono ?_
      rintro e wm1 ⟨v1, rfl, hom1, hbm1⟩
      have hmm1 : Below w.heap.size w wm1 := below_then HB.out.drew hbm1
      have hom1' : Own8 wm1 wo.heap.size v1 pd50 := by unfold Own8; rw [HN50.out]; exact hom1
      obtain ⟨B1, nn1, d1, rfl, hnn1, _, _⟩ := hom1'.shape'
      obtain rfl : n50 = nn1 := by have := HN50.out; omega
      refine hK.out _ _ (fun _ => HSK.out _ hmm1) ?_
      clear hK K
      (try simp only [Act.put, List.setIfInBounds_toArray, List.set_cons_zero, List.set_cons_succ])
      have hol1 : Own8 wm1 wo.heap.size (.slice B1 n50 d1) pd50 := hom1'
      have hbl1 : Below wo.heap.size wo wm1 := HBD.out.trans hbm1
      have hsl1 := hbl1.size
      refine wpMix_do rfl fun K hK => ?_
      refine wp_buildOne 56 38 (.tmp 25) rfl ia (.agg #[.int .i64 0, .int .i64 0, .int .i64 0, .int .i64 0, .slice none 0 0]) (partCells ⟨pe, ps, pi, pt, pd50⟩ (.slice B1 n50 d1)) Tryd.underlying56 hia0 hia1 hia2 rfl (by simp) (by simp) rfl ?_
      refine hK.out _ _ (fun _ => HSK.out _ (hmm1.alloc hmm1.size _)) ?_
      clear hK K
      (try simp only [Act.put, List.setIfInBounds_toArray, List.set_cons_zero, List.set_cons_succ])
      refine wpMix_do rfl fun K hK => ?_
      refine wp_pushP (.inl rfl) (.tmp 20) (.tmp 26) 56 rfl 38 ia (.agg #[.int .i64 0, .int .i64 0, .int .i64 0, .int .i64 0, .slice none 0 0]) Tryd.underlying56 hia0 hia1 hia2 hia3 rfl (by decide) (fun x => Ga x ∨ wo.heap.size ≤ x) (.slice A3 k c3) (.slice B1 n50 d1) (L.take k) ⟨pe, ps, pi, pt, pd50⟩ rfl ((HRA.out.below (HBD.out.trans hbm1)).mono fun x hx => .inl hx) rfl rfl (hol1.base (b := 0) (Nat.zero_le _)) (fun x hx => by have := (hol1.lt x hx).1; exact .inr (by omega)) (by rw [List.length_take]; omega) ?_
      intro va wa hpa hka hva
      have hBa : Below w.heap.size w wa := hmm1.trans (hka.below (B := w.heap.size) (fun x _ e => by have := (HGA.out x (HRA.out.own x e)).1; omega) hmm1.size)
      have hsa : wm1.heap.size ≤ wa.heap.size := hka.size
      have hpa2 : PRow wa 38 (fun x => (Ga x ∨ wo.heap.size ≤ x) ∧ x < wa.heap.size) va (L.take k ++ [⟨pe, ps, pi, pt, pd50⟩]) := hpa.lt.mono fun x hx => ⟨hx.1.elim id (fun h => .inr (by have : wo.drew.heap.size = wo.heap.size := rfl; omega)), hx.2⟩
      have hrb1 := (HRB.out.below (HBD.out.trans hbm1)).kept hka (fun x hx e => (HGA.out x (HRA.out.own x e)).2.2 hx)
      refine hK.out _ _ (fun _ => HSK.out _ hBa) ?_
      clear hK K
      (try simp only [Act.put, List.setIfInBounds_toArray, List.set_cons_zero, List.set_cons_succ])
      refine wpMix_do rfl fun K hK => ?_
      go_simp
      refine (HMINE.out _ hBa).mono ?_
      rintro e wm2 ⟨v2, rfl, hom2, hbm2⟩
      have hmm2 : Below w.heap.size w wm2 := below_then hBa hbm2
      have hom2' : Own8 wm2 wa.heap.size v2 pd50 := by unfold Own8; rw [HN50.out]; exact hom2
      obtain ⟨B2, nn2, d2, rfl, hnn2, _, _⟩ := hom2'.shape'
      obtain rfl : n50 = nn2 := by have := HN50.out; omega
      refine hK.out _ _ (fun _ => HSK.out _ hmm2) ?_
      clear hK K
      (try simp only [Act.put, List.setIfInBounds_toArray, List.set_cons_zero, List.set_cons_succ])
      refine wpMix_do rfl fun K hK => ?_
      go_simp
      refine (plain_any pe ps pi pt _ B2 n50 d2 rfl _).mono ?_
      rintro e wp2 ⟨rfl, hbp2⟩
      have hpp2 : Below w.heap.size w wp2 := below_then hmm2 hbp2
      refine hK.out _ _ (fun _ => HSK.out _ hpp2) ?_
      clear hK K
      (try simp only [Act.put, List.setIfInBounds_toArray, List.set_cons_zero, List.set_cons_succ])
      have hol2 : Own8 wp2 wa.heap.size (.slice B2 n50 d2) pd50 := (hom2'.below hbp2)
      have hbl2 : Below wa.heap.size wa wp2 := (below_then hbm2 hbp2)
      have hsl2 := hbl2.size
      refine wpMix_do rfl fun K hK => ?_
      refine wp_buildOne 55 37 (.tmp 34) rfl ib (.agg #[.int .i64 0, .int .i64 0, .int .i64 0, .int .i64 0, .slice none 0 0]) (partCells ⟨pe, ps, pi, pt, pd50⟩ (.slice B2 n50 d2)) Tryd.underlying55 hib0 hib1 hib2 rfl (by simp) (by simp) rfl ?_
      refine hK.out _ _ (fun _ => HSK.out _ (hpp2.alloc hpp2.size _)) ?_
      clear hK K
      (try simp only [Act.put, List.setIfInBounds_toArray, List.set_cons_zero, List.set_cons_succ])
      refine wpMix_do rfl fun K hK => ?_
      refine wp_pushP (.inl rfl) (.tmp 28) (.tmp 35) 55 rfl 37 ib (.agg #[.int .i64 0, .int .i64 0, .int .i64 0, .int .i64 0, .slice none 0 0]) Tryd.underlying55 hib0 hib1 hib2 hib3 rfl (by decide) (fun x => Gb x ∨ wa.heap.size ≤ x) (.slice A4 k c4) (.slice B2 n50 d2) (L.take k) ⟨pe, ps, pi, pt, pd50⟩ rfl ((hrb1.below (below_then hbm2 hbp2)).mono fun x hx => .inl hx) rfl rfl (hol2.base (b := 0) (Nat.zero_le _)) (fun x hx => by have := (hol2.lt x hx).1; exact .inr (by omega)) (by rw [List.length_take]; omega) ?_
      intro vb wb hpb hkb hvb
      have hBb : Below w.heap.size w wb := hpp2.trans (hkb.below (B := w.heap.size) (fun x _ e => by have := (HGB.out x (HRB.out.own x e)).1; omega) hpp2.size)
      have hsb : wp2.heap.size ≤ wb.heap.size := hkb.size
      have hpb2 : PRow wb 37 (fun x => (Gb x ∨ wa.heap.size ≤ x) ∧ x < wb.heap.size) vb (L.take k ++ [⟨pe, ps, pi, pt, pd50⟩]) := hpb.lt.mono fun x hx => ⟨hx.1.elim id (fun h => .inr (by omega)), hx.2⟩
      have hpa3 := (hpa2.below hbl2).kept hkb (fun x hx e => by
        have h1 := HRB.out.own x e
        have h2 := (HGB.out x h1).2
        rcases hx.1 with h | h
        · exact (HGA.out x h).2.2 h1
        · omega)
      refine hK.out _ _ (fun _ => HSK.out _ hBb) ?_
      clear hK K
      (try simp only [Act.put, List.setIfInBounds_toArray, List.set_cons_zero, List.set_cons_succ])
      (refine wpMix_take (v := ?_) ?_ ?_; rotate_left; · (refine Or.inl ⟨by rfl, ?_⟩; intro w' hSw; go_simp; (try with_reducible rfl)))
      (try simp only [Act.put, List.setIfInBounds_toArray, List.set_cons_zero, List.set_cons_succ])
      (refine wpMix_take (v := ?_) ?_ ?_; rotate_left; · (refine Or.inl ⟨by rfl, ?_⟩; intro w' hSw; go_simp; (try with_reducible rfl)))
      (try simp only [Act.put, List.setIfInBounds_toArray, List.set_cons_zero, List.set_cons_succ])
      refine wpMix_nil ?_
      have HPA2 := Lib.hid hpa3
      have HPB2 := Lib.hid hpb2
      have HWB := Lib.hid hBb
      have HSAB := Lib.hid (show wo.heap.size ≤ wa.heap.size ∧ wa.heap.size ≤ wb.heap.size from ⟨by have : wo.drew.heap.size = wo.heap.size := rfl; omega, by omega⟩)
      obtain ⟨A7, c7, rfl, hc7⟩ := hpa3.shape
      obtain ⟨A8, c8, rfl, hc8⟩ := hpb2.shape
      clear hpa3 hpb2 hBb hBa hpa2 hrb1 hpa hka hva hpb hkb hvb hom1' hom1 hbm1 hmm1 hol1 hbl1 hom2 hom2' hbm2 hmm2 hbp2 hpp2 hol2 hbl2 HSK HMINE
      go_wp2_with fail
      go_roundw
      case rel =>
        have e : L.take (k + 1) = L.take k ++ [⟨pe, ps, pi, pt, pd50⟩] := by rw [List.take_add_one, HX.out]; rfl
        refine ⟨k + 1, fun x => (Ga x ∨ wo.heap.size ≤ x) ∧ x < wa.heap.size, fun x => (Gb x ∨ wa.heap.size ≤ x) ∧ x < wb.heap.size, by have := HL.out; omega, by go_num, ?_, ?_, ?_, ?_, HWB.out⟩
        · rw [e]; exact HPA2.out
        · rw [e]; exact HPB2.out.mono fun x hx => hx
        · intro x hx
          have := HSAB.out
          refine ⟨hx.1.elim (fun h => (HGA.out x h).1) (fun h => by omega), by omega, fun hy => ?_⟩
          rcases hy.1 with hy | hy
          · rcases hx.1 with h | h
            · exact (HGA.out x h).2.2 hy
            · have := (HGB.out x hy).2; omega
          · omega
        · intro x hx
          have := HSAB.out
          exact ⟨hx.1.elim (fun h => (HGB.out x h).1) (fun h => by omega), hx.2⟩
      case measure => simp [intOf]; omega
    · obtain rfl : k = m := by omega
      have hlL : L.take k = L := List.take_of_length_le (by have := HL.out; omega)
      rw [hlL] at HRA HRB
      have hja := join_any A3 k c3 L _ wo HL.out (by omega) HRA.out
      have HJA := Lib.hid hja
      have hjb : ∀ w', Below wo.heap.size wo w' → _ := fun w' hb => refJoin_any A4 k c4 L _ w' HL.out (by omega) (HRB.out.below hb) HLD.out
      have HJB := Lib.hid hjb
      clear hja hjb hlL
      have hle : k ≤ n := hmn
      by_cases hkn : k < n
      · have h8 := HMY.out hkn
        have hk8 : ¬ k < 8 := by omega
        clear h8
        go_wp2_with fail
        refine HJA.out.mono ?_
        rintro e w5 (⟨b5, v5, hj5, rfl, ho5, hb5⟩ | ⟨hj5, rfl, hb5⟩)
        · obtain ⟨A5, n5, c5, rfl, hn5, _, _⟩ := ho5.shape'
          have HO5 := Lib.hid ho5
          have HB5 := Lib.hid hb5
          have HN5 := Lib.hid hn5
          have HJ5 := Lib.hid hj5
          clear ho5 hb5 hn5 hj5
          go_wp2_with fail
          refine (HJB.out _ HB5.out).mono ?_
          rintro e w6 (⟨b6, v6, hj6, rfl, ho6, hb6⟩ | ⟨hj6, _⟩)
          · obtain rfl : b6 = b5 := by rw [HJ5.out] at hj6; exact (Option.some.inj hj6).symm
            obtain ⟨A6, n6, c6, rfl, hn6, _, _⟩ := ho6.shape'
            obtain rfl : n6 = n5 := by have := HN5.out; omega
            have hlen : b6.length ≤ 65536 := by
              obtain ⟨e', s', h1, h2, h3, h4⟩ := StampMath.join_some HJ5.out
              have := HL.out
              unfold StampMath.totalOf at h2
              omega
            have hsm := same_at A5 A6 c5 c6 n6 n6 b6 b6 w6 HN5.out HN5.out (by have := HN5.out; omega) (by have := HN5.out; omega) (HO5.out.bs.below hb6) ho6.bs
            rw [sameB_self] at hsm
            have HSM := Lib.hid hsm
            have HB6 := Lib.hid (below_then (below_then HB.out HB5.out) hb6)
            clear hj6 ho6 hb6 hsm hn6 hlen
            go_wp2_with fail
            refine HSM.out.mono ?_
            rintro e w7 ⟨rfl, hb7⟩
            have HB7 := Lib.hid (below_then HB6.out hb7)
            clear hb7
            go_wp2_with fail
            refine (stampLives_any w7 (HT.out.below HB7.out)).mono ?_
            rintro e w8 ⟨rfl, hb8⟩
            have HB8 := Lib.hid (below_then HB7.out hb8)
            clear hb8
            go_wp2_with fail
            go_ret
            exact ⟨rfl, HB8.out⟩
          · rw [HJ5.out] at hj6; cases hj6
        · have HB5 := Lib.hid hb5
          have HJ5 := Lib.hid hj5
          clear hb5 hj5
          go_wp2_with fail
          refine (HJB.out _ HB5.out).mono ?_
          rintro e w6 (⟨b6, v6, hj6, _⟩ | ⟨hj6, rfl, hb6⟩)
          · rw [HJ5.out] at hj6; cases hj6
          · have hsm := same_at none none 0 0 0 0 [] [] w6 rfl rfl (by omega) (by omega) (Bs.nil _ _) (Bs.nil _ _)
            rw [sameB_self] at hsm
            have HSM := Lib.hid hsm
            have HB6 := Lib.hid (below_then (below_then HB.out HB5.out) hb6)
            clear hj6 hb6 hsm
            go_wp2_with fail
            refine HSM.out.mono ?_
            rintro e w7 ⟨rfl, hb7⟩
            have HB7 := Lib.hid (below_then HB6.out hb7)
            clear hb7
            go_wp2_with fail
            refine (stampLives_any w7 (HT.out.below HB7.out)).mono ?_
            rintro e w8 ⟨rfl, hb8⟩
            have HB8 := Lib.hid (below_then HB7.out hb8)
            clear hb8
            go_wp2_with fail
            go_ret
            exact ⟨rfl, HB8.out⟩
      · have hk8 : k = n := HMX.out hkn
        clear hk8
        go_wp2_with fail
        refine HJA.out.mono ?_
        rintro e w5 (⟨b5, v5, hj5, rfl, ho5, hb5⟩ | ⟨hj5, rfl, hb5⟩)
        · obtain ⟨A5, n5, c5, rfl, hn5, _, _⟩ := ho5.shape'
          have HO5 := Lib.hid ho5
          have HB5 := Lib.hid hb5
          have HN5 := Lib.hid hn5
          have HJ5 := Lib.hid hj5
          clear ho5 hb5 hn5 hj5
          go_wp2_with fail
          refine (HJB.out _ HB5.out).mono ?_
          rintro e w6 (⟨b6, v6, hj6, rfl, ho6, hb6⟩ | ⟨hj6, _⟩)
          · obtain rfl : b6 = b5 := by rw [HJ5.out] at hj6; exact (Option.some.inj hj6).symm
            obtain ⟨A6, n6, c6, rfl, hn6, _, _⟩ := ho6.shape'
            obtain rfl : n6 = n5 := by have := HN5.out; omega
            have hlen : b6.length ≤ 65536 := by
              obtain ⟨e', s', h1, h2, h3, h4⟩ := StampMath.join_some HJ5.out
              have := HL.out
              unfold StampMath.totalOf at h2
              omega
            have hsm := same_at A5 A6 c5 c6 n6 n6 b6 b6 w6 HN5.out HN5.out (by have := HN5.out; omega) (by have := HN5.out; omega) (HO5.out.bs.below hb6) ho6.bs
            rw [sameB_self] at hsm
            have HSM := Lib.hid hsm
            have HB6 := Lib.hid (below_then (below_then HB.out HB5.out) hb6)
            clear hj6 ho6 hb6 hsm hn6 hlen
            go_wp2_with fail
            refine HSM.out.mono ?_
            rintro e w7 ⟨rfl, hb7⟩
            have HB7 := Lib.hid (below_then HB6.out hb7)
            clear hb7
            go_wp2_with fail
            refine (stampLives_any w7 (HT.out.below HB7.out)).mono ?_
            rintro e w8 ⟨rfl, hb8⟩
            have HB8 := Lib.hid (below_then HB7.out hb8)
            clear hb8
            go_wp2_with fail
            go_ret
            exact ⟨rfl, HB8.out⟩
          · rw [HJ5.out] at hj6; cases hj6
        · have HB5 := Lib.hid hb5
          have HJ5 := Lib.hid hj5
          clear hb5 hj5
          go_wp2_with fail
          refine (HJB.out _ HB5.out).mono ?_
          rintro e w6 (⟨b6, v6, hj6, _⟩ | ⟨hj6, rfl, hb6⟩)
          · rw [HJ5.out] at hj6; cases hj6
          · have hsm := same_at none none 0 0 0 0 [] [] w6 rfl rfl (by omega) (by omega) (Bs.nil _ _) (Bs.nil _ _)
            rw [sameB_self] at hsm
            have HSM := Lib.hid hsm
            have HB6 := Lib.hid (below_then (below_then HB.out HB5.out) hb6)
            clear hj6 hb6 hsm
            go_wp2_with fail
            refine HSM.out.mono ?_
            rintro e w7 ⟨rfl, hb7⟩
            have HB7 := Lib.hid (below_then HB6.out hb7)
            clear hb7
            go_wp2_with fail
            refine (stampLives_any w7 (HT.out.below HB7.out)).mono ?_
            rintro e w8 ⟨rfl, hb8⟩
            have HB8 := Lib.hid (below_then HB7.out hb8)
            clear hb8
            go_wp2_with fail
            go_ret
            exact ⟨rfl, HB8.out⟩
end Go.Proofs.YtpejfngkdkkfnaaDoor
