/- The contract of wal.put: parts are written, sector by sector, and flushed. -/
import Derived.Test.YtckihiiimomgfaaDoorWal3
import Derived.Test.YtckihiiimomgfaaDoorJoin2
import Derived.Test.YtckihiiimomgfaaDoorSplit
import Derived.Test.YtckihiiimomgfaaDoorGDisk
namespace Go.Proofs.YtckihiiimomgfaaDoor
open Go.RowKit DiskMath
theorem write_len (d : Dk) (i : Int) (b : Sector) : (write d i b).1.fast.length = d.fast.length ∧ (write d i b).1.waits.length ≤ d.waits.length + 1 := by
  unfold write
  split
  · split
    · exact ⟨congrArg List.length (step_fst d).1, by simp⟩
    · exact ⟨congrArg List.length (step_fst d).1, by rw [(step_fst d).2.1]; omega⟩
  · exact ⟨rfl, Nat.le_succ _⟩
/-- behind so many parts, all written -/
def PuRel (W : World) (F : Nat → Prop) (p : Nat) (d : Dk) (a : Nat) (L : List StampMath.Part) (i : Value) (wr : World) : Prop :=
  ∃ (k : Nat) (dk : Dk), k ≤ L.length ∧ i = .int .i64 (k : Int) ∧ WalMath.putParts d a 0 L = WalMath.putParts dk a k (L.drop k) ∧ DiskAt wr (fun x => F x ∨ W.heap.size ≤ x) p dk ∧ dk.fast.length = d.fast.length ∧ dk.waits.length ≤ d.waits.length + k ∧ Kept F W wr
def PutPost (F : Nat → Prop) (p : Nat) (r : Dk × Nat) (w : World) (e : Ending) (w' : World) : Prop := e = .returned (.int .i64 (r.2 : Nat)) ∧ DiskAt w' (fun x => F x ∨ w.heap.size ≤ x) p r.1 ∧ Kept F w w'
set_option maxRecDepth 100000 in
set_option maxHeartbeats 4000000 in
theorem walPut_any (w : World) (F G : Nat → Prop) (lp p a : Nat) (g : WalMath.Lg) (d : Dk) (A : Option Addr) (n c : Nat) (L : List StampMath.Part) (hl : LogB w lp p a g) (hd : DiskAt w F p d) (ht : Halves w) (hF : ¬ F lp) (hFh : ¬ F 0)
    (hn : L.length = n) (hn0 : n ≤ 65535) (hr : PRow w 130 G (.slice A n c) L) (hG : ∀ k, G k → ¬ F k) (hright : ∀ q ∈ L, StampMath.right q) (hto : g.at_ + n ≤ d.fast.length) (hd16 : d.fast.length ≤ 65536) (hw : d.waits.length + n < 100000) :
    Calls Tryd.prog 67 #[.pointer (some ⟨lp, 0, none⟩), .slice A n c] w (PutPost F p (WalMath.put d g.at_ L) w) := by
  have hsk : ∀ w' : World, Kept F w w' → w'.cell? ⟨lp, 0, none⟩ = some (.pointer (some ⟨p, 0, none⟩)) ∧ w'.cell? ⟨lp, 3, none⟩ = some (.int .i64 (g.at_ : Nat)) := fun w' hk => by
    obtain ⟨c0, _, _, c3, _⟩ := (hl.kept hk hF).cells
    exact ⟨c0, c3⟩
  have hhv : ∀ w' : World, Kept F w w' → Halves w' := fun w' hk => ⟨by have := ht.1; have := hk.size; omega, fun i hi => (hk.cell (by simp only; exact ht.1) (by simpa using hFh)).trans (ht.2 i hi)⟩
  obtain ⟨to_, at_, ep, nx, er⟩ := g
  simp only at *
  have HSK := Lib.hid hsk
  have HHV := Lib.hid hhv
  have HD := Lib.hid hd
  have HR := Lib.hid hr
  have HN := Lib.hid hn
  have HGF := Lib.hid hG
  have HRT := Lib.hid hright
  clear hl hd ht hr hn hG hright hsk hhv hF hFh
  have hus := Tryd.underlying130
  obtain ⟨Z, hZl, hzv⟩ := info_part_zero3
  have HZL := Lib.hid hZl
  clear hZl
  go_enter Tryd.func67, Tryd.ntmps67
  go_wp2_with fail
  go_loopw [12] (fun i wr => PuRel w F p d at_ L i wr) (fun i _ => n - (intOf i).toNat)
  case atStart => exact ⟨0, d, Nat.zero_le _, rfl, rfl, HD.out.mono (fun _ h => .inl h), rfl, Nat.le_refl _, Kept.refl _ _⟩
  case round =>
    obtain ⟨k, dk, hk, rfl, hput, hdk, hfl, hwl, hkp⟩ := hrel
    obtain ⟨wo, rfl⟩ : ∃ wo : World, wo = wr := ⟨_, rfl⟩
    rw [HN.out] at hk
    have HDK := Lib.hid hdk
    have HKP := Lib.hid hkp
    have HPUT := Lib.hid hput
    have hsz := hkp.size
    clear hdk hkp hput
    by_cases hlt : k < n
    · obtain ⟨q, hx⟩ : ∃ q, L[k]? = some q := ⟨_, List.getElem?_eq_getElem (by have := HN.out; omega)⟩
      obtain ⟨g, c', u, hv, _, hgl, hgg, hrg, hou, hug⟩ := (HR.out.kept HKP.out HGF.out).at_ hx
      injection hv with e4 e5 e6
      subst e4 e6
      have hqr := HRT.out q (List.mem_of_getElem? hx)
      obtain ⟨pe, ps, pi, pt, pd⟩ := q
      simp only at hou
      obtain ⟨Au, nu, cu, rfl, hnu, hcu, _⟩ := hou.shape'
      have hib : (Tryd.prog.info? 130).map (·.size) = some (partCells ⟨pe, ps, pi, pt, pd⟩ (.slice Au nu cu)).length := by kernel_rfl
      have hdrop : L.drop k = ⟨pe, ps, pi, pt, pd⟩ :: L.drop (k + 1) := by
        obtain ⟨h1, h2⟩ := List.getElem?_eq_some_iff.1 hx
        rw [List.drop_eq_getElem_cons h1, h2]
      have hpst : WalMath.putParts dk at_ k (L.drop k) = if (write dk (at_ + k : Nat) (StampMath.lay ⟨pe, ps, pi, pt, pd⟩)).2 = 0 then WalMath.putParts (write dk (at_ + k : Nat) (StampMath.lay ⟨pe, ps, pi, pt, pd⟩)).1 at_ (k + 1) (L.drop (k + 1)) else write dk (at_ + k : Nat) (StampMath.lay ⟨pe, ps, pi, pt, pd⟩) := by rw [hdrop]; rfl
      have HRG := Lib.hid hrg
      have HOU := Lib.hid hou
      have HQR := Lib.hid hqr
      have HPST := Lib.hid hpst
      have HNU := Lib.hid hnu
      have hlay : ∀ w2, Below wo.heap.size wo w2 → _ := fun w2 hb => stampLay_ok ⟨pe, ps, pi, pt, pd⟩ Au cu w2 hqr (hou.bs.below hb) (HHV.out _ (HKP.out.then_below hb))
      simp only at hlay
      rw [hnu] at hlay
      have HLAY := Lib.hid hlay
      clear hrg hou hqr hx hug e5 hdrop hpst hlay
      go_wp2_with (first
        | refine wpList_load_mid rfl 130 (.tmp 15) rfl g (k * 5) rfl (partCells ⟨pe, ps, pi, pt, pd⟩ (.slice Au nu cu)) _ HRG.out hus rfl hib ?_
        | refine wpList_store_new rfl 130 (.tmp 6) (.tmp 16) rfl rfl (partCells ⟨pe, ps, pi, pt, pd⟩ (.slice Au nu cu)) rfl rfl (by show Z.toArray.size = _; rw [List.size_toArray, HZL.out]; rfl) hib (fun u hu => by simp at hu; rcases hu with rfl | rfl | rfl | rfl | rfl <;> rfl) ?_; intro w2 hr2 hb2 hs2; have HR2 := Lib.hid hr2; have HB2 := Lib.hid hb2; have k0 := hr2.cell 0; have k1 := hr2.cell 1; have k2 := hr2.cell 2; have k3 := hr2.cell 3; have k4 := hr2.cell 4; simp only [List.getElem?_cons_zero, List.getElem?_cons_succ] at k0 k1 k2 k3 k4; clear hr2 hb2)
      refine (HLAY.out _ HB2.out).mono ?_
      rintro e w3 ⟨g3, rfl, hg3, hblk, hb3⟩
      have hll : (StampMath.lay ⟨pe, ps, pi, pt, pd⟩).length = 64 := StampMath.lay_length _ HQR.out.2.2.2.2.2.2.2.2
      obtain ⟨Y, hY⟩ : ∃ Y, StampMath.lay ⟨pe, ps, pi, pt, pd⟩ = Y := ⟨_, rfl⟩
      rw [hY] at hblk hll HPST
      have HB3 := Lib.hid (below_then HB2.out hb3)
      have HBLK := Lib.hid hblk
      have HY := Lib.hid hY
      have HLL := Lib.hid hll
      have hs3 := hb3.size
      have s1 : IntKind.i64.wrap ((at_ : Int) + (k : Int)) = (at_ : Int) + (k : Int) := by rw [IntKind.wrap_i64]; omega
      clear hblk hb3 hY hll k0 k1 k2 k3 k4 HLAY
      go_wp2_with fail
      refine wp_region_mix [(true, 0), (true, 1), (true, 2), (true, 3), (true, 4), (true, 5), (true, 6), (true, 7), (true, 8), (true, 9), (true, 10), (false, 11), (true, 12)] 13 (fun w' => w'.cell? ⟨lp, 0, none⟩ = some (.pointer (some ⟨p, 0, none⟩)) ∧ w'.cell? ⟨lp, 3, none⟩ = some (.int .i64 (at_ : Nat))) (by kernel_rfl) (by kernel_rfl) (by rintro _ ⟨_, _⟩ ⟨_, _⟩ _ rfl h; exact h) (HSK.out _ (HKP.out.then_below HB3.out).drew) ?_
      simp only [pickM, List.getElem?_cons_succ, List.getElem?_cons_zero]
      (refine wpMix_take (v := ?_) ?_ ?_; rotate_left; · (refine Or.inl ⟨by rfl, ?_⟩; intro w' hSw; obtain ⟨s0, s3⟩ := hSw; go_simp; (try with_reducible rfl)))
      (try simp only [Act.put, List.setIfInBounds_toArray, List.set_cons_zero, List.set_cons_succ])
      (refine wpMix_take (v := ?_) ?_ ?_; rotate_left; · (refine Or.inl ⟨by rfl, ?_⟩; intro w' hSw; obtain ⟨s0, s3⟩ := hSw; go_simp; (try with_reducible rfl)))
      (try simp only [Act.put, List.setIfInBounds_toArray, List.set_cons_zero, List.set_cons_succ])
      (refine wpMix_take (v := ?_) ?_ ?_; rotate_left; · (refine Or.inl ⟨by rfl, ?_⟩; intro w' hSw; obtain ⟨s0, s3⟩ := hSw; go_simp; (try with_reducible rfl)))
      (try simp only [Act.put, List.setIfInBounds_toArray, List.set_cons_zero, List.set_cons_succ])
      (refine wpMix_take (v := ?_) ?_ ?_; rotate_left; · (refine Or.inl ⟨by rfl, ?_⟩; intro w' hSw; obtain ⟨s0, s3⟩ := hSw; go_simp; (try with_reducible rfl)))
      (try simp only [Act.put, List.setIfInBounds_toArray, List.set_cons_zero, List.set_cons_succ])
      (refine wpMix_take (v := ?_) ?_ ?_; rotate_left; · (refine Or.inl ⟨by rfl, ?_⟩; intro w' hSw; obtain ⟨s0, s3⟩ := hSw; go_simp; (try with_reducible rfl)))
      (try simp only [Act.put, List.setIfInBounds_toArray, List.set_cons_zero, List.set_cons_succ])
      (refine wpMix_take (v := ?_) ?_ ?_; rotate_left; · (refine Or.inl ⟨by rfl, ?_⟩; intro w' hSw; obtain ⟨s0, s3⟩ := hSw; go_simp; (try with_reducible rfl)))
      (try simp only [Act.put, List.setIfInBounds_toArray, List.set_cons_zero, List.set_cons_succ])
      (refine wpMix_take (v := ?_) ?_ ?_; rotate_left; · (refine Or.inl ⟨by rfl, ?_⟩; intro w' hSw; obtain ⟨s0, s3⟩ := hSw; go_simp; (try with_reducible rfl)))
      (try simp only [Act.put, List.setIfInBounds_toArray, List.set_cons_zero, List.set_cons_succ])
      (refine wpMix_take (v := ?_) ?_ ?_; rotate_left; · (refine Or.inl ⟨by rfl, ?_⟩; intro w' hSw; obtain ⟨s0, s3⟩ := hSw; go_simp; (try with_reducible rfl)))
      (try simp only [Act.put, List.setIfInBounds_toArray, List.set_cons_zero, List.set_cons_succ])
      (refine wpMix_take (v := ?_) ?_ ?_; rotate_left; · (refine Or.inl ⟨by rfl, ?_⟩; intro w' hSw; obtain ⟨s0, s3⟩ := hSw; go_simp; (try with_reducible rfl)))
      (try simp only [Act.put, List.setIfInBounds_toArray, List.set_cons_zero, List.set_cons_succ])
      (refine wpMix_take (v := ?_) ?_ ?_; rotate_left; · (refine Or.inl ⟨by rfl, ?_⟩; intro w' hSw; obtain ⟨s0, s3⟩ := hSw; go_simp; (try with_reducible rfl)))
      (try simp only [Act.put, List.setIfInBounds_toArray, List.set_cons_zero, List.set_cons_succ])
      (refine wpMix_take (v := ?_) ?_ ?_; rotate_left; · (refine Or.inl ⟨by rfl, ?_⟩; intro w' hSw; obtain ⟨s0, s3⟩ := hSw; go_simp; (try with_reducible rfl)))
      (try simp only [Act.put, List.setIfInBounds_toArray, List.set_cons_zero, List.set_cons_succ])
      refine wpMix_do rfl fun K hK => ?_
      go_simp
      have hkp3 := (HKP.out.then_below HB3.out).drew
      have hwr := diskWrite_yes w3.drew (fun x => (F x ∨ w.heap.size ≤ x) ∧ x < wo.heap.size) p dk (at_ + k) g3 0 64 Y ((HDK.out.lt.below HB3.out).kept (Kept.refl (fun _ => False) w3).drew (fun _ _ h => h)) (by omega) HLL.out (Nat.le_refl _) HBLK.out.bs.drew (fun h => by have := h.2; have := HB2.out.size; omega) (by omega)
      have hwl2 := write_len dk (at_ + k : Nat) Y
      obtain ⟨wd, hwd⟩ : ∃ wd, write dk (at_ + k : Nat) Y = wd := ⟨_, rfl⟩
      rw [hwd] at hwr HPST hwl2
      rw [Int.natCast_add] at hwr
      obtain ⟨dn, cd⟩ := wd
      simp only at hwr HPST hwl2
      refine hwr.mono ?_
      rintro e w4 ⟨rfl, hd4, hk4⟩
      have hkp4 : Kept F w w4 := hkp3.trans hk4 (fun x hx => hx.1)
      refine hK.out _ _ (fun _ => HSK.out _ hkp4) ?_
      have hd4' : DiskAt w4 (fun x => F x ∨ w.heap.size ≤ x) p dn := hd4.mono (fun x hx => hx.elim (fun h => h.1) (fun h => .inr (by have := hkp3.size; simp at h this; omega)))
      have HD4 := Lib.hid hd4'
      have HKP4 := Lib.hid hkp4
      have HWL2 := Lib.hid hwl2
      clear hK K hwr hd4 hk4 hd4' hkp4 hkp3 hwl2 HDK hwd
      (try simp only [Act.put, List.setIfInBounds_toArray, List.set_cons_zero, List.set_cons_succ])
      (refine wpMix_take (v := ?_) ?_ ?_; rotate_left; · (refine Or.inl ⟨by rfl, ?_⟩; intro w' hSw; obtain ⟨s0, s3⟩ := hSw; go_simp; (try with_reducible rfl)))
      (try simp only [Act.put, List.setIfInBounds_toArray, List.set_cons_zero, List.set_cons_succ])
      refine wpMix_nil ?_
      by_cases h0 : cd = 0
      · subst h0
        rw [if_pos rfl] at HPST
        go_wp2_with fail
        go_roundw
        case rel => exact ⟨k + 1, dn, by have := HN.out; omega, by go_num, by rw [HPUT.out, HPST.out], HD4.out, by have := HWL2.out.1; omega, by have := HWL2.out.2; omega, HKP4.out⟩
        case measure => simp [intOf]; omega
      · rw [if_neg h0] at HPST
        have hne : ((cd : Int) != 0) = true := by rw [bne_iff_ne]; omega
        have hpp : WalMath.put d at_ L = (dn, cd) := by
          unfold WalMath.put
          rw [HPUT.out, HPST.out, if_neg h0]
        have HPP := Lib.hid hpp
        clear hpp HPST HPUT h0
        go_wp2_with fail
        go_ret
        rw [HPP.out]
        exact ⟨rfl, HD4.out, HKP4.out⟩
    · obtain rfl : k = n := by omega
      have hpp : WalMath.put d at_ L = flush dk := by
        unfold WalMath.put
        rw [HPUT.out, List.drop_of_length_le (by have := HN.out; omega)]
        rfl
      have HPP := Lib.hid hpp
      have c0 := (HSK.out _ HKP.out).1
      clear hpp HPUT
      go_wp2_with fail
      refine (diskFlush_any wo _ p dk HDK.out).mono ?_
      rintro e w5 ⟨rfl, hd5, hk5⟩
      have HD5 := Lib.hid hd5
      have HK5 := Lib.hid (HKP.out.trans hk5 (fun x hx => hx))
      clear hd5 hk5 c0
      go_wp2_with fail
      go_ret
      rw [HPP.out]
      exact ⟨rfl, HD5.out, HK5.out⟩
end Go.Proofs.YtckihiiimomgfaaDoor
