/- The contract of the document's comparison of two rows of records that are the same. -/
import Derived.Test.YtckihiiimomgfaaDoorGRow
import Derived.Test.YtckihiiimomgfaaDoorGReg
import Derived.Test.YtckihiiimomgfaaDoorGMem
namespace Go.Proofs.YtckihiiimomgfaaDoor
open Go.RowKit
def SmRel (w : World) (n : Nat) (i : Value) (wr : World) : Prop := ∃ k : Nat, k ≤ n ∧ i = .int .i64 (k : Int) ∧ Below w.heap.size w wr
set_option maxRecDepth 100000 in
set_option maxHeartbeats 1000000 in
theorem sameRows_any (w : World) (G H : Nat → Prop) (A B : Option Addr) (n ca cb : Nat) (ls : List (List UInt8)) (hn : ls.length = n) (hn1 : n ≤ 1000000) (ha : Rows8 w G (.slice A n ca) ls) (hb : Rows8 w H (.slice B n cb) ls) (hl : ∀ l ∈ ls, l.length ≤ 65536) :
    Calls Tryd.prog 39 #[.slice A n ca, .slice B n cb] w fun e w' => e = .returned (.bool true) ∧ Below w.heap.size w w' := by
  have HA := Lib.hid ha
  have HB := Lib.hid hb
  have HN := Lib.hid hn
  have HL := Lib.hid hl
  clear ha hb hn hl
  go_enter Tryd.func39, Tryd.ntmps39
  go_wp2_with fail
  go_loopw [5] (fun i wr => SmRel w n i wr) (fun i _ => n - (intOf i).toNat)
  case atStart => exact ⟨0, Nat.zero_le _, rfl, Below.refl _ _⟩
  case round =>
    obtain ⟨k, hk, rfl, hbw⟩ := hrel
    obtain ⟨wo, rfl⟩ : ∃ wo : World, wo = wr := ⟨_, rfl⟩
    by_cases hlt : k < n
    · obtain ⟨l, hx⟩ : ∃ l, ls[k]? = some l := ⟨_, List.getElem?_eq_getElem (by have := HN.out; omega)⟩
      obtain ⟨ga, c1, u1, hv1, _, hg1, _, hc1, ho1, _⟩ := (HA.out.below hbw).at_ hx
      obtain ⟨gb, c2, u2, hv2, _, hg2, _, hc2, ho2, _⟩ := (HB.out.below hbw).at_ hx
      injection hv1 with e1 e2 e3
      subst e1 e3
      injection hv2 with e4 e5 e6
      subst e4 e6
      have hll := HL.out l (List.mem_of_getElem? hx)
      obtain ⟨A1, n1, d1, rfl, hn1', _, _⟩ := ho1.shape'
      obtain ⟨A2, n2, d2, rfl, hn2', _, _⟩ := ho2.shape'
      have hsm := fun w' (h : Below wo.heap.size wo w') => same_at A1 A2 d1 d2 n1 n2 l l w' hn1' hn2' (by omega) (by omega) (ho1.bs.below h) (ho2.bs.below h)
      have hsk : ∀ w', Below wo.heap.size wo w' → w'.cell? ⟨ga, k, none⟩ = some (.slice A1 n1 d1) ∧ w'.cell? ⟨gb, k, none⟩ = some (.slice A2 n2 d2) := fun w' h => ⟨(h.cell (p := ⟨ga, k, none⟩) hg1).trans hc1, (h.cell (p := ⟨gb, k, none⟩) hg2).trans hc2⟩
      simp only [sameB_self] at hsm
      have HSM := Lib.hid hsm
      have HSK := Lib.hid hsk
      have HBW := Lib.hid hbw
      have k0 : (0 : Int) ≤ (k : Int) := by omega
      have k1 : (k : Int) < (n : Int) := by omega
      clear hx hc1 hc2 ho1 ho2 hsm hsk hbw hn1' hn2' e2 e5 hll
      go_wp2_with fail
      refine wp_region_mix [(true, 0), (true, 1), (true, 2), (true, 3), (true, 4), (true, 5), (true, 6), (true, 7), (false, 8), (true, 9)] 10 (fun w' => w'.cell? ⟨ga, k, none⟩ = some (.slice A1 n1 d1) ∧ w'.cell? ⟨gb, k, none⟩ = some (.slice A2 n2 d2)) (by kernel_rfl) (by kernel_rfl) (by rintro _ ⟨_, _⟩ ⟨_, _⟩ _ rfl h; exact h) (HSK.out _ (Below.refl _ _).drew) ?_
      simp only [pickM, List.getElem?_cons_succ, List.getElem?_cons_zero]
      iterate 8 ((refine wpMix_take (v := ?_) ?_ ?_; rotate_left; · (refine Or.inl ⟨by rfl, ?_⟩; intro w' hSw; obtain ⟨s0, s3⟩ := hSw; go_simp; (try with_reducible rfl))); (try simp only [Act.put, List.setIfInBounds_toArray, List.set_cons_zero, List.set_cons_succ]))
      refine wpMix_do rfl fun K hK => ?_
      go_simp
      refine (HSM.out _ (Below.refl _ _).drew).mono ?_
      rintro e w2 ⟨rfl, hb2⟩
      have hb2' : Below wo.heap.size wo w2 := (Below.refl _ _).drew.trans hb2
      refine hK.out _ _ (fun _ => HSK.out _ hb2') ?_
      have HB2 := Lib.hid hb2'
      clear hK K hb2 hb2'
      (try simp only [Act.put, List.setIfInBounds_toArray, List.set_cons_zero, List.set_cons_succ])
      iterate 1 ((refine wpMix_take (v := ?_) ?_ ?_; rotate_left; · (refine Or.inl ⟨by rfl, ?_⟩; intro w' hSw; obtain ⟨s0, s3⟩ := hSw; go_simp; (try with_reducible rfl))); (try simp only [Act.put, List.setIfInBounds_toArray, List.set_cons_zero, List.set_cons_succ]))
      refine wpMix_nil ?_
      go_wp2_with fail
      go_roundw
      case rel => exact ⟨k + 1, by omega, by go_num, below_then HBW.out HB2.out⟩
      case measure => simp [intOf]; omega
    · have HBW := Lib.hid hbw
      clear hbw
      go_wp2_with fail
      go_ret
      exact ⟨rfl, HBW.out⟩
/-- a row of rows and bytes lie in blocks of their own -/
theorem rows_ne {w : World} {G : Nat → Prop} {v u : Value} {ls : List (List UInt8)} {base : Nat} {l : List UInt8} (h : Rows8 w G v ls) (ho : Own8 w base u l) (g : Nat) (hg : v.ownBlock = some g) : u.ownBlock ≠ some g := by
  obtain ⟨vs, h1, _⟩ := h
  rcases h1.2 with ⟨e, _⟩ | ⟨g', cap, cur, rfl, _, hb, _⟩
  · rw [e] at hg; simp [Value.ownBlock] at hg
  · simp [Value.ownBlock] at hg
    subst hg
    exact own_ne ho hb (by decide)
end Go.Proofs.YtckihiiimomgfaaDoor
