/- The walk of the statement on a hash that no call made: ShaNobody. -/
import Derived.Test.YtnjkpoljcekjcaaDoorShaLaws2
import Derived.Deep.RegionWith
import Derived.Deep.RegionHeld3
namespace Go.Proofs.YtnjkpoljcekjcaaDoor
open Go.RowKit
abbrev zeroV : Value := .agg #[.int .u8 0, .int .u8 0, .int .u8 0, .int .u8 0, .int .u8 0, .int .u8 0, .int .u8 0, .int .u8 0, .int .u8 0, .int .u8 0, .int .u8 0, .int .u8 0, .int .u8 0, .int .u8 0, .int .u8 0, .int .u8 0, .int .u8 0, .int .u8 0, .int .u8 0, .int .u8 0, .int .u8 0, .int .u8 0, .int .u8 0, .int .u8 0, .int .u8 0, .int .u8 0, .int .u8 0, .int .u8 0, .int .u8 0, .int .u8 0, .int .u8 0, .int .u8 0]
theorem zeroV_is : zeroV = .agg (bvs zero32).toArray := rfl
set_option maxHeartbeats 400000 in
theorem sumNil_any (w : World) : Calls Tryd.prog 19 #[.pointer none] w fun e w' => e = .returned zeroV ∧ Below w.heap.size w w' := by
  go_enter Tryd.func19, Tryd.ntmps19
  have h1 : Row8 ((w.alloc (.cells #[.int .u8 0, .int .u8 0, .int .u8 0, .int .u8 0, .int .u8 0, .int .u8 0, .int .u8 0, .int .u8 0, .int .u8 0, .int .u8 0, .int .u8 0, .int .u8 0, .int .u8 0, .int .u8 0, .int .u8 0, .int .u8 0, .int .u8 0, .int .u8 0, .int .u8 0, .int .u8 0, .int .u8 0, .int .u8 0, .int .u8 0, .int .u8 0, .int .u8 0, .int .u8 0, .int .u8 0, .int .u8 0, .int .u8 0, .int .u8 0, .int .u8 0, .int .u8 0] 26)).alloc (.cells #[.int .u8 0, .int .u8 0, .int .u8 0, .int .u8 0, .int .u8 0, .int .u8 0, .int .u8 0, .int .u8 0, .int .u8 0, .int .u8 0, .int .u8 0, .int .u8 0, .int .u8 0, .int .u8 0, .int .u8 0, .int .u8 0, .int .u8 0, .int .u8 0, .int .u8 0, .int .u8 0, .int .u8 0, .int .u8 0, .int .u8 0, .int .u8 0, .int .u8 0, .int .u8 0, .int .u8 0, .int .u8 0, .int .u8 0, .int .u8 0, .int .u8 0, .int .u8 0] 26)) (w.heap.size + 1) 26 zero32 := by
    have := heap_alloc_new (w.alloc (.cells #[.int .u8 0, .int .u8 0, .int .u8 0, .int .u8 0, .int .u8 0, .int .u8 0, .int .u8 0, .int .u8 0, .int .u8 0, .int .u8 0, .int .u8 0, .int .u8 0, .int .u8 0, .int .u8 0, .int .u8 0, .int .u8 0, .int .u8 0, .int .u8 0, .int .u8 0, .int .u8 0, .int .u8 0, .int .u8 0, .int .u8 0, .int .u8 0, .int .u8 0, .int .u8 0, .int .u8 0, .int .u8 0, .int .u8 0, .int .u8 0, .int .u8 0, .int .u8 0] 26)) (.cells #[.int .u8 0, .int .u8 0, .int .u8 0, .int .u8 0, .int .u8 0, .int .u8 0, .int .u8 0, .int .u8 0, .int .u8 0, .int .u8 0, .int .u8 0, .int .u8 0, .int .u8 0, .int .u8 0, .int .u8 0, .int .u8 0, .int .u8 0, .int .u8 0, .int .u8 0, .int .u8 0, .int .u8 0, .int .u8 0, .int .u8 0, .int .u8 0, .int .u8 0, .int .u8 0, .int .u8 0, .int .u8 0, .int .u8 0, .int .u8 0, .int .u8 0, .int .u8 0] 26)
    rw [show (w.alloc (.cells #[.int .u8 0, .int .u8 0, .int .u8 0, .int .u8 0, .int .u8 0, .int .u8 0, .int .u8 0, .int .u8 0, .int .u8 0, .int .u8 0, .int .u8 0, .int .u8 0, .int .u8 0, .int .u8 0, .int .u8 0, .int .u8 0, .int .u8 0, .int .u8 0, .int .u8 0, .int .u8 0, .int .u8 0, .int .u8 0, .int .u8 0, .int .u8 0, .int .u8 0, .int .u8 0, .int .u8 0, .int .u8 0, .int .u8 0, .int .u8 0, .int .u8 0, .int .u8 0] 26)).heap.size = w.heap.size + 1 by simp] at this
    exact this
  have h0 : Row8 ((w.alloc (.cells #[.int .u8 0, .int .u8 0, .int .u8 0, .int .u8 0, .int .u8 0, .int .u8 0, .int .u8 0, .int .u8 0, .int .u8 0, .int .u8 0, .int .u8 0, .int .u8 0, .int .u8 0, .int .u8 0, .int .u8 0, .int .u8 0, .int .u8 0, .int .u8 0, .int .u8 0, .int .u8 0, .int .u8 0, .int .u8 0, .int .u8 0, .int .u8 0, .int .u8 0, .int .u8 0, .int .u8 0, .int .u8 0, .int .u8 0, .int .u8 0, .int .u8 0, .int .u8 0] 26)).alloc (.cells #[.int .u8 0, .int .u8 0, .int .u8 0, .int .u8 0, .int .u8 0, .int .u8 0, .int .u8 0, .int .u8 0, .int .u8 0, .int .u8 0, .int .u8 0, .int .u8 0, .int .u8 0, .int .u8 0, .int .u8 0, .int .u8 0, .int .u8 0, .int .u8 0, .int .u8 0, .int .u8 0, .int .u8 0, .int .u8 0, .int .u8 0, .int .u8 0, .int .u8 0, .int .u8 0, .int .u8 0, .int .u8 0, .int .u8 0, .int .u8 0, .int .u8 0, .int .u8 0] 26)) w.heap.size 26 zero32 := (below_alloc _ _).block w.heap.size (by simp) |>.trans (heap_alloc_new w _)
  have hb : Below w.heap.size w ((w.alloc (.cells #[.int .u8 0, .int .u8 0, .int .u8 0, .int .u8 0, .int .u8 0, .int .u8 0, .int .u8 0, .int .u8 0, .int .u8 0, .int .u8 0, .int .u8 0, .int .u8 0, .int .u8 0, .int .u8 0, .int .u8 0, .int .u8 0, .int .u8 0, .int .u8 0, .int .u8 0, .int .u8 0, .int .u8 0, .int .u8 0, .int .u8 0, .int .u8 0, .int .u8 0, .int .u8 0, .int .u8 0, .int .u8 0, .int .u8 0, .int .u8 0, .int .u8 0, .int .u8 0] 26)).alloc (.cells #[.int .u8 0, .int .u8 0, .int .u8 0, .int .u8 0, .int .u8 0, .int .u8 0, .int .u8 0, .int .u8 0, .int .u8 0, .int .u8 0, .int .u8 0, .int .u8 0, .int .u8 0, .int .u8 0, .int .u8 0, .int .u8 0, .int .u8 0, .int .u8 0, .int .u8 0, .int .u8 0, .int .u8 0, .int .u8 0, .int .u8 0, .int .u8 0, .int .u8 0, .int .u8 0, .int .u8 0, .int .u8 0, .int .u8 0, .int .u8 0, .int .u8 0, .int .u8 0] 26)) := ((Below.refl _ _).alloc (Nat.le_refl _) _).alloc (by simp) _
  have hfin := h0.store (m := zero32) rfl
  have hi : (Tryd.prog.info? 26).map (·.size) = some (bvs zero32).toArray.size := info_sum
  have H1 := Lib.hid h1
  have HT := Lib.hid h0.there
  have HF := Lib.hid hfin
  have HB := Lib.hid hb
  have HI := Lib.hid hi
  have HO := Lib.hid (all_oneCell_toArray (bvs_one zero32))
  clear h0 h1 hfin hi hb
  go_wp2_with (first
    | refine wpList_load_row rfl 26 (.tmp 3) rfl (w.heap.size + 1) rfl 26 (bvs zero32).toArray (0, 0) _ H1.out Tryd.underlying26 rfl HI.out ?_
    | refine wpList_store_mid rfl 26 (.tmp 2) (.tmp 9) rfl w.heap.size 0 (bvs zero32).toArray rfl rfl HT.out HI.out HO.out ?_)
  refine bodyPost_ret (v := zeroV) (results_cell_row rfl _ _ w.heap.size 26 (bvs zero32).toArray (0, 0) _ rfl HF.out Tryd.underlying26 rfl HI.out) rfl ⟨rfl, Below.setCells (Nat.le_refl _) _ _ _ HB.out⟩
set_option maxHeartbeats 400000 in
theorem lenNil_any (w : World) : Calls Tryd.prog 20 #[.pointer none] w fun e w' => e = .returned (.int .i64 0) ∧ w = w' := by
  go_enter Tryd.func20, Tryd.ntmps20
  go_wp2_with fail
  go_ret
  exact ⟨rfl, rfl⟩
set_option maxHeartbeats 400000 in
theorem writeNil_any (A : Option Addr) (n c : Nat) (w : World) : Calls Tryd.prog 18 #[.pointer none, .slice A n c] w fun e w' => e = .returned (.tuple #[]) ∧ w = w' := by
  go_enter Tryd.func18, Tryd.ntmps18
  go_wp2_with fail
  refine bodyPost_ret (results_none rfl _ _ _) rfl ?_
  exact ⟨rfl, rfl⟩
theorem drew_bel {w w' : World} (h : Below w.drew.heap.size w.drew w') : Below w.heap.size w w' := ((Below.refl _ _).drew).trans h
theorem eq_zero (w : World) : (Op.equalIn 10000 26 zeroV zeroV).run Tryd.prog w = .ok true w := eq_sum_self zero32 rfl w
theorem takeH {P : Program} {ops : Array Oper} {Q : Exit → Act → World → Prop} {md : Region.Mode} {S : World → Prop} {i : Nat} {v : Value} {fuel : Nat} {listed : Array Bool} {a : Act} {w : World}
    (hs : Region.noSelect ops = true) (hf : Region.free md ops listed i = true) (hr : (Region.ready md ops listed).contains i = true)
    (hQ : ∀ o, ops[i]? = some o → ∀ c a w, Q (.panic c) (a.put o.dst v) w → Q (.panic c) a w) (hy : ∀ o, ops[i]? = some o → YieldsIf P ops S o v a) (hS : S w)
    (h : ∀ d, ops[i]?.map (·.dst) = some d → wpAnyH P md ops Q S fuel (listed.setIfInBounds i true) (a.put d v) w) (hi : ops[i]?.isSome = true := by rfl) : wpAnyH P md ops Q S (fuel + 1) listed a w := by
  obtain ⟨o, ho⟩ := Option.isSome_iff_exists.1 hi
  exact wpAnyH_take ho hs hf hr (hQ o ho) (hy o ho) hS (h o.dst (by rw [ho]; rfl))
theorem consH {P : Program} {ops : Array Oper} {Q : Exit → Act → World → Prop} {md : Region.Mode} {S : World → Prop} {fuel : Nat} {listed : Array Bool} {a : Act} {w : World} {i : Nat} {rs : List Nat}
    (h : ∀ o, ops[i]? = some o → ∀ K' : Act → World → Prop, Shut (∀ a w, S w → (S w → wpAnyH P md ops Q S fuel (listed.setIfInBounds i true) a w) → K' a w) → if Region.wanted o (yielded ops a.tmps) = true then Oper.wp P o a w K' Q else K' (a.put o.dst undef) w)
    (hs : AllReadyH P md ops Q S fuel listed a w rs) (hi : ops[i]?.isSome = true := by rfl) : AllReadyH P md ops Q S fuel listed a w (i :: rs) := by
  obtain ⟨o, ho⟩ := Option.isSome_iff_exists.1 hi
  exact AllReadyH.cons ho (h o ho) hs
theorem sumS (w : World) (G : Nat → Prop) (p : Nat) {S0 : List UInt8} (h : HashAt w G p []) (hw : Words w) (hS : ShaMath.sha [] = S0) :
    Calls Tryd.prog 19 #[.pointer (some ⟨p, 0, none⟩)] w fun e w' => e = .returned (.agg (bvs S0).toArray) ∧ Below w.heap.size w w' := by
  subst hS; exact sum_any _ _ p [] h (by simp) hw
theorem ofS (A : Option Addr) (c : Nat) (w : World) (S0 : List UInt8) (hr : Bs w A []) (hw : Words w) (hS : ShaMath.sha [] = S0) :
    Calls Tryd.prog 12 #[.slice A 0 c] w fun e w' => e = .returned (.agg (bvs S0).toArray) ∧ Below w.heap.size w w' := by
  subst hS; exact shaOf_any A 0 c [] _ rfl (by omega) hr hw
set_option maxRecDepth 100000 in
set_option maxHeartbeats 2000000 in
theorem shaNobody_walk (A : Option Addr) (c : Nat) (l : List UInt8) (w : World) (hc : l.length ≤ c) (hm : c ≤ maxLen) (hw : Words w) (hr : Bs w A l) :
    Calls Tryd.prog 6 #[.slice A l.length c] w fun e w' => e = .returned (.bool true) ∧ Below w.heap.size w w' := by
  go_enter Tryd.func6, Tryd.ntmps6
  go_wp2_with fail
  refine (cut_bs A c 100 l w hc hm (by decide)).mono ?_
  rintro e w' ⟨rfl, rfl⟩
  have hrb := hr.take 100
  have hbl : (l.take 100).length ≤ 100 := List.length_take_le _ _
  obtain ⟨b, hb⟩ : ∃ b, l.take 100 = b := ⟨_, rfl⟩
  rw [hb] at hrb hbl ⊢
  obtain ⟨n, hn⟩ : ∃ n, b.length = n := ⟨_, rfl⟩
  rw [hn] at hbl ⊢
  have HN := Lib.hid hn
  have HRB := Lib.hid hrb
  clear hr hc hm hb hn hrb
  go_wp2_with fail
  refine (writeNil_any A n c w).mono ?_
  rintro e w' ⟨rfl, rfl⟩
  go_wp2_with fail
  have hh1 := (hash_new w).mono (G := fun g => w.heap.size ≤ g) (fun k hk => by omega)
  have hb1 := below_alloc w (.cells (hashCells st0 false (.slice none 0 0) 0) 46)
  obtain ⟨w1, hw1⟩ : ∃ x : World, x = w.alloc (.cells (hashCells st0 false (.slice none 0 0) 0) 46) := ⟨_, rfl⟩
  rw [← hw1] at hh1 hb1
  have hs1 : w1.heap.size = w.heap.size + 1 := by rw [hw1]; simp
  rw [show w.alloc (.cells #[.int .u32 0, .int .u32 0, .int .u32 0, .int .u32 0, .int .u32 0, .int .u32 0, .int .u32 0, .int .u32 0, .bool false, .slice none 0 0, .int .i64 0] 46) = w1 from hw1.symm]
  clear hw1
  refine (sum_own w w1 w.heap.size [] hb1 hh1 (by simp) hw).mono ?_
  rintro e w2 ⟨rfl, hh2, hb2⟩
  have hlt2 := hh2.lt
  obtain ⟨S0, hS0⟩ : ∃ S0, ShaMath.sha [] = S0 := ⟨_, rfl⟩
  have hS0l : S0.length = 32 := by rw [← hS0]; exact ShaMath.sha_length _
  rw [hS0]
  have hz : Row8 (w2.alloc (.cells #[.int .u8 0, .int .u8 0, .int .u8 0, .int .u8 0, .int .u8 0, .int .u8 0, .int .u8 0, .int .u8 0, .int .u8 0, .int .u8 0, .int .u8 0, .int .u8 0, .int .u8 0, .int .u8 0, .int .u8 0, .int .u8 0, .int .u8 0, .int .u8 0, .int .u8 0, .int .u8 0, .int .u8 0, .int .u8 0, .int .u8 0, .int .u8 0, .int .u8 0, .int .u8 0, .int .u8 0, .int .u8 0, .int .u8 0, .int .u8 0, .int .u8 0, .int .u8 0] 26)) w2.heap.size 26 zero32 := heap_alloc_new w2 _
  have hsz : (bvs S0).toArray.size = 32 := by rw [List.size_toArray, bvs_length, hS0l]
  have hi32 := info_sum
  rw [← hsz] at hi32
  have hth : (w2.alloc (.cells #[.int .u8 0, .int .u8 0, .int .u8 0, .int .u8 0, .int .u8 0, .int .u8 0, .int .u8 0, .int .u8 0, .int .u8 0, .int .u8 0, .int .u8 0, .int .u8 0, .int .u8 0, .int .u8 0, .int .u8 0, .int .u8 0, .int .u8 0, .int .u8 0, .int .u8 0, .int .u8 0, .int .u8 0, .int .u8 0, .int .u8 0, .int .u8 0, .int .u8 0, .int .u8 0, .int .u8 0, .int .u8 0, .int .u8 0, .int .u8 0, .int .u8 0, .int .u8 0] 26)).there w2.heap.size 0 (bvs S0).toArray.size := by rw [hsz]; exact hz.there
  have hr3 := hz.store (m := S0) (by rw [hS0l]; rfl)
  have hk3 : Kept (fun k => k = w2.heap.size) w2 ((w2.alloc (.cells #[.int .u8 0, .int .u8 0, .int .u8 0, .int .u8 0, .int .u8 0, .int .u8 0, .int .u8 0, .int .u8 0, .int .u8 0, .int .u8 0, .int .u8 0, .int .u8 0, .int .u8 0, .int .u8 0, .int .u8 0, .int .u8 0, .int .u8 0, .int .u8 0, .int .u8 0, .int .u8 0, .int .u8 0, .int .u8 0, .int .u8 0, .int .u8 0, .int .u8 0, .int .u8 0, .int .u8 0, .int .u8 0, .int .u8 0, .int .u8 0, .int .u8 0, .int .u8 0] 26)).setCells w2.heap.size 0 (bvs S0)) :=
    setCells_keeps w2.heap.size _ 0 _ _ _ ((Kept.refl _ w2).alloc _) (.inl rfl)
  have HT := Lib.hid hth
  have HI := Lib.hid hi32
  have HO := Lib.hid (all_oneCell_toArray (bvs_one S0))
  have HR3 := Lib.hid hr3
  have HK3 := Lib.hid hk3
  have HS0 := Lib.hid hS0
  have HS0L := Lib.hid hS0l
  have HL2 := Lib.hid hlt2
  have HB2 := Lib.hid hb2
  clear hz hsz hi32 hth hr3 hk3 hS0 hS0l hlt2 hh2 hb2 hh1 hb1
  go_wp2_with (refine wpList_store_mid rfl 26 (.tmp 5) (.tmp 14) rfl w2.heap.size 0 (bvs S0).toArray rfl rfl HT.out HI.out HO.out ?_)
  obtain ⟨w3, hw3⟩ : ∃ x : World, x = (w2.alloc (.cells #[.int .u8 0, .int .u8 0, .int .u8 0, .int .u8 0, .int .u8 0, .int .u8 0, .int .u8 0, .int .u8 0, .int .u8 0, .int .u8 0, .int .u8 0, .int .u8 0, .int .u8 0, .int .u8 0, .int .u8 0, .int .u8 0, .int .u8 0, .int .u8 0, .int .u8 0, .int .u8 0, .int .u8 0, .int .u8 0, .int .u8 0, .int .u8 0, .int .u8 0, .int .u8 0, .int .u8 0, .int .u8 0, .int .u8 0, .int .u8 0, .int .u8 0, .int .u8 0] 26)).setCells w2.heap.size 0 (bvs S0) := ⟨_, rfl⟩
  have hr3 : Row8 w3 w2.heap.size 26 S0 := by rw [hw3]; exact HR3.out
  have hk3 : Kept (fun k => k = w2.heap.size) w2 w3 := by rw [hw3]; exact HK3.out
  have hs3 : w3.heap.size = w2.heap.size + 1 := by rw [hw3, setCells_sz]; simp
  have hw3' : (w2.alloc (.cells #[.int .u8 0, .int .u8 0, .int .u8 0, .int .u8 0, .int .u8 0, .int .u8 0, .int .u8 0, .int .u8 0, .int .u8 0, .int .u8 0, .int .u8 0, .int .u8 0, .int .u8 0, .int .u8 0, .int .u8 0, .int .u8 0, .int .u8 0, .int .u8 0, .int .u8 0, .int .u8 0, .int .u8 0, .int .u8 0, .int .u8 0, .int .u8 0, .int .u8 0, .int .u8 0, .int .u8 0, .int .u8 0, .int .u8 0, .int .u8 0, .int .u8 0, .int .u8 0] 26)).setCells w2.heap.size 0 (bvs S0).toArray.toList = w3 := by rw [hw3]
  try rw [hw3']
  try rw [← hw3]
  have hb3 : Below w.heap.size w w3 := HB2.out.trans (hk3.below (B := w.heap.size) (fun k _ hk => by have := HB2.out.size; omega) HB2.out.size)
  have hh3 : HashAt w3 (fun k => w.heap.size ≤ k ∧ k < w2.heap.size) w.heap.size [] := HL2.out.kept hk3 (fun k hk e => by omega)
  have hwa := write_any w3 _ w.heap.size c A [] b hh3 (HRB.out.below hb3) (by simp; have := HN.out; omega) (hw.below hb3) (fun h => by have := hw.1; omega) (fun ad hA hne h => by subst hA; have := HRB.out.lt hne; omega)
  rw [HN.out] at hwa
  have HWA := Lib.hid hwa
  have HB3 := Lib.hid hb3
  have HR3 := Lib.hid hr3
  clear hw3 hw3' hr3 hk3 hb3 hh3 hwa HK3 HT HI HO
  go_wp2_with fail
  refine HWA.out.mono ?_
  rintro e w4 ⟨rfl, hk4, F4, hh4, hF4⟩
  rw [List.nil_append] at hh4
  have hr4 : Row8 w4 w2.heap.size 26 S0 := HR3.out.keep hk4 (by omega)
  have hb4 : Below w.heap.size w w4 := HB3.out.trans (hk4.below (B := w.heap.size) (fun k _ hk => hk.1) HB3.out.size)
  have hh4' : HashAt w4 (fun g => w.heap.size ≤ g) w.heap.size b := hh4.mono (fun k hk => by rcases hF4 k hk with h | h; exact h.1; have := HB3.out.size; omega)
  have HH := Lib.hid hh4'
  have HB := Lib.hid hb4
  have hld : ∀ w' : World, Below w4.heap.size w4 w' → w'.rangeAt w2.heap.size 0 (bvs S0) := by
    intro w' hb' j v hj
    have hr : Row8 w' w2.heap.size 26 S0 := hr4.below hb'
    rw [Nat.zero_add, block_cell hr]
    simpa using hj
  have hus := Tryd.underlying26
  have hisz : (Tryd.prog.info? 26).map (·.size) = some (bvs S0).length := by rw [bvs_length, HS0L.out]; exact info_sum
  have HLD := Lib.hid hld
  have hbs : Bs w A b := HRB.out
  have heq := eq_sum_self (ShaMath.sha b) (ShaMath.sha_length _)
  have heq0 := eq_zero
  have hg := guard_sum
  have HEQ := Lib.hid (eq_sum_self S0 HS0L.out)
  have HBW : Hid (Below w4.heap.size w4 w4) := Lib.hid (Below.refl _ _)
  have hz0 : ((0 : Int) == 0) = true := rfl
  clear hk4 hh4 hF4 hr4 hb4 hh4' hld HWA HR3 HB3 hbs
  by_cases hn0 : 0 < n
  · go_wp2_with fail
    refine wp_region_held_drew (S := fun _ => True) (by kernel_rfl) trivial (fun _ => ?_)
    refine takeH (i := 0) (v := ?_) (by kernel_rfl) (by kernel_rfl) (by kernel_rfl) (fun o ho => ?hq0) (fun o ho => ?hy0) trivial (fun d hd => ?hr0)
    case hy0 => simp at ho; subst ho; refine Or.inl ⟨by rfl, ?_⟩; intro w hSw; go_simp; (try with_reducible rfl)
    case hq0 => simp at ho; subst ho; exact fun _ _ _ h => h
    simp at hd; subst hd
    (try simp only [Act.put, List.setIfInBounds_toArray, List.set_cons_zero, List.set_cons_succ])
    refine takeH (i := 2) (v := ?_) (by kernel_rfl) (by kernel_rfl) (by kernel_rfl) (fun o ho => ?hq2) (fun o ho => ?hy2) trivial (fun d hd => ?hr2)
    case hy2 => simp at ho; subst ho; refine Or.inl ⟨by rfl, ?_⟩; intro w hSw; go_simp; (try with_reducible rfl)
    case hq2 => simp at ho; subst ho; exact fun _ _ _ h => h
    simp at hd; subst hd
    (try simp only [Act.put, List.setIfInBounds_toArray, List.set_cons_zero, List.set_cons_succ])
    refine wpAnyH_ready (rs := [1]) (by kernel_rfl) (by simp) (consH (fun o ho K hK => ?_) AllReadyH.nil)
    simp at ho; subst ho
    go_simp
    go_at_call 19
    refine (sumNil_any _).mono ?_; rintro e wS ⟨rfl, hbS⟩; (first | have hbT := drew_bel hbS | have hbT := hbS); have HB := Lib.hid (HB.out.trans (hbT.mono HB.out.size)); have HH := Lib.hid (HH.out.below hbT); have HBW := Lib.hid (below_then HBW.out hbT); clear hbS hbT
    refine hK.out _ _ trivial (fun _ => ?_)
    clear hK K
    (try simp only [Act.put, List.setIfInBounds_toArray, List.set_cons_zero, List.set_cons_succ])
    refine takeH (i := 3) (v := ?_) (by kernel_rfl) (by kernel_rfl) (by kernel_rfl) (fun o ho => ?hq3) (fun o ho => ?hy3) trivial (fun d hd => ?hr3)
    case hy3 => simp at ho; subst ho; refine Or.inl ⟨by rfl, ?_⟩; intro w hSw; go_simp; (try with_reducible rfl)
    case hq3 => simp at ho; subst ho; exact fun _ _ _ h => h
    simp at hd; subst hd
    (try simp only [Act.put, List.setIfInBounds_toArray, List.set_cons_zero, List.set_cons_succ])
    refine takeH (i := 4) (v := ?_) (by kernel_rfl) (by kernel_rfl) (by kernel_rfl) (fun o ho => ?hq4) (fun o ho => ?hy4) trivial (fun d hd => ?hr4)
    case hy4 => simp at ho; subst ho; refine Or.inl ⟨by rfl, ?_⟩; intro w hSw; go_simp; (try with_reducible rfl)
    case hq4 => simp at ho; subst ho; exact fun _ _ _ h => h
    simp at hd; subst hd
    (try simp only [Act.put, List.setIfInBounds_toArray, List.set_cons_zero, List.set_cons_succ])
    refine takeH (i := 5) (v := ?_) (by kernel_rfl) (by kernel_rfl) (by kernel_rfl) (fun o ho => ?hq5) (fun o ho => ?hy5) trivial (fun d hd => ?hr5)
    case hy5 => simp at ho; subst ho; refine Or.inl ⟨by rfl, ?_⟩; intro w hSw; go_simp; (try with_reducible rfl)
    case hq5 => simp at ho; subst ho; exact fun _ _ _ h => h
    simp at hd; subst hd
    (try simp only [Act.put, List.setIfInBounds_toArray, List.set_cons_zero, List.set_cons_succ])
    refine wpAnyH_ready (rs := [6]) (by kernel_rfl) (by simp) (consH (fun o ho K hK => ?_) AllReadyH.nil)
    simp at ho; subst ho
    go_simp
    go_at_call 20
    refine (lenNil_any _).mono ?_; rintro e wL ⟨rfl, rfl⟩
    refine hK.out _ _ trivial (fun _ => ?_)
    clear hK K
    (try simp only [Act.put, List.setIfInBounds_toArray, List.set_cons_zero, List.set_cons_succ])
    refine takeH (i := 7) (v := ?_) (by kernel_rfl) (by kernel_rfl) (by kernel_rfl) (fun o ho => ?hq7) (fun o ho => ?hy7) trivial (fun d hd => ?hr7)
    case hy7 => simp at ho; subst ho; refine Or.inl ⟨by rfl, ?_⟩; intro w hSw; go_simp; (try with_reducible rfl)
    case hq7 => simp at ho; subst ho; exact fun _ _ _ h => h
    simp at hd; subst hd
    (try simp only [Act.put, List.setIfInBounds_toArray, List.set_cons_zero, List.set_cons_succ])
    refine takeH (i := 8) (v := ?_) (by kernel_rfl) (by kernel_rfl) (by kernel_rfl) (fun o ho => ?hq8) (fun o ho => ?hy8) trivial (fun d hd => ?hr8)
    case hy8 => simp at ho; subst ho; refine Or.inl ⟨by rfl, ?_⟩; intro w hSw; go_simp; (try with_reducible rfl)
    case hq8 => simp at ho; subst ho; exact fun _ _ _ h => h
    simp at hd; subst hd
    (try simp only [Act.put, List.setIfInBounds_toArray, List.set_cons_zero, List.set_cons_succ])
    refine takeH (i := 9) (v := ?_) (by kernel_rfl) (by kernel_rfl) (by kernel_rfl) (fun o ho => ?hq9) (fun o ho => ?hy9) trivial (fun d hd => ?hr9)
    case hy9 => simp at ho; subst ho; refine Or.inl ⟨by rfl, ?_⟩; intro w hSw; go_simp; (try with_reducible rfl)
    case hq9 => simp at ho; subst ho; exact fun _ _ _ h => h
    simp at hd; subst hd
    (try simp only [Act.put, List.setIfInBounds_toArray, List.set_cons_zero, List.set_cons_succ])
    refine takeH (i := 10) (v := ?_) (by kernel_rfl) (by kernel_rfl) (by kernel_rfl) (fun o ho => ?hq10) (fun o ho => ?hy10) trivial (fun d hd => ?hr10)
    case hy10 => simp at ho; subst ho; refine Or.inl ⟨by rfl, ?_⟩; intro w hSw; go_simp; (try with_reducible rfl)
    case hq10 => simp at ho; subst ho; exact fun _ _ _ h => h
    simp at hd; subst hd
    (try simp only [Act.put, List.setIfInBounds_toArray, List.set_cons_zero, List.set_cons_succ])
    refine takeH (i := 12) (v := ?_) (by kernel_rfl) (by kernel_rfl) (by kernel_rfl) (fun o ho => ?hq12) (fun o ho => ?hy12) trivial (fun d hd => ?hr12)
    case hy12 => simp at ho; subst ho; refine Or.inl ⟨by rfl, ?_⟩; intro w hSw; go_simp; (try with_reducible rfl)
    case hq12 => simp at ho; subst ho; exact fun _ _ _ h => h
    simp at hd; subst hd
    (try simp only [Act.put, List.setIfInBounds_toArray, List.set_cons_zero, List.set_cons_succ])
    refine wpAnyH_ready (rs := [11]) (by kernel_rfl) (by simp) (consH (fun o ho K hK => ?_) AllReadyH.nil)
    simp at ho; subst ho
    go_simp
    go_at_call 19
    refine (sum_any _ _ w.heap.size b HH.out (by have := HN.out; omega) (hw.below HB.out)).mono ?_; rintro e wS ⟨rfl, hbS⟩; (first | have hbT := drew_bel hbS | have hbT := hbS); have HB := Lib.hid (HB.out.trans (hbT.mono HB.out.size)); have HH := Lib.hid (HH.out.below hbT); have HBW := Lib.hid (below_then HBW.out hbT); clear hbS hbT
    refine hK.out _ _ trivial (fun _ => ?_)
    clear hK K
    (try simp only [Act.put, List.setIfInBounds_toArray, List.set_cons_zero, List.set_cons_succ])
    refine wpAnyH_ready (rs := [13]) (by kernel_rfl) (by simp) (consH (fun o ho K hK => ?_) AllReadyH.nil)
    simp at ho; subst ho
    go_simp
    go_at_call 12
    refine (shaOf_any A n c b _ HN.out (by omega) (HRB.out.below HB.out) (hw.below HB.out)).mono ?_; rintro e wS ⟨rfl, hbS⟩; (first | have hbT := drew_bel hbS | have hbT := hbS); have HB := Lib.hid (HB.out.trans (hbT.mono HB.out.size)); have HH := Lib.hid (HH.out.below hbT); have HBW := Lib.hid (below_then HBW.out hbT); clear hbS hbT
    refine hK.out _ _ trivial (fun _ => ?_)
    clear hK K
    (try simp only [Act.put, List.setIfInBounds_toArray, List.set_cons_zero, List.set_cons_succ])
    refine takeH (i := 14) (v := ?_) (by kernel_rfl) (by kernel_rfl) (by kernel_rfl) (fun o ho => ?hq14) (fun o ho => ?hy14) trivial (fun d hd => ?hr14)
    case hy14 => simp at ho; subst ho; refine Or.inl ⟨by rfl, ?_⟩; intro w hSw; go_simp; (try with_reducible rfl)
    case hq14 => simp at ho; subst ho; exact fun _ _ _ h => h
    simp at hd; subst hd
    (try simp only [Act.put, List.setIfInBounds_toArray, List.set_cons_zero, List.set_cons_succ])
    refine takeH (i := 15) (v := ?_) (by kernel_rfl) (by kernel_rfl) (by kernel_rfl) (fun o ho => ?hq15) (fun o ho => ?hy15) trivial (fun d hd => ?hr15)
    case hy15 => simp at ho; subst ho; refine Or.inl ⟨by rfl, ?_⟩; intro w hSw; go_simp; (try with_reducible rfl)
    case hq15 => simp at ho; subst ho; exact fun _ _ _ h => h
    simp at hd; subst hd
    (try simp only [Act.put, List.setIfInBounds_toArray, List.set_cons_zero, List.set_cons_succ])
    refine takeH (i := 16) (v := ?_) (by kernel_rfl) (by kernel_rfl) (by kernel_rfl) (fun o ho => ?hq16) (fun o ho => ?hy16) trivial (fun d hd => ?hr16)
    case hy16 => simp at ho; subst ho; refine Or.inl ⟨by rfl, ?_⟩; intro w hSw; go_simp; (try with_reducible rfl)
    case hq16 => simp at ho; subst ho; exact fun _ _ _ h => h
    simp at hd; subst hd
    (try simp only [Act.put, List.setIfInBounds_toArray, List.set_cons_zero, List.set_cons_succ])
    refine takeH (i := 17) (v := ?_) (by kernel_rfl) (by kernel_rfl) (by kernel_rfl) (fun o ho => ?hq17) (fun o ho => ?hy17) trivial (fun d hd => ?hr17)
    case hy17 => simp at ho; subst ho; refine Or.inl ⟨by rfl, ?_⟩; intro w hSw; go_simp; (try with_reducible rfl)
    case hq17 => simp at ho; subst ho; exact fun _ _ _ h => h
    simp at hd; subst hd
    (try simp only [Act.put, List.setIfInBounds_toArray, List.set_cons_zero, List.set_cons_succ])
    refine takeH (i := 18) (v := ?_) (by kernel_rfl) (by kernel_rfl) (by kernel_rfl) (fun o ho => ?hq18) (fun o ho => ?hy18) trivial (fun d hd => ?hr18)
    case hy18 => simp at ho; subst ho; refine Or.inl ⟨by rfl, ?_⟩; intro w hSw; go_simp; (try with_reducible rfl)
    case hq18 => simp at ho; subst ho; exact fun _ _ _ h => h
    simp at hd; subst hd
    (try simp only [Act.put, List.setIfInBounds_toArray, List.set_cons_zero, List.set_cons_succ])
    refine takeH (i := 19) (v := ?_) (by kernel_rfl) (by kernel_rfl) (by kernel_rfl) (fun o ho => ?hq19) (fun o ho => ?hy19) trivial (fun d hd => ?hr19)
    case hy19 => simp at ho; subst ho; refine Or.inl ⟨by rfl, ?_⟩; intro w hSw; go_simp; (try with_reducible rfl)
    case hq19 => simp at ho; subst ho; exact fun _ _ _ h => h
    simp at hd; subst hd
    (try simp only [Act.put, List.setIfInBounds_toArray, List.set_cons_zero, List.set_cons_succ])
    refine takeH (i := 20) (v := ?_) (by kernel_rfl) (by kernel_rfl) (by kernel_rfl) (fun o ho => ?hq20) (fun o ho => ?hy20) trivial (fun d hd => ?hr20)
    case hy20 => simp at ho; subst ho; refine Or.inl ⟨by rfl, ?_⟩; intro w hSw; go_simp; (try with_reducible rfl)
    case hq20 => simp at ho; subst ho; exact fun _ _ _ h => h
    simp at hd; subst hd
    (try simp only [Act.put, List.setIfInBounds_toArray, List.set_cons_zero, List.set_cons_succ])
    refine takeH (i := 21) (v := undef) (by kernel_rfl) (by kernel_rfl) (by kernel_rfl) (fun o ho => ?hq21) (fun o ho => ?hy21) trivial (fun d hd => ?hr21)
    case hy21 => simp at ho; subst ho; refine Or.inr ⟨by rfl, rfl⟩
    case hq21 => simp at ho; subst ho; exact fun _ _ _ h => h
    simp at hd; subst hd
    (try simp only [Act.put, List.setIfInBounds_toArray, List.set_cons_zero, List.set_cons_succ])
    refine takeH (i := 22) (v := undef) (by kernel_rfl) (by kernel_rfl) (by kernel_rfl) (fun o ho => ?hq22) (fun o ho => ?hy22) trivial (fun d hd => ?hr22)
    case hy22 => simp at ho; subst ho; refine Or.inr ⟨by rfl, rfl⟩
    case hq22 => simp at ho; subst ho; exact fun _ _ _ h => h
    simp at hd; subst hd
    (try simp only [Act.put, List.setIfInBounds_toArray, List.set_cons_zero, List.set_cons_succ])
    refine takeH (i := 23) (v := undef) (by kernel_rfl) (by kernel_rfl) (by kernel_rfl) (fun o ho => ?hq23) (fun o ho => ?hy23) trivial (fun d hd => ?hr23)
    case hy23 => simp at ho; subst ho; refine Or.inr ⟨by rfl, rfl⟩
    case hq23 => simp at ho; subst ho; exact fun _ _ _ h => h
    simp at hd; subst hd
    (try simp only [Act.put, List.setIfInBounds_toArray, List.set_cons_zero, List.set_cons_succ])
    refine takeH (i := 24) (v := undef) (by kernel_rfl) (by kernel_rfl) (by kernel_rfl) (fun o ho => ?hq24) (fun o ho => ?hy24) trivial (fun d hd => ?hr24)
    case hy24 => simp at ho; subst ho; refine Or.inr ⟨by rfl, rfl⟩
    case hq24 => simp at ho; subst ho; exact fun _ _ _ h => h
    simp at hd; subst hd
    (try simp only [Act.put, List.setIfInBounds_toArray, List.set_cons_zero, List.set_cons_succ])
    refine takeH (i := 25) (v := ?_) (by kernel_rfl) (by kernel_rfl) (by kernel_rfl) (fun o ho => ?hq25) (fun o ho => ?hy25) trivial (fun d hd => ?hr25)
    case hy25 => simp at ho; subst ho; refine Or.inl ⟨by rfl, ?_⟩; intro w hSw; go_simp; (try with_reducible rfl)
    case hq25 => simp at ho; subst ho; exact fun _ _ _ h => h
    simp at hd; subst hd
    (try simp only [Act.put, List.setIfInBounds_toArray, List.set_cons_zero, List.set_cons_succ])
    refine takeH (i := 26) (v := ?_) (by kernel_rfl) (by kernel_rfl) (by kernel_rfl) (fun o ho => ?hq26) (fun o ho => ?hy26) trivial (fun d hd => ?hr26)
    case hy26 => simp at ho; subst ho; refine Or.inl ⟨by rfl, ?_⟩; intro w hSw; go_simp; (try with_reducible rfl)
    case hq26 => simp at ho; subst ho; exact fun _ _ _ h => h
    simp at hd; subst hd
    (try simp only [Act.put, List.setIfInBounds_toArray, List.set_cons_zero, List.set_cons_succ])
    refine takeH (i := 27) (v := ?_) (by kernel_rfl) (by kernel_rfl) (by kernel_rfl) (fun o ho => ?hq27) (fun o ho => ?hy27) trivial (fun d hd => ?hr27)
    case hy27 => simp at ho; subst ho; refine Or.inl ⟨by rfl, ?_⟩; intro w hSw; go_simp; (try with_reducible rfl)
    case hq27 => simp at ho; subst ho; exact fun _ _ _ h => h
    simp at hd; subst hd
    (try simp only [Act.put, List.setIfInBounds_toArray, List.set_cons_zero, List.set_cons_succ])
    refine wpAnyH_ready (rs := [28]) (by kernel_rfl) (by simp) (consH (fun o ho K hK => ?_) AllReadyH.nil)
    simp at ho; subst ho
    go_simp
    go_at_call 15
    refine (shaLives_any _ (hw.below HB.out)).mono ?_; rintro e wS ⟨rfl, hbS⟩; (first | have hbT := drew_bel hbS | have hbT := hbS); have HB := Lib.hid (HB.out.trans (hbT.mono HB.out.size)); have HH := Lib.hid (HH.out.below hbT); have HBW := Lib.hid (below_then HBW.out hbT); clear hbS hbT
    refine hK.out _ _ trivial (fun _ => ?_)
    clear hK K
    (try simp only [Act.put, List.setIfInBounds_toArray, List.set_cons_zero, List.set_cons_succ])
    refine takeH (i := 29) (v := ?_) (by kernel_rfl) (by kernel_rfl) (by kernel_rfl) (fun o ho => ?hq29) (fun o ho => ?hy29) trivial (fun d hd => ?hr29)
    case hy29 => simp at ho; subst ho; refine Or.inl ⟨by rfl, ?_⟩; intro w hSw; go_simp; (try with_reducible rfl)
    case hq29 => simp at ho; subst ho; exact fun _ _ _ h => h
    simp at hd; subst hd
    (try simp only [Act.put, List.setIfInBounds_toArray, List.set_cons_zero, List.set_cons_succ])
    refine takeH (i := 30) (v := ?_) (by kernel_rfl) (by kernel_rfl) (by kernel_rfl) (fun o ho => ?hq30) (fun o ho => ?hy30) trivial (fun d hd => ?hr30)
    case hy30 => simp at ho; subst ho; refine Or.inl ⟨by rfl, ?_⟩; intro w hSw; go_simp; (try with_reducible rfl)
    case hq30 => simp at ho; subst ho; exact fun _ _ _ h => h
    simp at hd; subst hd
    (try simp only [Act.put, List.setIfInBounds_toArray, List.set_cons_zero, List.set_cons_succ])
    refine wpAnyH_done (by kernel_rfl) ?_ _
    go_wp2_with fail
    go_ret
    exact ⟨rfl, HB.out⟩
  · obtain rfl : n = 0 := by omega
    obtain rfl : b = [] := List.length_eq_zero_iff.1 HN.out
    rw [HS0.out] at heq
    have hS0e := HS0.out
    go_wp2_with fail
    go_region_held3 (fun w' => w'.rangeAt w2.heap.size 0 (bvs S0)) ((first | exact HLD.out _ HBW.out | exact HLD.out _ HBW.out.drew)) ((first
      | (go_at_call 19; with_reducible refine (sumNil_any _).mono ?_; rintro e wS ⟨rfl, hbS⟩; (first | have hbT := drew_bel hbS | have hbT := hbS); have HB := Lib.hid (HB.out.trans (hbT.mono HB.out.size)); have HH := Lib.hid (HH.out.below hbT); have HBW := Lib.hid (below_then HBW.out hbT); clear hbS hbT)
      | (go_at_call 20; with_reducible refine (lenNil_any _).mono ?_; rintro e wL ⟨rfl, rfl⟩)
      | (go_at_call 19; with_reducible refine (sumS _ _ _ HH.out (hw.below HB.out) HS0.out).mono ?_; rintro e wS ⟨rfl, hbS⟩; (first | have hbT := drew_bel hbS | have hbT := hbS); have HB := Lib.hid (HB.out.trans (hbT.mono HB.out.size)); have HH := Lib.hid (HH.out.below hbT); have HBW := Lib.hid (below_then HBW.out hbT); clear hbS hbT)
      | (go_at_call 12; with_reducible refine (ofS A c _ _ (HRB.out.below HB.out) (hw.below HB.out) HS0.out).mono ?_; rintro e wS ⟨rfl, hbS⟩; (first | have hbT := drew_bel hbS | have hbT := hbS); have HB := Lib.hid (HB.out.trans (hbT.mono HB.out.size)); have HH := Lib.hid (HH.out.below hbT); have HBW := Lib.hid (below_then HBW.out hbT); clear hbS hbT)
      | (go_at_call 15; with_reducible refine (shaLives_any _ (hw.below HB.out)).mono ?_; rintro e wS ⟨rfl, hbS⟩; (first | have hbT := drew_bel hbS | have hbT := hbS); have HB := Lib.hid (HB.out.trans (hbT.mono HB.out.size)); have HH := Lib.hid (HH.out.below hbT); have HBW := Lib.hid (below_then HBW.out hbT); clear hbS hbT)))
    go_wp2_with fail
    go_ret
    exact ⟨rfl, HB.out⟩
end Go.Proofs.YtnjkpoljcekjcaaDoor
