/- The contracts of a text's sum, the program's and the document's. -/
import Derived.Test.YtnjkpoljcekjcaaDoorShaSum
import Derived.Test.YtnjkpoljcekjcaaDoorShaRef
import Derived.Test.YtnjkpoljcekjcaaDoorShaRefNext
namespace Go.Proofs.YtnjkpoljcekjcaaDoor
open Go.RowKit
theorem Bs.lt {w : World} {ad : Addr} {l : List UInt8} (h : Bs w (some ad) l) (hl : l ≠ []) : ad.block < w.heap.size := by
  cases l with
  | nil => exact absurd rfl hl
  | cons a l =>
    obtain ⟨ad', e, hb, _⟩ := h 0 a rfl
    injection e with e
    subst e
    exact hb
set_option maxHeartbeats 400000 in
theorem shaNew_any (w : World) : Calls Tryd.prog 16 #[] w fun e w' => e = .returned (.pointer (some ⟨w.heap.size, 0, none⟩)) ∧ HashAt w' (fun k => k = w.heap.size) w.heap.size [] ∧ Below w.heap.size w w' := by
  go_enter Tryd.func16, Tryd.ntmps16
  go_wp2_with fail
  go_ret
  exact ⟨rfl, hash_new w, below_alloc w _⟩
set_option maxRecDepth 100000 in
set_option maxHeartbeats 1000000 in
theorem shaOf_any (A : Option Addr) (n c : Nat) (l : List UInt8) (w : World) (hn : l.length = n) (hl : n ≤ 100000) (hr : Bs w A l) (hw : Words w) :
    Calls Tryd.prog 12 #[.slice A n c] w fun e w' => e = .returned (.agg (bvs (ShaMath.sha l)).toArray) ∧ Below w.heap.size w w' := by
  subst hn
  go_enter Tryd.func12, Tryd.ntmps12
  go_wp2_with fail
  have hz0 : Row8 (w.alloc (.cells (bvs zero32).toArray 26)) w.heap.size 26 zero32 := heap_alloc_new w _
  have hb0 := below_alloc w (.cells (bvs zero32).toArray 26)
  have hs0 : (w.alloc (.cells (bvs zero32).toArray 26)).heap.size = w.heap.size + 1 := by simp
  obtain ⟨w0, hw0⟩ : ∃ x : World, x = w.alloc (.cells (bvs zero32).toArray 26) := ⟨_, rfl⟩
  have hw0' : w.alloc (.cells #[.int .u8 0, .int .u8 0, .int .u8 0, .int .u8 0, .int .u8 0, .int .u8 0, .int .u8 0, .int .u8 0, .int .u8 0, .int .u8 0, .int .u8 0, .int .u8 0, .int .u8 0, .int .u8 0, .int .u8 0, .int .u8 0, .int .u8 0, .int .u8 0, .int .u8 0, .int .u8 0, .int .u8 0, .int .u8 0, .int .u8 0, .int .u8 0, .int .u8 0, .int .u8 0, .int .u8 0, .int .u8 0, .int .u8 0, .int .u8 0, .int .u8 0, .int .u8 0] 26) = w0 := hw0.symm
  rw [hw0']
  rw [← hw0] at hz0 hb0 hs0
  have HZ := Lib.hid hz0
  have HB := Lib.hid hb0
  have HS := Lib.hid hs0
  clear hw0 hw0' hz0 hb0 hs0
  refine (shaNew_any w0).mono ?_
  rintro e w1 ⟨rfl, hh, hb1⟩
  have HH := Lib.hid hh
  have HB1 := Lib.hid hb1
  clear hh hb1
  go_wp2_with fail
  refine (write_any w1 (fun k => k = w0.heap.size) w0.heap.size c A [] l HH.out ((hr.below HB.out).below HB1.out) (by simp; omega) ((hw.below HB.out).below HB1.out) ?_ ?_).mono ?_
  · have := hw.1
    have := HS.out
    intro h; omega
  · intro ad hA hne h
    subst hA
    have := hr.lt hne
    have := HS.out
    omega
  rintro e w2 ⟨rfl, hk2, F2, hh2, hF2⟩
  have hw2 : Words w2 := ((hw.below HB.out).below HB1.out).keep hk2 (by have := hw.1; have := HS.out; intro h; omega)
  have hz2 : Row8 w2 w.heap.size 26 zero32 := (HZ.out.below HB1.out).keep hk2 (by have := HS.out; intro h; omega)
  have hb2 : Below w.heap.size w w2 := (below_then HB.out HB1.out).trans (hk2.below (B := w.heap.size) (fun k _ hk => by have := HS.out; omega) (below_then HB.out HB1.out).size)
  rw [List.nil_append] at hh2
  have HH2 := Lib.hid hh2
  have HZ2 := Lib.hid hz2
  have HB2 := Lib.hid hb2
  have HW2 := Lib.hid hw2
  clear hk2 hh2 hF2 hw2 hz2 hb2 HB HB1 HZ HH
  go_wp2_with fail
  refine (sum_any w2 F2 w0.heap.size l HH2.out (by omega) HW2.out).mono ?_
  rintro e w3 ⟨rfl, hb3⟩
  obtain ⟨m, hm⟩ : ∃ m, ShaMath.sha l = m := ⟨_, rfl⟩
  rw [hm]
  have hml : m.length = 32 := by rw [← hm]; exact ShaMath.sha_length l
  have hz3 := HZ2.out.below hb3
  have hfin := hz3.store (m := m) (by rw [hml]; rfl)
  have hsz : (bvs m).toArray.size = 32 := by rw [List.size_toArray, bvs_length, hml]
  have hi32 := info_sum
  rw [← hsz] at hi32
  have hth : w3.there w.heap.size 0 (bvs m).toArray.size := by
    rw [hsz]
    exact hz3.there
  have HM := Lib.hid hm
  have HF := Lib.hid hfin
  have HT := Lib.hid hth
  have HI := Lib.hid hi32
  have QB := Lib.hid (below_then HB2.out hb3)
  have HO := Lib.hid (all_oneCell_toArray (bvs_one m))
  clear hm hfin hml hsz hi32 hth hz3 hb3 HZ2 HB2 HH2
  go_wp2_with (refine wpList_store_mid rfl 26 (.tmp 2) (.tmp 9) rfl w.heap.size 0 (bvs m).toArray rfl rfl HT.out HI.out HO.out ?_)
  refine bodyPost_ret (v := .agg (bvs m).toArray) (results_cell_row rfl _ _ w.heap.size 26 (bvs m).toArray (0, 0) _ rfl HF.out Tryd.underlying26 rfl HI.out) rfl ⟨by rw [HM.out], Below.setCells (Nat.le_refl _) _ _ _ QB.out⟩
theorem Own8.sub {w : World} {base n c : Nat} {A : Option Addr} {l : List UInt8} (h : Own8 w base (.slice A n c) l) (hl : 0 < l.length) : ∃ g, A = some ⟨g, 0, none⟩ ∧ base ≤ g ∧ g < w.heap.size ∧ ∀ q m, Bs w (some ⟨g, q, none⟩) ((l.drop q).take m) := by
  have hce : ∀ g, _ := fun g => World.ownsRow.cells h (g := g)
  rcases h.2 with ⟨h1, h0⟩ | ⟨g, cap, cur, e, hb, hg, hn, _⟩
  · omega
  · injection e with e1 e2 e3
    subst e1
    refine ⟨g, rfl, hb, heap_lt hg, fun q m j c hj => ⟨_, rfl, heap_lt hg, ?_⟩⟩
    have hjm : j < m := by
      rcases Nat.lt_or_ge j m with h1 | h1
      · exact h1
      · rw [List.getElem?_eq_none (by simp; omega)] at hj; cases hj
    rw [List.getElem?_take_of_lt hjm, List.getElem?_drop] at hj
    have := hce g rfl (q + j) _ (bvs_get l _ c hj)
    rw [Addr.add_lit, Nat.zero_add] at this
    rwa [Addr.add_lit]
theorem out_at (s : ShaMath.St) (i : Nat) (h : i < 32) : (ShaMath.out s)[i]? = some (UInt8.ofNat ((stl s).getD (i / 4) 0 / 2 ^ (24 - 8 * (i % 4)))) := by
  have hc : i = 0 ∨ i = 1 ∨ i = 2 ∨ i = 3 ∨ i = 4 ∨ i = 5 ∨ i = 6 ∨ i = 7 ∨ i = 8 ∨ i = 9 ∨ i = 10 ∨ i = 11 ∨ i = 12 ∨ i = 13 ∨ i = 14 ∨ i = 15 ∨ i = 16 ∨ i = 17 ∨ i = 18 ∨ i = 19 ∨ i = 20 ∨ i = 21 ∨ i = 22 ∨ i = 23 ∨ i = 24 ∨ i = 25 ∨ i = 26 ∨ i = 27 ∨ i = 28 ∨ i = 29 ∨ i = 30 ∨ i = 31 := by omega
  unfold ShaMath.out ShaMath.wordOut stl
  rcases hc with rfl | rfl | rfl | rfl | rfl | rfl | rfl | rfl | rfl | rfl | rfl | rfl | rfl | rfl | rfl | rfl | rfl | rfl | rfl | rfl | rfl | rfl | rfl | rfl | rfl | rfl | rfl | rfl | rfl | rfl | rfl | rfl <;> simp
def outUp (s : ShaMath.St) (k : Nat) : List UInt8 := (ShaMath.out s).take k ++ List.replicate (32 - k) 0
theorem outUp_length (s : ShaMath.St) (k : Nat) (h : k ≤ 32) : (outUp s k).length = 32 := by
  unfold outUp
  rw [List.length_append, List.length_take, ShaMath.out_length, List.length_replicate]
  omega
theorem outUp_set (s : ShaMath.St) (k : Nat) (h : k < 32) : (outUp s k).set k (UInt8.ofNat ((stl s).getD (k / 4) 0 / 2 ^ (24 - 8 * (k % 4)))) = outUp s (k + 1) := by
  have hk := out_at s k h
  have hl := ShaMath.out_length s
  unfold outUp
  rw [List.set_append_right _ _ (by rw [List.length_take]; omega), List.length_take, hl, show k - min k 32 = 0 by omega, show 32 - k = (32 - (k + 1)) + 1 by omega, List.replicate_succ, List.set_cons_zero]
  rw [List.take_succ_eq_append_getElem (by omega), List.append_assoc]
  rw [List.getElem?_eq_getElem (by omega)] at hk
  injection hk with hk
  rw [hk]; rfl
def OfRel (all : List UInt8) (v : Value) (base : Nat) (w : World) (o i : Value) (wr : World) : Prop :=
  ∃ j q g : Nat, q = 64 * j ∧ q ≤ all.length ∧ i = .int .i64 (q : Nat) ∧ o = .slice (some ⟨g, 0, none⟩) 8 8 ∧ Us wr (some ⟨g, 0, none⟩) (stl (ShaMath.bk all j)) ∧ Own8 wr base v all ∧ Row8 wr w.heap.size 25 zero32 ∧ Below w.heap.size w wr
def OutRel (s : ShaMath.St) (g g6 : Nat) (w : World) (i : Value) (wr : World) : Prop :=
  ∃ k : Nat, k ≤ 32 ∧ i = .int .i64 (k : Nat) ∧ Us wr (some ⟨g, 0, none⟩) (stl s) ∧ Row8 wr g6 25 (outUp s k) ∧ Row8 wr w.heap.size 25 zero32 ∧ Below w.heap.size w wr
theorem info_32 : (Tryd.prog.info? 25).map (·.size) = some 32 := by kernel_rfl
set_option maxRecDepth 100000 in
set_option maxHeartbeats 1000000 in
theorem refOf_any (A : Option Addr) (n c : Nat) (l : List UInt8) (w : World) (hn : l.length = n) (hl : n ≤ 90000) (hr : Bs w A l) :
    Calls Tryd.prog 13 #[.slice A n c] w fun e w' => e = .returned (.agg (bvs (ShaMath.sha l)).toArray) ∧ Below w.heap.size w w' := by
  have HN := Lib.hid hn
  clear hn
  go_enter Tryd.func13, Tryd.ntmps13
  go_wp2_with fail
  have hz0 : Row8 ((w.alloc (.cells (bvs zero32).toArray 25)).alloc (.cells (uvs (stl ShaMath.first)).toArray 42)) w.heap.size 25 zero32 := (alloc2 w _ _).2
  have hf0 : Row32 ((w.alloc (.cells (bvs zero32).toArray 25)).alloc (.cells (uvs (stl ShaMath.first)).toArray 42)) (w.heap.size + 1) 42 (stl ShaMath.first) := (alloc2 w _ _).1
  have hb0 : Below w.heap.size w ((w.alloc (.cells (bvs zero32).toArray 25)).alloc (.cells (uvs (stl ShaMath.first)).toArray 42)) := ((Below.refl _ _).alloc (Nat.le_refl _) _).alloc (by simp) _
  have hs0 : ((w.alloc (.cells (bvs zero32).toArray 25)).alloc (.cells (uvs (stl ShaMath.first)).toArray 42)).heap.size = w.heap.size + 2 := by simp
  refine (refPad_any A n c l _ HN.out (by omega) (hr.below hb0)).mono ?_
  rintro e w1 ⟨v1, rfl, ho1, hb1⟩
  obtain ⟨A1, m1, c1, rfl, hm1, hc1, hcm1⟩ := ho1.shape'
  have hpl := ShaMath.pad_length n
  have hpd := ShaMath.padded n
  have hml : m1 = n + (ShaMath.pad n).length := by rw [← hm1, List.length_append, HN.out]
  have hsha : ShaMath.out (ShaMath.bk (l ++ ShaMath.pad n) (m1 / 64)) = ShaMath.sha l := by rw [← hm1, ← HN.out]; rfl
  obtain ⟨all, hall⟩ : ∃ all, l ++ ShaMath.pad n = all := ⟨_, rfl⟩
  rw [hall] at hm1 ho1 hsha
  have ho1' : Own8 w1 (w.heap.size + 2) (.slice A1 m1 c1) all := by rw [hs0] at ho1; exact ho1
  have h64 : m1 % 64 = 0 := by rw [hml]; exact hpd
  have hm100 : m1 ≤ 100000 := by omega
  have hus : Us w1 (some ⟨w.heap.size + 1, 0, none⟩) (stl (ShaMath.bk all 0)) := (Us.of_row hf0).below hb1
  have HZ := Lib.hid (hz0.below hb1)
  have HU := Lib.hid hus
  have HB := Lib.hid (below_then hb0 hb1)
  have HO := Lib.hid ho1'
  have HM := Lib.hid hm1
  have HSHA := Lib.hid hsha
  have H64 := Lib.hid h64
  clear hz0 hf0 hb0 hs0 ho1 ho1' hb1 hpl hpd hml hsha hall h64 hm1 hus
  go_wp2_with fail
  go_loopw [3, 5] (fun o i wr => OfRel all (.slice A1 m1 c1) (w.heap.size + 2) w o i wr) (fun _ i _ => m1 - (intOf i).toNat)
  case atStart => exact ⟨0, 0, w.heap.size + 1, rfl, Nat.zero_le _, rfl, rfl, HU.out, HO.out, HZ.out, HB.out⟩
  case round =>
    clear HU HO HZ HB
    obtain ⟨j, q, g, hq, hql, rfl, rfl, hu, ho, hz, hb⟩ := hrel
    rw [HM.out] at hql
    have HQ := Lib.hid hq
    have HU := Lib.hid hu
    have HO := Lib.hid ho
    have HZ := Lib.hid hz
    have HB := Lib.hid hb
    by_cases hlt : q < m1
    · have h64 := H64.out
      have hq64 : q + 64 ≤ m1 := by omega
      obtain ⟨g4, rfl, hg4, hg4s, hsub⟩ := ho.sub (by have := HM.out; omega)
      have hne : ¬ c1 = q := by omega
      have hbs := hsub q 64
      have hst := ShaMath.bk_lt all j
      have hnx : ShaMath.next (ShaMath.bk all j) ((all.drop q).take 64) = ShaMath.bk all (j + 1) := by
        rw [ShaMath.next_take, hq]; rfl
      have hl64 : ((all.drop q).take 64).length = 64 := by have := HM.out; simp; omega
      have HBS := Lib.hid hbs
      have HNX := Lib.hid hnx
      have HL64 := Lib.hid hl64
      clear hq hu ho hz hb hbs hnx hl64 hsub h64
      go_wp2_with (go_at_call 31; refine (refNext_any (ShaMath.bk all j) (some ⟨g, 0, none⟩) (some ⟨g4, q, none⟩) 8 64 _ ((all.drop q).take 64) wr hst HL64.out (Nat.le_refl _) (by decide) HU.out HBS.out (Nat.le_refl _)).mono ?_; rintro e w2 ⟨g2, rfl, hr2, hb2⟩; have HR2 := Lib.hid hr2; have HB2 := Lib.hid hb2; clear hr2 hb2)
      go_roundw
      case rel =>
        have hr2 := HR2.out
        rw [HNX.out] at hr2
        exact ⟨j + 1, q + 64, g2, by have := HQ.out; omega, by rw [HM.out]; exact hq64, by go_num, rfl, Us.of_row hr2, HO.out.below HB2.out, HZ.out.below HB2.out, below_then HB.out HB2.out⟩
      case measure => simp [intOf]; omega
    · have hqm : q = m1 := by omega
      have hj : j = m1 / 64 := by have := H64.out; omega
      rw [hj] at hu
      have hsh := HSHA.out
      have hst := ShaMath.bk_lt all (m1 / 64)
      obtain ⟨s, hs⟩ : ∃ s, ShaMath.bk all (m1 / 64) = s := ⟨_, rfl⟩
      rw [hs] at hu hsh hst
      have HSH := Lib.hid hsh
      have HU := Lib.hid hu
      obtain ⟨wo, hwo⟩ : ∃ x : World, x = wr := ⟨_, rfl⟩
      rw [← hwo] at HU HZ HB ⊢
      clear hq hu ho hz hb hs hsh hj hwo HO HQ HSHA
      go_wp2_with fail
      have hwsz := HB.out.size
      go_loopw [7] (fun i wr => OutRel s g wo.heap.size w i wr) (fun i _ => 32 - (intOf i).toNat)
      case atStart =>
        exact ⟨0, Nat.zero_le _, rfl, HU.out.below (below_alloc _ _), heap_alloc_new wo (.cells (bvs zero32).toArray 25), HZ.out.below (below_alloc _ _), HB.out.alloc HB.out.size _⟩
      case round =>
        have hbo := HB.out.size
        have hwlt := heap_lt HZ.out
        have HUO := HU
        clear HU HZ HB
        obtain ⟨k, hk, rfl, hu, hr6, hz, hb⟩ := hrel
        have hlen := outUp_length s k hk
        have HU := Lib.hid hu
        have HR6 := Lib.hid hr6
        have HZ := Lib.hid hz
        have HB := Lib.hid hb
        have HLEN := Lib.hid hlen
        by_cases hlt2 : k < 32
        · obtain ⟨g', eg, hgs, hcell⟩ := hu
          injection eg with eg
          injection eg with eg
          subst eg
          have hset := outUp_set s k hlt2
          have hx := hcell (k / 4) (by simp [stl]; omega)
          have hxl := stl_lt s hst (k / 4)
          obtain ⟨x, hxe⟩ : ∃ x, (stl s).getD (k / 4) 0 = x := ⟨_, rfl⟩
          rw [hxe] at hset hx hxl
          obtain ⟨p, hp⟩ : ∃ p, k / 4 = p := ⟨_, rfl⟩
          obtain ⟨sh, hsh⟩ : ∃ sh, 24 - 8 * (k % 4) = sh := ⟨_, rfl⟩
          rw [hsh] at hset
          rw [hp] at hx
          have hpi : (k : Int) / 4 = (p : Int) := by omega
          have hsi : (24 : Int) - 8 * ((k : Int) % 4) = (sh : Int) := by omega
          have hp8 : p < 8 := by omega
          have hp8i : (p : Int) < 8 := by omega
          have hs25 : sh < 32 := by omega
          have hkl : (k : Int) < 32 := by omega
          have HSET := Lib.hid hset
          clear hp hsh hset hxe hr6 hz hb hlen
          go_wp2_with (refine wpList_store_byte rfl (.tmp 41) (.tmp 40) rfl wo.heap.size k 25 (outUp s k) _ (UInt8.ofNat (x / 2 ^ sh)) rfl rfl ?_ HR6.out ?_ ?_; (rw [UInt8.toNat_ofNat', show ((x : Int) / 2 ^ sh) = ((x / 2 ^ sh : Nat) : Int) by simp]; omega); (rw [HLEN.out]; omega); intro w1 r1 k1 s1; have HR1 := Lib.hid r1; have HK1 := Lib.hid k1; have HS1 := Lib.hid s1; clear r1 k1 s1)
          go_roundw
          case rel =>
            have hu2 : Us w1 (some ⟨g, 0, none⟩) (stl s) := by
              obtain ⟨g2, e2, h2, h3⟩ := HU.out
              exact ⟨g2, e2, by rw [HS1.out]; exact h2, fun j hj => (HK1.out.cell (p := ⟨g2, j, none⟩) h2 (by obtain ⟨g3, e3, h4, _⟩ := HUO.out; injection e2 with e2; injection e2 with e2; injection e3 with e3; injection e3 with e3; show ¬ g2 = wo.heap.size; omega)).trans (h3 j hj)⟩
            have hr := HR1.out
            rw [HSET.out] at hr
            exact ⟨k + 1, by omega, by go_num, hu2, hr, HZ.out.keep HK1.out (by omega), HB.out.trans (HK1.out.below (B := w.heap.size) (fun k _ hk => by omega) HB.out.size)⟩
          case measure => simp [intOf]; omega
        · obtain rfl : k = 32 := by omega
          have e32 : outUp s 32 = ShaMath.sha l := by rw [← HSH.out]; simp [outUp, List.take_of_length_le (show (ShaMath.out s).length ≤ 32 by rw [ShaMath.out_length]; omega)]
          rw [e32] at hr6
          obtain ⟨m, hm⟩ : ∃ m, ShaMath.sha l = m := ⟨_, rfl⟩
          rw [hm] at hr6
          have hml : m.length = 32 := by rw [← hm]; exact ShaMath.sha_length l
          have hfin := hz.store (m := m) (by rw [hml]; rfl)
          have hsz : (bvs m).toArray.size = 32 := by rw [List.size_toArray, bvs_length, hml]
          have hi32 := info_32
          rw [← hsz] at hi32
          have hth : wr.there w.heap.size 0 (bvs m).toArray.size := by
            rw [hsz]
            exact hz.there
          have HM := Lib.hid hm
          have HF := Lib.hid hfin
          have HT := Lib.hid hth
          have HI := Lib.hid hi32
          have Q1 := Lib.hid hr6
          have HO := Lib.hid (all_oneCell_toArray (bvs_one m))
          clear hm hr6 hz hb hfin hml hsz hi32 hth e32 hlen hu HU HR6 HZ HLEN
          go_wp2_with (first
            | refine wpList_load_row rfl 25 (.tmp 6) rfl wo.heap.size rfl 25 (bvs m).toArray (0, 0) _ Q1.out Tryd.underlying25 rfl HI.out ?_
            | refine wpList_store_mid rfl 25 (.tmp 2) (.tmp 42) rfl w.heap.size 0 (bvs m).toArray rfl rfl HT.out HI.out HO.out ?_)
          refine bodyPost_ret (v := .agg (bvs m).toArray) (results_cell_row rfl _ _ w.heap.size 25 (bvs m).toArray (0, 0) _ rfl HF.out Tryd.underlying25 rfl HI.out) rfl ⟨by rw [HM.out], Below.setCells (Nat.le_refl _) _ _ _ HB.out⟩
end Go.Proofs.YtnjkpoljcekjcaaDoor
