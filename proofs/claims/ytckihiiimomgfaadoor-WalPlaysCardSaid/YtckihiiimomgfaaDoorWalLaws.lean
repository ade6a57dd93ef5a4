/- The walk that the log's statements share: lives. -/
import Derived.Test.YtckihiiimomgfaaDoorWal6
import Derived.Test.YtckihiiimomgfaaDoorWal7
namespace Go.Proofs.YtckihiiimomgfaaDoor
open Go.RowKit DiskMath
def wlv : WalMath.Lg × Dk × Nat := WalMath.append ⟨4, 0, 1, 0, 0⟩ (DiskMath.new 4) [7]
theorem wlv_ok : wlv.2.2 = 0 := by decide +kernel
theorem wlv_len : wlv.2.1.fast.length = 4 := by decide +kernel
theorem wlv_says : WalMath.says (view wlv.2.1) 4 5 0 0 = ([[7]], 1, 1) := by decide +kernel
theorem new_says : WalMath.says (view (DiskMath.new 4)) 4 5 0 0 = ([], 0, 0) := by decide +kernel
set_option maxHeartbeats 1000000 in
theorem walLives_any (w : World) (ht : Halves w) : Calls Tryd.prog 37 #[] w fun e w' => e = .returned (.bool true) ∧ Below w.heap.size w w' := by
  have HT := Lib.hid ht
  have hth := ht.1
  clear ht
  go_enter Tryd.func37, Tryd.ntmps37
  go_wp2_with fail
  refine (diskNew_yes 4 w (by decide) (by decide)).mono ?_
  rintro e w1 ⟨rfl, hd1, hb1⟩
  have ho1 := walOpen_yes w1 _ (w.heap.size + 2) 0 4 1 0 5 (DiskMath.new 4) hd1.lt (HT.out.below hb1) (by decide) (by decide) (by decide) (by decide) (by decide) (by decide)
  rw [new_says] at ho1
  have HO1 := Lib.hid ho1
  have HD1 := Lib.hid hd1.lt
  have HB1 := Lib.hid hb1
  have hs1 := hb1.size
  clear hd1 hb1 ho1
  go_wp2_with fail
  refine HO1.out.mono ?_
  rintro e w2 ⟨v2, rfl, hl2, hr2, hb2⟩
  obtain ⟨A2, c2, rfl, _⟩ := hr2.shape
  simp only [List.length_nil] at hr2 ⊢
  have HL2 := Lib.hid hl2
  have HB2 := Lib.hid hb2
  have HD2 := Lib.hid (HD1.out.below hb2)
  have hs2 := hb2.size
  clear hl2 hr2 hb2 HO1
  go_wp2_with fail
  have hb3 : Below w2.heap.size w2 (w2.alloc (.cells #[.int .u8 7] 5)) := below_alloc _ _
  have hap := walAppend_any (w2.alloc (.cells #[.int .u8 7] 5)) _ w1.heap.size (w.heap.size + 2) 0 ⟨4, 0, 1, 0, 0⟩ (DiskMath.new 4) (some ⟨w2.heap.size, 0, none⟩) 1 [7] (HL2.out.below hb3) (HD2.out.below hb3) (HT.out.below (below_then HB1.out (below_then HB2.out hb3))) (fun h => by have := h.2; omega) (fun h => by have := h.1; omega) (by decide) (by decide) (Bs.lit w2 [7] _ _ _ rfl) (by decide) (by decide) (by decide) (by decide) (by decide) (by decide) (by decide)
  have hwl : WalMath.append ⟨4, 0, 1, 0, 0⟩ (DiskMath.new 4) [7] = wlv := rfl
  rw [hwl] at hap
  obtain ⟨lg, hlg⟩ : ∃ lg, wlv = lg := ⟨_, rfl⟩
  have hk := wlv_ok
  have hn := wlv_len
  have hs := wlv_says
  rw [hlg] at hap hk hn hs
  obtain ⟨lg1, d4, kd⟩ := lg
  simp only at hk hn hs
  subst hk
  have HAP := Lib.hid hap
  have HN := Lib.hid hn
  have HS := Lib.hid hs
  have HB3 := Lib.hid (below_then HB1.out (below_then HB2.out hb3))
  clear hap hwl hn hs hb3 hlg
  refine HAP.out.mono ?_
  rintro e w4 ⟨rfl, hl4, hd4, hk4⟩
  have hb4 : Below w.heap.size w w4 := HB3.out.trans (hk4.below (B := w.heap.size) (fun x _ hx => by
    rcases hx with hx | hx
    · exact hx.1
    · omega) (by simp; omega))
  have ho4 := walOpen_yes w4 _ (w.heap.size + 2) 0 4 2 0 5 d4 hd4 (HT.out.below hb4) (by decide) (by rw [HN.out]; decide) (by rw [HN.out]; decide) (by decide) (by decide) (by decide)
  rw [HS.out] at ho4
  have HO4 := Lib.hid ho4
  have HB4 := Lib.hid hb4
  have hs4 := hb4.size
  clear ho4 hb4 hk4 hl4 hd4 HAP
  go_wp2_with fail
  refine HO4.out.mono ?_
  rintro e w5 ⟨v5, rfl, hl5, hr5, hb5⟩
  obtain ⟨g5, c5, u5, rfl, hc5, hgl5, _, hcl, ho5, _⟩ := hr5.at_ (j := 0) (l := [7]) rfl
  obtain ⟨Au, cu, rfl, hcu, _⟩ := ho5.shape
  simp only [List.length_cons, List.length_nil, Nat.zero_add] at hcl hc5 ⊢
  have HB5 := Lib.hid (below_then HB4.out hb5)
  clear hb5 hr5 hl5 ho5 HO4
  go_wp2_with fail
  go_ret
  exact ⟨rfl, HB5.out⟩
end Go.Proofs.YtckihiiimomgfaaDoor
