/- The walk that the slots' statements share: lives; slots that no call made; the walk of SlotNobody. -/
import Derived.Test.YtckihiiimomgfaaDoorSlot6
namespace Go.Proofs.YtckihiiimomgfaaDoor
open Go.RowKit DiskMath
theorem slEnc_one : slEnc 1 [7] = [1, 1, 7] := by
  unfold slEnc bytesOf
  rw [WireMath.put_small (by decide), show ([7] : List UInt8).length = 1 from rfl, WireMath.put_small (by decide)]
  rfl
def slv : SlotMath.Sl × Dk × Nat := SlotMath.save (fun _ _ => [1, 1, 7]) 0 ⟨2, 1, 0, 0, 1, 0⟩ (DiskMath.new 4) [7]
theorem slv_eq : SlotMath.save slEnc 0 ⟨2, 1, 0, 0, 1, 0⟩ (DiskMath.new 4) [7] = slv := by
  unfold slv SlotMath.save
  simp only [Nat.zero_add, slEnc_one]
theorem slv_ok : slv.2.2 = 0 := by decide +kernel
theorem slv_len : slv.2.1.fast.length = 4 := by decide +kernel
theorem slv_open : SlotMath.opens slDec (view slv.2.1) 0 2 = (1, 0, [7]) := by decide +kernel
theorem new_open : SlotMath.opens slDec (view (DiskMath.new 4)) 0 2 = (0, 1, []) := by decide +kernel
set_option maxHeartbeats 1000000 in
theorem slotLives_any (w : World) (ht : Halves w) : Calls Tryd.prog 21 #[] w fun e w' => e = .returned (.bool true) ∧ Below w.heap.size w w' := by
  have HT := Lib.hid ht
  have hth := ht.1
  clear ht
  go_enter Tryd.func21, Tryd.ntmps21
  go_wp2_with fail
  refine (diskNew_yes 4 w (by decide) (by decide)).mono ?_
  rintro e w1 ⟨rfl, hd1, hb1⟩
  have ho1 := slotOpen_yes w1 _ (w.heap.size + 2) 0 2 1 (DiskMath.new 4) hd1.lt (HT.out.below hb1) (by decide) (by decide) (by decide) (by decide)
  rw [new_open] at ho1
  have HO1 := Lib.hid ho1
  have HD1 := Lib.hid hd1.lt
  have HB1 := Lib.hid hb1
  have hs1 := hb1.size
  clear hd1 hb1 ho1
  go_wp2_with fail
  refine HO1.out.mono ?_
  rintro e w2 ⟨v2, rfl, hl2, hr2, hb2⟩
  obtain ⟨A2, n2, c2, rfl, _, _, _⟩ := hr2.shape'
  have HL2 := Lib.hid hl2
  have HB2 := Lib.hid hb2
  have HD2 := Lib.hid (HD1.out.below hb2)
  have hs2 := hb2.size
  clear hl2 hr2 hb2 HO1
  go_wp2_with fail
  have hb3 : Below w2.heap.size w2 (w2.alloc (.cells #[.int .u8 7] 5)) := below_alloc _ _
  have hap := slotSave_any (w2.alloc (.cells #[.int .u8 7] 5)) _ w1.heap.size (w.heap.size + 2) 0 ⟨2, 1, 0, 0, 1, 0⟩ (DiskMath.new 4) (some ⟨w2.heap.size, 0, none⟩) 1 [7] (HL2.out.below hb3) (HD2.out.below hb3) (HT.out.below (below_then HB1.out (below_then HB2.out hb3))) (fun h => by have := h.2; omega) (fun h => by have := h.1; omega) (by omega) (Bs.lit w2 [7] _ _ _ rfl) (by decide) (by decide) (by decide) (by decide) (by decide) (by decide) (by decide) (by decide)
  rw [slv_eq] at hap
  obtain ⟨lg, hlg⟩ : ∃ lg, slv = lg := ⟨_, rfl⟩
  have hk := slv_ok
  have hn := slv_len
  have hs := slv_open
  rw [hlg] at hap hk hn hs
  obtain ⟨lg1, d4, kd⟩ := lg
  simp only at hk hn hs
  subst hk
  have HAP := Lib.hid hap
  have HN := Lib.hid hn
  have HS := Lib.hid hs
  have HB3 := Lib.hid (below_then HB1.out (below_then HB2.out hb3))
  clear hap hn hs hb3 hlg
  refine HAP.out.mono ?_
  rintro e w4 ⟨rfl, hl4, hd4, hk4⟩
  have hb4 : Below w.heap.size w w4 := HB3.out.trans (hk4.below (B := w.heap.size) (fun x _ hx => by
    rcases hx with hx | hx
    · exact hx.1
    · omega) (by simp; omega))
  have ho4 := slotOpen_yes w4 _ (w.heap.size + 2) 0 2 2 d4 hd4 (HT.out.below hb4) (by decide) (by rw [HN.out]; decide) (by rw [HN.out]; decide) (by decide)
  rw [HS.out] at ho4
  have HO4 := Lib.hid ho4
  have HB4 := Lib.hid hb4
  have hs4 := hb4.size
  clear ho4 hb4 hk4 hl4 hd4 HAP
  go_wp2_with fail
  refine HO4.out.mono ?_
  rintro e w5 ⟨v5, rfl, hl5, hr5, hb5⟩
  have hr5' : Own8 w5 w4.heap.size v5 [7] := hr5
  obtain ⟨g5, cap5, rfl, hc5, hcl⟩ : ∃ g c, v5 = .slice (some ⟨g, 0, none⟩) 1 c ∧ 1 ≤ c ∧ w5.cell? ⟨g, 0, none⟩ = some (.int .u8 7) := by
    have hce : ∀ g, _ := fun g => World.ownsRow.cells (g := g) hr5'
    rcases hr5'.2 with ⟨_, h0⟩ | ⟨g, cap, cur, rfl, _, _, hn', _⟩
    · cases h0
    · have := hce g rfl 0 (.int .u8 7) rfl
      rw [Addr.add_lit] at this
      exact ⟨g, cap, rfl, hn', this⟩
  have HL5 := Lib.hid hl5
  have HB5 := Lib.hid (below_then HB4.out hb5)
  clear hb5 hr5 hr5' hl5 HO4
  go_wp2_with fail
  refine (slotNumber_any w5 _ _ _ _ HL5.out).mono ?_
  rintro e w' ⟨rfl, rfl⟩
  go_wp2_with fail
  go_ret
  exact ⟨rfl, HB5.out⟩
/-- no slots, or plain ones -/
def NoSlots (w : World) (v : Value) : Prop := v = .pointer none ∨ ∃ g, v = .pointer (some ⟨g, 0, none⟩) ∧ w.cell? ⟨g, 0, none⟩ = some (.pointer none)
theorem nsOk_any (w : World) (v : Value) (h : NoSlots w v) : Calls Tryd.prog 45 #[v] w fun e w' => e = .returned (.bool false) ∧ w = w' := by
  rcases h with rfl | ⟨g, rfl, hc⟩
  all_goals
    go_enter Tryd.func45, Tryd.ntmps45
    go_wp2_with fail
    go_ret
    exact ⟨rfl, rfl⟩
theorem nsNumber_any (w : World) (v : Value) (h : NoSlots w v) : Calls Tryd.prog 28 #[v] w fun e w' => e = .returned (.int .i64 0) ∧ w = w' := by
  have HH := Lib.hid h
  clear h
  go_enter Tryd.func28, Tryd.ntmps28
  go_wp2_with fail
  refine (nsOk_any w v HH.out).mono ?_
  rintro e w' ⟨rfl, rfl⟩
  go_wp2_with fail
  go_ret
  exact ⟨rfl, rfl⟩
theorem nsSave_any (w : World) (v : Value) (A : Option Addr) (n c : Nat) (h : NoSlots w v) : Calls Tryd.prog 16 #[v, .slice A n c] w fun e w' => e = .returned (.int .i64 1) ∧ w = w' := by
  have HH := Lib.hid h
  clear h
  go_enter Tryd.func16, Tryd.ntmps16
  go_wp2_with fail
  refine (nsOk_any w v HH.out).mono ?_
  rintro e w' ⟨rfl, rfl⟩
  go_wp2_with fail
  go_ret
  exact ⟨rfl, rfl⟩
theorem nsLen_any (w : World) : Calls Tryd.prog 69 #[.pointer none] w fun e w' => e = .returned (.int .i64 0) ∧ w = w' := by
  go_enter Tryd.func69, Tryd.ntmps69
  go_wp2_with fail
  go_ret
  exact ⟨rfl, rfl⟩
theorem nsRight_any (w : World) (a b : Int) : Calls Tryd.prog 42 #[.pointer none, .int .i64 a, .int .i64 b] w fun e w' => e = .returned (.int .i64 1) ∧ w = w' := by
  go_enter Tryd.func42, Tryd.ntmps42
  go_wp2_with fail
  refine (nsLen_any w).mono ?_
  rintro e w' ⟨rfl, rfl⟩
  go_wp2_with fail
  go_ret
  exact ⟨rfl, rfl⟩
theorem nsOpen_any (w : World) (a b c : Int) : Calls Tryd.prog 12 #[.pointer none, .int .i64 a, .int .i64 b, .int .i64 c] w fun e w' => e = .returned (.tuple #[.pointer none, .slice none 0 0, .int .i64 1]) ∧ w = w' := by
  go_enter Tryd.func12, Tryd.ntmps12
  go_wp2_with fail
  refine (nsRight_any w a b).mono ?_
  rintro e w' ⟨rfl, rfl⟩
  go_wp2_with fail
  go_ret3
  exact ⟨rfl, rfl⟩
set_option maxHeartbeats 1000000 in
theorem slotNobody_walk (A : Option Addr) (c : Nat) (b : List UInt8) (x y : Int) (w : World) (hc : b.length ≤ c) (hm : c ≤ maxLen) (ht : Halves w) :
    Calls Tryd.prog 9 #[.slice A b.length c, .int .i64 x, .int .i64 y] w fun e w' => e = .returned (.bool true) ∧ Below w.heap.size w w' := by
  have hcut := fun w' => cut_bs A c 40 b w' hc hm (by decide)
  obtain ⟨m, hm'⟩ : ∃ m, b.length = m := ⟨_, rfl⟩
  obtain ⟨m4, hm4⟩ : ∃ m4, (b.take 40).length = m4 := ⟨_, rfl⟩
  rw [hm', hm4] at hcut
  rw [hm']
  have HCUT := Lib.hid hcut
  have HT := Lib.hid ht
  have hnl : NoSlots (w.alloc (.cells #[.pointer none, .int .i64 0, .int .i64 0, .int .i64 0, .int .i64 0, .int .i64 0, .int .i64 0, .int .i64 0] 84)) (.pointer (some ⟨w.heap.size, 0, none⟩)) := .inr ⟨_, rfl, box_cell (Below.refl (w.heap.size + 1) _) (by omega) 0⟩
  have HNL := Lib.hid hnl
  have HB := Lib.hid (below_alloc w (.cells #[.pointer none, .int .i64 0, .int .i64 0, .int .i64 0, .int .i64 0, .int .i64 0, .int .i64 0, .int .i64 0] 84))
  clear hcut hm' hm4 ht hm hc hnl
  go_enter Tryd.func9, Tryd.ntmps9
  go_wp2_with fail
  refine (nsOpen_any _ x y 0).mono ?_
  rintro e w' ⟨rfl, rfl⟩
  go_wp2_with fail
  refine (HCUT.out _).mono ?_
  rintro e w' ⟨rfl, rfl⟩
  go_wp2_with fail
  refine (nsSave_any _ _ A m4 c (.inl rfl)).mono ?_
  rintro e w' ⟨rfl, rfl⟩
  go_wp2_with fail
  refine (HCUT.out _).mono ?_
  rintro e w' ⟨rfl, rfl⟩
  go_wp2_with fail
  refine (nsSave_any _ _ A m4 c HNL.out).mono ?_
  rintro e w' ⟨rfl, rfl⟩
  go_wp2_with fail
  refine (nsNumber_any _ _ (.inl rfl)).mono ?_
  rintro e w' ⟨rfl, rfl⟩
  go_wp2_with fail
  refine (nsNumber_any _ _ HNL.out).mono ?_
  rintro e w' ⟨rfl, rfl⟩
  go_wp2_with fail
  refine (slotLives_any _ (HT.out.below HB.out)).mono ?_
  rintro e w6 ⟨rfl, hb6⟩
  have HB6 := Lib.hid (below_then HB.out hb6)
  clear hb6
  go_wp2_with fail
  go_ret
  exact ⟨rfl, HB6.out⟩
end Go.Proofs.YtckihiiimomgfaaDoor
