/- The contract of the document's Newest. -/
import Derived.Test.YtckihiiimomgfaaDoorRefWal2
import Derived.Test.YtckihiiimomgfaaDoorGWal
namespace Go.Proofs.YtckihiiimomgfaaDoor
open Go.RowKit DiskMath
set_option maxRecDepth 100000 in
set_option maxHeartbeats 1000000 in
theorem refNewest_yes (w : World) (G : Nat → Prop) (p : Nat) (d : Dk) (c a b : Nat) (h : RDiskAt w G p d c) (h1 : a < b) (h2 : b ≤ d.fast.length) (h3 : d.fast.length ≤ 65536) :
    Calls Tryd.prog 27 #[.pointer (some ⟨p, 0, none⟩), .int .i64 a, .int .i64 b] w fun e w' => e = .returned (.tuple #[.int .i64 (nwst (view d) a (b - a) : Nat), .int .i64 0]) ∧ Below w.heap.size w w' := by
  have HD := Lib.hid h
  have HLen := Lib.hid h2
  have hrg : decide (RegionOk d.fast.length (a : Int) (b : Int)) = true := decide_eq_true ⟨by omega, by omega, by omega⟩
  have hri := refRight9_any w G p d c a b h
  rw [hrg] at hri
  have HRI := Lib.hid hri
  clear h hri hrg
  go_enter Tryd.func27, Tryd.ntmps27
  go_wp2_with fail
  refine HRI.out.mono ?_
  rintro e w' ⟨rfl, rfl⟩
  clear HRI
  go_wp2_with fail
  go_loopw [8, 9, 10] (fun n i _ wr => NwRel w (view d) a b n i wr) (fun _ i _ _ => b - (intOf i).toNat)
  case atStart => exact ⟨0, by omega, by go_num, by simp [nwst, WalMath.newest], Below.refl _ _⟩
  case round =>
    obtain ⟨k, hk, rfl, rfl, hb⟩ := hrel
    obtain ⟨wo, rfl⟩ : ∃ wo : World, wo = wr := ⟨_, rfl⟩
    have hsz := hb.size
    have HB := Lib.hid hb
    obtain ⟨i, hi⟩ : ∃ i, a + k = i := ⟨_, rfl⟩
    have HI := Lib.hid hi
    rw [hi] at hk ⊢
    have hnw := nwst_le (view d) a k
    obtain ⟨x, hx⟩ : ∃ x, nwst (view d) a k = x := ⟨_, rfl⟩
    rw [hx] at hnw ⊢
    have HX := Lib.hid hx
    clear hb hi hx
    by_cases hlt : i < b
    · go_wp2_with fail
      refine (refNow_any wo G p d c i (HD.out.below HB.out) (by have := HLen.out; omega)).mono ?_
      rintro e w1 ⟨v, s, rfl, hs, hsl, ho, hb1⟩
      obtain ⟨A1, n1, c1, rfl, hn1, hc1, _⟩ := ho.shape'
      obtain rfl : n1 = 64 := by omega
      have hmx : nwst (view d) a (k + 1) = max (max x (StampMath.ofBe (s.take 4))) (StampMath.ofBe ((s.drop 56).take 4)) := by
        rw [nwst_succ _ _ _ s (by rw [HI.out]; exact hs), HX.out]; rfl
      have hna := refNumber9_any A1 c1 64 s w1 hsl (by omega) (by omega) ho.bs
      obtain ⟨ad, rfl, -, -⟩ := ho.bs.at_ (k := 0) (by omega)
      have hd8 : ((s.drop 56).take 8).length = 8 := by simp; omega
      have hnb := refNumber9_any (some ⟨ad.block, ad.off + 56, none⟩) (c1 - 56) 8 ((s.drop 56).take 8) w1 hd8 (by omega) (by omega) (ho.bs.sub 56 8 (by decide))
      have e56 : (List.take 4 (List.take 8 (List.drop 56 s))) = (s.drop 56).take 4 := by rw [List.take_take]; rfl
      rw [e56] at hnb
      obtain ⟨y, hy⟩ : ∃ y, StampMath.ofBe (s.take 4) = y := ⟨_, rfl⟩
      obtain ⟨z, hz⟩ : ∃ z, StampMath.ofBe ((s.drop 56).take 4) = z := ⟨_, rfl⟩
      rw [hy] at hna hmx
      rw [hz] at hnb hmx
      have HNA := Lib.hid hna
      have HNB := Lib.hid hnb
      have HMX := Lib.hid hmx
      have hc56 : ¬ c1 = 56 := by omega
      have HB3' := Lib.hid (HB.out.trans (hb1.mono HB.out.size))
      clear hs hsl ho hb1 hmx hna hnb e56 hd8 hy hz hn1
      by_cases q1 : x < y
      · by_cases q2 : y < z
        · have t1 : decide ((x : Int) < (y : Int)) = true := decide_eq_true (by omega)
          have t2 : decide ((y : Int) < (z : Int)) = true := decide_eq_true (by omega)
          have HMQ := Lib.hid (show nwst (view d) a (k + 1) = z from by rw [HMX.out]; omega)
          go_wp2_with fail
          refine HNA.out.mono ?_
          rintro e w' ⟨rfl, rfl⟩
          go_wp2_with fail
          refine HNA.out.mono ?_
          rintro e w' ⟨rfl, rfl⟩
          go_wp2_with fail
          refine HNB.out.mono ?_
          rintro e w' ⟨rfl, rfl⟩
          go_wp2_with fail
          refine HNB.out.mono ?_
          rintro e w' ⟨rfl, rfl⟩
          go_wp2_with fail
          go_roundw
          case rel =>
            refine ⟨k + 1, by have := HI.out; omega, ?_, ?_, HB3'.out⟩
            · have := HI.out
              go_num
            · rw [HMQ.out]
          case measure => simp [intOf]; omega
        · skip
          have t1 : decide ((x : Int) < (y : Int)) = true := decide_eq_true (by omega)
          have t2 : decide ((y : Int) < (z : Int)) = false := decide_eq_false (by omega)
          have HMQ := Lib.hid (show nwst (view d) a (k + 1) = y from by rw [HMX.out]; omega)
          go_wp2_with fail
          refine HNA.out.mono ?_
          rintro e w' ⟨rfl, rfl⟩
          go_wp2_with fail
          refine HNA.out.mono ?_
          rintro e w' ⟨rfl, rfl⟩
          go_wp2_with fail
          refine HNB.out.mono ?_
          rintro e w' ⟨rfl, rfl⟩
          go_wp2_with fail
          go_roundw
          case rel =>
            refine ⟨k + 1, by have := HI.out; omega, ?_, ?_, HB3'.out⟩
            · have := HI.out
              go_num
            · rw [HMQ.out]
          case measure => simp [intOf]; omega
      · by_cases q2 : x < z
        · have t1 : decide ((x : Int) < (y : Int)) = false := decide_eq_false (by omega)
          have t2 : decide ((x : Int) < (z : Int)) = true := decide_eq_true (by omega)
          have HMQ := Lib.hid (show nwst (view d) a (k + 1) = z from by rw [HMX.out]; omega)
          go_wp2_with fail
          refine HNA.out.mono ?_
          rintro e w' ⟨rfl, rfl⟩
          go_wp2_with fail
          refine HNB.out.mono ?_
          rintro e w' ⟨rfl, rfl⟩
          go_wp2_with fail
          refine HNB.out.mono ?_
          rintro e w' ⟨rfl, rfl⟩
          go_wp2_with fail
          go_roundw
          case rel =>
            refine ⟨k + 1, by have := HI.out; omega, ?_, ?_, HB3'.out⟩
            · have := HI.out
              go_num
            · rw [HMQ.out]
          case measure => simp [intOf]; omega
        · skip
          have t1 : decide ((x : Int) < (y : Int)) = false := decide_eq_false (by omega)
          have t2 : decide ((x : Int) < (z : Int)) = false := decide_eq_false (by omega)
          have HMQ := Lib.hid (show nwst (view d) a (k + 1) = x from by rw [HMX.out]; omega)
          go_wp2_with fail
          refine HNA.out.mono ?_
          rintro e w' ⟨rfl, rfl⟩
          go_wp2_with fail
          refine HNB.out.mono ?_
          rintro e w' ⟨rfl, rfl⟩
          go_wp2_with fail
          go_roundw
          case rel =>
            refine ⟨k + 1, by have := HI.out; omega, ?_, ?_, HB3'.out⟩
            · have := HI.out
              go_num
            · rw [HMQ.out]
          case measure => simp [intOf]; omega
    · go_wp2_with fail
      go_ret2
      have hba : b - a = k := by have := HI.out; omega
      rw [hba, HX.out]
      exact ⟨rfl, HB.out⟩
theorem refNewest_no (w : World) (G : Nat → Prop) (p : Nat) (d : Dk) (c : Nat) (a b : Int) (h : RDiskAt w G p d c) (hr : ¬ RegionOk d.fast.length a b) :
    Calls Tryd.prog 27 #[.pointer (some ⟨p, 0, none⟩), .int .i64 a, .int .i64 b] w fun e w' => e = .returned (.tuple #[.int .i64 (-1), .int .i64 2]) ∧ w = w' := by
  have hri := refRight9_any w G p d c a b h
  rw [decide_eq_false hr] at hri
  have HRI := Lib.hid hri
  clear h hri hr
  go_enter Tryd.func27, Tryd.ntmps27
  go_wp2_with fail
  refine HRI.out.mono ?_
  rintro e w' ⟨rfl, rfl⟩
  clear HRI
  go_wp2_with fail
  go_ret2
  exact ⟨rfl, rfl⟩
end Go.Proofs.YtckihiiimomgfaaDoor
