/- The contract of slot.Open. -/
import Derived.Test.YtckihiiimomgfaaDoorSlot3
namespace Go.Proofs.YtckihiiimomgfaaDoor
open Go.RowKit DiskMath
/-- what is known behind so many slots: number, last, data -/
def opAt (S : List Sector) (fr size : Nat) : Nat → Nat × Nat × List UInt8
  | 0 => (0, 1, [])
  | k + 1 => if (opAt S fr size k).1 < (SlotMath.has slDec S (fr + k * size) size).1 then ((SlotMath.has slDec S (fr + k * size) size).1, k, (SlotMath.has slDec S (fr + k * size) size).2) else opAt S fr size k
theorem opAt_two (S : List Sector) (fr size : Nat) : opAt S fr size 2 = SlotMath.opens slDec S fr size := by
  simp only [opAt, Nat.zero_mul, Nat.add_zero, Nat.one_mul]
  unfold SlotMath.opens
  generalize SlotMath.has slDec S fr size = x
  generalize SlotMath.has slDec S (fr + size) size = y
  by_cases h0 : 0 < x.1
  · rw [if_pos h0]
  · rw [if_neg h0]
    by_cases h1 : x.1 < y.1
    · have : 0 < y.1 := by omega
      simp [this, h1]
    · have : ¬ 0 < y.1 := by omega
      simp [this, h1]
/-- what Open answers -/
def OpsPost (p fr size ep : Nat) (r : Nat × Nat × List UInt8) (w : World) (e : Ending) (w' : World) : Prop :=
  ∃ v, e = .returned (.tuple #[.pointer (some ⟨w.heap.size, 0, none⟩), v, .int .i64 0]) ∧ SlotB w' w.heap.size p fr ⟨size, ep, 0, r.1, r.2.1, 0⟩ ∧ Own8 w' w.heap.size v r.2.2 ∧ Below w.heap.size w w'
def OsRel (w : World) (S : List Sector) (p fr size ep : Nat) (v i : Value) (wr : World) : Prop :=
  ∃ k : Nat, k ≤ 2 ∧ i = .int .i64 (k : Int) ∧ SlotB wr w.heap.size p fr ⟨size, ep, 0, (opAt S fr size k).1, (opAt S fr size k).2.1, 0⟩ ∧ Own8 wr w.heap.size v (opAt S fr size k).2.2 ∧ v.ownBlock ≠ some w.heap.size ∧ Below w.heap.size w wr
set_option maxRecDepth 100000 in
set_option maxHeartbeats 1000000 in
theorem slotOpen_yes (w : World) (F : Nat → Prop) (p fr size ep : Nat) (d : Dk) (hd : DiskAt w F p d) (ht : Halves w) (h1 : 1 ≤ size) (hf : fr + 2 * size ≤ d.fast.length) (hd16 : d.fast.length ≤ 20000) (hep : ep ≤ 4294967295) :
    Calls Tryd.prog 12 #[.pointer (some ⟨p, 0, none⟩), .int .i64 fr, .int .i64 size, .int .i64 ep] w (OpsPost p fr size ep (SlotMath.opens slDec (view d) fr size) w) := by
  have hrt := slotRight_yes w F p d fr size hd (by omega) ⟨by omega, by omega, by omega, by omega⟩
  have hhas : ∀ (w' : World) (k : Nat) (s : SlotMath.Sl), s.size = size → k ≤ 1 → Below w.heap.size w w' → SlotB w' w.heap.size p fr s → Calls Tryd.prog 43 #[.pointer (some ⟨w.heap.size, 0, none⟩), .int .i64 k] w' (HsPost (SlotMath.has slDec (view d) (fr + k * size) size) w') := fun w' k s hs hk hb hsb => by
    subst hs
    exact slotHas_any w' F w.heap.size p fr k s d hsb (hd.below hb) (ht.below hb) hk hf hd16
  obtain ⟨S, hS⟩ : ∃ S, view d = S := ⟨_, rfl⟩
  rw [hS] at hhas ⊢
  have HRT := Lib.hid hrt
  have HAS := Lib.hid hhas
  clear hd ht hS hf hd16 hrt hhas
  go_enter Tryd.func12, Tryd.ntmps12
  go_wp2_with fail
  refine HRT.out.mono ?_
  rintro e w' ⟨rfl, rfl⟩
  go_wp2_with fail
  go_loopw [13, 36] (fun v i wr => OsRel w S p fr size ep v i wr) (fun _ i _ => 2 - (intOf i).toNat)
  case atStart => exact ⟨0, by decide, rfl, ⟨heap_alloc_new w _⟩, Own8.nil _ _, by simp [Value.ownBlock], below_alloc _ _⟩
  case round =>
    obtain ⟨k, hk, rfl, hsb, ho, hne, hb⟩ := hrel
    obtain ⟨wo, rfl⟩ : ∃ wo : World, wo = wr := ⟨_, rfl⟩
    obtain ⟨Av, nv, cv, rfl, hnv, _, _⟩ := ho.shape'
    have HB := Lib.hid hb
    have HO := Lib.hid ho
    have HNE := Lib.hid hne
    have HSB := Lib.hid hsb
    have hsp := hsb.lt
    have hsz := hb.size
    by_cases hlt : k < 2
    · have hcall := HAS.out wo k _ rfl (by omega) hb hsb
      have hst : opAt S fr size (k + 1) = if (opAt S fr size k).1 < (SlotMath.has slDec S (fr + k * size) size).1 then ((SlotMath.has slDec S (fr + k * size) size).1, k, (SlotMath.has slDec S (fr + k * size) size).2) else opAt S fr size k := rfl
      obtain ⟨⟨n1, b1⟩, hh⟩ : ∃ x, SlotMath.has slDec S (fr + k * size) size = x := ⟨_, rfl⟩
      obtain ⟨⟨n0, l0, b0⟩, h0⟩ : ∃ x, opAt S fr size k = x := ⟨_, rfl⟩
      rw [hh] at hcall hst
      rw [h0] at hst hsb HSB HO
      simp only at hst HSB HO
      have HC := Lib.hid hcall
      have HST := Lib.hid hst
      clear hcall hst hh h0 hsb ho hne hb hnv
      go_wp2_with fail
      refine HC.out.mono ?_
      rintro e w2 ⟨v2, rfl, ho2, hb2⟩
      simp only at ho2
      obtain ⟨A2, m2, c2, rfl, hm2, _, _⟩ := ho2.shape'
      have hsb2 := HSB.out.below hb2
      obtain ⟨_, _, _, _, _, c5, c6, _, cf⟩ := hsb2.cells
      have f5 := cf 5
      have f6 := cf 6
      simp only at c5 c6
      have HSB2 := Lib.hid hsb2
      have HO2 := Lib.hid ho2
      have HOK := Lib.hid (HO.out.below hb2)
      have HB2 := Lib.hid (below_then HB.out hb2)
      have hs2 := hb2.size
      clear hsb2 ho2 hb2 cf hm2
      by_cases hgt : n0 < n1
      · have dg : decide (n0 < n1) = true := decide_eq_true hgt
        have HST2 := Lib.hid (show opAt S fr size (k + 1) = (n1, k, b1) from by rw [HST.out, if_pos hgt])
        clear hgt
        go_wp2_with fail
        go_roundw
        case rel =>
          have hk2 : Kept (fun x => x = w.heap.size) w2 ((w2.setCell ⟨w.heap.size, 5, none⟩ (.int .i64 (n1 : Int))).setCell ⟨w.heap.size, 6, none⟩ (.int .i64 (k : Int))) := ((Kept.refl (fun x => x = w.heap.size) w2).setCell (p := ⟨w.heap.size, 5, none⟩) (.inl rfl) _).setCell (p := ⟨w.heap.size, 6, none⟩) (.inl rfl) _
          refine ⟨k + 1, by omega, by go_num, ?_, ?_, fun h => ?_, (HB2.out.setCell (Nat.le_refl _) _).setCell (Nat.le_refl _) _⟩
          · rw [HST2.out]; exact (HSB2.out.setNumber _ n1 rfl).setLast _ k rfl
          · rw [HST2.out]; exact (HO2.out.base hsz).keep hk2 (fun x hx e => by have := (HO2.out.lt x hx).1; omega)
          · have := (HO2.out.lt _ h).1; omega
        case measure => simp [intOf]; omega
      · have dg : decide (n0 < n1) = false := decide_eq_false hgt
        have HST2 := Lib.hid (show opAt S fr size (k + 1) = (n0, l0, b0) from by rw [HST.out, if_neg hgt])
        clear hgt
        go_wp2_with fail
        go_roundw
        case rel =>
          refine ⟨k + 1, by omega, by go_num, ?_, ?_, HNE.out, HB2.out⟩
          · rw [HST2.out]; exact HSB2.out
          · rw [HST2.out]; exact HOK.out
        case measure => simp [intOf]; omega
    · obtain rfl : k = 2 := by omega
      have HR := Lib.hid (opAt_two S fr size)
      clear hsb ho hne hb hnv
      go_wp2_with fail
      go_ret3
      rw [← HR.out]
      exact ⟨_, rfl, HSB.out, HO.out, HB.out⟩
theorem slotOpen_no (w : World) (F : Nat → Prop) (p : Nat) (a sz ep : Int) (d : Dk) (hd : DiskAt w F p d) (hd16 : d.fast.length ≤ 65536) (h : ¬ (SlotsOk d.fast.length a sz ∧ 0 ≤ ep ∧ ep ≤ 4294967295)) (hsz : -9223372036854775808 ≤ sz ∧ sz ≤ 9223372036854775807) :
    Calls Tryd.prog 12 #[.pointer (some ⟨p, 0, none⟩), .int .i64 a, .int .i64 sz, .int .i64 ep] w fun e w' => e = .returned (.tuple #[.pointer none, .slice none 0 0, .int .i64 2]) ∧ w = w' := by
  by_cases h1 : SlotsOk d.fast.length a sz
  · have HR := Lib.hid (slotRight_yes w F p d a sz hd hd16 h1)
    have hx : ep < 0 ∨ (0 ≤ ep ∧ 4294967295 < ep) := by
      rcases Int.lt_or_le ep 0 with h2 | h2
      · exact .inl h2
      · rcases Int.lt_or_le 4294967295 ep with h3 | h3
        · exact .inr ⟨h2, h3⟩
        · exact absurd ⟨h1, h2, h3⟩ h
    clear h1 h hd
    rcases hx with h2 | ⟨h2, h3⟩
    all_goals
      go_enter Tryd.func12, Tryd.ntmps12
      go_wp2_with fail
      refine HR.out.mono ?_
      rintro e w' ⟨rfl, rfl⟩
      go_wp2_with fail
      go_ret3
      exact ⟨rfl, rfl⟩
  · have HR := Lib.hid (slotRight_no w F p d a sz hd hd16 h1 hsz)
    clear h1 h hd
    go_enter Tryd.func12, Tryd.ntmps12
    go_wp2_with fail
    refine HR.out.mono ?_
    rintro e w' ⟨rfl, rfl⟩
    go_wp2_with fail
    go_ret3
    exact ⟨rfl, rfl⟩
end Go.Proofs.YtckihiiimomgfaaDoor
