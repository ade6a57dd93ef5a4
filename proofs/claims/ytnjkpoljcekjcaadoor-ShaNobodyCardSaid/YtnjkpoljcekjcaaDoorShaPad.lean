/- The contract of what stands behind a text. -/
import Derived.Test.YtnjkpoljcekjcaaDoorShaMath
import Derived.Test.YtnjkpoljcekjcaaDoorRow8
import Derived.Test.YtnjkpoljcekjcaaDoorZeros
import Derived.Deep.DeepCutAuto
namespace Go.Proofs.YtnjkpoljcekjcaaDoor
open Go.RowKit
def padTo (n z k : Nat) : List UInt8 := 128 :: (List.replicate z 0 ++ ((List.range k).map (fun i => UInt8.ofNat (n * 8 / 2 ^ (56 - 8 * i))) ++ List.replicate (8 - k) 0))
theorem padTo_length (n z k : Nat) (h : k ≤ 8) : (padTo n z k).length = 1 + z + 8 := by simp [padTo]; omega
theorem padTo_set (n z k : Nat) (h : k < 8) : (padTo n z k).set (1 + z + k) (UInt8.ofNat (n * 8 / 2 ^ (56 - 8 * k))) = padTo n z (k + 1) := by
  unfold padTo
  rw [show 1 + z + k = (z + k) + 1 by omega, List.set_cons_succ, List.set_append_right _ _ (by simp), List.length_replicate, show z + k - z = k by omega]
  rw [List.set_append_right _ _ (by simp), List.length_map, List.length_range, Nat.sub_self, show 8 - k = (8 - (k + 1)) + 1 by omega, List.replicate_succ, List.set_cons_zero, List.range_succ, List.map_append]
  simp
theorem padTo_all (n : Nat) : padTo n ((119 - n % 64) % 64) 8 = ShaMath.pad n := by simp [padTo, ShaMath.pad]
def PadRel (n z : Nat) (w : World) (i : Value) (wr : World) : Prop :=
  ∃ k : Nat, k ≤ 8 ∧ i = .int .i64 (k : Nat) ∧ Row8 wr w.heap.size 5 (padTo n z k) ∧ Below w.heap.size w wr
set_option maxHeartbeats 400000 in
theorem pad_any (n : Nat) (w : World) (hn : n ≤ 1000000) :
    Calls Tryd.prog 34 #[.int .i64 (n : Int)] w fun e w' => ∃ m, e = .returned (.slice (some ⟨w.heap.size, 0, none⟩) m m) ∧ (ShaMath.pad n).length = m ∧ Row8 w' w.heap.size 5 (ShaMath.pad n) ∧ Below w.heap.size w w' := by
  obtain ⟨i0, hi0, hz0, hz1, hz2⟩ := info_parts info_u8
  obtain ⟨z, hz⟩ : ∃ z, (119 - n % 64) % 64 = z := ⟨_, rfl⟩
  have hzl : z < 64 := by omega
  have hzi : ((119 : Int) - (n : Int) % 64) % 64 = (z : Int) := by omega
  obtain ⟨m, hm⟩ : ∃ m, 1 + z + 8 = m := ⟨_, rfl⟩
  have hmi : (1 : Int) + (z : Int) + 8 = (m : Int) := by omega
  have hmk : ∀ u : World, (Instr.makeSlice 22 (.int .i64 (m : Int)) (.int .i64 (m : Int))).run Tryd.prog u = .ok (.slice (some ⟨u.heap.size, 0, none⟩) m m) (u.alloc (.cells (bvs (List.replicate m 0)).toArray 5)) := by
    intro u
    have h := run_make (P := Tryd.prog) u 22 5 i0 (.int .u8 0) Tryd.underlying22 hi0 hz0 .i64 .i64 (m : Int) (m : Int) (by omega) (by omega) (by rw [hz2]; omega) (by omega)
    rw [h, hz1, Int.toNat_natCast, Nat.mul_one, made_u8]
  have HZ := Lib.hid hz
  have HM := Lib.hid hm
  clear hz hm
  go_enter Tryd.func34, Tryd.ntmps34
  go_upto_region 3 with (fail)
  have hr0 : Row8 (w.alloc (.cells (bvs (List.replicate m 0)).toArray 5)) w.heap.size 5 (List.replicate m 0) := heap_alloc_new w _
  have hb0 := below_alloc w (.cells (bvs (List.replicate m 0)).toArray 5)
  obtain ⟨w0, hw0⟩ : ∃ x : World, x = w.alloc (.cells (bvs (List.replicate m 0)).toArray 5) := ⟨_, rfl⟩
  rw [← hw0] at hr0 hb0 ⊢
  have c0 := hr0.cell 0 0 (by rw [List.getElem?_replicate]; simp; omega)
  have f0 := hr0.free 0
  have HR0 := Lib.hid hr0
  have HB0 := Lib.hid hb0
  clear hw0 hr0 hb0 hmk
  go_wp2_with fail
  go_loopw [16] (fun i wr => PadRel n z w i wr) (fun i _ => 8 - (intOf i).toNat)
  case atStart =>
    refine ⟨0, by decide, rfl, ?_, HB0.out.setCell (Nat.le_refl _) _⟩
    have := HR0.out.set 0 128 128 rfl
    rw [← HM.out, show 1 + z + 8 = (z + 8) + 1 by omega, List.replicate_succ, List.set_cons_zero, ← List.replicate_append_replicate] at this
    exact this
  case round =>
    clear HR0 HB0 c0 f0
    obtain ⟨k, hk, rfl, hr, hb⟩ := hrel
    have hlen := padTo_length n z k hk
    by_cases hlt : k < 8
    · obtain ⟨p, hp⟩ : ∃ p, 1 + z + k = p := ⟨_, rfl⟩
      obtain ⟨x, hx⟩ : ∃ x, wr.cell? ⟨w.heap.size, p, none⟩ = some x := ⟨_, hr.cell p _ (List.getElem?_eq_getElem (by omega))⟩
      have hf := hr.free p
      have hpm : p < m := by have := HM.out; omega
      have hpi : (1 : Int) + (z : Int) + (k : Int) = (p : Int) := by omega
      have HR := Lib.hid hr
      have HB := Lib.hid hb
      have HP := Lib.hid hp
      clear hr hb hlen hp
      go_wp2_with fail
      go_roundw
      case rel =>
        have e1 : ((n : Int) * 8 / 2 ^ (56 - 8 * k)) = ((n * 8 / 2 ^ (56 - 8 * k) : Nat) : Int) := by simp
        have e : (n : Int) * 8 / 2 ^ (56 - 8 * k) % 256 = ((UInt8.ofNat (n * 8 / 2 ^ (56 - 8 * k))).toNat : Int) := by
          rw [UInt8.toNat_ofNat', e1]
          omega
        refine ⟨k + 1, by omega, by go_num, ?_, HB.out.setCell (Nat.le_refl _) _⟩
        have := HR.out.set p _ _ e
        rw [← HP.out, padTo_set n z k hlt] at this
        rw [← HP.out]
        exact this
      case measure => simp [intOf]; omega
    · have hk8 : k = 8 := by omega
      have HR := Lib.hid hr
      have HB := Lib.hid hb
      have HK8 := Lib.hid hk8
      clear hr hb hlen hk8
      go_wp2_with fail
      go_ret
      refine ⟨m, rfl, ?_, ?_, HB.out⟩
      · have := HM.out
        have := HZ.out
        rw [ShaMath.pad_length]
        omega
      · rw [← padTo_all, HZ.out]
        have := HR.out
        rw [HK8.out] at this
        exact this
end Go.Proofs.YtnjkpoljcekjcaaDoor
