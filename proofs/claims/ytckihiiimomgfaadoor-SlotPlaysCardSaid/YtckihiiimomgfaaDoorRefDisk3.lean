/- The contracts of the document's disk: New, Write. -/
import Derived.Test.YtckihiiimomgfaaDoorRefDisk2
namespace Go.Proofs.YtckihiiimomgfaaDoor
open Go.RowKit DiskMath
theorem hmk64 (u : World) : (Instr.makeSlice 29 (.int .i64 64) (.int .i64 64)).run Tryd.prog u = .ok (.slice (some ⟨u.heap.size, 0, none⟩) 64 64) (u.alloc (.cells (bvs StampMath.zeros).toArray 5)) := by
  obtain ⟨i0, hi0, hz0, hz1, hz2⟩ := info_parts info_u8
  have h := run_make (P := Tryd.prog) u 29 5 i0 (.int .u8 0) Tryd.underlying29 hi0 hz0 .i64 .i64 64 64 (by omega) (by omega) (by rw [hz2]; decide) (by omega)
  rw [h, hz1]
  have e : madeCells (Value.int .u8 0).cells ((64 : Int).toNat * 1) = (bvs StampMath.zeros).toArray := made_u8 64
  rw [e]
  rfl
theorem own_zeros (w : World) : Own8 (w.alloc (.cells (bvs StampMath.zeros).toArray 5)) 0 (.slice (some ⟨w.heap.size, 0, none⟩) 64 64) StampMath.zeros := by
  have h : Row8 (w.alloc (.cells (bvs StampMath.zeros).toArray 5)) w.heap.size 5 StampMath.zeros := heap_alloc_new w _
  exact h.own 0 64 (Nat.zero_le _) rfl (by decide)
def RNewRel (w : World) (n : Nat) (i : Value) (wr : World) : Prop :=
  ∃ (k : Nat) (vf : Value), i = .int .i64 (k : Int) ∧ k ≤ n ∧ wr.heap[w.heap.size]? = some (.cells #[vf, .slice none 0 0, .bool false, .int .i64 0, .bool false] 61 (0, 0)) ∧ Rows8 wr (fun g => w.heap.size ≤ g) vf (List.replicate k StampMath.zeros) ∧ Below w.heap.size w wr
set_option maxHeartbeats 1000000 in
theorem refNew_yes (n : Nat) (w : World) (h1 : 1 ≤ n) (h2 : n ≤ 65536) :
    Calls Tryd.prog 22 #[.int .i64 (n : Int)] w fun e w' => e = .returned (.tuple #[.pointer (some ⟨w.heap.size, 0, none⟩), .int .i64 0]) ∧ RDiskAt w' (fun g => w.heap.size ≤ g) w.heap.size (DiskMath.new n) 0 ∧ Below w.heap.size w w' := by
  have hmk := hmk64
  go_enter Tryd.func22, Tryd.ntmps22
  go_wp2_with fail
  go_loopw [5] (fun i wr => RNewRel w n i wr) (fun i _ => n - (intOf i).toNat)
  case atStart => exact ⟨0, .slice none 0 0, rfl, Nat.zero_le _, heap_alloc_new w _, Rows8.nil _ _, below_alloc w _⟩
  case round =>
    obtain ⟨k, vf, rfl, hk, hbx, hr, hb⟩ := hrel
    obtain ⟨wo, rfl⟩ : ∃ wo : World, wo = wr := ⟨_, rfl⟩
    obtain ⟨A, c, rfl, hc⟩ := hr.shape
    rw [List.length_replicate] at hbx hr hc
    have hsz := hb.size
    have hws : w.heap.size < wo.heap.size := heap_lt hbx
    have HBX := Lib.hid hbx
    have HR := Lib.hid hr
    have HB := Lib.hid hb
    have hc0 : wo.cell? ⟨w.heap.size, 0, none⟩ = some (.slice A k c) := block_cell hbx
    clear hbx hr hb
    by_cases hlt : k < n
    · have hrw : Rows8 (wo.alloc (.cells (bvs StampMath.zeros).toArray 5)) (fun g => w.heap.size ≤ g) (.slice A k c) (List.replicate k StampMath.zeros) := HR.out.below (below_alloc wo _)
      have HRW := Lib.hid hrw
      have hlen : (List.replicate k StampMath.zeros).length ≤ 1000000 := by rw [List.length_replicate]; omega
      clear hrw
      go_wp2_with (
        at_builtin
        refine wpList_pushR rfl (.tmp 25) (.tmp 27) rfl (fun g => w.heap.size ≤ g) (.slice A k c) (.slice (some ⟨wo.heap.size, 0, none⟩) 64 64) (List.replicate k StampMath.zeros) StampMath.zeros rfl HRW.out (by simp [Act.eval]) rfl (own_zeros wo) (fun g hg => by simp [Value.ownBlock] at hg; omega) hlen ?_
        intro v4 w4 hr4 hk4 hv4
        obtain ⟨A4, c4, rfl, hc4⟩ := hr4.shape
        rw [List.length_append, List.length_replicate, List.length_singleton] at hr4 hc4 ⊢
        have hne : ¬ (Value.slice A k c).ownBlock = some w.heap.size := fun e => by
          obtain ⟨vs, h1, _⟩ := HR.out
          exact own_ne h1 HBX.out (by decide) e
        have hbx4 := hk4.heap (((Kept.refl (fun _ => False) wo).alloc (.cells (bvs StampMath.zeros).toArray 5)).heap HBX.out (fun h => h)) hne
        have c04 : w4.cell? ⟨w.heap.size, 0, none⟩ = some (.slice A k c) := block_cell hbx4
        have f04 : w4.frozen? ⟨w.heap.size, 0, none⟩ = false := block_free hbx4
        have HR4 := Lib.hid hr4
        have HK4 := Lib.hid hk4
        have HBX4 := Lib.hid hbx4
        clear hr4 hk4 hv4 hbx4 hne hc0)
      go_roundw
      case rel =>
        have hkp : Kept (fun g => g = w.heap.size) w4 (w4.setCell ⟨w.heap.size, 0, none⟩ (.slice A4 (k + 1) c4)) := (Kept.refl (fun g => g = w.heap.size) w4).setCell (p := ⟨w.heap.size, 0, none⟩) (.inl rfl) _
        have hr5 := (HR4.out.other hkp (NoT.of HBX4.out (by decide)) (NoT.of HBX4.out (by decide))).mono (H := fun g => w.heap.size ≤ g) (fun g hg => hg.elim id (fun h => by simp at h; omega))
        refine ⟨k + 1, _, by go_num, by omega, set_block HBX4.out 0 _, ?_, ?_⟩
        · rw [List.replicate_succ']; exact hr5
        · have hb1 : Below w.heap.size w (wo.alloc (.cells (bvs StampMath.zeros).toArray 5)) := HB.out.alloc hsz _
          have hb2 := hb1.trans (HK4.out.below (B := w.heap.size) (fun g _ e => by obtain ⟨vs, h1, h2, _⟩ := HR.out; exact h2 g e) (by simp; omega))
          exact hb2.trans (hkp.below (B := w.heap.size) (fun g _ e => by omega) (by have := hb2.size; exact this))
      case measure => simp [intOf]; omega
    · obtain rfl : k = n := by omega
      go_wp2_with fail
      go_ret2
      refine ⟨rfl, ⟨Nat.le_refl _, .slice A k c, .slice none 0 0, false, 0, HBX.out, ?_, RWaits.nil _ _, ?_, ?_, ?_, fun x hx => by simp [DiskMath.new] at hx, by simp [DiskMath.new], ⟨⟨by decide, by decide⟩, fun _ => rfl, fun _ => .inl ⟨rfl, rfl⟩⟩, Nat.zero_le _⟩, HB.out⟩
      · exact HR.out
      · simp [DiskMath.new]; omega
      · simp [DiskMath.new]; omega
      · intro s hs; obtain ⟨_, rfl⟩ := List.mem_replicate.1 hs; rfl
set_option maxHeartbeats 400000 in
theorem refNew_no (n : Int) (w : World) (h : n < 1 ∨ 65536 < n) : Calls Tryd.prog 22 #[.int .i64 n] w fun e w' => e = .returned (.tuple #[.pointer none, .int .i64 2]) ∧ w = w' := by
  rcases h with h | h
  · go_enter Tryd.func22, Tryd.ntmps22
    go_wp2_with fail
    go_ret2
    exact ⟨rfl, rfl⟩
  · have h' : ¬ n < 1 := by omega
    go_enter Tryd.func22, Tryd.ntmps22
    go_wp2_with fail
    go_ret2
    exact ⟨rfl, rfl⟩
end Go.Proofs.YtckihiiimomgfaaDoor
