/- The contracts of a disk: Arm, settle, New. -/
import Derived.Test.YtckihiiimomgfaaDisk
namespace Go.Proofs.Ytckihiiimomgfaa
open Go.RowKit DiskMath
set_option maxHeartbeats 400000 in
theorem diskArm_any (w : World) (F : Nat → Prop) (p : Nat) (d : Dk) (x : Int) (hx0 : -9223372036854775808 ≤ x) (hx1 : x ≤ 9223372036854775807) (h : DiskAt w F p d) :
    Calls Try.prog 26 #[.pointer (some ⟨p, 0, none⟩), .int .i64 x] w fun e w' => e = .returned (.int .i64 ((arm d x).2 : Nat)) ∧ DiskAt w' F p (arm d x).1 ∧ Kept F w w' ∧ w'.heap.size = w.heap.size := by
  obtain ⟨gf, gm, n, vw, hb, h1, h2, h3, h4⟩ := h
  obtain ⟨_, _, _, c3, c4, f⟩ := hb.cells
  have f3 := f 3
  obtain ⟨fast, waits, armed, dead⟩ := d
  simp only at c3 c4
  have HH := Lib.hid hb
  have H4 := Lib.hid h4
  clear hb f h4
  have hwr : wrap64 9223372036854775808 = -9223372036854775808 := by decide +kernel
  go_enter Try.func26, Try.ntmps26
  go_wp2_with fail
  refine (diskOk_any w p gf gm n _ _ HH.out).mono ?_
  rintro e w' ⟨rfl, rfl⟩
  by_cases hn : x < 0
  · have ha : arm ⟨fast, waits, armed, dead⟩ x = (⟨fast, waits, armed, dead⟩, 2) := by unfold arm; rw [if_pos hn]
    have HA := Lib.hid ha
    clear ha
    go_wp2_with fail
    go_ret
    rw [HA.out]
    exact ⟨rfl, ⟨gf, gm, n, vw, HH.out, h1, h2, h3, H4.out⟩, Kept.refl _ _, rfl⟩
  · cases dead
    · by_cases hm : x = 9223372036854775807
      · subst hm
        have ha : arm ⟨fast, waits, armed, false⟩ 9223372036854775807 = (⟨fast, waits, 9223372036854775807, false⟩, 0) := by unfold arm; simp
        have HA := Lib.hid ha
        clear ha
        go_wp2_with fail
        go_ret
        rw [HA.out]
        exact ⟨rfl, ⟨gf, gm, n, vw, HH.out.set3 _ 9223372036854775807 (by decide) (by decide), h1, h2, h3, H4.out⟩, DiskB.keptP h1, by simp⟩
      · have ha : arm ⟨fast, waits, armed, false⟩ x = (⟨fast, waits, (x + 1).toNat, false⟩, 0) := by unfold arm; rw [if_neg hn]; simp [hm]
        have HA := Lib.hid ha
        clear ha
        have hx2 : x ≤ 9223372036854775806 := by omega
        have hx3 : 0 ≤ x := by omega
        clear hx1 hm hn hx0
        go_wp2_with fail
        go_ret
        rw [HA.out]
        refine ⟨rfl, ⟨gf, gm, n, vw, HH.out.set3 _ (x + 1).toNat (by omega) (by omega), h1, h2, h3, H4.out⟩, DiskB.keptP h1, by simp⟩
    · have ha : arm ⟨fast, waits, armed, true⟩ x = (⟨fast, waits, armed, true⟩, 7) := by unfold arm; rw [if_neg hn]; simp
      have HA := Lib.hid ha
      clear ha
      go_wp2_with fail
      go_ret
      rw [HA.out]
      exact ⟨rfl, ⟨gf, gm, n, vw, HH.out, h1, h2, h3, H4.out⟩, Kept.refl _ _, rfl⟩
set_option maxHeartbeats 400000 in
theorem diskSettle_any (w : World) (F : Nat → Prop) (p gf gm n : Nat) (vw : Value) (d : Dk) (h : DiskB w p gf gm n vw d) (hp : F p) (hm : F gm) :
    Calls Try.prog 33 #[.pointer (some ⟨p, 0, none⟩)] w fun e w' => e = .returned (.tuple #[]) ∧ DiskB w' p gf gm n (.slice none 0 0) { d with waits := [] } ∧ Kept F w w' ∧ w'.heap.size = w.heap.size := by
  obtain ⟨_, c1, c2, _, _, f⟩ := h.cells
  have f2 := f 2
  obtain ⟨n1, n2, n3, n4⟩ := h.ne
  have hk : Kept (fun k => k = p) w (w.setCell ⟨p, 2, none⟩ (.slice none 0 0)) := (Kept.refl (fun k => k = p) w).setCell (p := ⟨p, 2, none⟩) (.inl rfl) _
  have hmap := h.map.kept hk (fun e => n2 e.symm)
  have hblk := set_block h.blk 2 (.slice none 0 0)
  have hfast := h.fast.keep hk (fun e => n1 e.symm)
  have HH := Lib.hid h
  have HM := Lib.hid hmap
  have HB := Lib.hid hblk
  have HF := Lib.hid hfast
  have HN2 := Lib.hid n2
  have HN3 := Lib.hid n3
  have HK := Lib.hid (show Kept F w (w.setCell ⟨p, 2, none⟩ (.slice none 0 0)) from (Kept.refl F w).setCell (p := ⟨p, 2, none⟩) (.inl hp) _)
  clear h f hk hmap hblk hfast n1 n2 n3 n4
  go_enter Try.func33, Try.ntmps33
  go_wp2_with (refine wpList_clear rfl (.tmp 8) 61 rfl 3 66 Try.underlying61 gm _ rfl HM.out ?_; intro w2 hm2 hk2 hs2; have HM2 := Lib.hid hm2; have HK2 := Lib.hid hk2; have HS2 := Lib.hid hs2; clear hm2 hk2 hs2)
  go_end0
  refine ⟨rfl, ⟨HK2.out.heap HB.out (fun e => HN2.out e), HF.out.keep HK2.out (fun e => HN3.out e), HM2.out, World.ownsRow_nil _ _ _ _, HH.out.len, HH.out.pos, HH.out.max, HH.out.sec, fun x hx => by simp at hx, by simp, HH.out.arm⟩, HK.out.trans HK2.out (fun k hk => by subst hk; exact .inl hm), by rw [HS2.out]; simp⟩
theorem info_sec : (Try.prog.info? 66).map (fun i => (i.zero, i.size, i.bytes)) = some (some (secV (List.replicate 64 0)), 64, 64) := by kernel_rfl
theorem made_flat (n : Nat) : madeCells (secV (List.replicate 64 0)).cells (n * 64) = (flat (List.replicate n StampMath.zeros)).toArray := by
  apply Array.ext'
  apply List.ext_getElem?
  intro j
  have hlen : (flat (List.replicate n StampMath.zeros)).length = 64 * n := by
    rw [secs_length (fun s hs => by obtain ⟨_, rfl⟩ := List.mem_replicate.1 hs; rfl), List.length_replicate]
  have hval : ∀ j, j < 64 * n → (flat (List.replicate n StampMath.zeros))[j]? = some (.int .u8 0) := by
    intro j hj
    have h64 := flat_at (ss := List.replicate n StampMath.zeros) (fun s hs => by obtain ⟨_, rfl⟩ := List.mem_replicate.1 hs; rfl) (i := j / 64) (s := StampMath.zeros) (by rw [List.getElem?_replicate, if_pos (by omega)])
    have e : (((flat (List.replicate n StampMath.zeros)).drop (64 * (j / 64))).take 64)[j % 64]? = (bvs StampMath.zeros)[j % 64]? := by rw [h64]
    rw [List.getElem?_take_of_lt (by omega), List.getElem?_drop, show 64 * (j / 64) + j % 64 = j by omega] at e
    rw [e]
    have hz : bvs StampMath.zeros = List.replicate 64 (.int .u8 0) := by unfold bvs StampMath.zeros; rw [List.map_replicate]; rfl
    have : ∀ k, k < 64 → (bvs StampMath.zeros)[k]? = some (.int .u8 0) := fun k hk => by rw [hz, List.getElem?_replicate, if_pos hk]
    exact this _ (by omega)
  by_cases hj : j < 64 * n
  · have h0 : ∀ k, k < 64 → (secV (List.replicate 64 0)).cells[k]! = .int .u8 0 := fun k hk => by
      rw [show (secV (List.replicate 64 0)).cells = (List.replicate 64 (Value.int .u8 0)).toArray by unfold secV bvs; rw [List.map_replicate]; rfl]
      rw [getElem!_pos _ _ (by rw [List.size_toArray, List.length_replicate]; exact hk)]
      simp only [List.getElem_toArray, List.getElem_replicate]
    show (madeCells _ _).toList[j]? = (flat _)[j]?
    rw [hval j hj, Array.getElem?_toList]
    simp only [madeCells, Array.getElem?_map]
    rw [Array.getElem?_range, if_pos (by omega)]
    simp only [Option.map_some]
    rw [show (secV (List.replicate 64 0)).cells.size = 64 by simp [Value.cells, bvs_length], h0 _ (by omega)]
  · show (madeCells _ _).toList[j]? = (flat _)[j]?
    rw [List.getElem?_eq_none (by rw [Array.length_toList, size_madeCells]; omega), List.getElem?_eq_none (by omega)]
end Go.Proofs.Ytckihiiimomgfaa
