/- The contract of a part laid as a sector. -/
import Derived.Test.YtpejfngkdkkfnaaDoorStamp
import Derived.Test.YtpejfngkdkkfnaaDoorCrc
import Derived.StillTailTactics
import Derived.Laws.CopyOwn
namespace Go.Proofs.YtpejfngkdkkfnaaDoor
open Go.RowKit
/-- lay's memory: the boxed part, and the sector that is being made -/
structure LayInv (w wk : World) (box : Array Value) (L : List UInt8) : Prop where
  blk : Blk8 wk (w.heap.size + 1) L
  bel : Below (w.heap.size + 1) (w.alloc (.cells box 38)) wk
theorem LayInv.put {w wk wl : World} {box : Array Value} {L M : List UInt8} (h : LayInv w wk box L) (hb : Blk8 wl (w.heap.size + 1) M) (hg : wk.grownBy wl (some (w.heap.size + 1))) : LayInv w wl box M :=
  ⟨hb, h.bel.trans ⟨hg.os, hg.tape, hg.output, hg.size, fun k hk => hg.block k (by have := h.bel.size; simp at this; omega) (fun e => by injection e with e; omega)⟩⟩
theorem LayInv.drew {w wk : World} {box : Array Value} {L : List UInt8} (h : LayInv w wk box L) : LayInv w wk.drew box L := ⟨h.blk, h.bel.drew⟩
theorem LayInv.cell {w wk : World} {box : Array Value} {L : List UInt8} (h : LayInv w wk box L) (j : Nat) : wk.cell? ⟨w.heap.size, j, none⟩ = box[j]? := by
  rw [h.bel.cell (p := ⟨w.heap.size, j, none⟩) (by simp)]
  have e : (w.alloc (.cells box 38)).heap[w.heap.size]? = some (.cells box 38) := heap_alloc_new w _
  exact cell_of_row _ _ _ _ _ _ e
theorem LayInv.below {w wk : World} {box : Array Value} {L : List UInt8} (h : LayInv w wk box L) : Below w.heap.size w wk :=
  (below_alloc w _).trans (h.bel.mono (by omega))
theorem bvs_splice (L : List UInt8) (off : Nat) (m : List UInt8) : bvs (splice L off m) = Go.splice (bvs L) off (bvs m) := by
  simp [splice, Go.splice, bvs]
def zero64 : List UInt8 := List.replicate 64 0
theorem splice_tail (H m : List UInt8) (off n : Nat) (ho : off = H.length) : splice (H ++ List.replicate n 0) off m = H ++ m ++ List.replicate (n - m.length) 0 := by
  subst ho
  unfold splice
  rw [List.take_left, List.drop_append, List.drop_of_length_le (by omega), List.nil_append, show H.length + m.length - H.length = m.length by omega, List.drop_replicate]
theorem lay_splices (a b i t : Nat) (da : List UInt8) (hd : da.length ≤ 38) :
    (let L5 := splice (splice (splice (splice (splice zero64 0 (StampMath.be 4 a)) 4 (StampMath.be 4 b)) 8 (StampMath.be 2 i)) 10 (StampMath.be 2 t)) 12 (StampMath.be 2 da.length)
     let L7 := splice (splice L5 14 (StampMath.be 4 (CrcMath.add 0 (L5.take 14 ++ da)))) 18 da
     splice L7 56 (L7.take 8)) = StampMath.lay ⟨(a : Int), (b : Int), (i : Int), (t : Int), da⟩ := by
  have l4 := fun x => StampMath.be_length 4 x
  have l2 := fun x => StampMath.be_length 2 x
  have s1 : splice zero64 0 (StampMath.be 4 a) = StampMath.be 4 a ++ List.replicate 60 0 := by
    have := splice_tail [] (StampMath.be 4 a) 0 64 rfl
    rw [l4] at this
    exact this
  have s2 : splice (StampMath.be 4 a ++ List.replicate 60 0) 4 (StampMath.be 4 b) = (StampMath.be 4 a ++ StampMath.be 4 b) ++ List.replicate 56 0 := by
    rw [splice_tail _ _ _ _ (l4 a).symm, l4]
  have s3 : splice ((StampMath.be 4 a ++ StampMath.be 4 b) ++ List.replicate 56 0) 8 (StampMath.be 2 i) = (StampMath.be 4 a ++ StampMath.be 4 b ++ StampMath.be 2 i) ++ List.replicate 54 0 := by
    rw [splice_tail _ _ _ _ (by simp [l4]), l2]
  have s4 : splice ((StampMath.be 4 a ++ StampMath.be 4 b ++ StampMath.be 2 i) ++ List.replicate 54 0) 10 (StampMath.be 2 t) = (StampMath.be 4 a ++ StampMath.be 4 b ++ StampMath.be 2 i ++ StampMath.be 2 t) ++ List.replicate 52 0 := by
    rw [splice_tail _ _ _ _ (by simp [l4, l2]), l2]
  have s5 : splice ((StampMath.be 4 a ++ StampMath.be 4 b ++ StampMath.be 2 i ++ StampMath.be 2 t) ++ List.replicate 52 0) 12 (StampMath.be 2 da.length) = StampMath.headOf ⟨(a : Int), (b : Int), (i : Int), (t : Int), da⟩ ++ List.replicate 50 0 := by
    rw [splice_tail _ _ _ _ (by simp [l4, l2]), l2]
    rfl
  simp only [s1, s2, s3, s4, s5]
  have hh := StampMath.headOf_length ⟨(a : Int), (b : Int), (i : Int), (t : Int), da⟩
  have t14 : (StampMath.headOf ⟨(a : Int), (b : Int), (i : Int), (t : Int), da⟩ ++ List.replicate 50 0).take 14 = StampMath.headOf ⟨(a : Int), (b : Int), (i : Int), (t : Int), da⟩ := by rw [← hh, List.take_left]
  rw [t14]
  have hst : StampMath.stampOf ⟨(a : Int), (b : Int), (i : Int), (t : Int), da⟩ = (StampMath.headOf ⟨(a : Int), (b : Int), (i : Int), (t : Int), da⟩).take 8 := by
    have e : StampMath.headOf ⟨(a : Int), (b : Int), (i : Int), (t : Int), da⟩ = StampMath.stampOf ⟨(a : Int), (b : Int), (i : Int), (t : Int), da⟩ ++ (StampMath.be 2 i ++ StampMath.be 2 t ++ StampMath.be 2 da.length) := by
      simp [StampMath.headOf, StampMath.stampOf]
    rw [e, ← StampMath.stampOf_length ⟨(a : Int), (b : Int), (i : Int), (t : Int), da⟩, List.take_left]
  unfold StampMath.lay
  rw [hst]
  simp only
  generalize StampMath.headOf ⟨(a : Int), (b : Int), (i : Int), (t : Int), da⟩ = H at *
  generalize hC : StampMath.be 4 (CrcMath.add 0 (H ++ da)) = C
  have lC : C.length = 4 := by rw [← hC, l4]
  rw [splice_tail _ _ _ _ hh.symm, lC, splice_tail _ _ _ _ (by simp [lC, hh])]
  have e8 : (H ++ C ++ da ++ List.replicate (50 - 4 - da.length) 0).take 8 = H.take 8 := by
    rw [List.append_assoc, List.append_assoc, List.take_append_of_le_length (by omega)]
  rw [e8]
  have hz : List.replicate (50 - 4 - da.length) (0 : UInt8) = List.replicate (38 - da.length) 0 ++ List.replicate 8 0 := by
    rw [List.replicate_append_replicate]; congr 1; omega
  rw [hz, ← List.append_assoc, splice_tail _ _ _ _ (by simp [lC, hh]; omega)]
  simp [hh]
set_option maxRecDepth 100000 in
set_option maxHeartbeats 2000000 in
theorem lay_any (p : StampMath.Part) (A : Option Addr) (c : Nat) (w : World) (hp : StampMath.right p) (hr : Bs w A p.data) (ht : Halves w) :
    Calls Tryd.prog 36 #[.agg #[.int .i64 p.epoch, .int .i64 p.seq, .int .i64 p.index, .int .i64 p.total, .slice A p.data.length c]] w fun e w' =>
      e = .returned (.slice (some ⟨w.heap.size + 1, 0, none⟩) 64 64) ∧ Blk8 w' (w.heap.size + 1) (StampMath.lay p) ∧ Below w.heap.size w w' := by
  obtain ⟨h1, h2, h3, h4, h5, h6, h7, h8, h9⟩ := hp
  obtain ⟨ep, sq, ix, tt, da⟩ := p
  simp only at *
  obtain ⟨a, rfl⟩ := Int.eq_ofNat_of_zero_le h1
  obtain ⟨b, rfl⟩ := Int.eq_ofNat_of_zero_le h3
  obtain ⟨t, rfl⟩ := Int.eq_ofNat_of_zero_le (show 0 ≤ tt by omega)
  obtain ⟨i, rfl⟩ := Int.eq_ofNat_of_zero_le h7
  have hmk : ∀ u : World, (Instr.makeSlice 23 (.int .i64 64) (.int .i64 64)).run Tryd.prog u = .ok (.slice (some ⟨u.heap.size, 0, none⟩) 64 64) (u.alloc (.cells (bvs zero64).toArray 5)) := fun u => by kernel_rfl
  go_enter Tryd.func36, Tryd.ntmps36
  go_wp2_with fail
  clear hmk
  have hinv : LayInv w ((w.alloc (.cells #[.int .i64 (a : Int), .int .i64 (b : Int), .int .i64 (i : Int), .int .i64 (t : Int), .slice A da.length c] 38)).alloc (.cells (bvs zero64).toArray 5))
      #[.int .i64 (a : Int), .int .i64 (b : Int), .int .i64 (i : Int), .int .i64 (t : Int), .slice A da.length c] zero64 :=
    ⟨by have := heap_alloc_new (w.alloc (.cells #[.int .i64 (a : Int), .int .i64 (b : Int), .int .i64 (i : Int), .int .i64 (t : Int), .slice A da.length c] 38)) (.cells (bvs zero64).toArray 5); simpa [Blk8] using this, (Below.refl _ _).alloc (by simp) _⟩
  generalize (w.alloc (.cells #[.int .i64 (a : Int), .int .i64 (b : Int), .int .i64 (i : Int), .int .i64 (t : Int), .slice A da.length c] 38)).alloc (.cells (bvs zero64).toArray 5) = w0 at *
  have len0 : zero64.length = 64 := by decide
  have HI0 := Lib.hid hinv
  clear hinv
  have k0 : w0.cell? ⟨w.heap.size, 0, none⟩ = some (.int .i64 (a : Int)) := HI0.out.cell 0
  go_still_tail 4, (by kernel_rfl)
  clear k0
  go_wp2_with fail
  refine (put_any (w.heap.size + 1) 0 4 64 a zero64 _ HI0.out.drew.blk (by omega) (by omega) (by omega)).mono ?_
  rintro e w1 ⟨rfl, hb1, hg1, hs1⟩
  have hI1 := HI0.out.drew.put hb1 hg1
  have len1 : (splice zero64 0 (StampMath.be 4 a)).length = 64 := by rw [splice_length _ _ _ (by rw [StampMath.be_length]; omega)]; exact len0
  obtain ⟨L1, hL1⟩ : ∃ L, splice zero64 0 (StampMath.be 4 a) = L := ⟨_, rfl⟩
  rw [hL1] at hI1 len1
  have HI1 := Lib.hid hI1
  have HL1 := Lib.hid hL1
  clear hI1 hL1 hb1 hg1 hs1 HI0 len0
  go_wp2_with fail
  have k1 : w1.cell? ⟨w.heap.size, 1, none⟩ = some (.int .i64 (b : Int)) := HI1.out.cell 1
  go_still_tail 4, (by kernel_rfl)
  clear k1
  go_wp2_with fail
  refine (put_any (w.heap.size + 1) 4 4 60 b L1 _ HI1.out.drew.blk (by omega) (by omega) (by omega)).mono ?_
  rintro e w2 ⟨rfl, hb2, hg2, hs2⟩
  have hI2 := HI1.out.drew.put hb2 hg2
  have len2 : (splice L1 4 (StampMath.be 4 b)).length = 64 := by rw [splice_length _ _ _ (by rw [StampMath.be_length]; omega)]; exact len1
  obtain ⟨L2, hL2⟩ : ∃ L, splice L1 4 (StampMath.be 4 b) = L := ⟨_, rfl⟩
  rw [hL2] at hI2 len2
  have HI2 := Lib.hid hI2
  have HL2 := Lib.hid hL2
  clear hI2 hL2 hb2 hg2 hs2 HI1 len1
  go_wp2_with fail
  have k2 : w2.cell? ⟨w.heap.size, 2, none⟩ = some (.int .i64 (i : Int)) := HI2.out.cell 2
  go_still_tail 4, (by kernel_rfl)
  clear k2
  go_wp2_with fail
  refine (put_any (w.heap.size + 1) 8 2 56 i L2 _ HI2.out.drew.blk (by omega) (by omega) (by omega)).mono ?_
  rintro e w3 ⟨rfl, hb3, hg3, hs3⟩
  have hI3 := HI2.out.drew.put hb3 hg3
  have len3 : (splice L2 8 (StampMath.be 2 i)).length = 64 := by rw [splice_length _ _ _ (by rw [StampMath.be_length]; omega)]; exact len2
  obtain ⟨L3, hL3⟩ : ∃ L, splice L2 8 (StampMath.be 2 i) = L := ⟨_, rfl⟩
  rw [hL3] at hI3 len3
  have HI3 := Lib.hid hI3
  have HL3 := Lib.hid hL3
  clear hI3 hL3 hb3 hg3 hs3 HI2 len2
  go_wp2_with fail
  have k3 : w3.cell? ⟨w.heap.size, 3, none⟩ = some (.int .i64 (t : Int)) := HI3.out.cell 3
  go_still_tail 4, (by kernel_rfl)
  clear k3
  go_wp2_with fail
  refine (put_any (w.heap.size + 1) 10 2 54 t L3 _ HI3.out.drew.blk (by omega) (by omega) (by omega)).mono ?_
  rintro e w4 ⟨rfl, hb4, hg4, hs4⟩
  have hI4 := HI3.out.drew.put hb4 hg4
  have len4 : (splice L3 10 (StampMath.be 2 t)).length = 64 := by rw [splice_length _ _ _ (by rw [StampMath.be_length]; omega)]; exact len3
  obtain ⟨L4, hL4⟩ : ∃ L, splice L3 10 (StampMath.be 2 t) = L := ⟨_, rfl⟩
  rw [hL4] at hI4 len4
  have HI4 := Lib.hid hI4
  have HL4 := Lib.hid hL4
  clear hI4 hL4 hb4 hg4 hs4 HI3 len3
  go_wp2_with fail
  have k4 : w4.cell? ⟨w.heap.size, 4, none⟩ = some (.slice A da.length c) := HI4.out.cell 4
  go_still_tail 5, (by kernel_rfl)
  clear k4
  go_wp2_with fail
  refine (put_any (w.heap.size + 1) 12 2 52 da.length L4 _ HI4.out.drew.blk (by omega) (by omega) (by omega)).mono ?_
  rintro e w5 ⟨rfl, hb5, hg5, hs5⟩
  have hI5 := HI4.out.drew.put hb5 hg5
  have len5 : (splice L4 12 (StampMath.be 2 da.length)).length = 64 := by rw [splice_length _ _ _ (by rw [StampMath.be_length]; omega)]; exact len4
  obtain ⟨L5, hL5⟩ : ∃ L, splice L4 12 (StampMath.be 2 da.length) = L := ⟨_, rfl⟩
  rw [hL5] at hI5 len5
  have HI5 := Lib.hid hI5
  have HL5 := Lib.hid hL5
  clear hI5 hL5 hb5 hg5 hs5 HI4 len4
  go_wp2_with fail
  have k5 : w5.cell? ⟨w.heap.size, 4, none⟩ = some (.slice A da.length c) := HI5.out.cell 4
  have ht5 := ht.below HI5.out.below
  have hr5 := hr.below HI5.out.below
  have hhead : Bs w5 (some ⟨w.heap.size + 1, 0, none⟩) (L5.take 14) := fun j cc hj => by
    have hj14 : j < 14 := by
      rcases Nat.lt_or_ge j 14 with h | h
      · exact h
      · rw [List.getElem?_eq_none (by simp; omega)] at hj; cases hj
    rw [List.getElem?_take_of_lt hj14] at hj
    have := HI5.out.blk.cell j cc hj
    refine ⟨_, rfl, HI5.out.blk.lt, ?_⟩
    have e2 : (⟨w.heap.size + 1, 0, none⟩ : Addr).add j = ⟨w.heap.size + 1, j, none⟩ := by unfold Addr.add; split <;> simp_all
    rw [e2]; exact this
  have hsum := crcSum_any _ 64 (L5.take 14) w5.drew (by simp; omega) ht5 hhead
  have e14 : (L5.take 14).length = 14 := by simp; omega
  rw [e14] at hsum
  have hS := CrcMath.add_lt (L5.take 14) (s := 0) (by decide)
  have hadd := crcAdd_any (CrcMath.add 0 (L5.take 14)) A c da w5.drew hS (by omega) ht5 hr5
  have HSum := Lib.hid (hsum.mono (R' := fun e w' => e = .returned (.int .u32 (CrcMath.add 0 (L5.take 14) : Nat)) ∧ w' = w5.drew) fun _ _ h => ⟨h.1, h.2.symm⟩)
  have HAdd := Lib.hid (hadd.mono (R' := fun e w' => e = .returned (.int .u32 (CrcMath.add (CrcMath.add 0 (L5.take 14)) da : Nat)) ∧ w' = w5.drew) fun _ _ h => ⟨h.1, h.2.symm⟩)
  have HHead := Lib.hid hhead
  clear hsum hadd e14 hhead
  refine wp_region_still_tail 9 (by kernel_rfl) (by kernel_rfl) ?_
  simp only [List.take_succ_cons, List.take_zero, List.drop_succ_cons, List.drop_zero]
  repeat still_step
  still_call HSum.out
  repeat still_step
  still_call HAdd.out
  repeat still_step
  refine wpStill_nil ?_
  rw [CrcMath.add_append]
  have hcl := CrcMath.add_lt (L5.take 14 ++ da) (s := 0) (by decide)
  clear hS HSum HAdd
  obtain ⟨cr, hcr⟩ : ∃ x, CrcMath.add 0 (L5.take 14 ++ da) = x := ⟨_, rfl⟩
  rw [hcr] at hcl ⊢
  have HCR := Lib.hid hcr
  clear hcr
  go_wp2_with fail
  refine (put_any (w.heap.size + 1) 14 4 50 cr L5 _ HI5.out.drew.blk (by omega) (by omega) (by omega)).mono ?_
  rintro e w6 ⟨rfl, hb6, hg6, hs6⟩
  have hI6 := HI5.out.drew.put hb6 hg6
  have len6 : (splice L5 14 (StampMath.be 4 cr)).length = 64 := by rw [splice_length _ _ _ (by rw [StampMath.be_length]; omega)]; exact len5
  obtain ⟨L6, hL6⟩ : ∃ L, splice L5 14 (StampMath.be 4 cr) = L := ⟨_, rfl⟩
  rw [hL6] at hI6 len6
  have HI6 := Lib.hid hI6
  have HL6 := Lib.hid hL6
  clear hI6 hL6 hb6 hg6 hs6 HI5 k5 ht5 hr5 HHead
  go_wp2_with fail
  have k6 : w6.cell? ⟨w.heap.size, 4, none⟩ = some (.slice A da.length c) := HI6.out.cell 4
  have hr6 := hr.below HI6.out.below
  go_still_tail 4, (by kernel_rfl)
  clear k6
  have hcp : ∀ w', Hid (w'.heap[w.heap.size + 1]? = some (.cells (Go.splice (bvs L6) 18 (bvs da)).toArray 5 (0, 0))) → Blk8 w' (w.heap.size + 1) (splice L6 18 da) := fun w' h => by
    have e : bvs (splice L6 18 da) = Go.splice (bvs L6) 18 (bvs da) := bvs_splice L6 18 da
    unfold Blk8
    rw [e]; exact h.out
  refine wpList_copy_splice rfl (.tmp 42) (.tmp 44) 23 23 rfl 5 Tryd.underlying23 (by kernel_rfl) (some ⟨w.heap.size + 1, 18, none⟩) A 46 46 da.length c rfl rfl (w.heap.size + 1) 18 (bvs L6) 5 HI6.out.drew.blk (bvs da) ?_ ?_ ?_ (bvs_one da) (w.heap.size + 1) _ HI6.out.drew.bel (Nat.le_refl _) ?_
  · rw [bvs_length]
    show da.length = min da.length 46
    omega
  · intro hpos
    refine ⟨rfl, ?_⟩
    cases A with
    | none =>
      rw [bvs_length] at hpos
      obtain ⟨ad, h, _⟩ := hr6 0 _ (List.getElem?_eq_getElem hpos)
      cases h
    | some ad =>
      refine ⟨ad, rfl, fun j v hv => ?_⟩
      obtain ⟨cc, hcc, rfl⟩ := bvs_inv hv
      obtain ⟨ad', h, _, hcell⟩ := hr6 j cc hcc
      injection h with h
      subst h
      exact hcell
  · rw [bvs_length, bvs_length]; omega
  intro w7 hh7 hbel7
  have hI7 : LayInv w w7 #[.int .i64 (a : Int), .int .i64 (b : Int), .int .i64 (i : Int), .int .i64 (t : Int), .slice A da.length c] (splice L6 18 da) := ⟨hcp w7 hh7, hbel7⟩
  have len7 : (splice L6 18 da).length = 64 := by rw [splice_length _ _ _ (by omega)]; exact len6
  obtain ⟨L7, hL7⟩ : ∃ L, splice L6 18 da = L := ⟨_, rfl⟩
  rw [hL7] at hI7 len7
  have HI7 := Lib.hid hI7
  have HL7 := Lib.hid hL7
  clear hI7 hL7 hcp hh7 hbel7 HI6 hr6
  go_wp2_with fail
  go_still_tail 4, (by kernel_rfl)
  have hcp : ∀ w', Hid (w'.heap[w.heap.size + 1]? = some (.cells (Go.splice (bvs L7) 56 (bvs (L7.take 8))).toArray 5 (0, 0))) → Blk8 w' (w.heap.size + 1) (splice L7 56 (L7.take 8)) := fun w' h => by
    have e : bvs (splice L7 56 (L7.take 8)) = Go.splice (bvs L7) 56 (bvs (L7.take 8)) := bvs_splice L7 56 _
    unfold Blk8
    rw [e]; exact h.out
  have e8 : (L7.take 8).length = 8 := by simp; omega
  refine wpList_copy_splice rfl (.tmp 47) (.tmp 49) 23 23 rfl 5 Tryd.underlying23 (by kernel_rfl) (some ⟨w.heap.size + 1, 56, none⟩) (some ⟨w.heap.size + 1, 0, none⟩) 8 8 8 64 rfl rfl (w.heap.size + 1) 56 (bvs L7) 5 HI7.out.drew.blk (bvs (L7.take 8)) ?_ ?_ ?_ (bvs_one _) (w.heap.size + 1) _ HI7.out.drew.bel (Nat.le_refl _) ?_
  · rw [bvs_length, e8]; rfl
  · intro _
    refine ⟨rfl, _, rfl, fun j v hv => ?_⟩
    obtain ⟨cc, hcc, rfl⟩ := bvs_inv hv
    have hj8 : j < 8 := by
      rcases Nat.lt_or_ge j 8 with h | h
      · exact h
      · rw [List.getElem?_eq_none (by omega)] at hcc; cases hcc
    rw [List.getElem?_take_of_lt hj8] at hcc
    have := HI7.out.drew.blk.cell j cc hcc
    have e2 : (⟨w.heap.size + 1, 0, none⟩ : Addr).add j = ⟨w.heap.size + 1, j, none⟩ := by unfold Addr.add; split <;> simp_all
    rw [e2]; exact this
  · rw [bvs_length, bvs_length, e8]; omega
  intro w8 hh8 hbel8
  have hI8 : LayInv w w8 #[.int .i64 (a : Int), .int .i64 (b : Int), .int .i64 (i : Int), .int .i64 (t : Int), .slice A da.length c] (splice L7 56 (L7.take 8)) := ⟨hcp w8 hh8, hbel8⟩
  have HI8 := Lib.hid hI8
  clear hI8 hcp hh8 hbel8 HI7 e8
  go_wp2_with fail
  go_ret
  refine ⟨rfl, ?_, HI8.out.below⟩
  have hfin : splice L7 56 (L7.take 8) = StampMath.lay ⟨(a : Int), (b : Int), (i : Int), (t : Int), da⟩ := by
    rw [← HL7.out, ← HL6.out]
    rw [← HCR.out, ← HL5.out, ← HL4.out, ← HL3.out, ← HL2.out, ← HL1.out]
    exact lay_splices a b i t da h9
  rw [← hfin]
  exact HI8.out.blk
end Go.Proofs.YtpejfngkdkkfnaaDoor
