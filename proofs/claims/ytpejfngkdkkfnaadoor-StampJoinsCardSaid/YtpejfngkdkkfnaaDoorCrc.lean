/- The contracts of the sums: the program's by half bytes, the document's bit by bit. -/
import Derived.Test.YtpejfngkdkkfnaaDoorBase
import Derived.Test.YtpejfngkdkkfnaaDoorCrcMath
namespace Go.Proofs.YtpejfngkdkkfnaaDoor
open Go.RowKit

/-- the table of half bytes lies where it was laid -/
def Halves (w : World) : Prop := 0 < w.heap.size ∧ ∀ i, i < 16 → w.cell? ⟨0, i, none⟩ = some (.int .u32 (CrcMath.halves.getD i 0 : Nat))
theorem Halves.below {w w' : World} (h : Halves w) (hb : Below w.heap.size w w') : Halves w' :=
  ⟨Nat.lt_of_lt_of_le h.1 hb.size, fun i hi => (hb.cell (p := ⟨_, i, none⟩) h.1).trans (h.2 i hi)⟩
theorem Halves.drewN {w : World} (h : Halves w) (n : Nat) : Halves (w.drewN n) := h

/-- one half byte, as the walk asks it -/
theorem nib_facts {w : World} (ht : Halves w) (x n : Nat) (hx : x < 4294967296) (hn : n < 4294967296) : ∃ m t u : Nat, bits .xor .u32 (x : Int) (n : Int) = (u : Int) ∧ bits .and .u32 (u : Int) 15 = (m : Int) ∧ m < 16 ∧
    w.cell? ⟨0, m, none⟩ = some (.int .u32 (t : Int)) ∧ bits .xor .u32 (t : Int) ((x : Int) / 16) = (CrcMath.nib x n : Int) := by
  have hh : ∀ i, i < 16 → CrcMath.halves.getD i 0 < 4294967296 := by decide
  have hu : x ^^^ n < 4294967296 := Nat.xor_lt_two_pow (n := 32) hx hn
  refine ⟨(x ^^^ n) % 16, CrcMath.halves.getD ((x ^^^ n) % 16) 0, x ^^^ n, u32_xor_nat _ _ hx hn, ?_, Nat.mod_lt _ (by decide), ht.2 _ (Nat.mod_lt _ (by decide)), ?_⟩
  · rw [← nat_mask4]; exact u32_and_nat _ 15 hu (by decide)
  · have e : (x : Int) / 16 = ((x / 16 : Nat) : Int) := by omega
    rw [e]
    exact u32_xor_nat _ _ (hh _ (Nat.mod_lt _ (by decide))) (by omega)

def CrcRel (l : List UInt8) (x0 : Nat) (x i : Value) : Prop := ∃ k : Nat, k ≤ l.length ∧ i = .int .i64 k ∧ x = .int .u32 (CrcMath.run x0 (l.take k) : Nat)
theorem crc_not (s : Nat) (hs : s < 4294967296) : bits .xor .u32 IntKind.u32.max (s : Int) = ((4294967295 ^^^ s : Nat) : Int) := u32_xor_nat 4294967295 s (by decide) hs

set_option maxHeartbeats 400000 in
theorem crcAdd_any (s : Nat) (A : Option Addr) (c : Nat) (l : List UInt8) (w : World) (hs : s < 4294967296) (hl : l.length ≤ 65536) (ht : Halves w) (hr : Bs w A l) :
    Calls Tryd.prog 17 #[.int .u32 s, .slice A l.length c] w fun e w' => e = .returned (.int .u32 (CrcMath.add s l : Nat)) ∧ w = w' := by
  have hnot := crc_not s hs
  have hlt0 := CrcMath.flip_lt hs
  go_enter Tryd.func17, Tryd.ntmps17
  go_wp2
  go_loop [5, 12] (fun x i => CrcRel l (4294967295 ^^^ s) x i) (fun _ i => l.length - (intOf i).toNat)
  case atStart => exact ⟨0, Nat.zero_le _, rfl, rfl⟩
  case round =>
    obtain ⟨k, hk, rfl, rfl⟩ := hrel
    clear hnot
    have hx := CrcMath.run_lt (l.take k) hlt0
    generalize hX : CrcMath.run (4294967295 ^^^ s) (l.take k) = x at hx
    have HX := Lib.hid hX
    clear hX
    by_cases hlt : k < l.length
    · obtain ⟨ad, rfl, _, hca⟩ := hr.at_ hlt
      have HR := Lib.hid hr
      clear hr
      generalize hC : l[k] = b at hca
      have HC := Lib.hid hC
      clear hC
      have hb := b.toNat_lt
      obtain ⟨m1, t1, u1, e1, e2, hm1, hc1, e3⟩ := nib_facts ht x b.toNat hx (by omega)
      have hy := CrcMath.nib_lt b.toNat hx
      generalize hY : CrcMath.nib x b.toNat = y at e3 hy
      have HY := Lib.hid hY
      clear hY
      obtain ⟨m2, t2, u2, f1, f2, hm2, hc2, f3⟩ := nib_facts ht y (b.toNat / 16) hy (by omega)
      generalize hZ : CrcMath.nib y (b.toNat / 16) = z at f3
      have HZ := Lib.hid hZ
      clear hZ
      have f1' : bits .xor .u32 (y : Int) ((b.toNat : Int) / 16) = (u2 : Int) := by
        have e : (b.toNat : Int) / 16 = ((b.toNat / 16 : Nat) : Int) := by omega
        rw [e]; exact f1
      clear f1
      clear ht hlt0
      go_wp2
      go_round
      case rel =>
        refine ⟨k + 1, by omega, by go_num, ?_⟩
        rw [List.take_succ_eq_append_getElem hlt, CrcMath.run_append, HX.out, HC.out]
        simp only [CrcMath.run, List.foldl_cons, List.foldl_nil]
        rw [CrcMath.byte_nib, HY.out, HZ.out]
      case measure => simp [intOf]; omega
    · have hnot := crc_not x hx
      go_wp2
      go_ret
      refine ⟨ret_int' ?_, rfl⟩
      have e := HX.out
      rw [List.take_of_length_le (by omega)] at e
      unfold CrcMath.add
      rw [e]

theorem crcSum_any (A : Option Addr) (c : Nat) (l : List UInt8) (w : World) (hl : l.length ≤ 65536) (ht : Halves w) (hr : Bs w A l) :
    Calls Tryd.prog 15 #[.slice A l.length c] w fun e w' => e = .returned (.int .u32 (CrcMath.add 0 l : Nat)) ∧ w = w' := by
  go_enter Tryd.func15, Tryd.ntmps15
  go_wp2_with (go_at_call 17; refine (crcAdd_any 0 A c l w (by decide) hl ht hr).mono ?_; rintro e w' ⟨rfl, rfl⟩)
  go_ret
  exact ⟨rfl, rfl⟩

def bitsTo (x c : Nat) : Nat → Nat
  | 0 => x
  | k + 1 => CrcMath.step (bitsTo x c k) (c.testBit k)
theorem bitsTo_lt {x : Nat} (c k : Nat) (hx : x < 4294967296) : bitsTo x c k < 4294967296 := by
  induction k with
  | zero => exact hx
  | succ k ih => exact CrcMath.step_lt _ ih
def RefRel (l : List UInt8) (x0 : Nat) (x i : Value) : Prop := ∃ k : Nat, k ≤ l.length ∧ i = .int .i64 k ∧ x = .int .u32 (CrcMath.run x0 (l.take k) : Nat)
def RefIn (x0 c : Nat) (x i : Value) : Prop := ∃ k : Nat, k ≤ 8 ∧ i = .int .u64 k ∧ x = .int .u32 (bitsTo x0 c k : Nat)
theorem ref_not (s : Nat) (hs : s < 4294967296) : bits .xor .u32 (s : Int) 4294967295 = ((4294967295 ^^^ s : Nat) : Int) := by
  rw [Nat.xor_comm]; exact u32_xor_nat s 4294967295 hs (by decide)

theorem ref_bit (y n j : Nat) (hy : y < 4294967296) (hn : n < 256) : (bits .and .u32 (y : Int) 1 != bits .and .u8 ((n : Int) / 2 ^ j) 1 % 4294967296) = !decide (y.testBit 0 = n.testBit j) := by
  have e0 : ((n : Int) / 2 ^ j) = ((n / 2 ^ j : Nat) : Int) := by simp
  have hq : n / 2 ^ j < 256 := Nat.lt_of_le_of_lt (Nat.div_le_self _ _) hn
  have e1 : bits .and .u32 (y : Int) 1 = ((y % 2 : Nat) : Int) := by rw [← nat_mask1]; exact u32_and_nat y 1 hy (by decide)
  have e2 : bits .and .u8 ((n / 2 ^ j : Nat) : Int) 1 = ((n / 2 ^ j % 2 : Nat) : Int) := by rw [← nat_mask1]; exact u8_and_nat _ 1 hq (by decide)
  have h1 : y.testBit 0 = decide (y % 2 = 1) := by rw [Nat.testBit_eq_decide_div_mod_eq]; simp
  have h2 : n.testBit j = decide (n / 2 ^ j % 2 = 1) := Nat.testBit_eq_decide_div_mod_eq
  rw [e0, e1, e2, h1, h2]
  generalize n / 2 ^ j = q
  rcases Nat.mod_two_eq_zero_or_one y with a | a <;> rcases Nat.mod_two_eq_zero_or_one q with b | b <;> rw [a, b] <;> decide
theorem ref_poly (y : Nat) (hy : y < 4294967296) : bits .xor .u32 ((y : Int) / 2) 3988292384 = ((y / 2 ^^^ CrcMath.poly : Nat) : Int) := by
  have e : (y : Int) / 2 = ((y / 2 : Nat) : Int) := by omega
  rw [e]
  exact u32_xor_nat _ 3988292384 (by omega) (by decide)

set_option maxHeartbeats 400000 in
theorem refAdd_any (s : Nat) (A : Option Addr) (c : Nat) (l : List UInt8) (w : World) (hs : s < 4294967296) (hl : l.length ≤ 65536) (hr : Bs w A l) :
    Calls Tryd.prog 16 #[.int .u32 s, .slice A l.length c] w fun e w' => e = .returned (.int .u32 (CrcMath.add s l : Nat)) ∧ w = w' := by
  have hnot := ref_not s hs
  have hlt0 := CrcMath.flip_lt hs
  go_enter Tryd.func16, Tryd.ntmps16
  go_wp2
  go_loop [5, 6] (fun x i => RefRel l (4294967295 ^^^ s) x i) (fun _ i => l.length - (intOf i).toNat)
  case atStart => exact ⟨0, Nat.zero_le _, rfl, rfl⟩
  case round =>
    obtain ⟨k, hk, rfl, rfl⟩ := hrel
    clear hnot
    have hx := CrcMath.run_lt (l.take k) hlt0
    generalize hX : CrcMath.run (4294967295 ^^^ s) (l.take k) = x at hx
    have HX := Lib.hid hX
    clear hX
    by_cases hlt : k < l.length
    · obtain ⟨ad, rfl, _, hca⟩ := hr.at_ hlt
      have HR := Lib.hid hr
      clear hr
      generalize hC : l[k] = b at hca
      have HC := Lib.hid hC
      clear hC
      have hb := b.toNat_lt
      go_wp2
      go_loop [5, 7] (fun y i => RefIn x b.toNat y i) (fun _ i => 8 - (intOf i).toNat)
      case atStart => exact ⟨0, Nat.zero_le _, rfl, rfl⟩
      case round =>
        obtain ⟨j, hj, rfl, rfl⟩ := hrel
        have hy := bitsTo_lt b.toNat j hx
        generalize hY : bitsTo x b.toNat j = y at hy
        have HY := Lib.hid hY
        clear hY
        by_cases hj8 : j < 8
        · have hbit := ref_bit y b.toNat j hy hb
          have HB := Lib.hid hbit
          clear hbit
          go_wp2
          · have h1 : (bits BinOp.and IntKind.u32 (y : Int) 1 != bits BinOp.and IntKind.u8 ((b.toNat : Int) / 2 ^ j) 1 % 4294967296) = true := by assumption
            go_round
            case rel =>
              refine ⟨j + 1, by omega, by go_num, ?_⟩
              rw [HB.out] at h1
              simp only [bitsTo, HY.out]
              unfold CrcMath.step
              rw [if_neg (by simpa using h1), ref_poly y hy]
            case measure => simp [intOf]; omega
          · have h1 : (bits BinOp.and IntKind.u32 (y : Int) 1 != bits BinOp.and IntKind.u8 ((b.toNat : Int) / 2 ^ j) 1 % 4294967296) = false := by assumption
            go_round
            case rel =>
              refine ⟨j + 1, by omega, by go_num, ?_⟩
              rw [HB.out] at h1
              simp only [bitsTo, HY.out]
              unfold CrcMath.step
              rw [if_pos (by simpa using h1), Nat.xor_zero]
              go_num
            case measure => simp [intOf]; omega
        · go_wp2
          go_round
          case rel =>
            refine ⟨k + 1, by omega, by go_num, ?_⟩
            obtain rfl : j = 8 := by omega
            rw [List.take_succ_eq_append_getElem hlt, CrcMath.run_append, HX.out, HC.out, ← HY.out]
            rfl
          case measure => simp [intOf]; omega
    · have hnot := ref_not x hx
      go_wp2
      go_ret
      refine ⟨ret_int' ?_, rfl⟩
      have e := HX.out
      rw [List.take_of_length_le (by omega)] at e
      unfold CrcMath.add
      rw [e]
end Go.Proofs.YtpejfngkdkkfnaaDoor
