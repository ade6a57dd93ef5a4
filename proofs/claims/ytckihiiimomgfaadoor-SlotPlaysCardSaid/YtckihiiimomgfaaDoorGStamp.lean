/- Texts laid as one: Crc, Stamp, StampLay, StampRead. -/
import Derived.Test.YtckihiiimomgfaaDoorGMem
import Derived.Test.YtckihiiimomgfaaDoorGMath
import Derived.StillTailTactics
import Derived.Laws.CopyOwn
import Derived.Deep.RegionHeld3
import Derived.Deep.DeepCutAuto
namespace Go.Proofs.YtckihiiimomgfaaDoor
open Go.RowKit

/-- the table of half bytes lies where it was laid -/
def Halves (w : World) : Prop := 0 < w.heap.size ∧ ∀ i, i < 16 → w.cell? ⟨0, i, none⟩ = some (.int .u32 (CrcMath.halves.getD i 0 : Nat))
theorem Halves.below {w w' : World} (h : Halves w) (hb : Below w.heap.size w w') : Halves w' :=
  ⟨Nat.lt_of_lt_of_le h.1 hb.size, fun i hi => (hb.cell (p := ⟨_, i, none⟩) h.1).trans (h.2 i hi)⟩
theorem Halves.drewN {w : World} (h : Halves w) (n : Nat) : Halves (w.drewN n) := h

/-- one half byte, as the walk asks it -/
theorem nib_facts {w : World} (ht : Halves w) (x n : Nat) (hx : x < 4294967296) (hn : n < 4294967296) : ∃ m t u : Nat, bits .xor .u32 (x : Int) (n : Int) = (u : Int) ∧ bits .and .u32 (u : Int) 15 = (m : Int) ∧ m < 16 ∧
    w.cell? ⟨0, m, none⟩ = some (.int .u32 (t : Int)) ∧ bits .xor .u32 (t : Int) ((x : Int) / 16) = (CrcMath.nib x n : Int) := by
  have hh : ∀ i, i < 16 → CrcMath.halves.getD i 0 < 4294967296 := by decide
  have hu : x ^^^ n < 4294967296 := Nat.xor_lt_two_pow (n := 32) hx hn
  refine ⟨(x ^^^ n) % 16, CrcMath.halves.getD ((x ^^^ n) % 16) 0, x ^^^ n, u32_xor_nat _ _ hx hn, ?_, Nat.mod_lt _ (by decide), ht.2 _ (Nat.mod_lt _ (by decide)), ?_⟩
  · rw [← nat_mask4]; exact u32_and_nat _ 15 hu (by decide)
  · have e : (x : Int) / 16 = ((x / 16 : Nat) : Int) := by omega
    rw [e]
    exact u32_xor_nat _ _ (hh _ (Nat.mod_lt _ (by decide))) (by omega)

def CrcRel (l : List UInt8) (x0 : Nat) (x i : Value) : Prop := ∃ k : Nat, k ≤ l.length ∧ i = .int .i64 k ∧ x = .int .u32 (CrcMath.run x0 (l.take k) : Nat)
theorem crc_not (s : Nat) (hs : s < 4294967296) : bits .xor .u32 IntKind.u32.max (s : Int) = ((4294967295 ^^^ s : Nat) : Int) := u32_xor_nat 4294967295 s (by decide) hs

set_option maxHeartbeats 400000 in
theorem crcAdd_any (s : Nat) (A : Option Addr) (c : Nat) (l : List UInt8) (w : World) (hs : s < 4294967296) (hl : l.length ≤ 65536) (ht : Halves w) (hr : Bs w A l) :
    Calls Tryd.prog 107 #[.int .u32 s, .slice A l.length c] w fun e w' => e = .returned (.int .u32 (CrcMath.add s l : Nat)) ∧ w = w' := by
  have hnot := crc_not s hs
  have hlt0 := CrcMath.flip_lt hs
  go_enter Tryd.func107, Tryd.ntmps107
  go_wp2
  go_loop [5, 12] (fun x i => CrcRel l (4294967295 ^^^ s) x i) (fun _ i => l.length - (intOf i).toNat)
  case atStart => exact ⟨0, Nat.zero_le _, rfl, rfl⟩
  case round =>
    obtain ⟨k, hk, rfl, rfl⟩ := hrel
    clear hnot
    have hx := CrcMath.run_lt (l.take k) hlt0
    generalize hX : CrcMath.run (4294967295 ^^^ s) (l.take k) = x at hx
    have HX := Lib.hid hX
    clear hX
    by_cases hlt : k < l.length
    · obtain ⟨ad, rfl, _, hca⟩ := hr.at_ hlt
      have HR := Lib.hid hr
      clear hr
      generalize hC : l[k] = b at hca
      have HC := Lib.hid hC
      clear hC
      have hb := b.toNat_lt
      obtain ⟨m1, t1, u1, e1, e2, hm1, hc1, e3⟩ := nib_facts ht x b.toNat hx (by omega)
      have hy := CrcMath.nib_lt b.toNat hx
      generalize hY : CrcMath.nib x b.toNat = y at e3 hy
      have HY := Lib.hid hY
      clear hY
      obtain ⟨m2, t2, u2, f1, f2, hm2, hc2, f3⟩ := nib_facts ht y (b.toNat / 16) hy (by omega)
      generalize hZ : CrcMath.nib y (b.toNat / 16) = z at f3
      have HZ := Lib.hid hZ
      clear hZ
      have f1' : bits .xor .u32 (y : Int) ((b.toNat : Int) / 16) = (u2 : Int) := by
        have e : (b.toNat : Int) / 16 = ((b.toNat / 16 : Nat) : Int) := by omega
        rw [e]; exact f1
      clear f1
      clear ht hlt0
      go_wp2
      go_round
      case rel =>
        refine ⟨k + 1, by omega, by go_num, ?_⟩
        rw [List.take_succ_eq_append_getElem hlt, CrcMath.run_append, HX.out, HC.out]
        simp only [CrcMath.run, List.foldl_cons, List.foldl_nil]
        rw [CrcMath.byte_nib, HY.out, HZ.out]
      case measure => simp [intOf]; omega
    · have hnot := crc_not x hx
      go_wp2
      go_ret
      refine ⟨ret_int' ?_, rfl⟩
      have e := HX.out
      rw [List.take_of_length_le (by omega)] at e
      unfold CrcMath.add
      rw [e]

theorem crcSum_any (A : Option Addr) (c : Nat) (l : List UInt8) (w : World) (hl : l.length ≤ 65536) (ht : Halves w) (hr : Bs w A l) :
    Calls Tryd.prog 108 #[.slice A l.length c] w fun e w' => e = .returned (.int .u32 (CrcMath.add 0 l : Nat)) ∧ w = w' := by
  go_enter Tryd.func108, Tryd.ntmps108
  go_wp2_with (go_at_call 107; refine (crcAdd_any 0 A c l w (by decide) hl ht hr).mono ?_; rintro e w' ⟨rfl, rfl⟩)
  go_ret
  exact ⟨rfl, rfl⟩

def bitsTo (x c : Nat) : Nat → Nat
  | 0 => x
  | k + 1 => CrcMath.step (bitsTo x c k) (c.testBit k)
theorem bitsTo_lt {x : Nat} (c k : Nat) (hx : x < 4294967296) : bitsTo x c k < 4294967296 := by
  induction k with
  | zero => exact hx
  | succ k ih => exact CrcMath.step_lt _ ih
def RefRel (l : List UInt8) (x0 : Nat) (x i : Value) : Prop := ∃ k : Nat, k ≤ l.length ∧ i = .int .i64 k ∧ x = .int .u32 (CrcMath.run x0 (l.take k) : Nat)
def RefIn (x0 c : Nat) (x i : Value) : Prop := ∃ k : Nat, k ≤ 8 ∧ i = .int .u64 k ∧ x = .int .u32 (bitsTo x0 c k : Nat)
theorem ref_not (s : Nat) (hs : s < 4294967296) : bits .xor .u32 (s : Int) 4294967295 = ((4294967295 ^^^ s : Nat) : Int) := by
  rw [Nat.xor_comm]; exact u32_xor_nat s 4294967295 hs (by decide)

theorem ref_bit (y n j : Nat) (hy : y < 4294967296) (hn : n < 256) : (bits .and .u32 (y : Int) 1 != bits .and .u8 ((n : Int) / 2 ^ j) 1 % 4294967296) = !decide (y.testBit 0 = n.testBit j) := by
  have e0 : ((n : Int) / 2 ^ j) = ((n / 2 ^ j : Nat) : Int) := by simp
  have hq : n / 2 ^ j < 256 := Nat.lt_of_le_of_lt (Nat.div_le_self _ _) hn
  have e1 : bits .and .u32 (y : Int) 1 = ((y % 2 : Nat) : Int) := by rw [← nat_mask1]; exact u32_and_nat y 1 hy (by decide)
  have e2 : bits .and .u8 ((n / 2 ^ j : Nat) : Int) 1 = ((n / 2 ^ j % 2 : Nat) : Int) := by rw [← nat_mask1]; exact u8_and_nat _ 1 hq (by decide)
  have h1 : y.testBit 0 = decide (y % 2 = 1) := by rw [Nat.testBit_eq_decide_div_mod_eq]; simp
  have h2 : n.testBit j = decide (n / 2 ^ j % 2 = 1) := Nat.testBit_eq_decide_div_mod_eq
  rw [e0, e1, e2, h1, h2]
  generalize n / 2 ^ j = q
  rcases Nat.mod_two_eq_zero_or_one y with a | a <;> rcases Nat.mod_two_eq_zero_or_one q with b | b <;> rw [a, b] <;> decide
theorem ref_poly (y : Nat) (hy : y < 4294967296) : bits .xor .u32 ((y : Int) / 2) 3988292384 = ((y / 2 ^^^ CrcMath.poly : Nat) : Int) := by
  have e : (y : Int) / 2 = ((y / 2 : Nat) : Int) := by omega
  rw [e]
  exact u32_xor_nat _ 3988292384 (by omega) (by decide)

set_option maxHeartbeats 400000 in
theorem refAdd_any (s : Nat) (A : Option Addr) (c : Nat) (l : List UInt8) (w : World) (hs : s < 4294967296) (hl : l.length ≤ 65536) (hr : Bs w A l) :
    Calls Tryd.prog 88 #[.int .u32 s, .slice A l.length c] w fun e w' => e = .returned (.int .u32 (CrcMath.add s l : Nat)) ∧ w = w' := by
  have hnot := ref_not s hs
  have hlt0 := CrcMath.flip_lt hs
  go_enter Tryd.func88, Tryd.ntmps88
  go_wp2
  go_loop [5, 6] (fun x i => RefRel l (4294967295 ^^^ s) x i) (fun _ i => l.length - (intOf i).toNat)
  case atStart => exact ⟨0, Nat.zero_le _, rfl, rfl⟩
  case round =>
    obtain ⟨k, hk, rfl, rfl⟩ := hrel
    clear hnot
    have hx := CrcMath.run_lt (l.take k) hlt0
    generalize hX : CrcMath.run (4294967295 ^^^ s) (l.take k) = x at hx
    have HX := Lib.hid hX
    clear hX
    by_cases hlt : k < l.length
    · obtain ⟨ad, rfl, _, hca⟩ := hr.at_ hlt
      have HR := Lib.hid hr
      clear hr
      generalize hC : l[k] = b at hca
      have HC := Lib.hid hC
      clear hC
      have hb := b.toNat_lt
      go_wp2
      go_loop [5, 7] (fun y i => RefIn x b.toNat y i) (fun _ i => 8 - (intOf i).toNat)
      case atStart => exact ⟨0, Nat.zero_le _, rfl, rfl⟩
      case round =>
        obtain ⟨j, hj, rfl, rfl⟩ := hrel
        have hy := bitsTo_lt b.toNat j hx
        generalize hY : bitsTo x b.toNat j = y at hy
        have HY := Lib.hid hY
        clear hY
        by_cases hj8 : j < 8
        · have hbit := ref_bit y b.toNat j hy hb
          have HB := Lib.hid hbit
          clear hbit
          go_wp2
          · have h1 : (bits BinOp.and IntKind.u32 (y : Int) 1 != bits BinOp.and IntKind.u8 ((b.toNat : Int) / 2 ^ j) 1 % 4294967296) = true := by assumption
            go_round
            case rel =>
              refine ⟨j + 1, by omega, by go_num, ?_⟩
              rw [HB.out] at h1
              simp only [bitsTo, HY.out]
              unfold CrcMath.step
              rw [if_neg (by simpa using h1), ref_poly y hy]
            case measure => simp [intOf]; omega
          · have h1 : (bits BinOp.and IntKind.u32 (y : Int) 1 != bits BinOp.and IntKind.u8 ((b.toNat : Int) / 2 ^ j) 1 % 4294967296) = false := by assumption
            go_round
            case rel =>
              refine ⟨j + 1, by omega, by go_num, ?_⟩
              rw [HB.out] at h1
              simp only [bitsTo, HY.out]
              unfold CrcMath.step
              rw [if_pos (by simpa using h1), Nat.xor_zero]
              go_num
            case measure => simp [intOf]; omega
        · go_wp2
          go_round
          case rel =>
            refine ⟨k + 1, by omega, by go_num, ?_⟩
            obtain rfl : j = 8 := by omega
            rw [List.take_succ_eq_append_getElem hlt, CrcMath.run_append, HX.out, HC.out, ← HY.out]
            rfl
          case measure => simp [intOf]; omega
    · have hnot := ref_not x hx
      go_wp2
      go_ret
      refine ⟨ret_int' ?_, rfl⟩
      have e := HX.out
      rw [List.take_of_length_le (by omega)] at e
      unfold CrcMath.add
      rw [e]
end Go.Proofs.YtckihiiimomgfaaDoor

namespace Go.Proofs.YtckihiiimomgfaaDoor
open Go.RowKit

/-- whether a part may be, of its numbers and its length -/
def rightN (a b i t : Int) (n : Nat) : Bool :=
  decide (0 ≤ a ∧ a ≤ 4294967295 ∧ 0 ≤ b ∧ b ≤ 4294967295 ∧ 1 ≤ t ∧ t ≤ 65535 ∧ 0 ≤ i ∧ i < t ∧ n ≤ 38)
theorem rightN_eq (p : StampMath.Part) : rightN p.epoch p.seq p.index p.total p.data.length = decide (StampMath.right p) := rfl

set_option maxHeartbeats 2000000 in
theorem right_any (a b i t : Int) (A : Option Addr) (n c : Nat) (w : World) :
    Calls Tryd.prog 92 #[.agg #[.int .i64 a, .int .i64 b, .int .i64 i, .int .i64 t, .slice A n c]] w fun e w' => e = .returned (.bool (rightN a b i t n)) ∧ Below w.heap.size w w' := by
  by_cases h1 : 0 ≤ a
  · by_cases h2 : a ≤ 4294967295
    · by_cases h3 : 0 ≤ b
      · by_cases h4 : b ≤ 4294967295
        · by_cases h5 : 1 ≤ t
          · by_cases h6 : t ≤ 65535
            · by_cases h7 : 0 ≤ i
              · by_cases h8 : i < t
                · by_cases h9 : n ≤ 38
                  · have hr : rightN a b i t n = true := decide_eq_true ⟨h1, h2, h3, h4, h5, h6, h7, h8, h9⟩
                    have HR := Lib.hid hr
                    clear hr
                    go_enter Tryd.func92, Tryd.ntmps92
                    go_wp2
                    go_ret
                    exact ⟨ret_bool (by rw [HR.out]; simp; omega), below_alloc _ _⟩
                  · have hr : rightN a b i t n = false := decide_eq_false (by omega)
                    have HR := Lib.hid hr
                    clear hr
                    go_enter Tryd.func92, Tryd.ntmps92
                    go_wp2
                    go_ret
                    exact ⟨ret_bool (by rw [HR.out]; simp; omega), below_alloc _ _⟩
                · have hr : rightN a b i t n = false := decide_eq_false (by omega)
                  have HR := Lib.hid hr
                  clear hr
                  go_enter Tryd.func92, Tryd.ntmps92
                  go_wp2
                  go_ret
                  exact ⟨ret_bool HR.out.symm, below_alloc _ _⟩
              · have hr : rightN a b i t n = false := decide_eq_false (by omega)
                have HR := Lib.hid hr
                clear hr
                go_enter Tryd.func92, Tryd.ntmps92
                go_wp2
                go_ret
                exact ⟨ret_bool HR.out.symm, below_alloc _ _⟩
            · have hr : rightN a b i t n = false := decide_eq_false (by omega)
              have HR := Lib.hid hr
              clear hr
              go_enter Tryd.func92, Tryd.ntmps92
              go_wp2
              go_ret
              exact ⟨ret_bool HR.out.symm, below_alloc _ _⟩
          · have hr : rightN a b i t n = false := decide_eq_false (by omega)
            have HR := Lib.hid hr
            clear hr
            go_enter Tryd.func92, Tryd.ntmps92
            go_wp2
            go_ret
            exact ⟨ret_bool HR.out.symm, below_alloc _ _⟩
        · have hr : rightN a b i t n = false := decide_eq_false (by omega)
          have HR := Lib.hid hr
          clear hr
          go_enter Tryd.func92, Tryd.ntmps92
          go_wp2
          go_ret
          exact ⟨ret_bool HR.out.symm, below_alloc _ _⟩
      · have hr : rightN a b i t n = false := decide_eq_false (by omega)
        have HR := Lib.hid hr
        clear hr
        go_enter Tryd.func92, Tryd.ntmps92
        go_wp2
        go_ret
        exact ⟨ret_bool HR.out.symm, below_alloc _ _⟩
    · have hr : rightN a b i t n = false := decide_eq_false (by omega)
      have HR := Lib.hid hr
      clear hr
      go_enter Tryd.func92, Tryd.ntmps92
      go_wp2
      go_ret
      exact ⟨ret_bool HR.out.symm, below_alloc _ _⟩
  · have hr : rightN a b i t n = false := decide_eq_false (by omega)
    have HR := Lib.hid hr
    clear hr
    go_enter Tryd.func92, Tryd.ntmps92
    go_wp2
    go_ret
    exact ⟨ret_bool HR.out.symm, below_alloc _ _⟩

/-- bytes laid over others -/
def splice (L : List UInt8) (off : Nat) (m : List UInt8) : List UInt8 := L.take off ++ m ++ L.drop (off + m.length)
theorem splice_length (L : List UInt8) (off : Nat) (m : List UInt8) (h : off + m.length ≤ L.length) : (splice L off m).length = L.length := by simp [splice]; omega

def GetRel (l : List UInt8) (x i : Value) : Prop := ∃ k : Nat, k ≤ l.length ∧ i = .int .i64 (k : Nat) ∧ x = .int .i64 (StampMath.ofBe (l.take k) : Nat)
theorem get_or (x c : Nat) (hx : x < 16777216) (hc : c < 256) : bits .or .i64 ((x : Int) * 256) (c : Int) = ((x * 256 + c : Nat) : Int) := by
  have e : (x : Int) * 256 = ((x * 256 : Nat) : Int) := by omega
  have hx1 : x * 256 ||| c = x * 256 + c := nat_join 8 _ _ (by omega) (by omega)
  have hlt : x * 256 ||| c < 2 ^ 63 := by rw [hx1]; omega
  rw [e]
  show IntKind.i64.wrap ((BitVec.ofInt 64 ((x * 256 : Nat) : Int) ||| BitVec.ofInt 64 (c : Int)).toNat : Int) = _
  have e1 : (BitVec.ofInt 64 ((x * 256 : Nat) : Int)).toNat = x * 256 := by rw [BitVec.ofInt_natCast, BitVec.toNat_ofNat]; exact Nat.mod_eq_of_lt (by omega)
  have e2 : (BitVec.ofInt 64 (c : Int)).toNat = c := by rw [BitVec.ofInt_natCast, BitVec.toNat_ofNat]; exact Nat.mod_eq_of_lt (by omega)
  rw [BitVec.toNat_or, e1, e2, hx1, IntKind.wrap_i64]
  omega
set_option maxHeartbeats 400000 in
theorem get_any (A : Option Addr) (c : Nat) (l : List UInt8) (w : World) (hl : l.length ≤ 4) (hr : Bs w A l) :
    Calls Tryd.prog 103 #[.slice A l.length c] w fun e w' => e = .returned (.int .i64 (StampMath.ofBe l : Nat)) ∧ w = w' := by
  go_enter Tryd.func103, Tryd.ntmps103
  go_wp2_with fail
  go_loop [3, 8] (fun x i => GetRel l x i) (fun _ i => l.length - (intOf i).toNat)
  case atStart => exact ⟨0, Nat.zero_le _, rfl, rfl⟩
  case round =>
    obtain ⟨k, hk, rfl, rfl⟩ := hrel
    by_cases hlt : k < l.length
    · have hx : StampMath.ofBe (l.take k) < 16777216 := by
        have h1 := StampMath.ofBe_lt (l.take k)
        have h2 : (l.take k).length ≤ 3 := by rw [List.length_take]; omega
        have h3 : 256 ^ (l.take k).length ≤ 256 ^ 3 := Nat.pow_le_pow_right (by decide) h2
        omega
      generalize hX : StampMath.ofBe (l.take k) = x at hx
      have HX := Lib.hid hX
      clear hX
      obtain ⟨ad, rfl, _, hca⟩ := hr.at_ hlt
      have HR := Lib.hid hr
      clear hr
      generalize hC : l[k] = b at hca
      have HC := Lib.hid hC
      clear hC
      have hb := b.toNat_lt
      have hor := get_or x b.toNat hx hb
      go_wp2_with fail
      go_round
      case rel =>
        refine ⟨k + 1, by omega, by go_num, ?_⟩
        rw [List.take_succ_eq_append_getElem hlt, StampMath.ofBe_snoc, HX.out, HC.out]
        go_num
      case measure => simp [intOf]; omega
    · go_wp2_with fail
      go_ret
      exact ⟨ret_int' (by rw [List.take_of_length_le (by omega)]), rfl⟩

/-- the last k of n bytes are put -/
def putTo (L : List UInt8) (off n x : Nat) : Nat → List UInt8
  | 0 => L
  | k + 1 => (putTo L off n x k).set (off + (n - 1 - k)) (UInt8.ofNat (x / 256 ^ k))
theorem putTo_length (L : List UInt8) (off n x k : Nat) : (putTo L off n x k).length = L.length := by
  induction k with
  | zero => rfl
  | succ k ih => simp [putTo, ih]
theorem be_get (n x i : Nat) (h : i < n) : (StampMath.be n x)[i]? = some (UInt8.ofNat (x / 256 ^ (n - 1 - i))) := by
  induction n generalizing x i with
  | zero => omega
  | succ n ih =>
    simp only [StampMath.be]
    by_cases hi : i < n
    · rw [List.getElem?_append_left (by rw [StampMath.be_length]; exact hi), ih _ _ hi]
      have e : n + 1 - 1 - i = (n - 1 - i) + 1 := by omega
      rw [e, Nat.pow_succ, Nat.mul_comm, Nat.div_div_eq_div_mul]
    · obtain rfl : i = n := by omega
      rw [List.getElem?_append_right (by rw [StampMath.be_length]; omega), StampMath.be_length]
      simp
theorem putTo_get (L : List UInt8) (off n x k i : Nat) (hk : k ≤ n) (hn : off + n ≤ L.length) : (putTo L off n x k)[i]? = if off + (n - k) ≤ i ∧ i < off + n then some (UInt8.ofNat (x / 256 ^ (off + n - 1 - i))) else L[i]? := by
  induction k with
  | zero => rw [if_neg (by omega)]; rfl
  | succ k ih =>
    simp only [putTo]
    by_cases hi : i = off + (n - 1 - k)
    · subst hi
      have e : off + n - 1 - (off + (n - 1 - k)) = k := by omega
      rw [List.getElem?_set_self (by rw [putTo_length]; omega), if_pos (by omega), e]
    · rw [List.getElem?_set_ne (by omega), ih (by omega)]
      by_cases h1 : off + (n - k) ≤ i ∧ i < off + n
      · rw [if_pos h1, if_pos (by omega)]
      · rw [if_neg h1, if_neg (by omega)]
theorem putTo_all (L : List UInt8) (off n x : Nat) (hn : off + n ≤ L.length) : putTo L off n x n = splice L off (StampMath.be n x) := by
  refine List.ext_getElem? fun i => ?_
  rw [putTo_get L off n x n i (Nat.le_refl _) hn]
  unfold splice
  rw [StampMath.be_length]
  by_cases h1 : i < off
  · rw [if_neg (by omega), List.append_assoc, List.getElem?_append_left (by simp; omega), List.getElem?_take_of_lt h1]
  · by_cases h2 : i < off + n
    · rw [if_pos (by omega), List.getElem?_append_left (by simp [StampMath.be_length]; omega), List.getElem?_append_right (by simp; omega), be_get _ _ _ (by simp; omega)]
      have e : n - 1 - (i - (L.take off).length) = off + n - 1 - i := by simp; omega
      rw [e]
    · rw [if_neg (by omega), List.getElem?_append_right (by simp [StampMath.be_length]; omega), List.getElem?_drop]
      congr 1
      simp [StampMath.be_length]; omega
/-- block g holds the bytes L and nothing else -/
def Blk8 (w : World) (g : Nat) (L : List UInt8) : Prop := w.heap[g]? = some (.cells (bvs L).toArray 5 (0, 0))
theorem Blk8.lt {w : World} {g : Nat} {L : List UInt8} (h : Blk8 w g L) : g < w.heap.size := by
  rcases Nat.lt_or_ge g w.heap.size with h1 | h1
  · exact h1
  · unfold Blk8 at h; rw [Array.getElem?_eq_none h1] at h; cases h
theorem Blk8.cell {w : World} {g : Nat} {L : List UInt8} (h : Blk8 w g L) (i : Nat) (c : UInt8) (hc : L[i]? = some c) : w.cell? ⟨g, i, none⟩ = some (.int .u8 (c.toNat : Int)) := by
  rw [cell_of_row w g i _ _ _ h]
  simpa using bvs_get L i c hc
theorem Blk8.frozen {w : World} {g : Nat} {L : List UInt8} (h : Blk8 w g L) (i : Nat) : w.frozen? ⟨g, i, none⟩ = false := by
  unfold Blk8 at h
  simp [World.frozen?, h]
theorem Blk8.set {w : World} {g : Nat} {L : List UInt8} (h : Blk8 w g L) (i : Nat) (c : UInt8) : Blk8 (w.setCell ⟨g, i, none⟩ (.int .u8 (c.toNat : Int))) g (L.set i c) := by
  unfold Blk8 at h ⊢
  have e : (bvs (L.set i c)).toArray = (bvs L).toArray.setIfInBounds i (.int .u8 (c.toNat : Int)) := by
    apply Array.ext'
    simp [bvs, List.map_set]
  rw [e]
  simp [World.setCell, Array.getElem?_modify, h]
theorem only_set {a w : World} {g : Nat} (h : a.grownBy w (some g)) (i : Nat) (u : Value) : a.grownBy (w.setCell ⟨g, i, none⟩ u) (some g) :=
  ⟨h.os, h.tape, h.output, by simpa [World.setCell] using h.size, fun k hk hne => (Below.heap_setCell w ⟨g, i, none⟩ u k (by rintro rfl; exact hne rfl)).trans (h.block k hk hne)⟩
theorem only_refl (w : World) (row : Option Nat) : w.grownBy w row := ⟨rfl, rfl, rfl, Nat.le_refl _, fun _ _ _ => rfl⟩
def PutRel (L : List UInt8) (g off n x0 : Nat) (w : World) (x i : Value) (wr : World) : Prop :=
  ∃ k y : Nat, k ≤ n ∧ i = .int .i64 ((n : Int) - 1 - k) ∧ x = .int .i64 (y : Nat) ∧ y = x0 / 256 ^ k ∧ Blk8 wr g (putTo L off n x0 k) ∧ w.grownBy wr (some g) ∧ wr.heap.size = w.heap.size
set_option maxHeartbeats 400000 in
theorem put_any (g off n c x : Nat) (L : List UInt8) (w : World) (h : Blk8 w g L) (hn : off + n ≤ L.length) (hL : L.length ≤ 65536) (_hx : x ≤ 9223372036854775807) :
    Calls Tryd.prog 106 #[.slice (some ⟨g, off, none⟩) n c, .int .i64 (x : Nat)] w fun e w' => e = .returned (.tuple #[]) ∧ Blk8 w' g (splice L off (StampMath.be n x)) ∧ w.grownBy w' (some g) ∧ w'.heap.size = w.heap.size := by
  go_enter Tryd.func106, Tryd.ntmps106
  go_wp2_with fail
  go_loopw [1, 4] (fun x' i wr => PutRel L g off n x w x' i wr) (fun _ i _ => (intOf i + 1).toNat)
  case atStart => exact ⟨0, x, Nat.zero_le _, by go_num, rfl, by simp, h, only_refl _ _, rfl⟩
  case round =>
    obtain ⟨k, y, hk, rfl, rfl, hy, hb, hg, hs⟩ := hrel
    clear h
    have hyx : y ≤ x := by rw [hy]; exact Nat.div_le_self _ _
    have HY := Lib.hid hy
    have HS := Lib.hid hs
    clear hy hs
    by_cases hlt : k < n
    · have hlen := putTo_length L off n x k
      obtain ⟨c0, hc⟩ : ∃ v, wr.cell? ⟨g, off + (n - 1 - k), none⟩ = some v := ⟨_, hb.cell (off + (n - 1 - k)) _ (List.getElem?_eq_getElem (by rw [hlen]; omega))⟩
      have hf := hb.frozen (off + (n - 1 - k))
      have HB := Lib.hid hb
      have HLEN := Lib.hid hlen
      clear hb hlen
      go_wp2_with fail
      go_roundw
      case rel =>
        have e : (y : Int) % 256 = ((UInt8.ofNat (x / 256 ^ k)).toNat : Int) := by rw [UInt8.toNat_ofNat', ← HY.out]; omega
        rw [e]
        refine ⟨k + 1, y / 256, by omega, by go_num, by go_num, ?_, HB.out.set _ _, only_set hg _ _, ?_⟩
        · rw [HY.out, Nat.div_div_eq_div_mul, Nat.pow_succ]
        · have := HS.out
          simpa [World.setCell] using this
      case measure => simp [intOf]; omega
    · go_wp2_with fail
      go_end0
      refine ⟨rfl, ?_, hg, HS.out⟩
      obtain rfl : k = n := by omega
      rw [← putTo_all L off k x hn]
      exact hb
end Go.Proofs.YtckihiiimomgfaaDoor

namespace Go.Proofs.YtckihiiimomgfaaDoor
open Go.RowKit
/-- lay's memory: the boxed part, and the sector that is being made -/
structure LayInv (w wk : World) (box : Array Value) (L : List UInt8) : Prop where
  blk : Blk8 wk (w.heap.size + 1) L
  bel : Below (w.heap.size + 1) (w.alloc (.cells box 130)) wk
theorem LayInv.put {w wk wl : World} {box : Array Value} {L M : List UInt8} (h : LayInv w wk box L) (hb : Blk8 wl (w.heap.size + 1) M) (hg : wk.grownBy wl (some (w.heap.size + 1))) : LayInv w wl box M :=
  ⟨hb, h.bel.trans ⟨hg.os, hg.tape, hg.output, hg.size, fun k hk => hg.block k (by have := h.bel.size; simp at this; omega) (fun e => by injection e with e; omega)⟩⟩
theorem LayInv.drew {w wk : World} {box : Array Value} {L : List UInt8} (h : LayInv w wk box L) : LayInv w wk.drew box L := ⟨h.blk, h.bel.drew⟩
theorem LayInv.cell {w wk : World} {box : Array Value} {L : List UInt8} (h : LayInv w wk box L) (j : Nat) : wk.cell? ⟨w.heap.size, j, none⟩ = box[j]? := by
  rw [h.bel.cell (p := ⟨w.heap.size, j, none⟩) (by simp)]
  have e : (w.alloc (.cells box 130)).heap[w.heap.size]? = some (.cells box 130) := heap_alloc_new w _
  exact cell_of_row _ _ _ _ _ _ e
theorem LayInv.below {w wk : World} {box : Array Value} {L : List UInt8} (h : LayInv w wk box L) : Below w.heap.size w wk :=
  (below_alloc w _).trans (h.bel.mono (by omega))
theorem bvs_splice (L : List UInt8) (off : Nat) (m : List UInt8) : bvs (splice L off m) = Go.splice (bvs L) off (bvs m) := by
  simp [splice, Go.splice, bvs]
def zero64 : List UInt8 := List.replicate 64 0
theorem splice_tail (H m : List UInt8) (off n : Nat) (ho : off = H.length) : splice (H ++ List.replicate n 0) off m = H ++ m ++ List.replicate (n - m.length) 0 := by
  subst ho
  unfold splice
  rw [List.take_left, List.drop_append, List.drop_of_length_le (by omega), List.nil_append, show H.length + m.length - H.length = m.length by omega, List.drop_replicate]
theorem lay_splices (a b i t : Nat) (da : List UInt8) (hd : da.length ≤ 38) :
    (let L5 := splice (splice (splice (splice (splice zero64 0 (StampMath.be 4 a)) 4 (StampMath.be 4 b)) 8 (StampMath.be 2 i)) 10 (StampMath.be 2 t)) 12 (StampMath.be 2 da.length)
     let L7 := splice (splice L5 14 (StampMath.be 4 (CrcMath.add 0 (L5.take 14 ++ da)))) 18 da
     splice L7 56 (L7.take 8)) = StampMath.lay ⟨(a : Int), (b : Int), (i : Int), (t : Int), da⟩ := by
  have l4 := fun x => StampMath.be_length 4 x
  have l2 := fun x => StampMath.be_length 2 x
  have s1 : splice zero64 0 (StampMath.be 4 a) = StampMath.be 4 a ++ List.replicate 60 0 := by
    have := splice_tail [] (StampMath.be 4 a) 0 64 rfl
    rw [l4] at this
    exact this
  have s2 : splice (StampMath.be 4 a ++ List.replicate 60 0) 4 (StampMath.be 4 b) = (StampMath.be 4 a ++ StampMath.be 4 b) ++ List.replicate 56 0 := by
    rw [splice_tail _ _ _ _ (l4 a).symm, l4]
  have s3 : splice ((StampMath.be 4 a ++ StampMath.be 4 b) ++ List.replicate 56 0) 8 (StampMath.be 2 i) = (StampMath.be 4 a ++ StampMath.be 4 b ++ StampMath.be 2 i) ++ List.replicate 54 0 := by
    rw [splice_tail _ _ _ _ (by simp [l4]), l2]
  have s4 : splice ((StampMath.be 4 a ++ StampMath.be 4 b ++ StampMath.be 2 i) ++ List.replicate 54 0) 10 (StampMath.be 2 t) = (StampMath.be 4 a ++ StampMath.be 4 b ++ StampMath.be 2 i ++ StampMath.be 2 t) ++ List.replicate 52 0 := by
    rw [splice_tail _ _ _ _ (by simp [l4, l2]), l2]
  have s5 : splice ((StampMath.be 4 a ++ StampMath.be 4 b ++ StampMath.be 2 i ++ StampMath.be 2 t) ++ List.replicate 52 0) 12 (StampMath.be 2 da.length) = StampMath.headOf ⟨(a : Int), (b : Int), (i : Int), (t : Int), da⟩ ++ List.replicate 50 0 := by
    rw [splice_tail _ _ _ _ (by simp [l4, l2]), l2]
    rfl
  simp only [s1, s2, s3, s4, s5]
  have hh := StampMath.headOf_length ⟨(a : Int), (b : Int), (i : Int), (t : Int), da⟩
  have t14 : (StampMath.headOf ⟨(a : Int), (b : Int), (i : Int), (t : Int), da⟩ ++ List.replicate 50 0).take 14 = StampMath.headOf ⟨(a : Int), (b : Int), (i : Int), (t : Int), da⟩ := by rw [← hh, List.take_left]
  rw [t14]
  have hst : StampMath.stampOf ⟨(a : Int), (b : Int), (i : Int), (t : Int), da⟩ = (StampMath.headOf ⟨(a : Int), (b : Int), (i : Int), (t : Int), da⟩).take 8 := by
    have e : StampMath.headOf ⟨(a : Int), (b : Int), (i : Int), (t : Int), da⟩ = StampMath.stampOf ⟨(a : Int), (b : Int), (i : Int), (t : Int), da⟩ ++ (StampMath.be 2 i ++ StampMath.be 2 t ++ StampMath.be 2 da.length) := by
      simp [StampMath.headOf, StampMath.stampOf]
    rw [e, ← StampMath.stampOf_length ⟨(a : Int), (b : Int), (i : Int), (t : Int), da⟩, List.take_left]
  unfold StampMath.lay
  rw [hst]
  simp only
  generalize StampMath.headOf ⟨(a : Int), (b : Int), (i : Int), (t : Int), da⟩ = H at *
  generalize hC : StampMath.be 4 (CrcMath.add 0 (H ++ da)) = C
  have lC : C.length = 4 := by rw [← hC, l4]
  rw [splice_tail _ _ _ _ hh.symm, lC, splice_tail _ _ _ _ (by simp [lC, hh])]
  have e8 : (H ++ C ++ da ++ List.replicate (50 - 4 - da.length) 0).take 8 = H.take 8 := by
    rw [List.append_assoc, List.append_assoc, List.take_append_of_le_length (by omega)]
  rw [e8]
  have hz : List.replicate (50 - 4 - da.length) (0 : UInt8) = List.replicate (38 - da.length) 0 ++ List.replicate 8 0 := by
    rw [List.replicate_append_replicate]; congr 1; omega
  rw [hz, ← List.append_assoc, splice_tail _ _ _ _ (by simp [lC, hh]; omega)]
  simp [hh]
set_option maxRecDepth 100000 in
set_option maxHeartbeats 2000000 in
theorem lay_any (p : StampMath.Part) (A : Option Addr) (c : Nat) (w : World) (hp : StampMath.right p) (hr : Bs w A p.data) (ht : Halves w) :
    Calls Tryd.prog 98 #[.agg #[.int .i64 p.epoch, .int .i64 p.seq, .int .i64 p.index, .int .i64 p.total, .slice A p.data.length c]] w fun e w' =>
      e = .returned (.slice (some ⟨w.heap.size + 1, 0, none⟩) 64 64) ∧ Blk8 w' (w.heap.size + 1) (StampMath.lay p) ∧ Below w.heap.size w w' := by
  obtain ⟨h1, h2, h3, h4, h5, h6, h7, h8, h9⟩ := hp
  obtain ⟨ep, sq, ix, tt, da⟩ := p
  simp only at *
  obtain ⟨a, rfl⟩ := Int.eq_ofNat_of_zero_le h1
  obtain ⟨b, rfl⟩ := Int.eq_ofNat_of_zero_le h3
  obtain ⟨t, rfl⟩ := Int.eq_ofNat_of_zero_le (show 0 ≤ tt by omega)
  obtain ⟨i, rfl⟩ := Int.eq_ofNat_of_zero_le h7
  have hmk : ∀ u : World, (Instr.makeSlice 29 (.int .i64 64) (.int .i64 64)).run Tryd.prog u = .ok (.slice (some ⟨u.heap.size, 0, none⟩) 64 64) (u.alloc (.cells (bvs zero64).toArray 5)) := fun u => by kernel_rfl
  go_enter Tryd.func98, Tryd.ntmps98
  go_wp2_with fail
  clear hmk
  have hinv : LayInv w ((w.alloc (.cells #[.int .i64 (a : Int), .int .i64 (b : Int), .int .i64 (i : Int), .int .i64 (t : Int), .slice A da.length c] 130)).alloc (.cells (bvs zero64).toArray 5))
      #[.int .i64 (a : Int), .int .i64 (b : Int), .int .i64 (i : Int), .int .i64 (t : Int), .slice A da.length c] zero64 :=
    ⟨by have := heap_alloc_new (w.alloc (.cells #[.int .i64 (a : Int), .int .i64 (b : Int), .int .i64 (i : Int), .int .i64 (t : Int), .slice A da.length c] 130)) (.cells (bvs zero64).toArray 5); simpa [Blk8] using this, (Below.refl _ _).alloc (by simp) _⟩
  generalize (w.alloc (.cells #[.int .i64 (a : Int), .int .i64 (b : Int), .int .i64 (i : Int), .int .i64 (t : Int), .slice A da.length c] 130)).alloc (.cells (bvs zero64).toArray 5) = w0 at *
  have len0 : zero64.length = 64 := by decide
  have HI0 := Lib.hid hinv
  clear hinv
  have k0 : w0.cell? ⟨w.heap.size, 0, none⟩ = some (.int .i64 (a : Int)) := HI0.out.cell 0
  go_still_tail 4, (by kernel_rfl)
  clear k0
  go_wp2_with fail
  refine (put_any (w.heap.size + 1) 0 4 64 a zero64 _ HI0.out.drew.blk (by omega) (by omega) (by omega)).mono ?_
  rintro e w1 ⟨rfl, hb1, hg1, hs1⟩
  have hI1 := HI0.out.drew.put hb1 hg1
  have len1 : (splice zero64 0 (StampMath.be 4 a)).length = 64 := by rw [splice_length _ _ _ (by rw [StampMath.be_length]; omega)]; exact len0
  obtain ⟨L1, hL1⟩ : ∃ L, splice zero64 0 (StampMath.be 4 a) = L := ⟨_, rfl⟩
  rw [hL1] at hI1 len1
  have HI1 := Lib.hid hI1
  have HL1 := Lib.hid hL1
  clear hI1 hL1 hb1 hg1 hs1 HI0 len0
  go_wp2_with fail
  have k1 : w1.cell? ⟨w.heap.size, 1, none⟩ = some (.int .i64 (b : Int)) := HI1.out.cell 1
  go_still_tail 4, (by kernel_rfl)
  clear k1
  go_wp2_with fail
  refine (put_any (w.heap.size + 1) 4 4 60 b L1 _ HI1.out.drew.blk (by omega) (by omega) (by omega)).mono ?_
  rintro e w2 ⟨rfl, hb2, hg2, hs2⟩
  have hI2 := HI1.out.drew.put hb2 hg2
  have len2 : (splice L1 4 (StampMath.be 4 b)).length = 64 := by rw [splice_length _ _ _ (by rw [StampMath.be_length]; omega)]; exact len1
  obtain ⟨L2, hL2⟩ : ∃ L, splice L1 4 (StampMath.be 4 b) = L := ⟨_, rfl⟩
  rw [hL2] at hI2 len2
  have HI2 := Lib.hid hI2
  have HL2 := Lib.hid hL2
  clear hI2 hL2 hb2 hg2 hs2 HI1 len1
  go_wp2_with fail
  have k2 : w2.cell? ⟨w.heap.size, 2, none⟩ = some (.int .i64 (i : Int)) := HI2.out.cell 2
  go_still_tail 4, (by kernel_rfl)
  clear k2
  go_wp2_with fail
  refine (put_any (w.heap.size + 1) 8 2 56 i L2 _ HI2.out.drew.blk (by omega) (by omega) (by omega)).mono ?_
  rintro e w3 ⟨rfl, hb3, hg3, hs3⟩
  have hI3 := HI2.out.drew.put hb3 hg3
  have len3 : (splice L2 8 (StampMath.be 2 i)).length = 64 := by rw [splice_length _ _ _ (by rw [StampMath.be_length]; omega)]; exact len2
  obtain ⟨L3, hL3⟩ : ∃ L, splice L2 8 (StampMath.be 2 i) = L := ⟨_, rfl⟩
  rw [hL3] at hI3 len3
  have HI3 := Lib.hid hI3
  have HL3 := Lib.hid hL3
  clear hI3 hL3 hb3 hg3 hs3 HI2 len2
  go_wp2_with fail
  have k3 : w3.cell? ⟨w.heap.size, 3, none⟩ = some (.int .i64 (t : Int)) := HI3.out.cell 3
  go_still_tail 4, (by kernel_rfl)
  clear k3
  go_wp2_with fail
  refine (put_any (w.heap.size + 1) 10 2 54 t L3 _ HI3.out.drew.blk (by omega) (by omega) (by omega)).mono ?_
  rintro e w4 ⟨rfl, hb4, hg4, hs4⟩
  have hI4 := HI3.out.drew.put hb4 hg4
  have len4 : (splice L3 10 (StampMath.be 2 t)).length = 64 := by rw [splice_length _ _ _ (by rw [StampMath.be_length]; omega)]; exact len3
  obtain ⟨L4, hL4⟩ : ∃ L, splice L3 10 (StampMath.be 2 t) = L := ⟨_, rfl⟩
  rw [hL4] at hI4 len4
  have HI4 := Lib.hid hI4
  have HL4 := Lib.hid hL4
  clear hI4 hL4 hb4 hg4 hs4 HI3 len3
  go_wp2_with fail
  have k4 : w4.cell? ⟨w.heap.size, 4, none⟩ = some (.slice A da.length c) := HI4.out.cell 4
  go_still_tail 5, (by kernel_rfl)
  clear k4
  go_wp2_with fail
  refine (put_any (w.heap.size + 1) 12 2 52 da.length L4 _ HI4.out.drew.blk (by omega) (by omega) (by omega)).mono ?_
  rintro e w5 ⟨rfl, hb5, hg5, hs5⟩
  have hI5 := HI4.out.drew.put hb5 hg5
  have len5 : (splice L4 12 (StampMath.be 2 da.length)).length = 64 := by rw [splice_length _ _ _ (by rw [StampMath.be_length]; omega)]; exact len4
  obtain ⟨L5, hL5⟩ : ∃ L, splice L4 12 (StampMath.be 2 da.length) = L := ⟨_, rfl⟩
  rw [hL5] at hI5 len5
  have HI5 := Lib.hid hI5
  have HL5 := Lib.hid hL5
  clear hI5 hL5 hb5 hg5 hs5 HI4 len4
  go_wp2_with fail
  have k5 : w5.cell? ⟨w.heap.size, 4, none⟩ = some (.slice A da.length c) := HI5.out.cell 4
  have ht5 := ht.below HI5.out.below
  have hr5 := hr.below HI5.out.below
  have hhead : Bs w5 (some ⟨w.heap.size + 1, 0, none⟩) (L5.take 14) := fun j cc hj => by
    have hj14 : j < 14 := by
      rcases Nat.lt_or_ge j 14 with h | h
      · exact h
      · rw [List.getElem?_eq_none (by simp; omega)] at hj; cases hj
    rw [List.getElem?_take_of_lt hj14] at hj
    have := HI5.out.blk.cell j cc hj
    refine ⟨_, rfl, HI5.out.blk.lt, ?_⟩
    have e2 : (⟨w.heap.size + 1, 0, none⟩ : Addr).add j = ⟨w.heap.size + 1, j, none⟩ := by unfold Addr.add; split <;> simp_all
    rw [e2]; exact this
  have hsum := crcSum_any _ 64 (L5.take 14) w5.drew (by simp; omega) ht5 hhead
  have e14 : (L5.take 14).length = 14 := by simp; omega
  rw [e14] at hsum
  have hS := CrcMath.add_lt (L5.take 14) (s := 0) (by decide)
  have hadd := crcAdd_any (CrcMath.add 0 (L5.take 14)) A c da w5.drew hS (by omega) ht5 hr5
  have HSum := Lib.hid (hsum.mono (R' := fun e w' => e = .returned (.int .u32 (CrcMath.add 0 (L5.take 14) : Nat)) ∧ w' = w5.drew) fun _ _ h => ⟨h.1, h.2.symm⟩)
  have HAdd := Lib.hid (hadd.mono (R' := fun e w' => e = .returned (.int .u32 (CrcMath.add (CrcMath.add 0 (L5.take 14)) da : Nat)) ∧ w' = w5.drew) fun _ _ h => ⟨h.1, h.2.symm⟩)
  have HHead := Lib.hid hhead
  clear hsum hadd e14 hhead
  refine wp_region_still_tail 9 (by kernel_rfl) (by kernel_rfl) ?_
  simp only [List.take_succ_cons, List.take_zero, List.drop_succ_cons, List.drop_zero]
  repeat still_step
  still_call HSum.out
  repeat still_step
  still_call HAdd.out
  repeat still_step
  refine wpStill_nil ?_
  rw [CrcMath.add_append]
  have hcl := CrcMath.add_lt (L5.take 14 ++ da) (s := 0) (by decide)
  clear hS HSum HAdd
  obtain ⟨cr, hcr⟩ : ∃ x, CrcMath.add 0 (L5.take 14 ++ da) = x := ⟨_, rfl⟩
  rw [hcr] at hcl ⊢
  have HCR := Lib.hid hcr
  clear hcr
  go_wp2_with fail
  refine (put_any (w.heap.size + 1) 14 4 50 cr L5 _ HI5.out.drew.blk (by omega) (by omega) (by omega)).mono ?_
  rintro e w6 ⟨rfl, hb6, hg6, hs6⟩
  have hI6 := HI5.out.drew.put hb6 hg6
  have len6 : (splice L5 14 (StampMath.be 4 cr)).length = 64 := by rw [splice_length _ _ _ (by rw [StampMath.be_length]; omega)]; exact len5
  obtain ⟨L6, hL6⟩ : ∃ L, splice L5 14 (StampMath.be 4 cr) = L := ⟨_, rfl⟩
  rw [hL6] at hI6 len6
  have HI6 := Lib.hid hI6
  have HL6 := Lib.hid hL6
  clear hI6 hL6 hb6 hg6 hs6 HI5 k5 ht5 hr5 HHead
  go_wp2_with fail
  have k6 : w6.cell? ⟨w.heap.size, 4, none⟩ = some (.slice A da.length c) := HI6.out.cell 4
  have hr6 := hr.below HI6.out.below
  go_still_tail 4, (by kernel_rfl)
  clear k6
  have hcp : ∀ w', Hid (w'.heap[w.heap.size + 1]? = some (.cells (Go.splice (bvs L6) 18 (bvs da)).toArray 5 (0, 0))) → Blk8 w' (w.heap.size + 1) (splice L6 18 da) := fun w' h => by
    have e : bvs (splice L6 18 da) = Go.splice (bvs L6) 18 (bvs da) := bvs_splice L6 18 da
    unfold Blk8
    rw [e]; exact h.out
  refine wpList_copy_splice rfl (.tmp 42) (.tmp 44) 29 29 rfl 5 Tryd.underlying29 (by kernel_rfl) (some ⟨w.heap.size + 1, 18, none⟩) A 46 46 da.length c rfl rfl (w.heap.size + 1) 18 (bvs L6) 5 HI6.out.drew.blk (bvs da) ?_ ?_ ?_ (bvs_one da) (w.heap.size + 1) _ HI6.out.drew.bel (Nat.le_refl _) ?_
  · rw [bvs_length]
    show da.length = min da.length 46
    omega
  · intro hpos
    refine ⟨rfl, ?_⟩
    cases A with
    | none =>
      rw [bvs_length] at hpos
      obtain ⟨ad, h, _⟩ := hr6 0 _ (List.getElem?_eq_getElem hpos)
      cases h
    | some ad =>
      refine ⟨ad, rfl, fun j v hv => ?_⟩
      obtain ⟨cc, hcc, rfl⟩ := bvs_inv hv
      obtain ⟨ad', h, _, hcell⟩ := hr6 j cc hcc
      injection h with h
      subst h
      exact hcell
  · rw [bvs_length, bvs_length]; omega
  intro w7 hh7 hbel7
  have hI7 : LayInv w w7 #[.int .i64 (a : Int), .int .i64 (b : Int), .int .i64 (i : Int), .int .i64 (t : Int), .slice A da.length c] (splice L6 18 da) := ⟨hcp w7 hh7, hbel7⟩
  have len7 : (splice L6 18 da).length = 64 := by rw [splice_length _ _ _ (by omega)]; exact len6
  obtain ⟨L7, hL7⟩ : ∃ L, splice L6 18 da = L := ⟨_, rfl⟩
  rw [hL7] at hI7 len7
  have HI7 := Lib.hid hI7
  have HL7 := Lib.hid hL7
  clear hI7 hL7 hcp hh7 hbel7 HI6 hr6
  go_wp2_with fail
  go_still_tail 4, (by kernel_rfl)
  have hcp : ∀ w', Hid (w'.heap[w.heap.size + 1]? = some (.cells (Go.splice (bvs L7) 56 (bvs (L7.take 8))).toArray 5 (0, 0))) → Blk8 w' (w.heap.size + 1) (splice L7 56 (L7.take 8)) := fun w' h => by
    have e : bvs (splice L7 56 (L7.take 8)) = Go.splice (bvs L7) 56 (bvs (L7.take 8)) := bvs_splice L7 56 _
    unfold Blk8
    rw [e]; exact h.out
  have e8 : (L7.take 8).length = 8 := by simp; omega
  refine wpList_copy_splice rfl (.tmp 47) (.tmp 49) 29 29 rfl 5 Tryd.underlying29 (by kernel_rfl) (some ⟨w.heap.size + 1, 56, none⟩) (some ⟨w.heap.size + 1, 0, none⟩) 8 8 8 64 rfl rfl (w.heap.size + 1) 56 (bvs L7) 5 HI7.out.drew.blk (bvs (L7.take 8)) ?_ ?_ ?_ (bvs_one _) (w.heap.size + 1) _ HI7.out.drew.bel (Nat.le_refl _) ?_
  · rw [bvs_length, e8]; rfl
  · intro _
    refine ⟨rfl, _, rfl, fun j v hv => ?_⟩
    obtain ⟨cc, hcc, rfl⟩ := bvs_inv hv
    have hj8 : j < 8 := by
      rcases Nat.lt_or_ge j 8 with h | h
      · exact h
      · rw [List.getElem?_eq_none (by omega)] at hcc; cases hcc
    rw [List.getElem?_take_of_lt hj8] at hcc
    have := HI7.out.drew.blk.cell j cc hcc
    have e2 : (⟨w.heap.size + 1, 0, none⟩ : Addr).add j = ⟨w.heap.size + 1, j, none⟩ := by unfold Addr.add; split <;> simp_all
    rw [e2]; exact this
  · rw [bvs_length, bvs_length, e8]; omega
  intro w8 hh8 hbel8
  have hI8 : LayInv w w8 #[.int .i64 (a : Int), .int .i64 (b : Int), .int .i64 (i : Int), .int .i64 (t : Int), .slice A da.length c] (splice L7 56 (L7.take 8)) := ⟨hcp w8 hh8, hbel8⟩
  have HI8 := Lib.hid hI8
  clear hI8 hcp hh8 hbel8 HI7 e8
  go_wp2_with fail
  go_ret
  refine ⟨rfl, ?_, HI8.out.below⟩
  have hfin : splice L7 56 (L7.take 8) = StampMath.lay ⟨(a : Int), (b : Int), (i : Int), (t : Int), da⟩ := by
    rw [← HL7.out, ← HL6.out]
    rw [← HCR.out, ← HL5.out, ← HL4.out, ← HL3.out, ← HL2.out, ← HL1.out]
    exact lay_splices a b i t da h9
  rw [← hfin]
  exact HI8.out.blk
end Go.Proofs.YtckihiiimomgfaaDoor

namespace Go.Proofs.YtckihiiimomgfaaDoor
open Go.RowKit

theorem Blk8.bs {w : World} {g : Nat} {L : List UInt8} (h : Blk8 w g L) : Bs w (some ⟨g, 0, none⟩) L := fun j c hj => by
  refine ⟨_, rfl, h.lt, ?_⟩
  have e2 : (⟨g, 0, none⟩ : Addr).add j = ⟨g, j, none⟩ := by unfold Addr.add; split <;> simp_all
  rw [e2]; exact h.cell j c hj
theorem Blk8.below {w w' : World} {g : Nat} {L : List UInt8} (h : Blk8 w g L) (hb : Below w.heap.size w w') : Blk8 w' g L := (hb.block g h.lt).trans h

set_option maxHeartbeats 400000 in
theorem stampLay_ok (p : StampMath.Part) (A : Option Addr) (c : Nat) (w : World) (hp : StampMath.right p) (hr : Bs w A p.data) (ht : Halves w) :
    Calls Tryd.prog 77 #[.agg #[.int .i64 p.epoch, .int .i64 p.seq, .int .i64 p.index, .int .i64 p.total, .slice A p.data.length c]] w fun e w' =>
      ∃ g, e = .returned (.tuple #[.slice (some ⟨g, 0, none⟩) 64 64, .int .i64 0]) ∧ w.heap.size ≤ g ∧ Blk8 w' g (StampMath.lay p) ∧ Below w.heap.size w w' := by
  have hrt : rightN p.epoch p.seq p.index p.total p.data.length = true := by rw [rightN_eq]; exact decide_eq_true hp
  obtain ⟨a, b, i, t, da⟩ := p
  simp only at *
  have HRT := Lib.hid hrt
  have HP := Lib.hid hp
  clear hrt hp
  go_enter Tryd.func77, Tryd.ntmps77
  go_wp2_with fail
  refine (right_any a b i t A da.length c _).mono ?_
  rintro e w1 ⟨rfl, hb1⟩
  rw [HRT.out]
  have k0 : w1.cell? ⟨w.heap.size, 0, none⟩ = some (.int .i64 a) := box_cell hb1 (by simp) 0
  have k1 : w1.cell? ⟨w.heap.size, 1, none⟩ = some (.int .i64 b) := box_cell hb1 (by simp) 1
  have k2 : w1.cell? ⟨w.heap.size, 2, none⟩ = some (.int .i64 i) := box_cell hb1 (by simp) 2
  have k3 : w1.cell? ⟨w.heap.size, 3, none⟩ = some (.int .i64 t) := box_cell hb1 (by simp) 3
  have k4 : w1.cell? ⟨w.heap.size, 4, none⟩ = some (.slice A da.length c) := box_cell hb1 (by simp) 4
  have hb01 : Below w.heap.size w w1 := below_then (below_alloc w _) hb1
  have hr1 := hr.below hb01
  have ht1 := ht.below hb01
  clear hb1
  go_wp2_with fail
  clear k0 k1 k2 k3 k4
  refine (lay_any ⟨a, b, i, t, da⟩ A c w1 HP.out hr1 ht1).mono ?_
  rintro e w2 ⟨rfl, hblk, hb2⟩
  go_wp2_with fail
  go_ret2
  exact ⟨_, rfl, by have := hb01.size; omega, hblk, below_then hb01 hb2⟩
set_option maxHeartbeats 400000 in
theorem stampLay_bad (p : StampMath.Part) (A : Option Addr) (c : Nat) (w : World) (hp : ¬ StampMath.right p) :
    Calls Tryd.prog 77 #[.agg #[.int .i64 p.epoch, .int .i64 p.seq, .int .i64 p.index, .int .i64 p.total, .slice A p.data.length c]] w fun e w' =>
      e = .returned (.tuple #[.slice none 0 0, .int .i64 2]) ∧ Below w.heap.size w w' := by
  have hrt : rightN p.epoch p.seq p.index p.total p.data.length = false := by rw [rightN_eq]; exact decide_eq_false hp
  obtain ⟨a, b, i, t, da⟩ := p
  simp only at *
  have HRT := Lib.hid hrt
  clear hrt hp
  go_enter Tryd.func77, Tryd.ntmps77
  go_wp2_with fail
  refine (right_any a b i t A da.length c _).mono ?_
  rintro e w1 ⟨rfl, hb1⟩
  rw [HRT.out]
  have hb01 : Below w.heap.size w w1 := below_then (below_alloc w _) hb1
  clear hb1
  go_wp2_with fail
  go_ret2
  exact ⟨rfl, hb01⟩

theorem get_at (ad : Addr) (l : List UInt8) (k n c : Nat) (w : World) (hk : 0 < k) (hn : n ≤ 4) (h : k + n ≤ l.length) (hr : Bs w (some ad) l) :
    Calls Tryd.prog 103 #[.slice (some ⟨ad.block, ad.off + k, none⟩) n c] w fun e w' => e = .returned (.int .i64 (StampMath.ofBe ((l.drop k).take n) : Nat)) ∧ w = w' := by
  have hl : ((l.drop k).take n).length = n := by simp; omega
  have := get_any (some ⟨ad.block, ad.off + k, none⟩) c ((l.drop k).take n) w (by omega) (hr.sub k n hk)
  rwa [hl] at this
theorem get_at0 (ad : Addr) (l : List UInt8) (n c : Nat) (w : World) (hn : n ≤ 4) (h : n ≤ l.length) (hr : Bs w (some ad) l) :
    Calls Tryd.prog 103 #[.slice (some ad) n c] w fun e w' => e = .returned (.int .i64 (StampMath.ofBe (l.take n) : Nat)) ∧ w = w' := by
  have hl : (l.take n).length = n := by simp; omega
  have := get_any (some ad) c (l.take n) w (by omega) (hr.take n)
  rwa [hl] at this
/-- a contract of a still call, at the drawn world -/
theorem still_of {P : Program} {f : FuncId} {args : Array Value} {w : World} {v : Value} (h : Calls P f args w.drew fun e w' => e = .returned v ∧ w.drew = w') :
    Calls P f args w.drew fun e w' => e = .returned v ∧ w' = w.drew := h.mono fun _ _ h => ⟨h.1, h.2.symm⟩
def ReadPost (l : List UInt8) (w : World) (e : Ending) (w' : World) : Prop :=
  Below w.heap.size w w' ∧ match StampMath.read l with
  | none => e = .returned (.tuple #[.agg #[.int .i64 0, .int .i64 0, .int .i64 0, .int .i64 0, .slice none 0 0], .int .i64 4])
  | some p => ∃ v, e = .returned (.tuple #[.agg #[.int .i64 p.epoch, .int .i64 p.seq, .int .i64 p.index, .int .i64 p.total, v], .int .i64 0]) ∧ w'.ownsRow w.heap.size 5 1 v p.data.length (bvs p.data)
theorem ReadPost.none_ {l : List UInt8} {w w' : World} (h : StampMath.read l = none) (hb : Below w.heap.size w w') :
    ReadPost l w (.returned (.tuple #[.agg #[.int .i64 0, .int .i64 0, .int .i64 0, .int .i64 0, .slice none 0 0], .int .i64 4])) w' := by
  unfold ReadPost
  rw [h]
  exact ⟨hb, rfl⟩
set_option maxHeartbeats 400000 in
theorem read_len (A : Option Addr) (c : Nat) (l : List UInt8) (w : World) (hl : l.length ≠ 64) (_hm : l.length ≤ 65536) : Calls Tryd.prog 94 #[.slice A l.length c] w (ReadPost l w) := by
  have hne : ((l.length : Int) != 64) = true := by rw [bne_iff_ne]; omega
  have hn : StampMath.read l = none := by unfold StampMath.read; rw [if_neg (fun h => hl h.1)]
  have HN := Lib.hid hn
  clear hn hl
  go_enter Tryd.func94, Tryd.ntmps94
  go_wp2_with fail
  refine bodyPost_ret (v := .tuple #[.agg #[.int .i64 0, .int .i64 0, .int .i64 0, .int .i64 0, .slice none 0 0], .int .i64 4]) (by simp [results, Tryd.results94, go_sem]) rfl (ReadPost.none_ HN.out ?_)
  exact below_alloc _ _
set_option maxHeartbeats 400000 in
theorem read_big (ad : Addr) (c : Nat) (l : List UInt8) (w : World) (hl : l.length = 64) (hc : 64 ≤ c) (_hm : c ≤ 9223372036854775807) (hr : Bs w (some ad) l) (hn : 38 < StampMath.ofBe ((l.drop 12).take 2)) :
    Calls Tryd.prog 94 #[.slice (some ad) 64 c] w (ReadPost l w) := by
  have hg := fun w' (hr : Bs w' (some ad) l) => get_at ad l 12 2 (c - 12) w' (by decide) (by decide) (by omega) hr
  have hno : StampMath.read l = none := by unfold StampMath.read; rw [if_neg (fun h => by omega)]
  have HN := Lib.hid hno
  have HG := Lib.hid hg
  have hlt : StampMath.ofBe ((l.drop 12).take 2) < 65536 := by
    have := StampMath.ofBe_lt ((l.drop 12).take 2)
    have e : ((l.drop 12).take 2).length = 2 := by simp; omega
    rw [e] at this
    omega
  clear hno hg hl
  go_enter Tryd.func94, Tryd.ntmps94
  go_wp2_with fail
  refine (HG.out _ (hr.alloc _)).mono ?_
  rintro e w' ⟨rfl, rfl⟩
  clear HG
  generalize StampMath.ofBe ((l.drop 12).take 2) = n at *
  go_wp2_with fail
  refine bodyPost_ret (v := .tuple #[.agg #[.int .i64 0, .int .i64 0, .int .i64 0, .int .i64 0, .slice none 0 0], .int .i64 4]) (by simp [results, Tryd.results94, go_sem]) rfl (ReadPost.none_ HN.out ?_)
  exact below_alloc _ _
theorem clone_at (ad : Addr) (l : List UInt8) (k n c : Nat) (w : World) (hk : 0 < k) (h : k + n ≤ l.length) (hn : n ≤ 65536) (hr : Bs w (some ad) l) :
    Calls Tryd.prog 64 #[.slice (some ⟨ad.block, ad.off + k, none⟩) n c] w fun e w' => ∃ v, e = .returned v ∧ w'.ownsRow w.heap.size 5 1 v n (bvs ((l.drop k).take n)) ∧ Below w.heap.size w w' := by
  have hl : ((l.drop k).take n).length = n := by simp; omega
  have := clone_any (some ⟨ad.block, ad.off + k, none⟩) c ((l.drop k).take n) w (by omega) (hr.sub k n hk)
  rwa [hl] at this
abbrev zeroPart : Obj := .cells #[.int .i64 0, .int .i64 0, .int .i64 0, .int .i64 0, .slice none 0 0] 130
/-- behind the making of the part: it lies in a block of its own, its data in another -/
def ReadCut (w : World) (l : List UInt8) (n : Nat) (s : Value) (wx : World) : Prop :=
  ∃ (g : Nat) (v : Value), s = .pointer (some ⟨g, 0, none⟩) ∧ PartAt wx g (StampMath.ofBe (l.take 4) : Nat) (StampMath.ofBe ((l.drop 4).take 4) : Nat) (StampMath.ofBe ((l.drop 8).take 2) : Nat) (StampMath.ofBe ((l.drop 10).take 2) : Nat) v ∧
    wx.ownsRow (w.heap.size + 1) 5 1 v n (bvs ((l.drop 18).take n)) ∧ Below (w.heap.size + 1) (w.alloc zeroPart) wx
set_option maxHeartbeats 1000000 in
theorem read_main (ad : Addr) (c : Nat) (l : List UInt8) (w : World) (hl : l.length = 64) (hc : 64 ≤ c) (hm : c ≤ 9223372036854775807) (hr : Bs w (some ad) l) (ht : Halves w) (hn : StampMath.ofBe ((l.drop 12).take 2) ≤ 38) :
    Calls Tryd.prog 94 #[.slice (some ad) 64 c] w (ReadPost l w) := by
  have hg := fun w' (hr : Bs w' (some ad) l) => get_at ad l 12 2 (c - 12) w' (by decide) (by decide) (by omega) hr
  have HG := Lib.hid hg
  have HL := Lib.hid hl
  clear hg hl
  go_enter Tryd.func94, Tryd.ntmps94
  go_wp2_with fail
  refine (HG.out _ (hr.alloc _)).mono ?_
  rintro e w' ⟨rfl, rfl⟩
  clear HG
  obtain ⟨n, hN⟩ : ∃ n, StampMath.ofBe ((l.drop 12).take 2) = n := ⟨_, rfl⟩
  rw [hN] at hn ⊢
  have HN := Lib.hid hN
  clear hN
  go_wp2_with fail
  have hr0 : Bs (w.alloc (.cells #[.int .i64 0, .int .i64 0, .int .i64 0, .int .i64 0, .slice none 0 0] 130)) (some ad) l := hr.alloc _
  have ht0 : Halves (w.alloc (.cells #[.int .i64 0, .int .i64 0, .int .i64 0, .int .i64 0, .slice none 0 0] 130)) := ht.below (below_alloc _ _)
  have hb0 : Below (w.heap.size + 1) (w.alloc (.cells #[.int .i64 0, .int .i64 0, .int .i64 0, .int .i64 0, .slice none 0 0] 130)) (w.alloc (.cells #[.int .i64 0, .int .i64 0, .int .i64 0, .int .i64 0, .slice none 0 0] 130)) := Below.refl _ _
  have hs0 : w.heap.size + 1 ≤ (w.alloc (.cells #[.int .i64 0, .int .i64 0, .int .i64 0, .int .i64 0, .slice none 0 0] 130)).heap.size := by simp
  obtain ⟨w0, hw0⟩ : ∃ w0, w.alloc (.cells #[.int .i64 0, .int .i64 0, .int .i64 0, .int .i64 0, .slice none 0 0] 130) = w0 := ⟨_, rfl⟩
  rw [hw0] at hr0 ht0 hs0 ⊢
  have HB0 : Hid (Below (w.heap.size + 1) (w.alloc (.cells #[.int .i64 0, .int .i64 0, .int .i64 0, .int .i64 0, .slice none 0 0] 130)) w0) := Lib.hid (hw0 ▸ hb0)
  clear hw0 hb0
  have hl64 : 64 ≤ l.length := by have := HL.out; omega
  have e1 : IntKind.i64.wrap (18 + (n : Int)) = 18 + (n : Int) := IntWalk.i64_in _ (by omega)
  have e2 : (0 : Int) ≤ 18 + (n : Int) := by omega
  have e3 : (18 : Int) ≤ 18 + (n : Int) := by omega
  have e4 : 18 + (n : Int) ≤ (c : Int) := by omega
  have e5 : (18 + (n : Int)).toNat = 18 + n := by omega
  have e6 : 18 + n - 18 = n := by omega
  have f1 : (4 : Int) ≤ (c : Int) := by omega
  have f2 : (8 : Int) ≤ (c : Int) := by omega
  have f3 : (10 : Int) ≤ (c : Int) := by omega
  have f4 : (12 : Int) ≤ (c : Int) := by omega
  have f5 : ¬ c = 4 := by omega
  have f6 : ¬ c = 8 := by omega
  have f7 : ¬ c = 10 := by omega
  have f8 : ¬ c = 18 := by omega
  go_cut [5] (fun s wx => ReadCut w l n s wx)
  case first =>
    -- stop
    go_region_held3 (fun _ => True) (first | trivial) (first
      | (go_at_call_of 103 (Value.slice (some ad) 4 c); refine (get_at0 ad l 4 c _ (by decide) (by omega) ?_).mono ?_; (first | exact hr0 | exact hr0.alloc _); rintro e w' ⟨rfl, rfl⟩)
      | (go_at_call 103; (with_reducible refine (get_at ad l _ _ _ _ ?_ ?_ ?_ ?_).mono ?_); (omega); (omega); (omega); (first | exact hr0 | exact hr0.alloc _); rintro e w' ⟨rfl, rfl⟩)
      | (go_at_call 64; (with_reducible refine (clone_at ad l 18 n (c - 18) _ (by decide) (by omega) (by omega) ?_).mono ?_); (first | exact hr0 | exact hr0.alloc _); rintro e w1 ⟨v, rfl, hown, hb1⟩; obtain ⟨A1, c1, rfl, hq⟩ := own_shape hown; obtain ⟨hc1, hf1⟩ := bcell hb1))
    all_goals
      go_wp2_with fail
      go_meet
      first
        | (obtain ⟨q1, q2, q3⟩ := box_behind (w0 := w0.drew) (T := 130) (a := (StampMath.ofBe (l.take 4) : Nat)) (b := (StampMath.ofBe ((l.drop 4).take 4) : Nat)) (i := (StampMath.ofBe ((l.drop 8).take 2) : Nat)) (t := (StampMath.ofBe ((l.drop 10).take 2) : Nat)) HB0.out.drew hs0 hb1 hown
           exact ⟨_, _, rfl, q1, q2, q3⟩)
        | (obtain ⟨q1, q2, q3⟩ := box_ahead (w0 := w0) (T := 130) (z0 := .int .i64 0) (z1 := .int .i64 0) (z2 := .int .i64 0) (z3 := .int .i64 0) (z4 := .slice none 0 0) (a := (StampMath.ofBe (l.take 4) : Nat)) (b := (StampMath.ofBe ((l.drop 4).take 4) : Nat)) (i := (StampMath.ofBe ((l.drop 8).take 2) : Nat)) (t := (StampMath.ofBe ((l.drop 10).take 2) : Nat)) HB0.out hs0 ((Below.refl _ _).drew.trans hb1) hown _ rfl
           exact ⟨_, _, rfl, q1, q2, q3⟩)
  case rest =>
    clear e1 e2 e3 e4 e5 e6 f1 f2 f3 f4 f5 f6 f7 f8
    obtain ⟨g, v, rfl, hat, hown, hb⟩ := hcut
    obtain ⟨A1, c1, rfl, hc1⟩ := own_shape hown
    clear hr0 ht0 hs0 HB0
    obtain ⟨a, hA⟩ : ∃ a, StampMath.ofBe (l.take 4) = a := ⟨_, rfl⟩
    obtain ⟨b, hB⟩ : ∃ a, StampMath.ofBe ((l.drop 4).take 4) = a := ⟨_, rfl⟩
    obtain ⟨i, hI⟩ : ∃ a, StampMath.ofBe ((l.drop 8).take 2) = a := ⟨_, rfl⟩
    obtain ⟨t, hT⟩ : ∃ a, StampMath.ofBe ((l.drop 10).take 2) = a := ⟨_, rfl⟩
    rw [hA, hB, hI, hT] at hat
    have hF : StampMath.fields l = ⟨(a : Int), (b : Int), (i : Int), (t : Int), (l.drop 18).take n⟩ := by
      unfold StampMath.fields
      rw [hA, hB, hI, hT, HN.out]
    have hdl : ((l.drop 18).take n).length = n := by have := HL.out; simp; omega
    obtain ⟨da, hda⟩ : ∃ da, (l.drop 18).take n = da := ⟨_, rfl⟩
    rw [hda] at hown hF hdl
    clear hA hB hI hT hda
    obtain rfl : da.length = n := hdl
    have HF := Lib.hid hF
    have HO := Lib.hid hown
    have HAT := Lib.hid hat
    have HB := Lib.hid hb
    have hbw : Below w.heap.size w wc := (below_alloc w _).trans (hb.mono (by omega))
    have hsz := hb.size
    have HBW := Lib.hid hbw
    clear hF hown hat hb hbw
    have k0 := HAT.out.c0
    have k1 := HAT.out.c1
    have k2 := HAT.out.c2
    have k3 := HAT.out.c3
    have k4 := HAT.out.c4
    go_wp2_with fail
    clear k0 k1 k2 k3 k4
    refine (right_any (a : Int) (b : Int) (i : Int) (t : Int) A1 da.length c1 _).mono ?_
    rintro e w1 ⟨rfl, hb1⟩
    have HAT1 := Lib.hid (HAT.out.below hb1)
    have HB1 := Lib.hid (HB.out.trans (hb1.mono (by simpa using hsz)))
    have HO1 := Lib.hid (own_below HO.out hb1)
    have HBW1 := Lib.hid (below_then HBW.out hb1)
    have hsz1 := hb1.size
    clear hb1 HAT HB HO HBW
    by_cases hrt : rightN (a : Int) (b : Int) (i : Int) (t : Int) da.length = true
    · rw [hrt]
      have hp : StampMath.right ⟨(a : Int), (b : Int), (i : Int), (t : Int), da⟩ := of_decide_eq_true hrt
      have HP := Lib.hid hp
      clear hrt hp
      have k0 := HAT1.out.c0
      have k1 := HAT1.out.c1
      have k2 := HAT1.out.c2
      have k3 := HAT1.out.c3
      have k4 := HAT1.out.c4
      go_wp2_with fail
      clear k0 k1 k2 k3 k4
      refine (lay_any ⟨(a : Int), (b : Int), (i : Int), (t : Int), da⟩ A1 c1 w1 HP.out (Bs.of_own HO1.out) (ht.below HBW1.out)).mono ?_
      rintro e w2 ⟨rfl, hblk, hb2⟩
      have HAT2 := Lib.hid (HAT1.out.below hb2)
      have HB2 := Lib.hid (HB1.out.trans (hb2.mono (by have := HB1.out.size; simpa using this)))
      have HO2 := Lib.hid (own_below HO1.out hb2)
      have HBW2 := Lib.hid (below_then HBW1.out hb2)
      have hbs := hblk.bs
      have hlay := StampMath.lay_length ⟨(a : Int), (b : Int), (i : Int), (t : Int), da⟩ HP.out.2.2.2.2.2.2.2.2
      obtain ⟨Y, hY⟩ : ∃ Y, StampMath.lay ⟨(a : Int), (b : Int), (i : Int), (t : Int), da⟩ = Y := ⟨_, rfl⟩
      rw [hY] at hbs hlay
      have HY := Lib.hid hY
      have heq := equal_at (some ⟨w1.heap.size + 1, 0, none⟩) (some ad) 64 c 64 64 Y l w2 hlay HL.out hbs (hr.below HBW2.out)
      have HE := Lib.hid heq
      clear hY hblk hb2 HAT1 HB1 HO1 HBW1 hbs hlay heq
      go_wp2_with fail
      refine HE.out.mono ?_
      rintro e w' ⟨rfl, rfl⟩
      have hsz2 : w.heap.size + 1 ≤ w2.heap.size := by have := HB2.out.size; simpa using this
      by_cases hs : Y = l
      · subst hs
        rw [sameB_self]
        have k0 := HAT2.out.c0
        have k1 := HAT2.out.c1
        have k2 := HAT2.out.c2
        have k3 := HAT2.out.c3
        have k4 := HAT2.out.c4
        have z0 : w2.cell? ⟨w.heap.size, 0, none⟩ = some (.int .i64 0) := box_cell HB2.out (by omega) 0
        have y0 : w2.frozen? ⟨w.heap.size, 0, none⟩ = false := box_free HB2.out (by omega) 0
        have z1 : w2.cell? ⟨w.heap.size, 1, none⟩ = some (.int .i64 0) := box_cell HB2.out (by omega) 1
        have y1 : w2.frozen? ⟨w.heap.size, 1, none⟩ = false := box_free HB2.out (by omega) 1
        have z2 : w2.cell? ⟨w.heap.size, 2, none⟩ = some (.int .i64 0) := box_cell HB2.out (by omega) 2
        have y2 : w2.frozen? ⟨w.heap.size, 2, none⟩ = false := box_free HB2.out (by omega) 2
        have z3 : w2.cell? ⟨w.heap.size, 3, none⟩ = some (.int .i64 0) := box_cell HB2.out (by omega) 3
        have y3 : w2.frozen? ⟨w.heap.size, 3, none⟩ = false := box_free HB2.out (by omega) 3
        have z4 : w2.cell? ⟨w.heap.size, 4, none⟩ = some (.slice none 0 0) := box_cell HB2.out (by omega) 4
        have y4 : w2.frozen? ⟨w.heap.size, 4, none⟩ = false := box_free HB2.out (by omega) 4
        go_wp2_with fail
        refine bodyPost_ret (v := .tuple #[.agg #[.int .i64 (a : Int), .int .i64 (b : Int), .int .i64 (i : Int), .int .i64 (t : Int), .slice A1 da.length c1], .int .i64 0]) (by simp [results, Tryd.results94, go_sem, z0, z1, z2, z3, z4]) rfl ?_
        clear k0 k1 k2 k3 k4 z0 z1 z2 z3 z4 y0 y1 y2 y3 y4
        have hrd : StampMath.read Y = some ⟨(a : Int), (b : Int), (i : Int), (t : Int), da⟩ := by
          rw [← HY.out]
          exact StampMath.read_lay _ HP.out
        have hg : w2.grownBy (((((w2.setCell ⟨w.heap.size, 0, none⟩ (.int .i64 (a : Int))).setCell ⟨w.heap.size, 1, none⟩ (.int .i64 (b : Int))).setCell ⟨w.heap.size, 2, none⟩ (.int .i64 (i : Int))).setCell ⟨w.heap.size, 3, none⟩ (.int .i64 (t : Int))).setCell ⟨w.heap.size, 4, none⟩ (.slice A1 da.length c1)) (some w.heap.size) :=
          grown_set (grown_set (grown_set (grown_set (grown_set ⟨rfl, rfl, rfl, Nat.le_refl _, fun _ _ _ => rfl⟩ 0 _) 1 _) 2 _) 3 _) 4 _
        unfold ReadPost
        rw [hrd]
        refine ⟨HBW2.out.grown hg (by omega) (fun k hk => by injection hk with hk; omega), _, rfl, own_base (HO2.out.kept hg ?_) (Nat.le_succ _)⟩
        cases hv : (Value.slice A1 da.length c1).ownBlock with
        | none => exact .inl rfl
        | some g' =>
          right
          have := (HO2.out.lt g' hv).1
          intro e
          injection e with e
          omega
      · have hsb : sameB Y l = false := decide_eq_false hs
        rw [hsb]
        have hrd : StampMath.read l = none := by
          unfold StampMath.read
          rw [HF.out, HY.out, if_neg (fun h => hs h.2.2.2)]
        have HRD := Lib.hid hrd
        clear hsb hrd hs
        have z0 : w2.cell? ⟨w.heap.size, 0, none⟩ = some (.int .i64 0) := box_cell HB2.out (by omega) 0
        have y0 : w2.frozen? ⟨w.heap.size, 0, none⟩ = false := box_free HB2.out (by omega) 0
        have z1 : w2.cell? ⟨w.heap.size, 1, none⟩ = some (.int .i64 0) := box_cell HB2.out (by omega) 1
        have y1 : w2.frozen? ⟨w.heap.size, 1, none⟩ = false := box_free HB2.out (by omega) 1
        have z2 : w2.cell? ⟨w.heap.size, 2, none⟩ = some (.int .i64 0) := box_cell HB2.out (by omega) 2
        have y2 : w2.frozen? ⟨w.heap.size, 2, none⟩ = false := box_free HB2.out (by omega) 2
        have z3 : w2.cell? ⟨w.heap.size, 3, none⟩ = some (.int .i64 0) := box_cell HB2.out (by omega) 3
        have y3 : w2.frozen? ⟨w.heap.size, 3, none⟩ = false := box_free HB2.out (by omega) 3
        have z4 : w2.cell? ⟨w.heap.size, 4, none⟩ = some (.slice none 0 0) := box_cell HB2.out (by omega) 4
        have y4 : w2.frozen? ⟨w.heap.size, 4, none⟩ = false := box_free HB2.out (by omega) 4
        go_wp2_with fail
        refine bodyPost_ret (v := .tuple #[.agg #[.int .i64 0, .int .i64 0, .int .i64 0, .int .i64 0, .slice none 0 0], .int .i64 4]) (by simp [results, Tryd.results94, go_sem, z0, z1, z2, z3, z4]) rfl (ReadPost.none_ HRD.out ?_)
        exact ((((HBW2.out.setCell (Nat.le_refl _) _).setCell (Nat.le_refl _) _).setCell (Nat.le_refl _) _).setCell (Nat.le_refl _) _).setCell (Nat.le_refl _) _
    · have hrf : rightN (a : Int) (b : Int) (i : Int) (t : Int) da.length = false := by simpa using hrt
      rw [hrf]
      have hrd : StampMath.read l = none := by
        unfold StampMath.read
        rw [HF.out, if_neg (fun h => hrt (decide_eq_true h.2.2.1))]
      have HRD := Lib.hid hrd
      clear hrf hrd hrt
      have z0 : w1.cell? ⟨w.heap.size, 0, none⟩ = some (.int .i64 0) := box_cell HB1.out (by omega) 0
      have y0 : w1.frozen? ⟨w.heap.size, 0, none⟩ = false := box_free HB1.out (by omega) 0
      have z1 : w1.cell? ⟨w.heap.size, 1, none⟩ = some (.int .i64 0) := box_cell HB1.out (by omega) 1
      have y1 : w1.frozen? ⟨w.heap.size, 1, none⟩ = false := box_free HB1.out (by omega) 1
      have z2 : w1.cell? ⟨w.heap.size, 2, none⟩ = some (.int .i64 0) := box_cell HB1.out (by omega) 2
      have y2 : w1.frozen? ⟨w.heap.size, 2, none⟩ = false := box_free HB1.out (by omega) 2
      have z3 : w1.cell? ⟨w.heap.size, 3, none⟩ = some (.int .i64 0) := box_cell HB1.out (by omega) 3
      have y3 : w1.frozen? ⟨w.heap.size, 3, none⟩ = false := box_free HB1.out (by omega) 3
      have z4 : w1.cell? ⟨w.heap.size, 4, none⟩ = some (.slice none 0 0) := box_cell HB1.out (by omega) 4
      have y4 : w1.frozen? ⟨w.heap.size, 4, none⟩ = false := box_free HB1.out (by omega) 4
      go_wp2_with fail
      refine bodyPost_ret (v := .tuple #[.agg #[.int .i64 0, .int .i64 0, .int .i64 0, .int .i64 0, .slice none 0 0], .int .i64 4]) (by simp [results, Tryd.results94, go_sem, z0, z1, z2, z3, z4]) rfl (ReadPost.none_ HRD.out ?_)
      exact ((((HBW1.out.setCell (Nat.le_refl _) _).setCell (Nat.le_refl _) _).setCell (Nat.le_refl _) _).setCell (Nat.le_refl _) _).setCell (Nat.le_refl _) _
theorem stampRead_any (A : Option Addr) (c : Nat) (l : List UInt8) (w : World) (hc : l.length ≤ c) (hm : c ≤ maxLen) (hl : l.length ≤ 65536) (hr : Bs w A l) (ht : Halves w) :
    Calls Tryd.prog 94 #[.slice A l.length c] w (ReadPost l w) := by
  by_cases h64 : l.length = 64
  · obtain ⟨ad, rfl, _, _⟩ := hr.at_ (k := 0) (by omega)
    unfold maxLen at hm
    rw [h64] at hc
    by_cases hn : StampMath.ofBe ((l.drop 12).take 2) ≤ 38
    · have := read_main ad c l w h64 hc (by omega) hr ht hn
      rwa [← h64] at this
    · have := read_big ad c l w h64 hc (by omega) hr (by omega)
      rwa [← h64] at this
  · exact read_len A c l w h64 hl
theorem stampRead_some (A : Option Addr) (c n : Nat) (l : List UInt8) (p : StampMath.Part) (w : World) (hn : l.length = n) (hc : n ≤ c) (hm : c ≤ maxLen) (hr : Bs w A l) (ht : Halves w) (h : StampMath.read l = some p) :
    Calls Tryd.prog 94 #[.slice A n c] w fun e w' => ∃ B d, e = .returned (.tuple #[.agg #[.int .i64 p.epoch, .int .i64 p.seq, .int .i64 p.index, .int .i64 p.total, .slice B p.data.length d], .int .i64 0]) ∧
      w'.ownsRow w.heap.size 5 1 (.slice B p.data.length d) p.data.length (bvs p.data) ∧ Below w.heap.size w w' := by
  subst hn
  have h64 := (StampMath.read_stamps h).2.2
  refine (stampRead_any A c l w hc hm (by omega) hr ht).mono ?_
  rintro e w1 ⟨hb1, hp⟩
  rw [h] at hp
  obtain ⟨v, rfl, hown⟩ := hp
  obtain ⟨B, d, rfl, _⟩ := own_shape hown
  exact ⟨B, d, rfl, hown, hb1⟩
theorem stampRead_none (A : Option Addr) (c n : Nat) (l : List UInt8) (w : World) (hn : l.length = n) (hc : n ≤ c) (hm : c ≤ maxLen) (hl : n ≤ 65536) (hr : Bs w A l) (ht : Halves w) (h : StampMath.read l = none) :
    Calls Tryd.prog 94 #[.slice A n c] w fun e w' => e = .returned (.tuple #[.agg #[.int .i64 0, .int .i64 0, .int .i64 0, .int .i64 0, .slice none 0 0], .int .i64 4]) ∧ Below w.heap.size w w' := by
  subst hn
  refine (stampRead_any A c l w hc hm hl hr ht).mono ?_
  rintro e w1 ⟨hb1, hp⟩
  rw [h] at hp
  exact ⟨hp, hb1⟩
end Go.Proofs.YtckihiiimomgfaaDoor
