/- The contracts of the stamps' small functions: right, put, get. -/
import Derived.Test.YtpejfngkdkkfnaaDoorClone
import Derived.Test.YtpejfngkdkkfnaaDoorStampMath
namespace Go.Proofs.YtpejfngkdkkfnaaDoor
open Go.RowKit

/-- whether a part may be, of its numbers and its length -/
def rightN (a b i t : Int) (n : Nat) : Bool :=
  decide (0 ≤ a ∧ a ≤ 4294967295 ∧ 0 ≤ b ∧ b ≤ 4294967295 ∧ 1 ≤ t ∧ t ≤ 65535 ∧ 0 ≤ i ∧ i < t ∧ n ≤ 38)
theorem rightN_eq (p : StampMath.Part) : rightN p.epoch p.seq p.index p.total p.data.length = decide (StampMath.right p) := rfl

set_option maxHeartbeats 2000000 in
theorem right_any (a b i t : Int) (A : Option Addr) (n c : Nat) (w : World) :
    Calls Tryd.prog 35 #[.agg #[.int .i64 a, .int .i64 b, .int .i64 i, .int .i64 t, .slice A n c]] w fun e w' => e = .returned (.bool (rightN a b i t n)) ∧ Below w.heap.size w w' := by
  by_cases h1 : 0 ≤ a
  · by_cases h2 : a ≤ 4294967295
    · by_cases h3 : 0 ≤ b
      · by_cases h4 : b ≤ 4294967295
        · by_cases h5 : 1 ≤ t
          · by_cases h6 : t ≤ 65535
            · by_cases h7 : 0 ≤ i
              · by_cases h8 : i < t
                · by_cases h9 : n ≤ 38
                  · have hr : rightN a b i t n = true := decide_eq_true ⟨h1, h2, h3, h4, h5, h6, h7, h8, h9⟩
                    have HR := Lib.hid hr
                    clear hr
                    go_enter Tryd.func35, Tryd.ntmps35
                    go_wp2
                    go_ret
                    exact ⟨ret_bool (by rw [HR.out]; simp; omega), below_alloc _ _⟩
                  · have hr : rightN a b i t n = false := decide_eq_false (by omega)
                    have HR := Lib.hid hr
                    clear hr
                    go_enter Tryd.func35, Tryd.ntmps35
                    go_wp2
                    go_ret
                    exact ⟨ret_bool (by rw [HR.out]; simp; omega), below_alloc _ _⟩
                · have hr : rightN a b i t n = false := decide_eq_false (by omega)
                  have HR := Lib.hid hr
                  clear hr
                  go_enter Tryd.func35, Tryd.ntmps35
                  go_wp2
                  go_ret
                  exact ⟨ret_bool HR.out.symm, below_alloc _ _⟩
              · have hr : rightN a b i t n = false := decide_eq_false (by omega)
                have HR := Lib.hid hr
                clear hr
                go_enter Tryd.func35, Tryd.ntmps35
                go_wp2
                go_ret
                exact ⟨ret_bool HR.out.symm, below_alloc _ _⟩
            · have hr : rightN a b i t n = false := decide_eq_false (by omega)
              have HR := Lib.hid hr
              clear hr
              go_enter Tryd.func35, Tryd.ntmps35
              go_wp2
              go_ret
              exact ⟨ret_bool HR.out.symm, below_alloc _ _⟩
          · have hr : rightN a b i t n = false := decide_eq_false (by omega)
            have HR := Lib.hid hr
            clear hr
            go_enter Tryd.func35, Tryd.ntmps35
            go_wp2
            go_ret
            exact ⟨ret_bool HR.out.symm, below_alloc _ _⟩
        · have hr : rightN a b i t n = false := decide_eq_false (by omega)
          have HR := Lib.hid hr
          clear hr
          go_enter Tryd.func35, Tryd.ntmps35
          go_wp2
          go_ret
          exact ⟨ret_bool HR.out.symm, below_alloc _ _⟩
      · have hr : rightN a b i t n = false := decide_eq_false (by omega)
        have HR := Lib.hid hr
        clear hr
        go_enter Tryd.func35, Tryd.ntmps35
        go_wp2
        go_ret
        exact ⟨ret_bool HR.out.symm, below_alloc _ _⟩
    · have hr : rightN a b i t n = false := decide_eq_false (by omega)
      have HR := Lib.hid hr
      clear hr
      go_enter Tryd.func35, Tryd.ntmps35
      go_wp2
      go_ret
      exact ⟨ret_bool HR.out.symm, below_alloc _ _⟩
  · have hr : rightN a b i t n = false := decide_eq_false (by omega)
    have HR := Lib.hid hr
    clear hr
    go_enter Tryd.func35, Tryd.ntmps35
    go_wp2
    go_ret
    exact ⟨ret_bool HR.out.symm, below_alloc _ _⟩

/-- bytes laid over others -/
def splice (L : List UInt8) (off : Nat) (m : List UInt8) : List UInt8 := L.take off ++ m ++ L.drop (off + m.length)
theorem splice_length (L : List UInt8) (off : Nat) (m : List UInt8) (h : off + m.length ≤ L.length) : (splice L off m).length = L.length := by simp [splice]; omega

def GetRel (l : List UInt8) (x i : Value) : Prop := ∃ k : Nat, k ≤ l.length ∧ i = .int .i64 (k : Nat) ∧ x = .int .i64 (StampMath.ofBe (l.take k) : Nat)
theorem get_or (x c : Nat) (hx : x < 16777216) (hc : c < 256) : bits .or .i64 ((x : Int) * 256) (c : Int) = ((x * 256 + c : Nat) : Int) := by
  have e : (x : Int) * 256 = ((x * 256 : Nat) : Int) := by omega
  have hx1 : x * 256 ||| c = x * 256 + c := nat_join 8 _ _ (by omega) (by omega)
  have hlt : x * 256 ||| c < 2 ^ 63 := by rw [hx1]; omega
  rw [e]
  show IntKind.i64.wrap ((BitVec.ofInt 64 ((x * 256 : Nat) : Int) ||| BitVec.ofInt 64 (c : Int)).toNat : Int) = _
  have e1 : (BitVec.ofInt 64 ((x * 256 : Nat) : Int)).toNat = x * 256 := by rw [BitVec.ofInt_natCast, BitVec.toNat_ofNat]; exact Nat.mod_eq_of_lt (by omega)
  have e2 : (BitVec.ofInt 64 (c : Int)).toNat = c := by rw [BitVec.ofInt_natCast, BitVec.toNat_ofNat]; exact Nat.mod_eq_of_lt (by omega)
  rw [BitVec.toNat_or, e1, e2, hx1, IntKind.wrap_i64]
  omega
set_option maxHeartbeats 400000 in
theorem get_any (A : Option Addr) (c : Nat) (l : List UInt8) (w : World) (hl : l.length ≤ 4) (hr : Bs w A l) :
    Calls Tryd.prog 39 #[.slice A l.length c] w fun e w' => e = .returned (.int .i64 (StampMath.ofBe l : Nat)) ∧ w = w' := by
  go_enter Tryd.func39, Tryd.ntmps39
  go_wp2_with fail
  go_loop [3, 8] (fun x i => GetRel l x i) (fun _ i => l.length - (intOf i).toNat)
  case atStart => exact ⟨0, Nat.zero_le _, rfl, rfl⟩
  case round =>
    obtain ⟨k, hk, rfl, rfl⟩ := hrel
    by_cases hlt : k < l.length
    · have hx : StampMath.ofBe (l.take k) < 16777216 := by
        have h1 := StampMath.ofBe_lt (l.take k)
        have h2 : (l.take k).length ≤ 3 := by rw [List.length_take]; omega
        have h3 : 256 ^ (l.take k).length ≤ 256 ^ 3 := Nat.pow_le_pow_right (by decide) h2
        omega
      generalize hX : StampMath.ofBe (l.take k) = x at hx
      have HX := Lib.hid hX
      clear hX
      obtain ⟨ad, rfl, _, hca⟩ := hr.at_ hlt
      have HR := Lib.hid hr
      clear hr
      generalize hC : l[k] = b at hca
      have HC := Lib.hid hC
      clear hC
      have hb := b.toNat_lt
      have hor := get_or x b.toNat hx hb
      go_wp2_with fail
      go_round
      case rel =>
        refine ⟨k + 1, by omega, by go_num, ?_⟩
        rw [List.take_succ_eq_append_getElem hlt, StampMath.ofBe_snoc, HX.out, HC.out]
        go_num
      case measure => simp [intOf]; omega
    · go_wp2_with fail
      go_ret
      exact ⟨ret_int' (by rw [List.take_of_length_le (by omega)]), rfl⟩

/-- the last k of n bytes are put -/
def putTo (L : List UInt8) (off n x : Nat) : Nat → List UInt8
  | 0 => L
  | k + 1 => (putTo L off n x k).set (off + (n - 1 - k)) (UInt8.ofNat (x / 256 ^ k))
theorem putTo_length (L : List UInt8) (off n x k : Nat) : (putTo L off n x k).length = L.length := by
  induction k with
  | zero => rfl
  | succ k ih => simp [putTo, ih]
theorem be_get (n x i : Nat) (h : i < n) : (StampMath.be n x)[i]? = some (UInt8.ofNat (x / 256 ^ (n - 1 - i))) := by
  induction n generalizing x i with
  | zero => omega
  | succ n ih =>
    simp only [StampMath.be]
    by_cases hi : i < n
    · rw [List.getElem?_append_left (by rw [StampMath.be_length]; exact hi), ih _ _ hi]
      have e : n + 1 - 1 - i = (n - 1 - i) + 1 := by omega
      rw [e, Nat.pow_succ, Nat.mul_comm, Nat.div_div_eq_div_mul]
    · obtain rfl : i = n := by omega
      rw [List.getElem?_append_right (by rw [StampMath.be_length]; omega), StampMath.be_length]
      simp
theorem putTo_get (L : List UInt8) (off n x k i : Nat) (hk : k ≤ n) (hn : off + n ≤ L.length) : (putTo L off n x k)[i]? = if off + (n - k) ≤ i ∧ i < off + n then some (UInt8.ofNat (x / 256 ^ (off + n - 1 - i))) else L[i]? := by
  induction k with
  | zero => rw [if_neg (by omega)]; rfl
  | succ k ih =>
    simp only [putTo]
    by_cases hi : i = off + (n - 1 - k)
    · subst hi
      have e : off + n - 1 - (off + (n - 1 - k)) = k := by omega
      rw [List.getElem?_set_self (by rw [putTo_length]; omega), if_pos (by omega), e]
    · rw [List.getElem?_set_ne (by omega), ih (by omega)]
      by_cases h1 : off + (n - k) ≤ i ∧ i < off + n
      · rw [if_pos h1, if_pos (by omega)]
      · rw [if_neg h1, if_neg (by omega)]
theorem putTo_all (L : List UInt8) (off n x : Nat) (hn : off + n ≤ L.length) : putTo L off n x n = splice L off (StampMath.be n x) := by
  refine List.ext_getElem? fun i => ?_
  rw [putTo_get L off n x n i (Nat.le_refl _) hn]
  unfold splice
  rw [StampMath.be_length]
  by_cases h1 : i < off
  · rw [if_neg (by omega), List.append_assoc, List.getElem?_append_left (by simp; omega), List.getElem?_take_of_lt h1]
  · by_cases h2 : i < off + n
    · rw [if_pos (by omega), List.getElem?_append_left (by simp [StampMath.be_length]; omega), List.getElem?_append_right (by simp; omega), be_get _ _ _ (by simp; omega)]
      have e : n - 1 - (i - (L.take off).length) = off + n - 1 - i := by simp; omega
      rw [e]
    · rw [if_neg (by omega), List.getElem?_append_right (by simp [StampMath.be_length]; omega), List.getElem?_drop]
      congr 1
      simp [StampMath.be_length]; omega
/-- block g holds the bytes L and nothing else -/
def Blk8 (w : World) (g : Nat) (L : List UInt8) : Prop := w.heap[g]? = some (.cells (bvs L).toArray 5 (0, 0))
theorem Blk8.lt {w : World} {g : Nat} {L : List UInt8} (h : Blk8 w g L) : g < w.heap.size := by
  rcases Nat.lt_or_ge g w.heap.size with h1 | h1
  · exact h1
  · unfold Blk8 at h; rw [Array.getElem?_eq_none h1] at h; cases h
theorem Blk8.cell {w : World} {g : Nat} {L : List UInt8} (h : Blk8 w g L) (i : Nat) (c : UInt8) (hc : L[i]? = some c) : w.cell? ⟨g, i, none⟩ = some (.int .u8 (c.toNat : Int)) := by
  rw [cell_of_row w g i _ _ _ h]
  simpa using bvs_get L i c hc
theorem Blk8.frozen {w : World} {g : Nat} {L : List UInt8} (h : Blk8 w g L) (i : Nat) : w.frozen? ⟨g, i, none⟩ = false := by
  unfold Blk8 at h
  simp [World.frozen?, h]
theorem Blk8.set {w : World} {g : Nat} {L : List UInt8} (h : Blk8 w g L) (i : Nat) (c : UInt8) : Blk8 (w.setCell ⟨g, i, none⟩ (.int .u8 (c.toNat : Int))) g (L.set i c) := by
  unfold Blk8 at h ⊢
  have e : (bvs (L.set i c)).toArray = (bvs L).toArray.setIfInBounds i (.int .u8 (c.toNat : Int)) := by
    apply Array.ext'
    simp [bvs, List.map_set]
  rw [e]
  simp [World.setCell, Array.getElem?_modify, h]
theorem only_set {a w : World} {g : Nat} (h : a.grownBy w (some g)) (i : Nat) (u : Value) : a.grownBy (w.setCell ⟨g, i, none⟩ u) (some g) :=
  ⟨h.os, h.tape, h.output, by simpa [World.setCell] using h.size, fun k hk hne => (Below.heap_setCell w ⟨g, i, none⟩ u k (by rintro rfl; exact hne rfl)).trans (h.block k hk hne)⟩
theorem only_refl (w : World) (row : Option Nat) : w.grownBy w row := ⟨rfl, rfl, rfl, Nat.le_refl _, fun _ _ _ => rfl⟩
def PutRel (L : List UInt8) (g off n x0 : Nat) (w : World) (x i : Value) (wr : World) : Prop :=
  ∃ k y : Nat, k ≤ n ∧ i = .int .i64 ((n : Int) - 1 - k) ∧ x = .int .i64 (y : Nat) ∧ y = x0 / 256 ^ k ∧ Blk8 wr g (putTo L off n x0 k) ∧ w.grownBy wr (some g) ∧ wr.heap.size = w.heap.size
set_option maxHeartbeats 400000 in
theorem put_any (g off n c x : Nat) (L : List UInt8) (w : World) (h : Blk8 w g L) (hn : off + n ≤ L.length) (hL : L.length ≤ 65536) (_hx : x ≤ 9223372036854775807) :
    Calls Tryd.prog 43 #[.slice (some ⟨g, off, none⟩) n c, .int .i64 (x : Nat)] w fun e w' => e = .returned (.tuple #[]) ∧ Blk8 w' g (splice L off (StampMath.be n x)) ∧ w.grownBy w' (some g) ∧ w'.heap.size = w.heap.size := by
  go_enter Tryd.func43, Tryd.ntmps43
  go_wp2_with fail
  go_loopw [1, 4] (fun x' i wr => PutRel L g off n x w x' i wr) (fun _ i _ => (intOf i + 1).toNat)
  case atStart => exact ⟨0, x, Nat.zero_le _, by go_num, rfl, by simp, h, only_refl _ _, rfl⟩
  case round =>
    obtain ⟨k, y, hk, rfl, rfl, hy, hb, hg, hs⟩ := hrel
    clear h
    have hyx : y ≤ x := by rw [hy]; exact Nat.div_le_self _ _
    have HY := Lib.hid hy
    have HS := Lib.hid hs
    clear hy hs
    by_cases hlt : k < n
    · have hlen := putTo_length L off n x k
      obtain ⟨c0, hc⟩ : ∃ v, wr.cell? ⟨g, off + (n - 1 - k), none⟩ = some v := ⟨_, hb.cell (off + (n - 1 - k)) _ (List.getElem?_eq_getElem (by rw [hlen]; omega))⟩
      have hf := hb.frozen (off + (n - 1 - k))
      have HB := Lib.hid hb
      have HLEN := Lib.hid hlen
      clear hb hlen
      go_wp2_with fail
      go_roundw
      case rel =>
        have e : (y : Int) % 256 = ((UInt8.ofNat (x / 256 ^ k)).toNat : Int) := by rw [UInt8.toNat_ofNat', ← HY.out]; omega
        rw [e]
        refine ⟨k + 1, y / 256, by omega, by go_num, by go_num, ?_, HB.out.set _ _, only_set hg _ _, ?_⟩
        · rw [HY.out, Nat.div_div_eq_div_mul, Nat.pow_succ]
        · have := HS.out
          simpa [World.setCell] using this
      case measure => simp [intOf]; omega
    · go_wp2_with fail
      go_end0
      refine ⟨rfl, ?_, hg, HS.out⟩
      obtain rfl : k = n := by omega
      rw [← putTo_all L off k x hn]
      exact hb
end Go.Proofs.YtpejfngkdkkfnaaDoor
