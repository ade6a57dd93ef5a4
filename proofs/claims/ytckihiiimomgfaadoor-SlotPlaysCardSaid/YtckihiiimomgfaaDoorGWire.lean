/- Texts laid as one: WireMath, Wire, WireR, WireR2, WireW. -/
import Derived.Test.YtckihiiimomgfaaDoorGMem
import Derived.Lib.ConvBytes
import Derived.Deep.RegionHeld3
import Derived.Deep.RegionLaw
namespace Go.Proofs.YtckihiiimomgfaaDoor.WireMath

/-- a number's bytes -/
def put (x : Nat) : List UInt8 := if h : x < 128 then [UInt8.ofNat x] else UInt8.ofNat (x % 128 + 128) :: put (x / 128)
termination_by x
decreasing_by omega
theorem put_small {x : Nat} (h : x < 128) : put x = [UInt8.ofNat x] := by rw [put, dif_pos h]
theorem put_big {x : Nat} (h : ¬ x < 128) : put x = UInt8.ofNat (x % 128 + 128) :: put (x / 128) := by rw [put, dif_neg h]
theorem put_pos (x : Nat) : 0 < (put x).length := by
  by_cases h : x < 128
  · rw [put_small h]; simp
  · rw [put_big h]; simp
theorem put_le (k x : Nat) (h : x < 128 ^ (k + 1)) : (put x).length ≤ k + 1 := by
  induction k generalizing x with
  | zero => rw [put_small (by simpa using h)]; simp
  | succ k ih =>
    by_cases h1 : x < 128
    · rw [put_small h1]; simp
    · rw [put_big h1]
      have := ih (x / 128) (by rw [Nat.pow_succ] at h; omega)
      simp; omega

/-- the number at the beginning of bytes, read from place i on with x so far: it, how many bytes it has, an error's number -/
def getF (i x : Nat) : List UInt8 → Nat × Nat × Nat
  | [] => (0, 0, 3)
  | c :: r =>
    if i = 10 ∨ i = 9 ∧ 1 < c.toNat then (0, 0, 5)
    else if 128 ≤ c.toNat then getF (i + 1) (x + (c.toNat - 128) * 2 ^ (7 * i)) r
    else if c.toNat = 0 ∧ 0 < i then (0, 0, 4)
    else (x + c.toNat * 2 ^ (7 * i), i + 1, 0)
def get (b : List UInt8) : Nat × Nat × Nat := getF 0 0 b

theorem u8_small {n : Nat} (h : n < 256) : (UInt8.ofNat n).toNat = n := by rw [UInt8.toNat_ofNat']; exact Nat.mod_eq_of_lt h
theorem pow7 (i : Nat) : 2 ^ (7 * (i + 1)) = 128 * 2 ^ (7 * i) := by
  rw [show 7 * (i + 1) = 7 + 7 * i by omega, Nat.pow_add]

theorem getF_put (i a x : Nat) (r : List UInt8) (hi : i ≤ 9) (hx : x * 2 ^ (7 * i) < 18446744073709551616) (h0 : 0 < i → 0 < x) :
    getF i a (put x ++ r) = (a + x * 2 ^ (7 * i), i + (put x).length, 0) := by
  have gen : ∀ n, ∀ i a x, n = 9 - i → i ≤ 9 → x * 2 ^ (7 * i) < 18446744073709551616 → (0 < i → 0 < x) → getF i a (put x ++ r) = (a + x * 2 ^ (7 * i), i + (put x).length, 0) := by
    intro n
    induction n with
    | zero =>
      intro i a x hn hi hx h0
      obtain rfl : i = 9 := by omega
      have hx2 : x < 2 := by omega
      have hx0 := h0 (by omega)
      rw [put_small (by omega)]
      simp only [List.cons_append, List.nil_append, getF]
      rw [u8_small (by omega), if_neg (by omega), if_neg (by omega), if_neg (by omega)]
      rfl
    | succ n ih =>
      intro i a x hn hi hx h0
      by_cases h : x < 128
      · rw [put_small h]
        simp only [List.cons_append, List.nil_append, getF]
        rw [u8_small (by omega), if_neg (by omega), if_neg (by omega), if_neg (by omega)]
        rfl
      · rw [put_big h]
        simp only [List.cons_append, getF]
        rw [u8_small (by omega), if_neg (by omega), if_pos (by omega)]
        have hp : 0 < 2 ^ (7 * i) := Nat.pow_pos (by decide)
        have hle : x / 128 * 2 ^ (7 * (i + 1)) ≤ x * 2 ^ (7 * i) := by
          rw [pow7, ← Nat.mul_assoc]
          exact Nat.mul_le_mul_right _ (by omega)
        rw [ih (i + 1) _ (x / 128) (by omega) (by omega) (by omega) (fun _ => by omega)]
        have e : x % 128 + 128 - 128 = x % 128 := by omega
        rw [e, pow7, ← Nat.mul_assoc, Nat.add_assoc, ← Nat.add_mul]
        have e2 : x % 128 + x / 128 * 128 = x := by omega
        rw [e2]
        simp only [List.length_cons, Prod.mk.injEq, true_and, and_true]
        omega
  exact gen _ i a x rfl hi hx h0
/-- there and back -/
theorem get_put (x : Nat) (r : List UInt8) (hx : x < 18446744073709551616) : get (put x ++ r) = (x, (put x).length, 0) := by
  have := getF_put 0 0 x r (by omega) (by simpa using hx) (by omega)
  simpa [get] using this
/-- in one way alone -/
theorem getF_one (i a : Nat) (b : List UInt8) (y n : Nat) (h : getF i a b = (y, n, 0)) (hi : i ≤ 9) :
    ∃ x, y = a + x * 2 ^ (7 * i) ∧ i < n ∧ n - i ≤ b.length ∧ put x = b.take (n - i) ∧ (0 < i → 0 < x) ∧ x * 2 ^ (7 * i) < 18446744073709551616 ∧ n ≤ 10 := by
  induction b generalizing i a with
  | nil => simp [getF] at h
  | cons c r ih =>
    have hc := c.toNat_lt
    simp only [getF] at h
    split at h
    · simp at h
    · next h1 =>
      split at h
      · next h2 =>
        have hi8 : i ≤ 8 := by omega
        obtain ⟨x, e1, e2, e3, e4, e5, e6, e7⟩ := ih (i + 1) _ h (by omega)
        have hx := e5 (by omega)
        refine ⟨x * 128 + (c.toNat - 128), ?_, by omega, by simp; omega, ?_, fun _ => by omega, ?_, e7⟩
        · rw [e1, pow7, Nat.add_mul, Nat.mul_assoc]; omega
        · rw [put_big (by omega)]
          have a1 : (x * 128 + (c.toNat - 128)) % 128 = c.toNat - 128 := by omega
          have a2 : (x * 128 + (c.toNat - 128)) / 128 = x := by omega
          have a3 : UInt8.ofNat (c.toNat - 128 + 128) = c := by
            apply UInt8.toNat_inj.1
            rw [u8_small (by omega)]
            omega
          rw [a1, a2, a3, e4, show n - i = (n - (i + 1)) + 1 by omega, List.take_succ_cons]
        · have hb : (x * 128 + (c.toNat - 128)) * 2 ^ (7 * i) < (x * 128 + 128) * 2 ^ (7 * i) := Nat.mul_lt_mul_of_pos_right (by omega) (Nat.pow_pos (by decide))
          have hb2 : (x * 128 + 128) * 2 ^ (7 * i) = (x + 1) * 2 ^ (7 * (i + 1)) := by rw [pow7, ← Nat.mul_assoc]; congr 1; omega
          have hb3 : (x + 1) * 2 ^ (7 * (i + 1)) ≤ 18446744073709551616 := by
            have hd : (18446744073709551616 : Nat) = 2 ^ (64 - 7 * (i + 1)) * 2 ^ (7 * (i + 1)) := by
              rw [← Nat.pow_add, show 64 - 7 * (i + 1) + 7 * (i + 1) = 64 by omega]
            rw [hd] at e6 ⊢
            exact Nat.mul_le_mul_right _ (Nat.lt_of_mul_lt_mul_right e6)
          omega
      · next h2 =>
        split at h
        · simp at h
        · next h3 =>
          simp only [Prod.mk.injEq, and_true] at h
          obtain ⟨rfl, rfl⟩ := h
          refine ⟨c.toNat, rfl, by omega, by simp, ?_, fun h0 => by omega, ?_, by omega⟩
          · rw [put_small (by omega), show i + 1 - i = 1 by omega]
            simp
          · by_cases h9 : i = 9
            · subst h9
              have : c.toNat ≤ 1 := by omega
              have := Nat.mul_le_mul_right (2 ^ (7 * 9)) this
              simp at this
              omega
            · have hp : 2 ^ (7 * i) ≤ 2 ^ 56 := Nat.pow_le_pow_right (by decide) (by omega)
              have := Nat.mul_le_mul (show c.toNat ≤ 127 by omega) hp
              simp at this
              omega
theorem get_one {b : List UInt8} {x n : Nat} (h : get b = (x, n, 0)) : put x = b.take n ∧ n ≤ b.length ∧ 0 < n ∧ x < 18446744073709551616 ∧ n ≤ 10 := by
  obtain ⟨y, e1, e2, e3, e4, _, e6, e7⟩ := getF_one 0 0 b x n h (by omega)
  simp at e1
  subst e1
  exact ⟨by simpa using e4, by simpa using e3, e2, by simpa using e6, e7⟩
theorem getF_err (i a : Nat) (b : List UInt8) (y n e : Nat) (h : getF i a b = (y, n, e)) (he : e ≠ 0) : y = 0 ∧ n = 0 ∧ (e = 3 ∨ e = 4 ∨ e = 5) := by
  induction b generalizing i a with
  | nil => simp [getF] at h; omega
  | cons c r ih =>
    simp only [getF] at h
    split at h
    · simp at h; omega
    · split at h
      · exact ih _ _ h
      · split at h
        · simp at h; omega
        · simp at h; omega

end Go.Proofs.YtckihiiimomgfaaDoor.WireMath

namespace Go.Proofs.YtckihiiimomgfaaDoor
open Go.RowKit
theorem wire_or (x : Nat) : bits .or .u8 ((x : Int) % 256) 128 = ((x % 128 + 128 : Nat) : Int) := by
  have h : ∀ n : Nat, n < 256 → bits .or .u8 (n : Int) 128 = ((n % 128 + 128 : Nat) : Int) := by decide +kernel
  have e : (x : Int) % 256 = ((x % 256 : Nat) : Int) := by omega
  rw [e, h _ (Nat.mod_lt _ (by decide))]
  congr 1
  omega
theorem byte_lit (n : Nat) (h : n < 256) : (#[.int .u8 (n : Int)] : Array Value) = (bvs [UInt8.ofNat n]).toArray := by
  simp only [bvs, List.map_cons, List.map_nil, UInt8.toNat_ofNat', Nat.mod_eq_of_lt h]
def PutLoop (x : Nat) (w : World) (y o : Value) (wr : World) : Prop :=
  ∃ (z : Nat) (l : List UInt8), z ≤ x ∧ y = .int .u64 (z : Nat) ∧ WireMath.put x = l ++ WireMath.put z ∧ wr.ownsRow w.heap.size 5 1 o l.length (bvs l) ∧ Below w.heap.size w wr
set_option maxRecDepth 100000 in
set_option maxHeartbeats 400000 in
theorem wirePut_any (x : Nat) (w : World) (hx : x < 18446744073709551616) :
    Calls Tryd.prog 76 #[.int .u64 (x : Nat)] w fun e w' => ∃ v, e = .returned v ∧ w'.ownsRow w.heap.size 5 1 v (WireMath.put x).length (bvs (WireMath.put x)) ∧ Below w.heap.size w w' := by
  obtain ⟨i0, hi0, hz0, hz1, hz2⟩ := info_parts info_u8
  have hpl := WireMath.put_le 9 x (by omega)
  have HX := Lib.hid hx
  clear hx
  go_enter Tryd.func76, Tryd.ntmps76
  go_wp2_with fail
  go_loopw [0, 3] (fun y o wr => PutLoop x w y o wr) (fun y _ _ => (intOf y).toNat)
  case atStart => exact ⟨x, [], Nat.le_refl _, rfl, by simp, World.ownsRow_nil _ _ _ _, Below.refl _ _⟩
  case round =>
    obtain ⟨z, l, hz, rfl, hput, hown, hbr⟩ := hrel
    have hll : l.length ≤ 10 := by
      have := congrArg List.length hput
      rw [List.length_append] at this
      omega
    have HP := Lib.hid hput
    have hown' : wr.ownsRow w.heap.size 5 1 u3 (bvs l).length (bvs l) := by rw [bvs_length]; exact hown
    have HO := Lib.hid hown'
    clear hput hown hown'
    have hs := hbr.size
    by_cases hlt : 128 ≤ z
    · have hor := wire_or z
      have hmod : z % 128 + 128 < 256 := by omega
      obtain ⟨q, hq⟩ : ∃ q, z % 128 + 128 = q := ⟨_, rfl⟩
      rw [hq] at hor hmod
      have HQ := Lib.hid hq
      clear hq
      go_wp2_with (at_builtin; refine wpList_append_bs _ rfl _ _ 29 rfl w.heap.size 5 i0 (.int .u8 0) Tryd.underlying29 hi0 hz0 hz1 hz2 rfl u3 (bvs l) rfl (HO.out.alloc _) (some ⟨wr.heap.size, 0, none⟩) 1 1 [UInt8.ofNat q] rfl rfl ?c1 ?c2 ?c3 ?_)
      case c1 => exact Bs.lit wr _ _ _ _ (byte_lit q hmod)
      case c2 => rw [bvs_length]; simp; omega
      case c3 => simp; omega
      intro v1 w1 hown1 hg1 _
      have hbr1 : Below w.heap.size w w1 := (hbr.alloc (by omega) _).grown hg1 (by simp; omega) (fun g hg => ((HO.out.alloc (.cells #[] 0)).lt g hg).1)
      have HO1 := Lib.hid hown1
      clear hown1 hg1 hor
      go_wp2_with fail
      go_roundw
      case rel =>
        refine ⟨z / 128, l ++ [UInt8.ofNat q], by omega, by go_num, ?_, ?_, hbr1⟩
        · rw [HP.out, WireMath.put_big (by omega), ← HQ.out]
          simp
        · have h := HO1.out
          rw [bvs_append, List.length_append]
          rw [bvs_length] at h
          exact h
      case measure => simp [intOf]; omega
    · have hzz : z % 256 = z := by omega
      go_wp2_with (at_builtin; refine wpList_append_bs _ rfl _ _ 29 rfl w.heap.size 5 i0 (.int .u8 0) Tryd.underlying29 hi0 hz0 hz1 hz2 rfl u3 (bvs l) rfl (HO.out.alloc _) (some ⟨wr.heap.size, 0, none⟩) 1 1 [UInt8.ofNat z] rfl rfl ?d1 ?d2 ?d3 ?_)
      case d1 => exact Bs.lit wr _ _ _ _ (byte_lit z (by omega))
      case d2 => rw [bvs_length]; simp; omega
      case d3 => simp; omega
      intro v1 w1 hown1 hg1 _
      have hbr1 : Below w.heap.size w w1 := (hbr.alloc (by omega) _).grown hg1 (by simp; omega) (fun g hg => ((HO.out.alloc (.cells #[] 0)).lt g hg).1)
      have HO1 := Lib.hid hown1
      clear hown1 hg1
      go_wp2_with fail
      go_ret
      refine ⟨v1, rfl, ?_, hbr1⟩
      have h := HO1.out
      rw [HP.out, WireMath.put_small (by omega), bvs_append, List.length_append]
      rw [bvs_length] at h
      exact h
theorem ref_add (x : Nat) : (128 + (x : Int) % 128) % 256 = ((x % 128 + 128 : Nat) : Int) := by omega
set_option maxRecDepth 100000 in
set_option maxHeartbeats 400000 in
theorem refPut_ind (k : Nat) : ∀ (x : Nat) (w : World), x < 128 ^ (k + 1) → x < 18446744073709551616 →
    Calls Tryd.prog 56 #[.int .u64 (x : Nat)] w fun e w' => ∃ v, e = .returned v ∧ w'.ownsRow w.heap.size 5 1 v (WireMath.put x).length (bvs (WireMath.put x)) ∧ Below w.heap.size w w' := by
  have hsmall : ∀ (x : Nat) (w : World), x < 128 → Calls Tryd.prog 56 #[.int .u64 (x : Nat)] w fun e w' => ∃ v, e = .returned v ∧ w'.ownsRow w.heap.size 5 1 v (WireMath.put x).length (bvs (WireMath.put x)) ∧ Below w.heap.size w w' := by
    intro x w hx
    have hb := byte_lit x (by omega)
    have HB := Lib.hid hb
    have HP := Lib.hid (WireMath.put_small hx)
    clear hb
    go_enter Tryd.func56, Tryd.ntmps56
    go_wp2_with fail
    go_ret
    refine ⟨_, rfl, ?_, below_alloc _ _⟩
    rw [HP.out]
    rw [HB.out]
    exact World.ownsRow_lit (size := 1) (e := 5) w (bvs [UInt8.ofNat x]).toArray 1 (Nat.le_refl _) (by unfold maxLen; omega) (by simp [bvs])
  induction k with
  | zero => intro x w hx _; exact hsmall x w (by simpa using hx)
  | succ k ih =>
    intro x w hk hx
    by_cases h128 : x < 128
    · exact hsmall x w h128
    · have hpl := WireMath.put_le (k + 1) x hk
      have hp10 := WireMath.put_le 9 x (by omega)
      have hadd := ref_add x
      have hq256 : x % 128 + 128 < 256 := by omega
      have hpb := WireMath.put_big h128
      obtain ⟨q, hq⟩ : ∃ q, x % 128 + 128 = q := ⟨_, rfl⟩
      rw [hq] at hadd hq256 hpb
      have hih := ih (x / 128) (w.alloc (.cells (bvs [UInt8.ofNat q]).toArray 5)) (by rw [Nat.pow_succ] at hk; omega) (by omega)
      have hlit := byte_lit q hq256
      have hown0 := World.ownsRow_lit (size := 1) (e := 5) w (bvs [UInt8.ofNat q]).toArray 1 (Nat.le_refl w.heap.size) (by unfold maxLen; omega) (by simp [bvs])
      have hown1 : (w.alloc (.cells (bvs [UInt8.ofNat q]).toArray 5)).ownsRow w.heap.size 5 1 (.slice (some ⟨w.heap.size, 0, none⟩) 1 1) (bvs [UInt8.ofNat q]).length (bvs [UInt8.ofNat q]) := hown0
      have hcell : 128 + (x : Int) % 128 = (q : Int) := by omega
      have hdiv : IntKind.u64.wrap ((x : Int) / 128) = ((x / 128 : Nat) : Int) := by rw [IntKind.wrap_u64]; omega
      have HC := Lib.hid hcell
      have HD := Lib.hid hdiv
      clear hcell hdiv
      rw [← hlit] at hih hown1
      have HI := Lib.hid hih
      have HO := Lib.hid hown1
      have HPB := Lib.hid hpb
      clear hih hown0 hown1 ih hq hpb hlit hadd hk hx hsmall
      obtain ⟨i0, hi0, hz0, hz1, hz2⟩ := info_parts info_u8
      go_enter Tryd.func56, Tryd.ntmps56
      go_wp2_with fail
      rw [HD.out, HC.out]
      refine HI.out.mono ?_
      rintro e w1 ⟨v1, rfl, hown, hb⟩
      obtain ⟨A1, c1, rfl, _⟩ := own_shape hown
      have hs1 := Bs.of_own hown
      have HO1 := Lib.hid (own_below HO.out hb)
      have hbw := below_then (below_alloc w _) hb
      have hl1 : (WireMath.put (x / 128)).length ≤ 10 := by
        have := congrArg List.length HPB.out
        rw [List.length_cons] at this
        omega
      obtain ⟨L, hL⟩ : ∃ L, WireMath.put (x / 128) = L := ⟨_, rfl⟩
      rw [hL] at hs1 hl1 HPB ⊢
      have hz := hbw.size
      clear hown hb HO hL HI
      go_wp2_with (at_builtin; refine wpList_append_bs _ rfl _ _ 29 rfl w.heap.size 5 i0 (.int .u8 0) Tryd.underlying29 hi0 hz0 hz1 hz2 rfl (.slice (some ⟨w.heap.size, 0, none⟩) 1 1) (bvs [UInt8.ofNat q]) rfl HO1.out A1 c1 L.length L rfl rfl hs1 ?e2 hz ?_)
      case e2 => rw [bvs_length]; simp; omega
      intro v2 w2 hown2 hg2 _
      have HO2 := Lib.hid hown2
      have hb2 : Below w.heap.size w w2 := hbw.grown hg2 hz (fun g hg => (HO1.out.lt g hg).1)
      clear hown2 hg2
      go_wp2_with fail
      go_ret
      refine ⟨v2, rfl, ?_, hb2⟩
      have h := HO2.out
      rw [HPB.out]
      rw [bvs_length] at h
      have e : UInt8.ofNat q :: L = [UInt8.ofNat q] ++ L := rfl
      rw [e, bvs_append, List.length_append]
      exact h
theorem refPut_any (x : Nat) (w : World) (hx : x < 18446744073709551616) :
    Calls Tryd.prog 56 #[.int .u64 (x : Nat)] w fun e w' => ∃ v, e = .returned v ∧ w'.ownsRow w.heap.size 5 1 v (WireMath.put x).length (bvs (WireMath.put x)) ∧ Below w.heap.size w w' :=
  refPut_ind 9 x w (by omega) hx
end Go.Proofs.YtckihiiimomgfaaDoor

namespace Go.Proofs.YtckihiiimomgfaaDoor
open Go.RowKit
theorem ret_int3 {a b c : Int} {k l m : IntKind} {a' b' c' : Int} (h1 : a = a') (h2 : b = b') (h3 : c = c') : Ending.returned (.tuple #[.int k a, .int l b, .int m c]) = .returned (.tuple #[.int k a', .int l b', .int m c']) := by rw [h1, h2, h3]
def NumLoop (l : List UInt8) (x i : Value) : Prop :=
  ∃ (k y : Nat), k ≤ l.length ∧ k ≤ 10 ∧ i = .int .i64 (k : Nat) ∧ x = .int .u64 (y : Nat) ∧ y < 2 ^ (7 * k) ∧ WireMath.getF k y (l.drop k) = WireMath.get l
def numRet (l : List UInt8) : Ending := .returned (.tuple #[.int .u64 ((WireMath.get l).1 : Nat), .int .i64 ((WireMath.get l).2.1 : Nat), .int .i64 ((WireMath.get l).2.2 : Nat)])
theorem num_or (y c k : Nat) (hy : y < 2 ^ (7 * k)) (hk : k ≤ 9) (hc : c * 2 ^ (7 * k) < 18446744073709551616) : bits .or .u64 (y : Int) ((c * 2 ^ (7 * k) : Nat) : Int) = ((y + c * 2 ^ (7 * k) : Nat) : Int) := by
  have hp : 2 ^ (7 * k) ≤ 2 ^ 63 := Nat.pow_le_pow_right (by decide) (by omega)
  rw [u64_or_nat _ _ (by omega) hc, Nat.or_comm, nat_join (7 * k) _ _ (by simp) hy, Nat.add_comm]
theorem num_step (y c k : Nat) (hy : y < 2 ^ (7 * k)) (hk : k ≤ 9) (hc : c < 128) (h9 : k = 9 → c ≤ 1) :
    bits .or .u64 (y : Int) (IntKind.u64.wrap ((c : Int) * 2 ^ (7 * k))) = ((y + c * 2 ^ (7 * k) : Nat) : Int) ∧ (k ≤ 8 → y + c * 2 ^ (7 * k) < 2 ^ (7 * (k + 1))) := by
  have hlt : c * 2 ^ (7 * k) < 18446744073709551616 := by
    by_cases h : k = 9
    · subst h
      have := Nat.mul_le_mul_right (2 ^ (7 * 9)) (h9 rfl)
      simp at this
      omega
    · have hp : 2 ^ (7 * k) ≤ 2 ^ 56 := Nat.pow_le_pow_right (by decide) (by omega)
      have := Nat.mul_le_mul (show c ≤ 127 by omega) hp
      simp at this
      omega
  have e : IntKind.u64.wrap ((c : Int) * 2 ^ (7 * k)) = ((c * 2 ^ (7 * k) : Nat) : Int) := by
    have e2 : (c : Int) * 2 ^ (7 * k) = ((c * 2 ^ (7 * k) : Nat) : Int) := by simp
    rw [e2, IntKind.wrap_u64]
    generalize c * 2 ^ (7 * k) = q at *
    omega
  refine ⟨by rw [e]; exact num_or y c k hy hk hlt, fun _ => ?_⟩
  rw [WireMath.pow7]
  have := Nat.mul_le_mul_right (2 ^ (7 * k)) (show c ≤ 127 by omega)
  omega
set_option maxRecDepth 100000 in
set_option maxHeartbeats 1000000 in
theorem wireNumber_any (A : Option Addr) (c : Nat) (l : List UInt8) (w : World) (_hl : l.length ≤ 1000000) (hr : Bs w A l) :
    Calls Tryd.prog 105 #[.slice A l.length c] w fun e w' => e = numRet l ∧ w = w' := by
  go_enter Tryd.func105, Tryd.ntmps105
  go_wp2_with fail
  go_loop [5, 10] (fun x i => NumLoop l x i) (fun _ i => l.length - (intOf i).toNat)
  case atStart => exact ⟨0, 0, Nat.zero_le _, by decide, rfl, rfl, by decide, rfl⟩
  case round =>
    obtain ⟨k, y, hk, hk10, rfl, rfl, hy, hget⟩ := hrel
    by_cases hlt : k < l.length
    · rw [List.drop_eq_getElem_cons hlt] at hget
      simp only [WireMath.getF] at hget
      obtain ⟨ad, rfl, _, hca⟩ := hr.at_ hlt
      have HR := Lib.hid hr
      clear hr
      obtain ⟨b, hb⟩ : ∃ b, l[k] = b := ⟨_, rfl⟩
      rw [hb] at hca hget
      have hb256 := b.toNat_lt
      obtain ⟨n, hn⟩ : ∃ n, b.toNat = n := ⟨_, rfl⟩
      rw [hn] at hca hget hb256
      clear hb hn
      by_cases h1 : k = 10 ∨ k = 9 ∧ 1 < n
      · rw [if_pos h1] at hget
        have HG := Lib.hid hget
        have HY := Lib.hid hy
        clear hget hy
        have hcs : (((k : Nat) : Int) == 10) = true ∨ ((((k : Nat) : Int) == 10) = false ∧ (((k : Nat) : Int) == 9) = true ∧ decide (1 < (n : Int)) = true) := by
          rcases h1 with rfl | ⟨rfl, h⟩
          · exact .inl rfl
          · exact .inr ⟨rfl, rfl, by simp; omega⟩
        clear h1
        rcases hcs with e1 | ⟨e1, e2, e3⟩
        all_goals
          go_wp2_with fail
          go_ret3
          exact ⟨by unfold numRet; rw [← HG.out]; rfl, rfl⟩
      · rw [if_neg h1] at hget
        have e10 : (((k : Nat) : Int) == 10) = false := by rw [beq_eq_false_iff_ne]; omega
        have e9 : ((((k : Nat) : Int) == 9) = false) ∨ ((((k : Nat) : Int) == 9) = true ∧ decide (1 < (n : Int)) = false) := by
          by_cases h : k = 9
          · subst h
            exact .inr ⟨rfl, by simp; omega⟩
          · exact .inl (by rw [beq_eq_false_iff_ne]; omega)
        by_cases h128 : 128 ≤ n
        · rw [if_pos h128] at hget
          have hk8 : k ≤ 8 := by omega
          have e9' : (((k : Nat) : Int) == 9) = false := by rw [beq_eq_false_iff_ne]; omega
          have HG := Lib.hid hget
          have HY := Lib.hid hy
          clear hget hy e9
          go_wp2_with fail
          go_round
          case rel =>
            obtain ⟨e1, e2⟩ := num_step y (n - 128) k HY.out (by omega) (by omega) (by omega)
            have e3 : (n : Int) - 128 = ((n - 128 : Nat) : Int) := by omega
            rw [e3, e1]
            exact ⟨k + 1, y + (n - 128) * 2 ^ (7 * k), by omega, by omega, by go_num, rfl, e2 (by omega), HG.out⟩
          case measure => simp [intOf]; omega
        · rw [if_neg h128] at hget
          have HY := Lib.hid hy
          clear hy
          have hnl : k ≤ 9 ∧ (k = 9 → n ≤ 1) := by omega
          by_cases h0 : n = 0 ∧ 0 < k
          · rw [if_pos h0] at hget
            have HG := Lib.hid hget
            clear hget
            have z1 : (((n : Nat) : Int) == 0) = true := by rw [h0.1]; rfl
            have z2 : 0 < k := h0.2
            clear h0
            rcases e9 with e9 | ⟨e9, e9'⟩
            all_goals
              go_wp2_with fail
              go_ret3
              exact ⟨by unfold numRet; rw [← HG.out]; rfl, rfl⟩
          · rw [if_neg h0] at hget
            have HG := Lib.hid hget
            clear hget
            have hz : ((((n : Nat) : Int) == 0) = false) ∨ ((((n : Nat) : Int) == 0) = true ∧ k ≤ 0) := by
              by_cases h : n = 0
              · exact .inr ⟨by rw [h]; rfl, by omega⟩
              · exact .inl (by rw [beq_eq_false_iff_ne]; omega)
            clear h0
            obtain ⟨q1, _⟩ := num_step y n k HY.out hnl.1 (by omega) hnl.2
            have HQ := Lib.hid q1
            clear q1
            rcases e9 with e9 | ⟨e9, e9'⟩
            all_goals
              rcases hz with hz | ⟨hz, hk0⟩
              all_goals
                first
                  | exact absurd (beq_iff_eq.1 e9) (by omega)
                  | (go_wp2_with fail
                     go_ret3
                     exact ⟨by unfold numRet; rw [← HG.out]; exact ret_int3 HQ.out (by go_num) rfl, rfl⟩)
    · rw [List.drop_of_length_le (by omega)] at hget
      have HG := Lib.hid hget
      have HY := Lib.hid hy
      clear hget hy
      go_wp2_with fail
      go_ret3
      exact ⟨by unfold numRet; rw [← HG.out]; rfl, rfl⟩
/-- a reader lies in block g: the bytes that are left, the first error -/
structure RdAt (w : World) (g : Nat) (A : Option Addr) (c : Nat) (l : List UInt8) (e : Nat) : Prop where
  blk : w.heap[g]? = some (.cells #[.slice A l.length c, .int .i64 (e : Int), .bool true] 151 (0, 0))
  hc : l.length ≤ c
  hm : c ≤ maxLen
  bs : Bs w A l
  ne : ∀ ad, A = some ad → l ≠ [] → ad.block ≠ g
theorem RdAt.below {w w' : World} {g : Nat} {A : Option Addr} {c : Nat} {l : List UInt8} {e : Nat} (h : RdAt w g A c l e) (hb : Below w.heap.size w w') : RdAt w' g A c l e :=
  ⟨(hb.block g (heap_lt h.blk)).trans h.blk, h.hc, h.hm, h.bs.below hb, h.ne⟩
/-- a reader behind a call: only its own block has turned -/
def RdTo (w : World) (g : Nat) (l : List UInt8) (e : Nat) (w' : World) : Prop := w.grownBy w' (some g) ∧ ∃ A c, RdAt w' g A c l e
theorem RdTo.refl {w : World} {g : Nat} {A : Option Addr} {c : Nat} {l : List UInt8} {e : Nat} (h : RdAt w g A c l e) : RdTo w g l e w := ⟨⟨rfl, rfl, rfl, Nat.le_refl _, fun _ _ _ => rfl⟩, A, c, h⟩
theorem grown_then {a b c : World} {row : Option Nat} (h : a.grownBy b row) (h' : b.grownBy c row) : a.grownBy c row :=
  ⟨h'.os.trans h.os, h'.tape.trans h.tape, h'.output.trans h.output, Nat.le_trans h.size h'.size, fun k hk hn => (h'.block k (Nat.lt_of_lt_of_le hk h.size) hn).trans (h.block k hk hn)⟩
theorem RdTo.of {w w1 w2 : World} {g : Nat} {l : List UInt8} {e : Nat} (h : w.grownBy w1 (some g)) (h' : RdTo w1 g l e w2) : RdTo w g l e w2 := ⟨grown_then h h'.1, h'.2⟩
theorem rd_err_spell {e : Nat} (h : e ≠ 0) : (((e : Nat) : Int) != 0) = true := by rw [bne_iff_ne]; omega
set_option maxHeartbeats 400000 in
theorem rdErr_any (g : Nat) (A : Option Addr) (c : Nat) (l : List UInt8) (e : Nat) (w : World) (h : RdAt w g A c l e) :
    Calls Tryd.prog 96 #[.pointer (some ⟨g, 0, none⟩)] w fun en w' => en = .returned (.int .i64 (e : Int)) ∧ w = w' := by
  have k1 : w.cell? ⟨g, 1, none⟩ = some (.int .i64 (e : Int)) := block_cell h.blk
  have k2 : w.cell? ⟨g, 2, none⟩ = some (.bool true) := block_cell h.blk
  clear h
  go_enter Tryd.func96, Tryd.ntmps96
  go_wp2_with fail
  go_ret
  exact ⟨rfl, rfl⟩
/-- two cells of a reader are written -/
theorem rd_write {w : World} {g : Nat} {A : Option Addr} {c : Nat} {l : List UInt8} {e : Nat} (h : RdAt w g A c l e) (A' : Option Addr) (c' : Nat) (l' : List UInt8) (hc : l'.length ≤ c') (hm : c' ≤ maxLen) (hb : Bs w A' l') (hne : ∀ ad, A' = some ad → l' ≠ [] → ad.block ≠ g) :
    RdTo w g l' e (w.setCell ⟨g, 0, none⟩ (.slice A' l'.length c')) := by
  have hk : w.grownBy (w.setCell ⟨g, 0, none⟩ (.slice A' l'.length c')) (some g) := grown_set ⟨rfl, rfl, rfl, Nat.le_refl _, fun _ _ _ => rfl⟩ 0 _
  refine ⟨hk, A', c', ⟨?_, hc, hm, ?_, hne⟩⟩
  · have := set_block h.blk 0 (.slice A' l'.length c')
    simpa using this
  · exact (Kept.of_grown (F := fun k => k = g) hk (fun k e => by injection e with e; exact e.symm)).bs hb hne
theorem rd_drop_ne {w : World} {g : Nat} {A : Option Addr} {c : Nat} {l : List UInt8} {e : Nat} (h : RdAt w g A c l e) (n : Nat) {ad : Addr} (hA : (if c = n then A else A.map (·.add n)) = some ad) (hl : l ≠ []) : ad.block ≠ g := by
  split at hA
  · exact h.ne ad hA hl
  · cases A with
    | none => cases hA
    | some a =>
      simp at hA
      subst hA
      rw [addr_block]
      exact h.ne a rfl hl
set_option maxHeartbeats 400000 in
theorem rdFail_any (g : Nat) (A : Option Addr) (c : Nat) (l : List UInt8) (f : Nat) (w : World) (h : RdAt w g A c l 0) :
    Calls Tryd.prog 97 #[.pointer (some ⟨g, 0, none⟩), .int .i64 (f : Int)] w fun en w' => en = .returned (.tuple #[]) ∧ RdTo w g [] f w' := by
  have k0 : w.cell? ⟨g, 0, none⟩ = some (.slice A l.length c) := block_cell h.blk
  have k1 : w.cell? ⟨g, 1, none⟩ = some (.int .i64 0) := block_cell h.blk
  have f0 : w.frozen? ⟨g, 0, none⟩ = false := block_free h.blk
  have f1 : w.frozen? ⟨g, 1, none⟩ = false := block_free h.blk
  have HW := Lib.hid h
  clear h
  go_enter Tryd.func97, Tryd.ntmps97
  go_wp2_with fail
  go_end0
  refine ⟨rfl, grown_set (grown_set ⟨rfl, rfl, rfl, Nat.le_refl _, fun _ _ _ => rfl⟩ 1 _) 0 _, none, 0, ⟨?_, Nat.le_refl _, Nat.zero_le _, Bs.nil _ _, fun _ e => by cases e⟩⟩
  have := set_block (set_block HW.out.blk 1 (.int .i64 (f : Int))) 0 (.slice none 0 0)
  simpa using this
/-- what U reads, and what is left -/
def rdU (l : List UInt8) (e : Nat) : Nat × List UInt8 × Nat :=
  if e ≠ 0 then (0, l, e) else if (WireMath.get l).2.2 = 0 then ((WireMath.get l).1, l.drop (WireMath.get l).2.1, 0) else (0, [], (WireMath.get l).2.2)
set_option maxHeartbeats 400000 in
theorem rdU_err (g : Nat) (A : Option Addr) (c : Nat) (l : List UInt8) (e : Nat) (w : World) (h : RdAt w g A c l e) (he : e ≠ 0) :
    Calls Tryd.prog 95 #[.pointer (some ⟨g, 0, none⟩)] w fun en w' => en = .returned (.int .u64 0) ∧ w = w' := by
  have HE := Lib.hid (rdErr_any g A c l e w h)
  have he' := rd_err_spell he
  have HX := Lib.hid he'
  clear h he he'
  go_enter Tryd.func95, Tryd.ntmps95
  go_wp2_with fail
  refine HE.out.mono ?_
  rintro en w' ⟨rfl, rfl⟩
  have he' := HX.out
  go_wp2_with fail
  go_ret
  exact ⟨rfl, rfl⟩
set_option maxHeartbeats 400000 in
theorem rdU_bad (g : Nat) (A : Option Addr) (c : Nat) (l : List UInt8) (x n f : Nat) (w : World) (h : RdAt w g A c l 0) (hl : l.length ≤ 1000000) (hg : WireMath.get l = (x, n, f)) (hf : f ≠ 0) :
    Calls Tryd.prog 95 #[.pointer (some ⟨g, 0, none⟩)] w fun en w' => en = .returned (.int .u64 0) ∧ RdTo w g [] f w' := by
  have HE := Lib.hid (rdErr_any g A c l 0 w h)
  have hnum := wireNumber_any A c l w hl h.bs
  unfold numRet at hnum
  rw [hg] at hnum
  have HN := Lib.hid hnum
  have HF := Lib.hid (rdFail_any g A c l f w h)
  have k0 : w.cell? ⟨g, 0, none⟩ = some (.slice A l.length c) := block_cell h.blk
  have hf' := rd_err_spell hf
  have HX := Lib.hid hf'
  clear h hg hf hnum hf'
  go_enter Tryd.func95, Tryd.ntmps95
  go_wp2_with fail
  refine HE.out.mono ?_
  rintro en w' ⟨rfl, rfl⟩
  go_wp2_with fail
  refine HN.out.mono ?_
  rintro en w' ⟨rfl, rfl⟩
  have hf' := HX.out
  go_wp2_with fail
  refine HF.out.mono ?_
  rintro en w1 ⟨rfl, hto⟩
  go_wp2_with fail
  go_ret
  exact ⟨rfl, hto⟩
set_option maxHeartbeats 400000 in
theorem rdU_ok (g : Nat) (A : Option Addr) (c : Nat) (l : List UInt8) (x n : Nat) (w : World) (h : RdAt w g A c l 0) (hl : l.length ≤ 1000000) (hg : WireMath.get l = (x, n, 0)) :
    Calls Tryd.prog 95 #[.pointer (some ⟨g, 0, none⟩)] w fun en w' => en = .returned (.int .u64 (x : Nat)) ∧ RdTo w g (l.drop n) 0 w' := by
  have HE := Lib.hid (rdErr_any g A c l 0 w h)
  have hnum := wireNumber_any A c l w hl h.bs
  unfold numRet at hnum
  rw [hg] at hnum
  have HN := Lib.hid hnum
  have k0 : w.cell? ⟨g, 0, none⟩ = some (.slice A l.length c) := block_cell h.blk
  have f0 : w.frozen? ⟨g, 0, none⟩ = false := block_free h.blk
  obtain ⟨_, hn, hnp, _, _⟩ := WireMath.get_one hg
  have hcm := h.hc
  have hmm := h.hm
  unfold maxLen at hmm
  have HW := Lib.hid h
  have HD := Lib.hid (rd_write h _ (c - n) (l.drop n) (by simp; omega) (by unfold maxLen; omega) (h.bs.drop (k := n) h.hc) (fun ad e hne => rd_drop_ne h n e (by rintro rfl; simp at hne)))
  clear h hg hnum
  go_enter Tryd.func95, Tryd.ntmps95
  go_wp2_with fail
  refine HE.out.mono ?_
  rintro en w' ⟨rfl, rfl⟩
  go_wp2_with fail
  refine HN.out.mono ?_
  rintro en w' ⟨rfl, rfl⟩
  by_cases hcn : c = n
  · have hd := HD.out
    rw [List.length_drop, if_pos hcn] at hd
    have HD' := Lib.hid hd
    clear hd HD
    subst hcn
    have hln : l.length = c := by omega
    have HLN := Lib.hid hln
    clear hln
    go_wp2_with fail
    go_ret
    have hd := HD'.out
    rw [HLN.out, Nat.sub_self] at hd
    refine ⟨rfl, ?_⟩
    simpa [HLN.out] using hd
  · have hd := HD.out
    rw [List.length_drop, if_neg hcn] at hd
    have HD' := Lib.hid hd
    clear hd HD
    go_wp2_with fail
    go_ret
    exact ⟨rfl, HD'.out⟩
theorem rdU_any (g : Nat) (A : Option Addr) (c : Nat) (l : List UInt8) (e : Nat) (w : World) (h : RdAt w g A c l e) (hl : l.length ≤ 1000000) :
    Calls Tryd.prog 95 #[.pointer (some ⟨g, 0, none⟩)] w fun en w' => en = .returned (.int .u64 ((rdU l e).1 : Nat)) ∧ RdTo w g (rdU l e).2.1 (rdU l e).2.2 w' := by
  unfold rdU
  by_cases he : e = 0
  · subst he
    rw [if_neg (by decide)]
    rcases hg : WireMath.get l with ⟨x, n, f⟩
    simp only
    by_cases hf : f = 0
    · subst hf
      rw [if_pos rfl]
      exact rdU_ok g A c l x n w h hl hg
    · rw [if_neg hf]
      exact rdU_bad g A c l x n f w h hl hg hf
  · rw [if_pos he]
    refine (rdU_err g A c l e w h he).mono ?_
    rintro en w' ⟨rfl, rfl⟩
    exact ⟨rfl, RdTo.refl h⟩
end Go.Proofs.YtckihiiimomgfaaDoor

namespace Go.Proofs.YtckihiiimomgfaaDoor
open Go.RowKit
theorem rdU_len (l : List UInt8) (e : Nat) : (rdU l e).2.1.length ≤ l.length := by
  unfold rdU
  split
  · exact Nat.le_refl _
  · split <;> simp
theorem rdU_x (l : List UInt8) (e : Nat) : (rdU l e).1 < 18446744073709551616 := by
  have h0 : 0 < 18446744073709551616 := by decide
  unfold rdU
  split
  · exact h0
  · split
    · next h =>
      rcases hg : WireMath.get l with ⟨x, n, f⟩
      rw [hg] at h
      simp only at h
      subst h
      exact (WireMath.get_one hg).2.2.2.1
    · exact h0
def rdEnd (l : List UInt8) (e : Nat) : Nat := if e ≠ 0 then e else if l = [] then 0 else 6
set_option maxHeartbeats 400000 in
theorem rdEnd_any (g : Nat) (A : Option Addr) (c : Nat) (l : List UInt8) (e : Nat) (w : World) (h : RdAt w g A c l e) (_hl : l.length ≤ 1000000) :
    Calls Tryd.prog 75 #[.pointer (some ⟨g, 0, none⟩)] w fun en w' => en = .returned (.int .i64 (rdEnd l e : Nat)) ∧ w = w' := by
  have HE := Lib.hid (rdErr_any g A c l e w h)
  have k0 : w.cell? ⟨g, 0, none⟩ = some (.slice A l.length c) := block_cell h.blk
  clear h
  by_cases he : e = 0
  · subst he
    by_cases hl0 : l = []
    · subst hl0
      have hr : rdEnd [] 0 = 0 := rfl
      rw [hr]
      clear hr
      go_enter Tryd.func75, Tryd.ntmps75
      go_wp2_with fail
      refine HE.out.mono ?_
      rintro en w' ⟨rfl, rfl⟩
      go_wp2_with fail
      go_ret
      exact ⟨rfl, rfl⟩
    · have hr : rdEnd l 0 = 6 := by unfold rdEnd; rw [if_neg (by decide), if_neg hl0]
      rw [hr]
      have hpos : 0 < l.length := List.length_pos_iff.2 hl0
      clear hr hl0
      go_enter Tryd.func75, Tryd.ntmps75
      go_wp2_with fail
      refine HE.out.mono ?_
      rintro en w' ⟨rfl, rfl⟩
      go_wp2_with fail
      go_ret
      exact ⟨rfl, rfl⟩
  · have hr : rdEnd l e = e := by unfold rdEnd; rw [if_pos he]
    rw [hr]
    have he' := rd_err_spell he
    have HX := Lib.hid he'
    clear hr he he'
    go_enter Tryd.func75, Tryd.ntmps75
    go_wp2_with fail
    refine HE.out.mono ?_
    rintro en w' ⟨rfl, rfl⟩
    have he' := HX.out
    go_wp2_with fail
    go_ret
    exact ⟨rfl, rfl⟩
def rdN (most : Nat) (l : List UInt8) (e : Nat) : Nat × List UInt8 × Nat :=
  if (rdU l e).2.2 ≠ 0 then (0, (rdU l e).2.1, (rdU l e).2.2) else if most < (rdU l e).1 then (0, [], 5) else ((rdU l e).1, (rdU l e).2.1, 0)
theorem rdN_len (most : Nat) (l : List UInt8) (e : Nat) : (rdN most l e).2.1.length ≤ l.length := by
  have := rdU_len l e
  unfold rdN
  split
  · exact this
  · split
    · simp
    · exact this
theorem rdN_x (most : Nat) (l : List UInt8) (e : Nat) : (rdN most l e).1 ≤ most := by
  unfold rdN
  split
  · simp
  · split
    · simp
    · next h => simpa using h
set_option maxHeartbeats 1000000 in
set_option maxRecDepth 100000 in
theorem rdN_any (most : Nat) (g : Nat) (A : Option Addr) (c : Nat) (l : List UInt8) (e : Nat) (w : World) (h : RdAt w g A c l e) (hl : l.length ≤ 1000000) (hmost : most ≤ 4611686018427387904) :
    Calls Tryd.prog 73 #[.pointer (some ⟨g, 0, none⟩), .int .i64 (most : Int)] w fun en w' => en = .returned (.int .i64 ((rdN most l e).1 : Nat)) ∧ RdTo w g (rdN most l e).2.1 (rdN most l e).2.2 w' := by
  have HU := Lib.hid (rdU_any g A c l e w h hl)
  have hxl := rdU_x l e
  have hN : rdN most l e = if (rdU l e).2.2 ≠ 0 then (0, (rdU l e).2.1, (rdU l e).2.2) else if most < (rdU l e).1 then (0, [], 5) else ((rdU l e).1, (rdU l e).2.1, 0) := rfl
  rcases hu : rdU l e with ⟨x, m, f⟩
  rw [hu] at HU hN hxl
  simp only at HU hN hxl
  have HXL := Lib.hid hxl
  clear h hu hxl
  by_cases hf : f = 0
  · subst hf
    rw [if_neg (by decide)] at hN
    by_cases hx : most < x
    · rw [if_pos hx] at hN
      rw [hN]
      clear hN
      have hgt : decide ((most : Int) < (x : Int)) = true := by simp; omega
      go_enter Tryd.func73, Tryd.ntmps73
      go_wp2_with fail
      refine HU.out.mono ?_
      rintro en w1 ⟨rfl, hg1, A1, c1, h1⟩
      go_wp2_with fail
      refine (rdErr_any g A1 c1 m 0 w1 h1).mono ?_
      rintro en w' ⟨rfl, rfl⟩
      have HG := Lib.hid hg1
      have H1 := Lib.hid h1
      clear hg1 h1
      go_wp2_with fail
      refine (rdFail_any g A1 c1 m 5 w1 H1.out).mono ?_
      rintro en w2 ⟨rfl, hto⟩
      go_wp2_with fail
      go_ret
      exact ⟨rfl, RdTo.of HG.out hto⟩
    · rw [if_neg hx] at hN
      rw [hN]
      clear hN
      have hgt : decide ((most : Int) < (x : Int)) = false := by simp; omega
      have hxm : x ≤ most := by omega
      go_enter Tryd.func73, Tryd.ntmps73
      go_wp2_with fail
      refine HU.out.mono ?_
      rintro en w1 ⟨rfl, hg1, A1, c1, h1⟩
      go_wp2_with fail
      refine (rdErr_any g A1 c1 m 0 w1 h1).mono ?_
      rintro en w' ⟨rfl, rfl⟩
      have HG := Lib.hid hg1
      have H1 := Lib.hid h1
      clear hg1 h1
      go_wp2_with fail
      go_ret
      exact ⟨rfl, HG.out, A1, c1, H1.out⟩
  · rw [if_pos hf] at hN
    rw [hN]
    have hf' := rd_err_spell hf
    have HX := Lib.hid hf'
    clear hN hf hf'
    go_enter Tryd.func73, Tryd.ntmps73
    go_wp2_with fail
    refine HU.out.mono ?_
    rintro en w1 ⟨rfl, hg1, A1, c1, h1⟩
    have HG := Lib.hid hg1
    have H1 := Lib.hid h1
    clear hg1 h1
    go_wp2_with fail
    refine (rdErr_any g A1 c1 m f w1 H1.out).mono ?_
    rintro en w' ⟨rfl, rfl⟩
    have hf' := HX.out
    go_wp2_with fail
    go_ret
    exact ⟨rfl, HG.out, A1, c1, H1.out⟩
def rdBytes (l : List UInt8) (e : Nat) : List UInt8 × List UInt8 × Nat :=
  if (rdN 2147483647 l e).2.2 ≠ 0 then ([], (rdN 2147483647 l e).2.1, (rdN 2147483647 l e).2.2)
  else if (rdN 2147483647 l e).2.1.length < (rdN 2147483647 l e).1 then ([], [], 3)
  else ((rdN 2147483647 l e).2.1.take (rdN 2147483647 l e).1, (rdN 2147483647 l e).2.1.drop (rdN 2147483647 l e).1, 0)
def RdBytesPost (l : List UInt8) (e : Nat) (g : Nat) (w : World) (en : Ending) (w' : World) : Prop :=
  ∃ B d, en = .returned (.slice B (rdBytes l e).1.length d) ∧ w'.ownsRow w.heap.size 5 1 (.slice B (rdBytes l e).1.length d) (rdBytes l e).1.length (bvs (rdBytes l e).1) ∧ RdTo w g (rdBytes l e).2.1 (rdBytes l e).2.2 w'
set_option maxHeartbeats 1000000 in
set_option maxRecDepth 100000 in
theorem rdBytes_any (g : Nat) (A : Option Addr) (c : Nat) (l : List UInt8) (e : Nat) (w : World) (h : RdAt w g A c l e) (hl : l.length ≤ 1000000) :
    Calls Tryd.prog 74 #[.pointer (some ⟨g, 0, none⟩)] w (RdBytesPost l e g w) := by
  have HNN := Lib.hid (rdN_any 2147483647 g A c l e w h hl (by decide))
  have hgl := heap_lt h.blk
  have hlen := rdN_len 2147483647 l e
  have hxm := rdN_x 2147483647 l e
  have hB : rdBytes l e = if (rdN 2147483647 l e).2.2 ≠ 0 then ([], (rdN 2147483647 l e).2.1, (rdN 2147483647 l e).2.2)
    else if (rdN 2147483647 l e).2.1.length < (rdN 2147483647 l e).1 then ([], [], 3)
    else ((rdN 2147483647 l e).2.1.take (rdN 2147483647 l e).1, (rdN 2147483647 l e).2.1.drop (rdN 2147483647 l e).1, 0) := rfl
  unfold RdBytesPost
  rcases hu : rdN 2147483647 l e with ⟨x, m, f⟩
  rw [hu] at HNN hB hlen hxm
  simp only at HNN hB hlen hxm
  clear h hu
  by_cases hf : f = 0
  · subst hf
    rw [if_neg (by decide)] at hB
    by_cases hx : m.length < x
    · rw [if_pos hx] at hB
      rw [hB]
      clear hB
      go_enter Tryd.func74, Tryd.ntmps74
      go_wp2_with fail
      refine HNN.out.mono ?_
      rintro en w1 ⟨rfl, hg1, A1, c1, h1⟩
      have HG := Lib.hid hg1
      have H1 := Lib.hid h1
      have k0 : w1.cell? ⟨g, 0, none⟩ = some (.slice A1 m.length c1) := block_cell h1.blk
      clear hg1 h1
      go_wp2_with fail
      refine (rdErr_any g A1 c1 m 0 w1 H1.out).mono ?_
      rintro en w' ⟨rfl, rfl⟩
      go_wp2_with fail
      refine (rdFail_any g A1 c1 m 3 w1 H1.out).mono ?_
      rintro en w2 ⟨rfl, hto⟩
      clear k0
      go_wp2_with fail
      go_ret
      exact ⟨none, 0, rfl, World.ownsRow_nil _ _ _ _, RdTo.of HG.out hto⟩
    · rw [if_neg hx] at hB
      rw [hB]
      clear hB
      have htl : (m.take x).length = x := by rw [List.length_take]; omega
      obtain ⟨ys, hys⟩ : ∃ ys, m.take x = ys := ⟨_, rfl⟩
      rw [hys] at htl
      rw [hys]
      have HYS := Lib.hid hys
      have HTL := Lib.hid htl
      clear hys htl
      go_enter Tryd.func74, Tryd.ntmps74
      go_wp2_with fail
      refine HNN.out.mono ?_
      rintro en w1 ⟨rfl, hg1, A1, c1, h1⟩
      have HG := Lib.hid hg1
      have H1 := Lib.hid h1
      have k0 : w1.cell? ⟨g, 0, none⟩ = some (.slice A1 m.length c1) := block_cell h1.blk
      have hcm := h1.hc
      have hmm := h1.hm
      unfold maxLen at hmm
      have hcl := clone_any A1 c1 (m.take x) w1 (by rw [HYS.out, HTL.out]; omega) (h1.bs.take x)
      rw [HYS.out, HTL.out] at hcl
      have HCL := Lib.hid hcl
      clear hg1 h1 hcl
      go_wp2_with fail
      refine (rdErr_any g A1 c1 m 0 w1 H1.out).mono ?_
      rintro en w' ⟨rfl, rfl⟩
      go_wp2_with fail
      refine HCL.out.mono ?_
      rintro en w2 ⟨v2, rfl, hown, hb2⟩
      obtain ⟨A2, c2, rfl, _⟩ := own_shape hown
      have HO := Lib.hid hown
      have H2 := Lib.hid (H1.out.below hb2)
      have k2 : w2.cell? ⟨g, 0, none⟩ = some (.slice A1 m.length c1) := block_cell H2.out.blk
      have f2 : w2.frozen? ⟨g, 0, none⟩ = false := block_free H2.out.blk
      have HD := Lib.hid (rd_write H2.out _ (c1 - x) (m.drop x) (by simp; omega) (by unfold maxLen; omega) (H2.out.bs.drop (k := x) H2.out.hc) (fun ad e hne => rd_drop_ne H2.out x e (by rintro rfl; simp at hne)))
      have hkeep : ∀ u : Value, (w2.setCell ⟨g, 0, none⟩ u).ownsRow w.heap.size 5 1 (.slice A2 x c2) x (bvs ys) := fun u =>
        own_base (own_far HO.out (grown_set (w := w2) ⟨rfl, rfl, rfl, Nat.le_refl _, fun _ _ _ => rfl⟩ 0 u) (fun k e => by injection e with e; subst e; exact heap_lt H1.out.blk)) HG.out.size
      have HKP := Lib.hid hkeep
      have hg12 : w.grownBy w2 (some g) := grown_then HG.out (only_of_below hb2 _)
      have HG2 := Lib.hid hg12
      clear k0 hown hb2 hkeep hg12
      by_cases hcn : c1 = x
      · have hd := HD.out
        rw [List.length_drop, if_pos hcn] at hd
        have HD' := Lib.hid hd
        clear hd HD
        subst hcn
        have hln : m.length = c1 := by omega
        have HLN := Lib.hid hln
        clear hln
        go_wp2_with fail
        go_ret
        have hd := HD'.out
        rw [HLN.out, Nat.sub_self] at hd
        refine ⟨A2, c2, by rw [HTL.out]; rfl, by rw [HTL.out]; exact HKP.out _, RdTo.of HG2.out ?_⟩
        simpa [HLN.out] using hd
      · have hd := HD.out
        rw [List.length_drop, if_neg hcn] at hd
        have HD' := Lib.hid hd
        clear hd HD
        go_wp2_with fail
        go_ret
        exact ⟨A2, c2, by rw [HTL.out]; rfl, by rw [HTL.out]; exact HKP.out _, RdTo.of HG2.out HD'.out⟩
  · rw [if_pos hf] at hB
    rw [hB]
    have hf' := rd_err_spell hf
    have HX := Lib.hid hf'
    clear hB hf hf'
    go_enter Tryd.func74, Tryd.ntmps74
    go_wp2_with fail
    refine HNN.out.mono ?_
    rintro en w1 ⟨rfl, hg1, A1, c1, h1⟩
    have HG := Lib.hid hg1
    have H1 := Lib.hid h1
    clear hg1 h1
    go_wp2_with fail
    refine (rdErr_any g A1 c1 m f w1 H1.out).mono ?_
    rintro en w' ⟨rfl, rfl⟩
    have hf' := HX.out
    go_wp2_with fail
    go_ret
    exact ⟨none, 0, rfl, World.ownsRow_nil _ _ _ _, HG.out, A1, c1, H1.out⟩
set_option maxHeartbeats 400000 in
theorem rdOpen_any (B : Option Addr) (d : Nat) (l : List UInt8) (w : World) (hl : l.length ≤ 1000000) (hr : Bs w B l) :
    Calls Tryd.prog 72 #[.slice B l.length d] w fun en w' => ∃ g A c, en = .returned (.pointer (some ⟨g, 0, none⟩)) ∧ w.heap.size ≤ g ∧ RdAt w' g A c l 0 ∧ Below w.heap.size w w' := by
  go_enter Tryd.func72, Tryd.ntmps72
  go_wp2_with fail
  refine (clone_any B d l w (by omega) hr).mono ?_
  rintro en w1 ⟨v, rfl, hown, hb⟩
  obtain ⟨A, c, rfl, hc⟩ := own_shape hown
  have hm := own_capm hown
  have HO := Lib.hid hown
  clear hown
  go_wp2_with fail
  go_ret
  have hs := Bs.of_own HO.out
  refine ⟨w1.heap.size, A, c, rfl, hb.size, ⟨heap_alloc_new w1 _, hc, hm, hs.alloc _, fun ad e hne => ?_⟩, below_then hb (below_alloc _ _)⟩
  obtain ⟨ad', e', hlt, _⟩ := hs.at_ (k := 0) (List.length_pos_iff.2 hne)
  rw [e] at e'
  injection e' with e'
  subst e'
  omega
end Go.Proofs.YtckihiiimomgfaaDoor

namespace Go.Proofs.YtckihiiimomgfaaDoor
open Go.RowKit
section
variable {P : Program} (w : World)
theorem wstep_append_bs {ops : Array Oper} {o : Oper} {a : Act} {K : Act → World → Prop} {Q : Exit → Act → World → Prop} {E : Prop} (hgd : o.guard = none) (s x : Operand) (t : TypeId)
    (ho : o.op = .call { callee := .builtin .append, args := #[s, x], argTypes := #[t, t] })
    (base : Nat) (e : TypeId) (i : TypeInfo) (z : Value) (ht : P.underlying t = some (.slice e)) (hi : P.info? e = some i) (hz : i.zero = some z)
    (hsize : i.size = 1) (hby : i.bytes = 1) (hzs : z.cells.size = 1)
    (v : Value) (xs : List Value) (hs : a.eval s = v) (hown : w.ownsRow base e 1 v xs.length xs)
    (A : Option Addr) (c n : Nat) (l : List UInt8) (hn : n = l.length) (hx : a.eval x = .slice A n c) (hr : Bs w A l)
    (hbytes : xs.length + l.length ≤ 140737488355328) (hbase : base ≤ w.heap.size)
    (h : ∀ v' w', w'.ownsRow base e 1 v' (xs.length + l.length) (xs ++ bvs l) → w.grownBy w' v.ownBlock → (v'.ownBlock = v.ownBlock ∨ v'.ownBlock = some w.heap.size) → K (a.put o.dst v') w') :
    if Region.wanted o (yielded ops a.tmps) = true then Oper.wp P o a w K Q else E := by
  have hw : Region.wanted o (yielded ops a.tmps) = true := by simp [Region.wanted, hgd]
  rw [if_pos hw]
  exact wp_append_bs w s x t ho base e i z ht hi hz hsize hby hzs v xs hs hown A c n l hn hx hr hbytes hbase h
end
theorem own_len' {w : World} {base : Nat} {e : TypeId} {v : Value} {n : Nat} {xs : List Value} (h : w.ownsRow base e 1 v n xs) : w.ownsRow base e 1 v xs.length xs := by
  have := h.1
  rw [Nat.mul_one] at this
  rw [this]; exact h
/-- a writer lies in block g, its bytes in a row of its own -/
structure WrAt (w : World) (g base : Nat) (v : Value) (l : List UInt8) : Prop where
  blk : w.heap[g]? = some (.cells #[v] 129 (0, 0))
  own : w.ownsRow base 5 1 v l.length (bvs l)
/-- the blocks of a writer -/
def wrF (g : Nat) (v : Value) (k : Nat) : Prop := k = g ∨ v.ownBlock = some k
theorem WrAt.ne {w : World} {g base : Nat} {v : Value} {l : List UInt8} (h : WrAt w g base v l) : v.ownBlock ≠ some g := own_ne h.own h.blk (by decide)
theorem WrAt.kept {w w' : World} {g base : Nat} {v : Value} {l : List UInt8} {F : Nat → Prop} (h : WrAt w g base v l) (hk : Kept F w w') (hn : ∀ k, wrF g v k → ¬ F k) : WrAt w' g base v l :=
  ⟨hk.heap h.blk (hn g (.inl rfl)), hk.own h.own (fun k e => hn k (.inr e))⟩
theorem WrAt.below {w w' : World} {g base : Nat} {v : Value} {l : List UInt8} (h : WrAt w g base v l) (hb : Below w.heap.size w w') : WrAt w' g base v l := h.kept (Kept.of_below (F := fun _ => False) hb) (fun _ _ => id)
theorem WrAt.lt {w : World} {g base : Nat} {v : Value} {l : List UInt8} (h : WrAt w g base v l) (k : Nat) (hk : wrF g v k) : k < w.heap.size := by
  rcases hk with rfl | hk
  · exact heap_lt h.blk
  · exact (h.own.lt k hk).2
/-- behind a call of a writer's: it has more bytes, and nothing else has turned -/
def WrPost (w : World) (g base : Nat) (v : Value) (m : List UInt8) (e : Ending) (w' : World) : Prop :=
  e = .returned (.pointer (some ⟨g, 0, none⟩)) ∧ ∃ v', WrAt w' g base v' m ∧ Kept (wrF g v) w w' ∧ (∀ k, wrF g v' k → wrF g v k ∨ w.heap.size ≤ k)
theorem wr_after {w w5 w6 w7 : World} {g base : Nat} {v v' : Value} {l m : List UInt8} (h : WrAt w g base v l) (hb : Below w.heap.size w w5)
    (ho : w6.ownsRow base 5 1 v' ((bvs l).length + m.length) (bvs l ++ bvs m)) (hg : w5.grownBy w6 v.ownBlock) (hat : v'.ownBlock = v.ownBlock ∨ v'.ownBlock = some w5.heap.size) (h7 : w7 = w6.setCell ⟨g, 0, none⟩ v') :
    WrPost w g base v (l ++ m) (.returned (.pointer (some ⟨g, 0, none⟩))) w7 := by
  subst h7
  have hs := hb.size
  have hk6 : Kept (wrF g v) w w6 := (Kept.of_below hb).grown hg (fun k e => .inl (.inr e))
  have hne : v'.ownBlock ≠ some g := by
    rcases hat with e | e
    · rw [e]; exact h.ne
    · rw [e]
      intro e2
      injection e2 with e2
      have := heap_lt h.blk
      omega
  have hblk6 : w6.heap[g]? = some (.cells #[v] 129 (0, 0)) := by
    have h5 : w5.heap[g]? = some (.cells #[v] 129 (0, 0)) := (hb.block g (heap_lt h.blk)).trans h.blk
    exact (hg.block g (heap_lt h5) (fun e => h.ne e.symm)).trans h5
  refine ⟨rfl, v', ⟨?_, ?_⟩, hk6.setCell (.inl (.inl rfl)) _, ?_⟩
  · have := set_block hblk6 0 v'
    simpa using this
  · rw [← bvs_append, bvs_length, ← List.length_append] at ho
    refine ho.kept (grown_set (w := w6) ⟨rfl, rfl, rfl, Nat.le_refl _, fun _ _ _ => rfl⟩ 0 v') (.inr hne)
  · rintro k (rfl | e)
    · exact .inl (.inl rfl)
    · rcases hat with e2 | e2
      · exact .inl (.inr (e2 ▸ e))
      · rw [e2] at e
        injection e with e
        exact .inr (by omega)
set_option maxHeartbeats 1000000 in
set_option maxRecDepth 100000 in
theorem wrU_any (g base x : Nat) (v : Value) (l : List UInt8) (w : World) (h : WrAt w g base v l) (hx : x < 18446744073709551616) (hl : l.length ≤ 1000000) (hbase : base ≤ w.heap.size) :
    Calls Tryd.prog 47 #[.pointer (some ⟨g, 0, none⟩), .int .u64 (x : Nat)] w (WrPost w g base v (l ++ WireMath.put x)) := by
  obtain ⟨i0, hi0, hz0, hz1, hz2⟩ := info_parts info_u8
  obtain ⟨A, c, rfl, hc⟩ := own_shape h.own
  have hput := fun w' => wirePut_any x w' hx
  have hp10 := WireMath.put_le 9 x (by omega)
  obtain ⟨m, hm⟩ : ∃ m, WireMath.put x = m := ⟨_, rfl⟩
  simp only [hm] at hput hp10 ⊢
  have HPUT := Lib.hid hput
  have HW := Lib.hid h
  have hcell : w.cell? ⟨g, 0, none⟩ = some (.slice A l.length c) := block_cell h.blk
  have HC := Lib.hid hcell
  clear hput hm h hx hcell
  go_enter Tryd.func47, Tryd.ntmps47
  go_wp2_with fail
  have hcell := HC.out
  go_region_law (first
      | (refine wstep_append_bs _ (by rfl) _ _ _ (by rfl) base 5 i0 (.int .u8 0) Tryd.underlying29 hi0 hz0 hz1 hz2 rfl (.slice A l.length c) (bvs l) (by rfl) ?_ A5 c5 m.length m rfl (by rfl) HS5.out ?_ ?_ ?_; (exact own_len' HW5.out.own); (rw [bvs_length]; omega); (have := hb5.size; omega); intro v6 w6 hown6 hg6 hat6; obtain ⟨A6, c6, rfl, _⟩ := own_shape hown6; have hc6 : w6.cell? ⟨g, 0, none⟩ = some (.slice A l.length c) := hg6.cell HC5 (fun e => HW.out.ne e.symm); have hf6 : w6.frozen? ⟨g, 0, none⟩ = false := block_free ((hg6.block g (heap_lt HW5.out.blk) (fun e => HW.out.ne e.symm)).trans HW5.out.blk))
      | (go_simp; go_at_call 76; refine (HPUT.out _).mono ?_; rintro e w5 ⟨v5, rfl, hown5, hbd⟩; obtain ⟨A5, c5, rfl, _⟩ := own_shape hown5; have hb5 : Below w.heap.size w w5 := ((Below.refl _ _).drew).trans hbd; have HC5 := ((hb5.cell (p := ⟨g, 0, none⟩) (cell_lt' HC.out)).trans HC.out); have HW5 := Lib.hid (HW.out.below hb5); have HS5 := Lib.hid (Bs.of_own hown5); clear hown5 hbd))
  all_goals
    go_wp2_with fail
    go_ret
    exact wr_after HW.out hb5 hown6 hg6 hat6 rfl
theorem WrPost.then {w w1 w2 : World} {g base : Nat} {v v1 : Value} {m : List UInt8} {e : Ending} (hk : Kept (wrF g v) w w1) (hf : ∀ k, wrF g v1 k → wrF g v k ∨ w.heap.size ≤ k) (h : WrPost w1 g base v1 m e w2) : WrPost w g base v m e w2 := by
  obtain ⟨rfl, v2, h2, hk2, hf2⟩ := h
  refine ⟨rfl, v2, h2, hk.trans hk2 hf, fun k hk' => ?_⟩
  rcases hf2 k hk' with h' | h'
  · exact hf k h'
  · exact .inr (Nat.le_trans hk.size h')
/-- bytes with their length ahead -/
def bytesOf (b : List UInt8) : List UInt8 := WireMath.put b.length ++ b
set_option maxHeartbeats 1000000 in
set_option maxRecDepth 100000 in
theorem wrBytes_any (g base : Nat) (v : Value) (l : List UInt8) (B : Option Addr) (cb : Nat) (lb : List UInt8) (w : World) (h : WrAt w g base v l) (hl : l.length ≤ 900000) (hb : lb.length ≤ 65536) (hbase : base ≤ w.heap.size)
    (hr : Bs w B lb) (hd : ∀ ad, B = some ad → lb ≠ [] → ¬ wrF g v ad.block) :
    Calls Tryd.prog 48 #[.pointer (some ⟨g, 0, none⟩), .slice B lb.length cb] w (WrPost w g base v (l ++ bytesOf lb)) := by
  obtain ⟨i0, hi0, hz0, hz1, hz2⟩ := info_parts info_u8
  have HW := Lib.hid h
  have hu := wrU_any g base lb.length v l w h (by omega) (by omega) hbase
  have HU := Lib.hid hu
  have hput := WireMath.put_le 9 lb.length (by omega)
  clear hu h
  have HR := Lib.hid hr
  have HD := Lib.hid hd
  clear hr hd
  go_enter Tryd.func48, Tryd.ntmps48
  go_wp2_with fail
  refine HU.out.mono ?_
  rintro e w1 ⟨rfl, v1, h1, hk1, hf1⟩
  have hr1 := hk1.bs HR.out HD.out
  obtain ⟨A1, c1, rfl, hc1⟩ := own_shape h1.own
  obtain ⟨L, hL⟩ : ∃ L, l ++ WireMath.put lb.length = L := ⟨_, rfl⟩
  have hLl : L.length ≤ 900010 := by rw [← hL, List.length_append]; omega
  rw [hL] at h1 hf1 hc1
  have hcell : w1.cell? ⟨g, 0, none⟩ = some (.slice A1 L.length c1) := block_cell h1.blk
  have hbase1 : base ≤ w1.heap.size := Nat.le_trans hbase hk1.size
  have HL := Lib.hid hL
  have H1 := Lib.hid h1
  have HK1 := Lib.hid hk1
  have HF1 := Lib.hid hf1
  have hown' := own_len' h1.own
  have HO := Lib.hid hown'
  clear hL h1 hk1 hf1 HU HR HD hown'
  go_wp2_with (at_builtin; refine wpList_append_bs _ rfl _ _ 29 rfl base 5 i0 (.int .u8 0) Tryd.underlying29 hi0 hz0 hz1 hz2 rfl (.slice A1 L.length c1) (bvs L) rfl HO.out B cb lb.length lb rfl rfl hr1 ?c2 hbase1 ?_)
  case c2 => rw [bvs_length]; omega
  intro v2 w2 hown2 hg2 hat2
  obtain ⟨A2, c2, rfl, _⟩ := own_shape hown2
  have hc2 : w2.cell? ⟨g, 0, none⟩ = some (.slice A1 L.length c1) := hg2.cell hcell (fun e => H1.out.ne e.symm)
  have hf2 : w2.frozen? ⟨g, 0, none⟩ = false := block_free ((hg2.block g (heap_lt H1.out.blk) (fun e => H1.out.ne e.symm)).trans H1.out.blk)
  have HX := Lib.hid (wr_after H1.out (Below.refl _ _) hown2 hg2 hat2 rfl)
  clear hown2 hg2 hat2 hcell hr1
  go_wp2_with fail
  go_ret
  have hfin := WrPost.then HK1.out HF1.out HX.out
  have e : l ++ bytesOf lb = L ++ lb := by rw [← HL.out]; unfold bytesOf; rw [List.append_assoc]
  rw [e]
  exact hfin
set_option maxHeartbeats 400000 in
theorem wrDone_any (g base : Nat) (v : Value) (l : List UInt8) (w : World) (h : WrAt w g base v l) (hl : l.length ≤ 1000000) :
    Calls Tryd.prog 49 #[.pointer (some ⟨g, 0, none⟩)] w fun e w' => ∃ u, e = .returned u ∧ w'.ownsRow w.heap.size 5 1 u l.length (bvs l) ∧ Below w.heap.size w w' := by
  obtain ⟨A, c, rfl, hc⟩ := own_shape h.own
  have hcell : w.cell? ⟨g, 0, none⟩ = some (.slice A l.length c) := block_cell h.blk
  have hcl := clone_any A c l w (by omega) (Bs.of_own h.own)
  have HCL := Lib.hid hcl
  clear hcl h
  go_enter Tryd.func49, Tryd.ntmps49
  go_wp2_with fail
  refine HCL.out.mono ?_
  rintro e w1 ⟨u, rfl, hown, hb⟩
  go_wp2_with fail
  go_ret
  exact ⟨u, rfl, hown, hb⟩
set_option maxHeartbeats 400000 in
theorem wrNew_any (w : World) : Calls Tryd.prog 46 #[] w fun e w' => e = .returned (.pointer (some ⟨w.heap.size, 0, none⟩)) ∧ WrAt w' w.heap.size w.heap.size (.slice none 0 0) [] ∧ Below w.heap.size w w' := by
  go_enter Tryd.func46, Tryd.ntmps46
  go_wp2_with fail
  go_ret
  exact ⟨rfl, ⟨heap_alloc_new w _, World.ownsRow_nil _ _ _ _⟩, below_alloc _ _⟩
set_option maxHeartbeats 400000 in
set_option maxRecDepth 100000 in
theorem refBytes_any (B : Option Addr) (cb : Nat) (lb : List UInt8) (w : World) (hb : lb.length ≤ 65536) (hr : Bs w B lb) :
    Calls Tryd.prog 57 #[.slice B lb.length cb] w fun e w' => ∃ u, e = .returned u ∧ w'.ownsRow w.heap.size 5 1 u (bytesOf lb).length (bvs (bytesOf lb)) ∧ Below w.heap.size w w' := by
  obtain ⟨i0, hi0, hz0, hz1, hz2⟩ := info_parts info_u8
  have hput := WireMath.put_le 9 lb.length (by omega)
  have hp := refPut_any lb.length w (by omega)
  have HP := Lib.hid hp
  clear hp
  go_enter Tryd.func57, Tryd.ntmps57
  go_wp2_with fail
  refine HP.out.mono ?_
  rintro e w1 ⟨v1, rfl, hown, hb1⟩
  have hr1 := hr.below hb1
  have hs := hb1.size
  have HO := Lib.hid (own_len' hown)
  obtain ⟨L, hL⟩ : ∃ L, WireMath.put lb.length = L := ⟨_, rfl⟩
  rw [hL] at HO hput
  have HL := Lib.hid hL
  clear hL hown hr
  go_wp2_with (at_builtin; refine wpList_append_bs _ rfl _ _ 29 rfl w.heap.size 5 i0 (.int .u8 0) Tryd.underlying29 hi0 hz0 hz1 hz2 rfl v1 (bvs L) rfl HO.out B cb lb.length lb rfl rfl hr1 ?c2 hs ?_)
  case c2 => rw [bvs_length]; omega
  intro v2 w2 hown2 hg2 hat2
  have HO2 := Lib.hid hown2
  have hb2 : Below w.heap.size w w2 := hb1.grown hg2 hs (fun g hg => (HO.out.lt g hg).1)
  clear hown2 hg2 hat2 hr1
  go_wp2_with fail
  go_ret
  refine ⟨v2, rfl, ?_, hb2⟩
  have h := HO2.out
  unfold bytesOf
  rw [HL.out, bvs_append, List.length_append]
  rw [bvs_length] at h
  exact h
end Go.Proofs.YtckihiiimomgfaaDoor
