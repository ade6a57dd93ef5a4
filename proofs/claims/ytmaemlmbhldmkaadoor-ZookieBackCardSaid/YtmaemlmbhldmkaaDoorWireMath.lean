/- The plain laws of numbers as bytes, by sevens: there and back, each in one way alone. No program in sight. -/
namespace Go.Proofs.YtmaemlmbhldmkaaDoor.WireMath

/-- a number's bytes -/
def put (x : Nat) : List UInt8 := if h : x < 128 then [UInt8.ofNat x] else UInt8.ofNat (x % 128 + 128) :: put (x / 128)
termination_by x
decreasing_by omega
theorem put_small {x : Nat} (h : x < 128) : put x = [UInt8.ofNat x] := by rw [put, dif_pos h]
theorem put_big {x : Nat} (h : ¬ x < 128) : put x = UInt8.ofNat (x % 128 + 128) :: put (x / 128) := by rw [put, dif_neg h]
theorem put_pos (x : Nat) : 0 < (put x).length := by
  by_cases h : x < 128
  · rw [put_small h]; simp
  · rw [put_big h]; simp
theorem put_le (k x : Nat) (h : x < 128 ^ (k + 1)) : (put x).length ≤ k + 1 := by
  induction k generalizing x with
  | zero => rw [put_small (by simpa using h)]; simp
  | succ k ih =>
    by_cases h1 : x < 128
    · rw [put_small h1]; simp
    · rw [put_big h1]
      have := ih (x / 128) (by rw [Nat.pow_succ] at h; omega)
      simp; omega

/-- the number at the beginning of bytes, read from place i on with x so far: it, how many bytes it has, an error's number -/
def getF (i x : Nat) : List UInt8 → Nat × Nat × Nat
  | [] => (0, 0, 3)
  | c :: r =>
    if i = 10 ∨ i = 9 ∧ 1 < c.toNat then (0, 0, 5)
    else if 128 ≤ c.toNat then getF (i + 1) (x + (c.toNat - 128) * 2 ^ (7 * i)) r
    else if c.toNat = 0 ∧ 0 < i then (0, 0, 4)
    else (x + c.toNat * 2 ^ (7 * i), i + 1, 0)
def get (b : List UInt8) : Nat × Nat × Nat := getF 0 0 b

theorem u8_small {n : Nat} (h : n < 256) : (UInt8.ofNat n).toNat = n := by rw [UInt8.toNat_ofNat']; exact Nat.mod_eq_of_lt h
theorem pow7 (i : Nat) : 2 ^ (7 * (i + 1)) = 128 * 2 ^ (7 * i) := by
  rw [show 7 * (i + 1) = 7 + 7 * i by omega, Nat.pow_add]

theorem getF_put (i a x : Nat) (r : List UInt8) (hi : i ≤ 9) (hx : x * 2 ^ (7 * i) < 18446744073709551616) (h0 : 0 < i → 0 < x) :
    getF i a (put x ++ r) = (a + x * 2 ^ (7 * i), i + (put x).length, 0) := by
  have gen : ∀ n, ∀ i a x, n = 9 - i → i ≤ 9 → x * 2 ^ (7 * i) < 18446744073709551616 → (0 < i → 0 < x) → getF i a (put x ++ r) = (a + x * 2 ^ (7 * i), i + (put x).length, 0) := by
    intro n
    induction n with
    | zero =>
      intro i a x hn hi hx h0
      obtain rfl : i = 9 := by omega
      have hx2 : x < 2 := by omega
      have hx0 := h0 (by omega)
      rw [put_small (by omega)]
      simp only [List.cons_append, List.nil_append, getF]
      rw [u8_small (by omega), if_neg (by omega), if_neg (by omega), if_neg (by omega)]
      rfl
    | succ n ih =>
      intro i a x hn hi hx h0
      by_cases h : x < 128
      · rw [put_small h]
        simp only [List.cons_append, List.nil_append, getF]
        rw [u8_small (by omega), if_neg (by omega), if_neg (by omega), if_neg (by omega)]
        rfl
      · rw [put_big h]
        simp only [List.cons_append, getF]
        rw [u8_small (by omega), if_neg (by omega), if_pos (by omega)]
        have hp : 0 < 2 ^ (7 * i) := Nat.pow_pos (by decide)
        have hle : x / 128 * 2 ^ (7 * (i + 1)) ≤ x * 2 ^ (7 * i) := by
          rw [pow7, ← Nat.mul_assoc]
          exact Nat.mul_le_mul_right _ (by omega)
        rw [ih (i + 1) _ (x / 128) (by omega) (by omega) (by omega) (fun _ => by omega)]
        have e : x % 128 + 128 - 128 = x % 128 := by omega
        rw [e, pow7, ← Nat.mul_assoc, Nat.add_assoc, ← Nat.add_mul]
        have e2 : x % 128 + x / 128 * 128 = x := by omega
        rw [e2]
        simp only [List.length_cons, Prod.mk.injEq, true_and, and_true]
        omega
  exact gen _ i a x rfl hi hx h0
/-- there and back -/
theorem get_put (x : Nat) (r : List UInt8) (hx : x < 18446744073709551616) : get (put x ++ r) = (x, (put x).length, 0) := by
  have := getF_put 0 0 x r (by omega) (by simpa using hx) (by omega)
  simpa [get] using this
/-- in one way alone -/
theorem getF_one (i a : Nat) (b : List UInt8) (y n : Nat) (h : getF i a b = (y, n, 0)) (hi : i ≤ 9) :
    ∃ x, y = a + x * 2 ^ (7 * i) ∧ i < n ∧ n - i ≤ b.length ∧ put x = b.take (n - i) ∧ (0 < i → 0 < x) ∧ x * 2 ^ (7 * i) < 18446744073709551616 ∧ n ≤ 10 := by
  induction b generalizing i a with
  | nil => simp [getF] at h
  | cons c r ih =>
    have hc := c.toNat_lt
    simp only [getF] at h
    split at h
    · simp at h
    · next h1 =>
      split at h
      · next h2 =>
        have hi8 : i ≤ 8 := by omega
        obtain ⟨x, e1, e2, e3, e4, e5, e6, e7⟩ := ih (i + 1) _ h (by omega)
        have hx := e5 (by omega)
        refine ⟨x * 128 + (c.toNat - 128), ?_, by omega, by simp; omega, ?_, fun _ => by omega, ?_, e7⟩
        · rw [e1, pow7, Nat.add_mul, Nat.mul_assoc]; omega
        · rw [put_big (by omega)]
          have a1 : (x * 128 + (c.toNat - 128)) % 128 = c.toNat - 128 := by omega
          have a2 : (x * 128 + (c.toNat - 128)) / 128 = x := by omega
          have a3 : UInt8.ofNat (c.toNat - 128 + 128) = c := by
            apply UInt8.toNat_inj.1
            rw [u8_small (by omega)]
            omega
          rw [a1, a2, a3, e4, show n - i = (n - (i + 1)) + 1 by omega, List.take_succ_cons]
        · have hb : (x * 128 + (c.toNat - 128)) * 2 ^ (7 * i) < (x * 128 + 128) * 2 ^ (7 * i) := Nat.mul_lt_mul_of_pos_right (by omega) (Nat.pow_pos (by decide))
          have hb2 : (x * 128 + 128) * 2 ^ (7 * i) = (x + 1) * 2 ^ (7 * (i + 1)) := by rw [pow7, ← Nat.mul_assoc]; congr 1; omega
          have hb3 : (x + 1) * 2 ^ (7 * (i + 1)) ≤ 18446744073709551616 := by
            have hd : (18446744073709551616 : Nat) = 2 ^ (64 - 7 * (i + 1)) * 2 ^ (7 * (i + 1)) := by
              rw [← Nat.pow_add, show 64 - 7 * (i + 1) + 7 * (i + 1) = 64 by omega]
            rw [hd] at e6 ⊢
            exact Nat.mul_le_mul_right _ (Nat.lt_of_mul_lt_mul_right e6)
          omega
      · next h2 =>
        split at h
        · simp at h
        · next h3 =>
          simp only [Prod.mk.injEq, and_true] at h
          obtain ⟨rfl, rfl⟩ := h
          refine ⟨c.toNat, rfl, by omega, by simp, ?_, fun h0 => by omega, ?_, by omega⟩
          · rw [put_small (by omega), show i + 1 - i = 1 by omega]
            simp
          · by_cases h9 : i = 9
            · subst h9
              have : c.toNat ≤ 1 := by omega
              have := Nat.mul_le_mul_right (2 ^ (7 * 9)) this
              simp at this
              omega
            · have hp : 2 ^ (7 * i) ≤ 2 ^ 56 := Nat.pow_le_pow_right (by decide) (by omega)
              have := Nat.mul_le_mul (show c.toNat ≤ 127 by omega) hp
              simp at this
              omega
theorem get_one {b : List UInt8} {x n : Nat} (h : get b = (x, n, 0)) : put x = b.take n ∧ n ≤ b.length ∧ 0 < n ∧ x < 18446744073709551616 ∧ n ≤ 10 := by
  obtain ⟨y, e1, e2, e3, e4, _, e6, e7⟩ := getF_one 0 0 b x n h (by omega)
  simp at e1
  subst e1
  exact ⟨by simpa using e4, by simpa using e3, e2, by simpa using e6, e7⟩
theorem getF_err (i a : Nat) (b : List UInt8) (y n e : Nat) (h : getF i a b = (y, n, e)) (he : e ≠ 0) : y = 0 ∧ n = 0 ∧ (e = 3 ∨ e = 4 ∨ e = 5) := by
  induction b generalizing i a with
  | nil => simp [getF] at h; omega
  | cons c r ih =>
    simp only [getF] at h
    split at h
    · simp at h; omega
    · split at h
      · exact ih _ _ h
      · split at h
        · simp at h; omega
        · simp at h; omega

end Go.Proofs.YtmaemlmbhldmkaaDoor.WireMath
