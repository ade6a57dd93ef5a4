/- The plain laws of the sum (CRC-32): half bytes by a table are bits one by one; pieces go on; one to 32 turned bits are seen. No program in sight. -/
namespace Go.Proofs.YtpejfngkdkkfnaaDoor.CrcMath

def poly : Nat := 3988292384

/-- one bit of the document's sum -/
def step (x : Nat) (b : Bool) : Nat := (x / 2) ^^^ (if x.testBit 0 = b then 0 else poly)

def byteStep (x c : Nat) : Nat :=
  step (step (step (step (step (step (step (step x (c.testBit 0)) (c.testBit 1)) (c.testBit 2)) (c.testBit 3)) (c.testBit 4)) (c.testBit 5)) (c.testBit 6)) (c.testBit 7)

def halves : List Nat := [0, 498536548, 997073096, 651767980, 1994146192, 1802195444, 1303535960, 1342533948, 3988292384, 4027552580, 3604390888, 3412177804, 2607071920, 2262029012, 2685067896, 3183342108]

/-- four bits by the table -/
def nib (x n : Nat) : Nat := (halves.getD ((x ^^^ n) % 16) 0) ^^^ (x / 16)

theorem xor_half (a b : Nat) : (a ^^^ b) / 2 = (a / 2) ^^^ (b / 2) := by
  have h := Nat.shiftRight_xor_distrib (a := a) (b := b) (i := 1)
  simpa [Nat.shiftRight_eq_div_pow] using h

theorem step_lt {x : Nat} (b : Bool) (hx : x < 4294967296) : step x b < 4294967296 := by
  unfold step
  have h1 : x / 2 < 2 ^ 32 := by omega
  have h2 : (if x.testBit 0 = b then 0 else poly) < 2 ^ 32 := by split <;> decide
  exact Nat.xor_lt_two_pow h1 h2

theorem four (x n : Nat) : step (step (step (step x (n.testBit 0)) (n.testBit 1)) (n.testBit 2)) (n.testBit 3) = nib x n := by
  have key : ∀ m, m < 16 → halves.getD m 0 = ((((if m.testBit 0 = false then 0 else poly) / 2 ^^^ (if m.testBit 1 = false then 0 else poly)) / 2 ^^^ (if m.testBit 2 = false then 0 else poly)) / 2) ^^^ (if m.testBit 3 = false then 0 else poly) := by decide
  have e : ∀ (i : Nat) (y : Nat), y.testBit 0 = x.testBit i → (if y.testBit 0 = n.testBit i then 0 else poly) = (if (x ^^^ n).testBit i = false then 0 else poly) := by
    intro i y hy
    rw [hy, Nat.testBit_xor]
    cases x.testBit i <;> cases n.testBit i <;> rfl
  have m0 : ∀ i, i < 4 → ((x ^^^ n) % 16).testBit i = (x ^^^ n).testBit i := by
    intro i hi
    have := Nat.testBit_mod_two_pow (x ^^^ n) 4 i
    simpa [hi] using this
  have pbit : ∀ (c : Bool) (i : Nat), i < 5 → (if c = false then 0 else poly).testBit i = false := by decide
  unfold nib
  rw [key _ (Nat.mod_lt _ (by decide)), m0 0 (by decide), m0 1 (by decide), m0 2 (by decide), m0 3 (by decide)]
  have s1 : step x (n.testBit 0) = x / 2 ^^^ (if (x ^^^ n).testBit 0 = false then 0 else poly) := by unfold step; rw [e 0 x rfl]
  rw [s1]
  have b1 : (x / 2 ^^^ (if (x ^^^ n).testBit 0 = false then 0 else poly)).testBit 0 = x.testBit 1 := by
    rw [Nat.testBit_xor, pbit _ 0 (by decide), Nat.testBit_div_two]; simp
  have s2 : step (x / 2 ^^^ (if (x ^^^ n).testBit 0 = false then 0 else poly)) (n.testBit 1) = (x / 2 ^^^ (if (x ^^^ n).testBit 0 = false then 0 else poly)) / 2 ^^^ (if (x ^^^ n).testBit 1 = false then 0 else poly) := by unfold step; rw [e 1 _ b1]
  rw [s2]
  generalize hA : (if (x ^^^ n).testBit 0 = false then 0 else poly) = A at *
  generalize hB : (if (x ^^^ n).testBit 1 = false then 0 else poly) = B at *
  have bA : ∀ i, i < 5 → A.testBit i = false := by rw [← hA]; exact pbit _
  have bB : ∀ i, i < 5 → B.testBit i = false := by rw [← hB]; exact pbit _
  have b2 : ((x / 2 ^^^ A) / 2 ^^^ B).testBit 0 = x.testBit 2 := by
    rw [Nat.testBit_xor, bB 0 (by decide), Nat.testBit_div_two, Nat.testBit_xor, bA _ (by decide), Nat.testBit_div_two]; simp
  have s3 : step ((x / 2 ^^^ A) / 2 ^^^ B) (n.testBit 2) = ((x / 2 ^^^ A) / 2 ^^^ B) / 2 ^^^ (if (x ^^^ n).testBit 2 = false then 0 else poly) := by unfold step; rw [e 2 _ b2]
  rw [s3]
  generalize hC : (if (x ^^^ n).testBit 2 = false then 0 else poly) = C at *
  have bC : ∀ i, i < 5 → C.testBit i = false := by rw [← hC]; exact pbit _
  have b3 : (((x / 2 ^^^ A) / 2 ^^^ B) / 2 ^^^ C).testBit 0 = x.testBit 3 := by
    rw [Nat.testBit_xor, bC 0 (by decide), Nat.testBit_div_two, Nat.testBit_xor, bB _ (by decide), Nat.testBit_div_two, Nat.testBit_xor, bA _ (by decide), Nat.testBit_div_two]; simp
  have s4 : step (((x / 2 ^^^ A) / 2 ^^^ B) / 2 ^^^ C) (n.testBit 3) = (((x / 2 ^^^ A) / 2 ^^^ B) / 2 ^^^ C) / 2 ^^^ (if (x ^^^ n).testBit 3 = false then 0 else poly) := by unfold step; rw [e 3 _ b3]
  rw [s4]
  generalize (if (x ^^^ n).testBit 3 = false then 0 else poly) = D
  have e16 : x / 16 = x / 2 / 2 / 2 / 2 := by omega
  rw [e16]
  simp only [xor_half]
  generalize x / 2 / 2 / 2 / 2 = X
  ac_rfl

/-- a byte by the table, the low half first -/
theorem byte_nib (x c : Nat) : byteStep x c = nib (nib x c) (c / 16) := by
  unfold byteStep
  rw [four x c, ← four (nib x c) (c / 16)]
  have h : ∀ i, (c / 16).testBit i = c.testBit (4 + i) := by
    intro i
    have := Nat.testBit_div_two_pow c (n := 4) i
    simpa [Nat.add_comm] using this
  simp only [h]

theorem byteStep_lt {x : Nat} (c : Nat) (hx : x < 4294967296) : byteStep x c < 4294967296 := by
  unfold byteStep
  exact step_lt _ (step_lt _ (step_lt _ (step_lt _ (step_lt _ (step_lt _ (step_lt _ (step_lt _ hx)))))))
theorem nib_lt {x : Nat} (n : Nat) (hx : x < 4294967296) : nib x n < 4294967296 := by
  rw [← four]; exact step_lt _ (step_lt _ (step_lt _ (step_lt _ hx)))

/-- the sum's inner state behind bytes -/
def run (x : Nat) (l : List UInt8) : Nat := l.foldl (fun x c => byteStep x c.toNat) x
theorem run_append (x : Nat) (l m : List UInt8) : run x (l ++ m) = run (run x l) m := by simp [run]
theorem run_lt {x : Nat} (l : List UInt8) (hx : x < 4294967296) : run x l < 4294967296 := by
  induction l generalizing x with
  | nil => exact hx
  | cons c l ih => exact ih (byteStep_lt _ hx)
/-- a sum that goes on -/
def add (s : Nat) (l : List UInt8) : Nat := 4294967295 ^^^ run (4294967295 ^^^ s) l
theorem flip_lt {s : Nat} (hs : s < 4294967296) : 4294967295 ^^^ s < 4294967296 := Nat.xor_lt_two_pow (n := 32) (by decide) hs
theorem add_lt {s : Nat} (l : List UInt8) (hs : s < 4294967296) : add s l < 4294967296 := flip_lt (run_lt l (flip_lt hs))
theorem add_append (s : Nat) (l m : List UInt8) : add (add s l) m = add s (l ++ m) := by
  unfold add
  rw [run_append, ← Nat.xor_assoc, Nat.xor_self, Nat.zero_xor]
theorem add_nil (s : Nat) : add s [] = s := by
  unfold add run
  rw [List.foldl_nil, ← Nat.xor_assoc, Nat.xor_self, Nat.zero_xor]

/- turned bits -/
def runN (x : Nat) (f : Nat → Bool) : Nat → Nat
  | 0 => x
  | n + 1 => step (runN x f n) (f n)
def bt (l : List UInt8) (i : Nat) : Bool := (l.getD (i / 8) 0).toNat.testBit (i % 8)

theorem runN_congr {x : Nat} {f g : Nat → Bool} {n : Nat} (h : ∀ i, i < n → f i = g i) : runN x f n = runN x g n := by
  induction n with
  | zero => rfl
  | succ n ih => simp only [runN]; rw [ih (fun i hi => h i (by omega)), h n (by omega)]

theorem runN_add (x : Nat) (f : Nat → Bool) (m n : Nat) : runN x f (m + n) = runN (runN x f m) (fun i => f (m + i)) n := by
  induction n with
  | zero => rfl
  | succ n ih => show step (runN x f (m + n)) (f (m + n)) = step (runN (runN x f m) (fun i => f (m + i)) n) (f (m + n)); rw [ih]

theorem run_runN (x : Nat) (l : List UInt8) : run x l = runN x (bt l) (8 * l.length) := by
  induction l generalizing x with
  | nil => rfl
  | cons c l ih =>
    have e : 8 * (c :: l).length = 8 + 8 * l.length := by simp; omega
    rw [e, runN_add]
    have h1 : runN x (bt (c :: l)) 8 = byteStep x c.toNat := by
      simp [runN, bt, byteStep]
    have h2 : (fun i => bt (c :: l) (8 + i)) = bt l := by
      funext i
      have e1 : (8 + i) / 8 = i / 8 + 1 := by omega
      have e2 : (8 + i) % 8 = i % 8 := by omega
      simp only [bt, e1, e2, List.getD_cons_succ]
    rw [h1, h2, ← ih]
    rfl

theorem step_xor (x y : Nat) (a b : Bool) : step (x ^^^ y) (a ^^ b) = step x a ^^^ step y b := by
  unfold step
  rw [xor_half, Nat.testBit_xor]
  have h : (if (x.testBit 0 ^^ y.testBit 0) = (a ^^ b) then 0 else poly) = (if x.testBit 0 = a then 0 else poly) ^^^ (if y.testBit 0 = b then 0 else poly) := by
    cases x.testBit 0 <;> cases y.testBit 0 <;> cases a <;> cases b <;> simp
  rw [h]
  ac_rfl

theorem runN_xor (x y : Nat) (f g : Nat → Bool) (n : Nat) : runN (x ^^^ y) (fun i => f i ^^ g i) n = runN x f n ^^^ runN y g n := by
  induction n with
  | zero => rfl
  | succ n ih => simp only [runN]; rw [ih, step_xor]

theorem runN_lt {x : Nat} (f : Nat → Bool) (n : Nat) (hx : x < 4294967296) : runN x f n < 4294967296 := by
  induction n with
  | zero => exact hx
  | succ n ih => exact step_lt _ ih

theorem step_zero {y : Nat} (hy : y < 4294967296) (h : step y false = 0) : y = 0 := by
  unfold step at h
  by_cases h0 : y.testBit 0 = false
  · rw [if_pos h0, Nat.xor_zero] at h
    rw [Nat.testBit_zero] at h0
    simp at h0
    omega
  · rw [if_neg h0] at h
    have h2 : y / 2 ^^^ poly ^^^ poly = 0 ^^^ poly := by rw [h]
    rw [Nat.xor_assoc, Nat.xor_self, Nat.xor_zero, Nat.zero_xor] at h2
    unfold poly at h2
    omega

theorem runN_zeros {y : Nat} (n : Nat) (hy : y < 4294967296) (h : runN y (fun _ => false) n = 0) : y = 0 := by
  induction n with
  | zero => exact h
  | succ n ih => exact ih (step_zero (runN_lt _ n hy) h)
theorem runN_zero (n : Nat) : runN 0 (fun _ => false) n = 0 := by
  induction n with
  | zero => rfl
  | succ n ih => simp only [runN]; rw [ih]; rfl
theorem ones_ne : ∀ m, m < 33 → 0 < m → runN 0 (fun _ => true) m ≠ 0 := by decide +kernel

/-- one to 32 bits in a row turned: another state -/
theorem burst (x : Nat) (f : Nat → Bool) (at_ m n : Nat) (hm0 : 0 < m) (hm : m < 33) (hn : at_ + m ≤ n) :
    runN x (fun i => f i ^^ (decide (at_ ≤ i) && decide (i < at_ + m))) n ≠ runN x f n := by
  have h := runN_xor x 0 f (fun i => decide (at_ ≤ i) && decide (i < at_ + m)) n
  rw [Nat.xor_zero] at h
  rw [h]
  intro hc
  have hz : runN 0 (fun i => decide (at_ ≤ i) && decide (i < at_ + m)) n = 0 := by
    generalize runN 0 _ n = z at hc
    generalize runN x f n = y at hc
    have : y ^^^ (y ^^^ z) = y ^^^ y := by rw [hc]
    rw [← Nat.xor_assoc, Nat.xor_self, Nat.zero_xor] at this
    exact this
  obtain ⟨k, rfl⟩ : ∃ k, n = at_ + (m + k) := ⟨n - at_ - m, by omega⟩
  rw [runN_add, runN_add] at hz
  have e1 : runN 0 (fun i => decide (at_ ≤ i) && decide (i < at_ + m)) at_ = 0 := by
    rw [runN_congr (g := fun _ => false) (fun i hi => by simp; omega)]; exact runN_zero _
  have e2 : ∀ y, runN y (fun i => decide (at_ ≤ at_ + i) && decide (at_ + i < at_ + m)) m = runN y (fun _ => true) m := fun y =>
    runN_congr (fun i hi => by simp; omega)
  have e3 : ∀ y, runN y (fun i => decide (at_ ≤ at_ + (m + i)) && decide (at_ + (m + i) < at_ + m)) k = runN y (fun _ => false) k := fun y =>
    runN_congr (fun i hi => by simp)
  rw [e1, e2, e3] at hz
  exact ones_ne m hm hm0 (runN_zeros k (runN_lt _ _ (by decide)) hz)

/- turning -/
def flip1 (l : List UInt8) (i : Nat) : List UInt8 := l.set (i / 8) (UInt8.ofNat ((l.getD (i / 8) 0).toNat ^^^ 2 ^ (i % 8)))
def turnTo (l : List UInt8) (at_ : Nat) : Nat → List UInt8
  | 0 => l
  | k + 1 => flip1 (turnTo l at_ k) (at_ + k)
theorem flip1_length (l : List UInt8) (i : Nat) : (flip1 l i).length = l.length := by simp [flip1]
theorem turnTo_length (l : List UInt8) (at_ k : Nat) : (turnTo l at_ k).length = l.length := by
  induction k with
  | zero => rfl
  | succ k ih => simp only [turnTo]; rw [flip1_length, ih]
theorem bt_flip1 (l : List UInt8) (i j : Nat) (hi : i < 8 * l.length) : bt (flip1 l i) j = (bt l j ^^ decide (j = i)) := by
  unfold bt flip1
  by_cases h : j / 8 = i / 8
  · rw [h]
    have hl : i / 8 < l.length := by omega
    have hlt : (l.getD (i / 8) 0).toNat ^^^ 2 ^ (i % 8) < 256 := Nat.xor_lt_two_pow (n := 8) (UInt8.toNat_lt _) (Nat.pow_lt_pow_right (by decide) (by omega))
    have e : ((l.set (i / 8) (UInt8.ofNat ((l.getD (i / 8) 0).toNat ^^^ 2 ^ (i % 8)))).getD (i / 8) 0).toNat = (l.getD (i / 8) 0).toNat ^^^ 2 ^ (i % 8) := by
      rw [List.getD_eq_getElem?_getD, List.getElem?_set_self hl]
      simp only [Option.getD_some, UInt8.toNat_ofNat']
      exact Nat.mod_eq_of_lt hlt
    rw [e, Nat.testBit_xor, Nat.testBit_two_pow]
    congr 1
    rw [decide_eq_decide]
    omega
  · have hne : ¬ j = i := fun hh => h (by rw [hh])
    rw [List.getD_eq_getElem?_getD, List.getElem?_set_ne (by omega)]
    simp [hne]
theorem bt_turnTo (l : List UInt8) (at_ k j : Nat) (hk : at_ + k ≤ 8 * l.length) : bt (turnTo l at_ k) j = (bt l j ^^ (decide (at_ ≤ j) && decide (j < at_ + k))) := by
  induction k with
  | zero =>
    have h : (decide (at_ ≤ j) && decide (j < at_ + 0)) = false := by simp
    rw [h]; simp [turnTo]
  | succ k ih =>
    simp only [turnTo]
    rw [bt_flip1 _ _ _ (by rw [turnTo_length]; omega), ih (by omega)]
    cases bt l j
    · by_cases h1 : j = at_ + k
      · subst h1; simp
      · by_cases h2 : at_ ≤ j <;> by_cases h3 : j < at_ + k <;> simp [h1, h2, h3] <;> omega
    · by_cases h1 : j = at_ + k
      · subst h1; simp
      · by_cases h2 : at_ ≤ j <;> by_cases h3 : j < at_ + k <;> simp [h1, h2, h3] <;> omega
theorem eq_of_bt {l m : List UInt8} (hlen : l.length = m.length) (h : ∀ j, bt l j = bt m j) : l = m := by
  refine List.ext_getElem hlen fun i h1 h2 => ?_
  apply UInt8.toNat_inj.1
  apply Nat.eq_of_testBit_eq
  intro r
  by_cases hr : r < 8
  · have := h (8 * i + r)
    unfold bt at this
    have e1 : (8 * i + r) / 8 = i := by omega
    have e2 : (8 * i + r) % 8 = r := by omega
    rw [e1, e2] at this
    simpa [List.getD_eq_getElem?_getD, List.getElem?_eq_getElem h1, List.getElem?_eq_getElem h2] using this
  · have hb : ∀ c : UInt8, c.toNat.testBit r = false := fun c => Nat.testBit_lt_two_pow (Nat.lt_of_lt_of_le (UInt8.toNat_lt c) (Nat.pow_le_pow_right (n := 2) (by decide) (by omega) : 2 ^ 8 ≤ 2 ^ r))
    rw [hb, hb]
/-- turned twice: as it was -/
theorem turn_twice (l : List UInt8) (at_ k : Nat) (hk : at_ + k ≤ 8 * l.length) : turnTo (turnTo l at_ k) at_ k = l := by
  refine eq_of_bt (by rw [turnTo_length, turnTo_length]) fun j => ?_
  rw [bt_turnTo _ _ _ _ (by rw [turnTo_length]; exact hk), bt_turnTo _ _ _ _ hk]
  cases bt l j <;> cases (decide (at_ ≤ j) && decide (j < at_ + k)) <;> rfl
/-- turned bits are seen -/
theorem seen (s : Nat) (l : List UInt8) (at_ k : Nat) (hk0 : 0 < k) (hk1 : k < 33) (hk : at_ + k ≤ 8 * l.length) : add s (turnTo l at_ k) ≠ add s l := by
  unfold add
  intro h
  have hr : run (4294967295 ^^^ s) (turnTo l at_ k) = run (4294967295 ^^^ s) l := by
    generalize run (4294967295 ^^^ s) (turnTo l at_ k) = a at *
    generalize run (4294967295 ^^^ s) l = b at *
    have : 4294967295 ^^^ (4294967295 ^^^ a) = 4294967295 ^^^ (4294967295 ^^^ b) := by rw [h]
    rwa [← Nat.xor_assoc, ← Nat.xor_assoc, Nat.xor_self, Nat.zero_xor, Nat.zero_xor] at this
  rw [run_runN, run_runN, turnTo_length, runN_congr (fun i _ => bt_turnTo l at_ k i hk)] at hr
  exact burst _ _ _ _ _ hk0 hk1 (by omega) hr

end Go.Proofs.YtpejfngkdkkfnaaDoor.CrcMath
