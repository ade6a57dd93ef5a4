/- The plain laws of bytes as text: by threes and by fours; there and back. No program in sight. -/
namespace Go.Proofs.YtnjkpoljcekjcaaDoor.B64Math

def letters : List UInt8 := [65, 66, 67, 68, 69, 70, 71, 72, 73, 74, 75, 76, 77, 78, 79, 80, 81, 82, 83, 84, 85, 86, 87, 88, 89, 90, 97, 98, 99, 100, 101, 102, 103, 104, 105, 106, 107, 108, 109, 110, 111, 112, 113, 114, 115, 116, 117, 118, 119, 120, 121, 122, 48, 49, 50, 51, 52, 53, 54, 55, 56, 57, 45, 95]
/-- the letter of a number -/
def L (n : Nat) : UInt8 := letters.getD n 0
/-- the number of a letter -/
def num (c : UInt8) : Option Nat := letters.idxOf? c

theorem num_L : ∀ n, n < 64 → num (L n) = some n := by decide +kernel
theorem L_num (c : UInt8) (n : Nat) (h : num c = some n) : L n = c ∧ n < 64 := by
  unfold num at h
  rw [List.idxOf?_eq_some_iff] at h
  obtain ⟨hn, h1, _⟩ := h
  refine ⟨?_, by simpa [letters] using hn⟩
  unfold L
  rw [List.getD_eq_getElem?_getD, List.getElem?_eq_getElem hn]
  simpa using h1

/-- by threes -/
def enc : List UInt8 → List UInt8
  | [] => []
  | [a] => [L (a.toNat * 16 / 64), L (a.toNat * 16 % 64)]
  | [a, b] => [L ((a.toNat * 1024 + b.toNat * 4) / 4096), L ((a.toNat * 1024 + b.toNat * 4) / 64 % 64), L ((a.toNat * 1024 + b.toNat * 4) % 64)]
  | a :: b :: c :: r => [L ((a.toNat * 65536 + b.toNat * 256 + c.toNat) / 262144), L ((a.toNat * 65536 + b.toNat * 256 + c.toNat) / 4096 % 64), L ((a.toNat * 65536 + b.toNat * 256 + c.toNat) / 64 % 64), L ((a.toNat * 65536 + b.toNat * 256 + c.toNat) % 64)] ++ enc r

/-- by fours -/
def decN : List Nat → Option (List UInt8)
  | [] => some []
  | [_] => none
  | [a, b] => if (a * 64 + b) % 16 = 0 then some [UInt8.ofNat ((a * 64 + b) / 16)] else none
  | [a, b, c] => if (a * 4096 + b * 64 + c) % 4 = 0 then some [UInt8.ofNat ((a * 4096 + b * 64 + c) / 1024), UInt8.ofNat ((a * 4096 + b * 64 + c) / 4)] else none
  | a :: b :: c :: d :: r => (decN r).map fun l => UInt8.ofNat ((a * 262144 + b * 4096 + c * 64 + d) / 65536) :: UInt8.ofNat ((a * 262144 + b * 4096 + c * 64 + d) / 256) :: UInt8.ofNat (a * 262144 + b * 4096 + c * 64 + d) :: l
def nums : List UInt8 → Option (List Nat)
  | [] => some []
  | c :: r => (num c).bind fun n => (nums r).map fun l => n :: l
def dec (s : List UInt8) : Option (List UInt8) := (nums s).bind decN

theorem nums_append (s t : List UInt8) : nums (s ++ t) = (nums s).bind fun a => (nums t).map fun b => a ++ b := by
  induction s with
  | nil => simp [nums]
  | cons c r ih =>
    simp only [List.cons_append, nums, ih]
    cases num c <;> cases nums r <;> cases nums t <;> simp
theorem nums_lt {s : List UInt8} {l : List Nat} (h : nums s = some l) : l.length = s.length ∧ s = l.map L ∧ ∀ n ∈ l, n < 64 := by
  induction s generalizing l with
  | nil => simp [nums] at h; subst h; simp
  | cons c r ih =>
    simp only [nums] at h
    cases hc : num c with
    | none => simp [hc] at h
    | some n =>
      cases hr : nums r with
      | none => simp [hc, hr] at h
      | some m =>
        simp [hc, hr] at h
        subst h
        obtain ⟨h1, h2, h3⟩ := ih hr
        obtain ⟨e, hn⟩ := L_num c n hc
        refine ⟨by simp [h1], by simp [e, ← h2], ?_⟩
        intro x hx
        rcases List.mem_cons.1 hx with rfl | hx
        · exact hn
        · exact h3 x hx
theorem nums_map {l : List Nat} (h : ∀ n ∈ l, n < 64) : nums (l.map L) = some l := by
  induction l with
  | nil => rfl
  | cons n l ih =>
    simp only [List.map_cons, nums]
    rw [num_L n (h n (by simp)), ih (fun x hx => h x (by simp [hx]))]
    rfl

/-- the numbers of bytes -/
def encN : List UInt8 → List Nat
  | [] => []
  | [a] => [a.toNat * 16 / 64, a.toNat * 16 % 64]
  | [a, b] => [(a.toNat * 1024 + b.toNat * 4) / 4096, (a.toNat * 1024 + b.toNat * 4) / 64 % 64, (a.toNat * 1024 + b.toNat * 4) % 64]
  | a :: b :: c :: r => [(a.toNat * 65536 + b.toNat * 256 + c.toNat) / 262144, (a.toNat * 65536 + b.toNat * 256 + c.toNat) / 4096 % 64, (a.toNat * 65536 + b.toNat * 256 + c.toNat) / 64 % 64, (a.toNat * 65536 + b.toNat * 256 + c.toNat) % 64] ++ encN r
theorem enc_eq (l : List UInt8) : enc l = (encN l).map L := by
  fun_induction enc l <;> simp_all [encN]
theorem encN_lt (l : List UInt8) : ∀ n ∈ encN l, n < 64 := by
  fun_induction encN l with
  | case1 => simp
  | case2 a => have := a.toNat_lt; intro n hn; simp at hn; omega
  | case3 a b => have := a.toNat_lt; have := b.toNat_lt; intro n hn; simp at hn; omega
  | case4 a b c r ih =>
    have := a.toNat_lt; have := b.toNat_lt; have := c.toNat_lt
    intro n hn
    simp only [List.mem_append, List.mem_cons, List.not_mem_nil, or_false] at hn
    rcases hn with hn | hn
    · omega
    · exact ih n hn
theorem ofNat_eq {n : Nat} {c : UInt8} (h : n % 256 = c.toNat) : UInt8.ofNat n = c := by
  apply UInt8.toNat_inj.1
  rw [UInt8.toNat_ofNat']
  exact h
theorem decN_encN (l : List UInt8) : decN (encN l) = some l := by
  fun_induction encN l with
  | case1 => rfl
  | case2 a =>
    have := a.toNat_lt
    simp only [decN]
    rw [if_pos (by omega), ofNat_eq (c := a) (by omega)]
  | case3 a b =>
    have := a.toNat_lt; have := b.toNat_lt
    simp only [decN]
    rw [if_pos (by omega), ofNat_eq (c := a) (by omega), ofNat_eq (c := b) (by omega)]
  | case4 a b c r ih =>
    have := a.toNat_lt; have := b.toNat_lt; have := c.toNat_lt
    simp only [List.cons_append, List.nil_append, decN, ih, Option.map_some]
    rw [ofNat_eq (c := a) (by omega), ofNat_eq (c := b) (by omega), ofNat_eq (c := c) (by omega)]
/-- there and back -/
theorem dec_enc (l : List UInt8) : dec (enc l) = some l := by
  unfold dec
  rw [enc_eq, nums_map (encN_lt l)]
  exact decN_encN l
theorem toNat_ofNat_lt {n : Nat} (h : n < 256) : (UInt8.ofNat n).toNat = n := by rw [UInt8.toNat_ofNat']; exact Nat.mod_eq_of_lt h
theorem encN_decN (l : List Nat) (m : List UInt8) (hl : ∀ n ∈ l, n < 64) (h : decN l = some m) : encN m = l := by
  fun_induction decN l generalizing m with
  | case1 => simp at h; subst h; rfl
  | case2 => simp at h
  | case3 a b hc =>
    have h1 := hl a (by simp); have h2 := hl b (by simp)
    simp at h; subst h
    simp only [encN]
    rw [toNat_ofNat_lt (by omega)]
    simp only [List.cons.injEq, and_true]
    omega
  | case4 a b hc => simp at h
  | case5 a b c hc =>
    have h1 := hl a (by simp); have h2 := hl b (by simp); have h3 := hl c (by simp)
    simp at h; subst h
    simp only [encN]
    rw [toNat_ofNat_lt (n := _ / 1024) (by omega), UInt8.toNat_ofNat']
    simp only [List.cons.injEq, and_true]
    omega
  | case6 a b c hc => simp at h
  | case7 a b c d r ih =>
    have h1 := hl a (by simp); have h2 := hl b (by simp); have h3 := hl c (by simp); have h4 := hl d (by simp)
    cases hr : decN r with
    | none => simp [hr] at h
    | some k =>
      simp only [hr, Option.map_some, Option.some.injEq] at h
      subst h
      have := ih k (fun n hn => hl n (by simp [hn])) hr
      simp only [encN, this, UInt8.toNat_ofNat', List.cons_append, List.nil_append, List.cons.injEq, and_true]
      omega
/-- and a text that has bytes is theirs -/
theorem enc_dec (s m : List UInt8) (h : dec s = some m) : enc m = s := by
  unfold dec at h
  cases hn : nums s with
  | none => simp [hn] at h
  | some l =>
    obtain ⟨_, h2, h3⟩ := nums_lt hn
    simp [hn] at h
    rw [enc_eq, encN_decN l m h3 h, ← h2]
theorem enc_length (l : List UInt8) : (enc l).length = (4 * l.length + 2) / 3 := by
  fun_induction enc l <;> simp_all <;> omega

/- encoding, byte by byte: what is held, how many bits of it wait, what is written -/
def emit (h n : Nat) : List UInt8 := if n = 8 then [L (h / 4 % 64)] else if n = 10 then [L (h / 16 % 64)] else [L (h / 64 % 64), L (h % 64)]
def estep (s : Nat × Nat × List UInt8) (c : UInt8) : Nat × Nat × List UInt8 :=
  ((s.1 * 256 + c.toNat) % 18446744073709551616, (s.2.1 + 8) % 6, s.2.2 ++ emit ((s.1 * 256 + c.toNat) % 18446744073709551616) (s.2.1 + 8))
def efin (s : Nat × Nat × List UInt8) : List UInt8 := if s.2.1 = 0 then s.2.2 else s.2.2 ++ [L (s.1 * 2 ^ (6 - s.2.1) % 64)]
theorem estep_fold (h : Nat) (o l : List UInt8) : efin (l.foldl estep (h, 0, o)) = o ++ enc l := by
  fun_induction enc l generalizing h o with
  | case1 => simp [efin]
  | case2 a =>
    have := a.toNat_lt
    simp [efin, estep, emit]
    constructor <;> congr 1 <;> omega
  | case3 a b =>
    have := a.toNat_lt; have := b.toNat_lt
    simp [efin, estep, emit]
    refine ⟨?_, ?_, ?_⟩ <;> congr 1 <;> omega
  | case4 a b c r ih =>
    have := a.toNat_lt; have := b.toNat_lt; have := c.toNat_lt
    simp only [List.foldl_cons, estep, emit]
    simp only [Nat.zero_add, Nat.reduceAdd, Nat.reduceMod, if_true, Nat.reduceEqDiff, if_false]
    rw [ih]
    simp only [List.append_assoc, List.append_cancel_left_eq, List.cons_append, List.nil_append, List.cons.injEq, and_true]
    refine ⟨?_, ?_, ?_, ?_⟩ <;> congr 1 <;> omega
theorem estep_n (l : List UInt8) (h : Nat) (o : List UInt8) : (l.foldl estep (h, 0, o)).2.1 = 8 * l.length % 6 := by
  have gen : ∀ (l : List UInt8) (s : Nat × Nat × List UInt8), (l.foldl estep s).2.1 % 6 = (s.2.1 + 8 * l.length) % 6 ∧ (l ≠ [] → (l.foldl estep s).2.1 < 6) := by
    intro l
    induction l with
    | nil => intro s; simp
    | cons c l ih =>
      intro s
      obtain ⟨h1, h2⟩ := ih (estep s c)
      have e : (estep s c).2.1 = (s.2.1 + 8) % 6 := rfl
      refine ⟨by rw [List.foldl_cons, h1, e]; simp; omega, fun _ => ?_⟩
      rw [List.foldl_cons]
      cases l with
      | nil => rw [List.foldl_nil, e]; omega
      | cons d l => exact h2 (by simp)
  obtain ⟨h1, h2⟩ := gen l (h, 0, o)
  cases l with
  | nil => rfl
  | cons c l =>
    have := h2 (by simp)
    simp only [Nat.zero_add] at h1
    omega

/- decoding, letter by letter -/
def dstep (s : Nat × Nat × List UInt8) (x : Nat) : Nat × Nat × List UInt8 :=
  if s.2.1 + 6 < 8 then ((s.1 * 64 + x) % 18446744073709551616, s.2.1 + 6, s.2.2)
  else ((s.1 * 64 + x) % 18446744073709551616, s.2.1 - 2, s.2.2 ++ [UInt8.ofNat ((s.1 * 64 + x) % 18446744073709551616 / 2 ^ (s.2.1 - 2))])
def dfin (s : Nat × Nat × List UInt8) : Option (List UInt8) := if 6 ≤ s.2.1 ∨ s.1 % 2 ^ s.2.1 ≠ 0 then none else some s.2.2
theorem ofNat_congr {m n : Nat} (h : m % 256 = n % 256) : UInt8.ofNat m = UInt8.ofNat n := by
  apply UInt8.toNat_inj.1
  rw [UInt8.toNat_ofNat', UInt8.toNat_ofNat']
  exact h
theorem dstep_fold (h : Nat) (o : List UInt8) (l : List Nat) (hl : ∀ n ∈ l, n < 64) : dfin (l.foldl dstep (h, 0, o)) = (decN l).map fun m => o ++ m := by
  fun_induction decN l generalizing h o with
  | case1 => simp [dfin, Nat.mod_one]
  | case2 a => simp [dfin, dstep]
  | case3 a b hc =>
    have h1 := hl a (by simp); have h2 := hl b (by simp)
    simp only [List.foldl_cons, List.foldl_nil, dstep, dfin, Option.map_some]
    simp only [Nat.zero_add, Nat.reduceSub, Nat.reducePow, Nat.reduceAdd, Nat.reduceLT, if_true, if_false, Nat.reduceLeDiff, false_or]
    rw [if_neg (by omega)]
    simp only [Option.some.injEq, List.append_cancel_left_eq, List.cons.injEq, and_true]
    exact ofNat_congr (by omega)
  | case4 a b hc =>
    have h1 := hl a (by simp); have h2 := hl b (by simp)
    simp only [List.foldl_cons, List.foldl_nil, dstep, dfin, Option.map_none]
    simp only [Nat.zero_add, Nat.reduceSub, Nat.reducePow, Nat.reduceAdd, Nat.reduceLT, if_true, if_false, Nat.reduceLeDiff, false_or]
    rw [if_pos (by omega)]
  | case5 a b c hc =>
    have h1 := hl a (by simp); have h2 := hl b (by simp); have h3 := hl c (by simp)
    simp only [List.foldl_cons, List.foldl_nil, dstep, dfin, Option.map_some]
    simp only [Nat.zero_add, Nat.reduceSub, Nat.reducePow, Nat.reduceAdd, Nat.reduceLT, if_true, if_false, Nat.reduceLeDiff, false_or]
    rw [if_neg (by omega)]
    simp only [List.append_assoc, Option.some.injEq, List.append_cancel_left_eq, List.cons_append, List.nil_append, List.cons.injEq, and_true]
    exact ⟨ofNat_congr (by omega), ofNat_congr (by omega)⟩
  | case6 a b c hc =>
    have h1 := hl a (by simp); have h2 := hl b (by simp); have h3 := hl c (by simp)
    simp only [List.foldl_cons, List.foldl_nil, dstep, dfin, Option.map_none]
    simp only [Nat.zero_add, Nat.reduceSub, Nat.reducePow, Nat.reduceAdd, Nat.reduceLT, if_true, if_false, Nat.reduceLeDiff, false_or]
    rw [if_pos (by omega)]
  | case7 a b c d r ih =>
    have h1 := hl a (by simp); have h2 := hl b (by simp); have h3 := hl c (by simp); have h4 := hl d (by simp)
    simp only [List.foldl_cons, dstep]
    simp only [Nat.zero_add, Nat.reduceSub, Nat.reducePow, Nat.reduceAdd, Nat.reduceLT, if_true, if_false]
    rw [ih _ _ (fun n hn => hl n (by simp [hn]))]
    cases decN r with
    | none => rfl
    | some k =>
      simp only [Option.map_some, Option.some.injEq, List.append_assoc, List.append_cancel_left_eq, List.cons_append, List.nil_append, List.cons.injEq, and_true]
      refine ⟨ofNat_congr (by omega), ofNat_congr (by omega), ofNat_congr (by omega)⟩
theorem dstep_n (l : List Nat) (h : Nat) (o : List UInt8) : (l.foldl dstep (h, 0, o)).2.1 = 6 * l.length % 8 := by
  have gen : ∀ (l : List Nat) (s : Nat × Nat × List UInt8), s.2.1 < 8 → (l.foldl dstep s).2.1 = (s.2.1 + 6 * l.length) % 8 := by
    intro l
    induction l with
    | nil => intro s hs; simp; omega
    | cons c l ih =>
      intro s hs
      have e : (dstep s c).2.1 = (s.2.1 + 6) % 8 := by unfold dstep; split <;> simp <;> omega
      rw [List.foldl_cons, ih _ (by rw [e]; omega), e]
      simp
      omega
  simpa using gen l (h, 0, o) (by simp)

end Go.Proofs.YtnjkpoljcekjcaaDoor.B64Math
