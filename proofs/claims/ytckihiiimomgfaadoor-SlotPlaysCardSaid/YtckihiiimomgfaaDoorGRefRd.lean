/- Texts laid as one: B64Math, ZookieMath, ZookieGet, RefRd. -/
import Derived.Test.YtckihiiimomgfaaDoorGMath
import Derived.Test.YtckihiiimomgfaaDoorGWire
import Derived.Test.YtckihiiimomgfaaDoorGMem
namespace Go.Proofs.YtckihiiimomgfaaDoor.B64Math

def letters : List UInt8 := [65, 66, 67, 68, 69, 70, 71, 72, 73, 74, 75, 76, 77, 78, 79, 80, 81, 82, 83, 84, 85, 86, 87, 88, 89, 90, 97, 98, 99, 100, 101, 102, 103, 104, 105, 106, 107, 108, 109, 110, 111, 112, 113, 114, 115, 116, 117, 118, 119, 120, 121, 122, 48, 49, 50, 51, 52, 53, 54, 55, 56, 57, 45, 95]
/-- the letter of a number -/
def L (n : Nat) : UInt8 := letters.getD n 0
/-- the number of a letter -/
def num (c : UInt8) : Option Nat := letters.idxOf? c

theorem num_L : ∀ n, n < 64 → num (L n) = some n := by decide +kernel
theorem L_num (c : UInt8) (n : Nat) (h : num c = some n) : L n = c ∧ n < 64 := by
  unfold num at h
  rw [List.idxOf?_eq_some_iff] at h
  obtain ⟨hn, h1, _⟩ := h
  refine ⟨?_, by simpa [letters] using hn⟩
  unfold L
  rw [List.getD_eq_getElem?_getD, List.getElem?_eq_getElem hn]
  simpa using h1

/-- by threes -/
def enc : List UInt8 → List UInt8
  | [] => []
  | [a] => [L (a.toNat * 16 / 64), L (a.toNat * 16 % 64)]
  | [a, b] => [L ((a.toNat * 1024 + b.toNat * 4) / 4096), L ((a.toNat * 1024 + b.toNat * 4) / 64 % 64), L ((a.toNat * 1024 + b.toNat * 4) % 64)]
  | a :: b :: c :: r => [L ((a.toNat * 65536 + b.toNat * 256 + c.toNat) / 262144), L ((a.toNat * 65536 + b.toNat * 256 + c.toNat) / 4096 % 64), L ((a.toNat * 65536 + b.toNat * 256 + c.toNat) / 64 % 64), L ((a.toNat * 65536 + b.toNat * 256 + c.toNat) % 64)] ++ enc r

/-- by fours -/
def decN : List Nat → Option (List UInt8)
  | [] => some []
  | [_] => none
  | [a, b] => if (a * 64 + b) % 16 = 0 then some [UInt8.ofNat ((a * 64 + b) / 16)] else none
  | [a, b, c] => if (a * 4096 + b * 64 + c) % 4 = 0 then some [UInt8.ofNat ((a * 4096 + b * 64 + c) / 1024), UInt8.ofNat ((a * 4096 + b * 64 + c) / 4)] else none
  | a :: b :: c :: d :: r => (decN r).map fun l => UInt8.ofNat ((a * 262144 + b * 4096 + c * 64 + d) / 65536) :: UInt8.ofNat ((a * 262144 + b * 4096 + c * 64 + d) / 256) :: UInt8.ofNat (a * 262144 + b * 4096 + c * 64 + d) :: l
def nums : List UInt8 → Option (List Nat)
  | [] => some []
  | c :: r => (num c).bind fun n => (nums r).map fun l => n :: l
def dec (s : List UInt8) : Option (List UInt8) := (nums s).bind decN

theorem nums_append (s t : List UInt8) : nums (s ++ t) = (nums s).bind fun a => (nums t).map fun b => a ++ b := by
  induction s with
  | nil => simp [nums]
  | cons c r ih =>
    simp only [List.cons_append, nums, ih]
    cases num c <;> cases nums r <;> cases nums t <;> simp
theorem nums_lt {s : List UInt8} {l : List Nat} (h : nums s = some l) : l.length = s.length ∧ s = l.map L ∧ ∀ n ∈ l, n < 64 := by
  induction s generalizing l with
  | nil => simp [nums] at h; subst h; simp
  | cons c r ih =>
    simp only [nums] at h
    cases hc : num c with
    | none => simp [hc] at h
    | some n =>
      cases hr : nums r with
      | none => simp [hc, hr] at h
      | some m =>
        simp [hc, hr] at h
        subst h
        obtain ⟨h1, h2, h3⟩ := ih hr
        obtain ⟨e, hn⟩ := L_num c n hc
        refine ⟨by simp [h1], by simp [e, ← h2], ?_⟩
        intro x hx
        rcases List.mem_cons.1 hx with rfl | hx
        · exact hn
        · exact h3 x hx
theorem nums_map {l : List Nat} (h : ∀ n ∈ l, n < 64) : nums (l.map L) = some l := by
  induction l with
  | nil => rfl
  | cons n l ih =>
    simp only [List.map_cons, nums]
    rw [num_L n (h n (by simp)), ih (fun x hx => h x (by simp [hx]))]
    rfl

/-- the numbers of bytes -/
def encN : List UInt8 → List Nat
  | [] => []
  | [a] => [a.toNat * 16 / 64, a.toNat * 16 % 64]
  | [a, b] => [(a.toNat * 1024 + b.toNat * 4) / 4096, (a.toNat * 1024 + b.toNat * 4) / 64 % 64, (a.toNat * 1024 + b.toNat * 4) % 64]
  | a :: b :: c :: r => [(a.toNat * 65536 + b.toNat * 256 + c.toNat) / 262144, (a.toNat * 65536 + b.toNat * 256 + c.toNat) / 4096 % 64, (a.toNat * 65536 + b.toNat * 256 + c.toNat) / 64 % 64, (a.toNat * 65536 + b.toNat * 256 + c.toNat) % 64] ++ encN r
theorem enc_eq (l : List UInt8) : enc l = (encN l).map L := by
  fun_induction enc l <;> simp_all [encN]
theorem encN_lt (l : List UInt8) : ∀ n ∈ encN l, n < 64 := by
  fun_induction encN l with
  | case1 => simp
  | case2 a => have := a.toNat_lt; intro n hn; simp at hn; omega
  | case3 a b => have := a.toNat_lt; have := b.toNat_lt; intro n hn; simp at hn; omega
  | case4 a b c r ih =>
    have := a.toNat_lt; have := b.toNat_lt; have := c.toNat_lt
    intro n hn
    simp only [List.mem_append, List.mem_cons, List.not_mem_nil, or_false] at hn
    rcases hn with hn | hn
    · omega
    · exact ih n hn
theorem ofNat_eq {n : Nat} {c : UInt8} (h : n % 256 = c.toNat) : UInt8.ofNat n = c := by
  apply UInt8.toNat_inj.1
  rw [UInt8.toNat_ofNat']
  exact h
theorem decN_encN (l : List UInt8) : decN (encN l) = some l := by
  fun_induction encN l with
  | case1 => rfl
  | case2 a =>
    have := a.toNat_lt
    simp only [decN]
    rw [if_pos (by omega), ofNat_eq (c := a) (by omega)]
  | case3 a b =>
    have := a.toNat_lt; have := b.toNat_lt
    simp only [decN]
    rw [if_pos (by omega), ofNat_eq (c := a) (by omega), ofNat_eq (c := b) (by omega)]
  | case4 a b c r ih =>
    have := a.toNat_lt; have := b.toNat_lt; have := c.toNat_lt
    simp only [List.cons_append, List.nil_append, decN, ih, Option.map_some]
    rw [ofNat_eq (c := a) (by omega), ofNat_eq (c := b) (by omega), ofNat_eq (c := c) (by omega)]
/-- there and back -/
theorem dec_enc (l : List UInt8) : dec (enc l) = some l := by
  unfold dec
  rw [enc_eq, nums_map (encN_lt l)]
  exact decN_encN l
theorem toNat_ofNat_lt {n : Nat} (h : n < 256) : (UInt8.ofNat n).toNat = n := by rw [UInt8.toNat_ofNat']; exact Nat.mod_eq_of_lt h
theorem encN_decN (l : List Nat) (m : List UInt8) (hl : ∀ n ∈ l, n < 64) (h : decN l = some m) : encN m = l := by
  fun_induction decN l generalizing m with
  | case1 => simp at h; subst h; rfl
  | case2 => simp at h
  | case3 a b hc =>
    have h1 := hl a (by simp); have h2 := hl b (by simp)
    simp at h; subst h
    simp only [encN]
    rw [toNat_ofNat_lt (by omega)]
    simp only [List.cons.injEq, and_true]
    omega
  | case4 a b hc => simp at h
  | case5 a b c hc =>
    have h1 := hl a (by simp); have h2 := hl b (by simp); have h3 := hl c (by simp)
    simp at h; subst h
    simp only [encN]
    rw [toNat_ofNat_lt (n := _ / 1024) (by omega), UInt8.toNat_ofNat']
    simp only [List.cons.injEq, and_true]
    omega
  | case6 a b c hc => simp at h
  | case7 a b c d r ih =>
    have h1 := hl a (by simp); have h2 := hl b (by simp); have h3 := hl c (by simp); have h4 := hl d (by simp)
    cases hr : decN r with
    | none => simp [hr] at h
    | some k =>
      simp only [hr, Option.map_some, Option.some.injEq] at h
      subst h
      have := ih k (fun n hn => hl n (by simp [hn])) hr
      simp only [encN, this, UInt8.toNat_ofNat', List.cons_append, List.nil_append, List.cons.injEq, and_true]
      omega
/-- and a text that has bytes is theirs -/
theorem enc_dec (s m : List UInt8) (h : dec s = some m) : enc m = s := by
  unfold dec at h
  cases hn : nums s with
  | none => simp [hn] at h
  | some l =>
    obtain ⟨_, h2, h3⟩ := nums_lt hn
    simp [hn] at h
    rw [enc_eq, encN_decN l m h3 h, ← h2]
theorem enc_length (l : List UInt8) : (enc l).length = (4 * l.length + 2) / 3 := by
  fun_induction enc l <;> simp_all <;> omega

/- encoding, byte by byte: what is held, how many bits of it wait, what is written -/
def emit (h n : Nat) : List UInt8 := if n = 8 then [L (h / 4 % 64)] else if n = 10 then [L (h / 16 % 64)] else [L (h / 64 % 64), L (h % 64)]
def estep (s : Nat × Nat × List UInt8) (c : UInt8) : Nat × Nat × List UInt8 :=
  ((s.1 * 256 + c.toNat) % 18446744073709551616, (s.2.1 + 8) % 6, s.2.2 ++ emit ((s.1 * 256 + c.toNat) % 18446744073709551616) (s.2.1 + 8))
def efin (s : Nat × Nat × List UInt8) : List UInt8 := if s.2.1 = 0 then s.2.2 else s.2.2 ++ [L (s.1 * 2 ^ (6 - s.2.1) % 64)]
theorem estep_fold (h : Nat) (o l : List UInt8) : efin (l.foldl estep (h, 0, o)) = o ++ enc l := by
  fun_induction enc l generalizing h o with
  | case1 => simp [efin]
  | case2 a =>
    have := a.toNat_lt
    simp [efin, estep, emit]
    constructor <;> congr 1 <;> omega
  | case3 a b =>
    have := a.toNat_lt; have := b.toNat_lt
    simp [efin, estep, emit]
    refine ⟨?_, ?_, ?_⟩ <;> congr 1 <;> omega
  | case4 a b c r ih =>
    have := a.toNat_lt; have := b.toNat_lt; have := c.toNat_lt
    simp only [List.foldl_cons, estep, emit]
    simp only [Nat.zero_add, Nat.reduceAdd, Nat.reduceMod, if_true, Nat.reduceEqDiff, if_false]
    rw [ih]
    simp only [List.append_assoc, List.append_cancel_left_eq, List.cons_append, List.nil_append, List.cons.injEq, and_true]
    refine ⟨?_, ?_, ?_, ?_⟩ <;> congr 1 <;> omega
theorem estep_n (l : List UInt8) (h : Nat) (o : List UInt8) : (l.foldl estep (h, 0, o)).2.1 = 8 * l.length % 6 := by
  have gen : ∀ (l : List UInt8) (s : Nat × Nat × List UInt8), (l.foldl estep s).2.1 % 6 = (s.2.1 + 8 * l.length) % 6 ∧ (l ≠ [] → (l.foldl estep s).2.1 < 6) := by
    intro l
    induction l with
    | nil => intro s; simp
    | cons c l ih =>
      intro s
      obtain ⟨h1, h2⟩ := ih (estep s c)
      have e : (estep s c).2.1 = (s.2.1 + 8) % 6 := rfl
      refine ⟨by rw [List.foldl_cons, h1, e]; simp; omega, fun _ => ?_⟩
      rw [List.foldl_cons]
      cases l with
      | nil => rw [List.foldl_nil, e]; omega
      | cons d l => exact h2 (by simp)
  obtain ⟨h1, h2⟩ := gen l (h, 0, o)
  cases l with
  | nil => rfl
  | cons c l =>
    have := h2 (by simp)
    simp only [Nat.zero_add] at h1
    omega

/- decoding, letter by letter -/
def dstep (s : Nat × Nat × List UInt8) (x : Nat) : Nat × Nat × List UInt8 :=
  if s.2.1 + 6 < 8 then ((s.1 * 64 + x) % 18446744073709551616, s.2.1 + 6, s.2.2)
  else ((s.1 * 64 + x) % 18446744073709551616, s.2.1 - 2, s.2.2 ++ [UInt8.ofNat ((s.1 * 64 + x) % 18446744073709551616 / 2 ^ (s.2.1 - 2))])
def dfin (s : Nat × Nat × List UInt8) : Option (List UInt8) := if 6 ≤ s.2.1 ∨ s.1 % 2 ^ s.2.1 ≠ 0 then none else some s.2.2
theorem ofNat_congr {m n : Nat} (h : m % 256 = n % 256) : UInt8.ofNat m = UInt8.ofNat n := by
  apply UInt8.toNat_inj.1
  rw [UInt8.toNat_ofNat', UInt8.toNat_ofNat']
  exact h
theorem dstep_fold (h : Nat) (o : List UInt8) (l : List Nat) (hl : ∀ n ∈ l, n < 64) : dfin (l.foldl dstep (h, 0, o)) = (decN l).map fun m => o ++ m := by
  fun_induction decN l generalizing h o with
  | case1 => simp [dfin, Nat.mod_one]
  | case2 a => simp [dfin, dstep]
  | case3 a b hc =>
    have h1 := hl a (by simp); have h2 := hl b (by simp)
    simp only [List.foldl_cons, List.foldl_nil, dstep, dfin, Option.map_some]
    simp only [Nat.zero_add, Nat.reduceSub, Nat.reducePow, Nat.reduceAdd, Nat.reduceLT, if_true, if_false, Nat.reduceLeDiff, false_or]
    rw [if_neg (by omega)]
    simp only [Option.some.injEq, List.append_cancel_left_eq, List.cons.injEq, and_true]
    exact ofNat_congr (by omega)
  | case4 a b hc =>
    have h1 := hl a (by simp); have h2 := hl b (by simp)
    simp only [List.foldl_cons, List.foldl_nil, dstep, dfin, Option.map_none]
    simp only [Nat.zero_add, Nat.reduceSub, Nat.reducePow, Nat.reduceAdd, Nat.reduceLT, if_true, if_false, Nat.reduceLeDiff, false_or]
    rw [if_pos (by omega)]
  | case5 a b c hc =>
    have h1 := hl a (by simp); have h2 := hl b (by simp); have h3 := hl c (by simp)
    simp only [List.foldl_cons, List.foldl_nil, dstep, dfin, Option.map_some]
    simp only [Nat.zero_add, Nat.reduceSub, Nat.reducePow, Nat.reduceAdd, Nat.reduceLT, if_true, if_false, Nat.reduceLeDiff, false_or]
    rw [if_neg (by omega)]
    simp only [List.append_assoc, Option.some.injEq, List.append_cancel_left_eq, List.cons_append, List.nil_append, List.cons.injEq, and_true]
    exact ⟨ofNat_congr (by omega), ofNat_congr (by omega)⟩
  | case6 a b c hc =>
    have h1 := hl a (by simp); have h2 := hl b (by simp); have h3 := hl c (by simp)
    simp only [List.foldl_cons, List.foldl_nil, dstep, dfin, Option.map_none]
    simp only [Nat.zero_add, Nat.reduceSub, Nat.reducePow, Nat.reduceAdd, Nat.reduceLT, if_true, if_false, Nat.reduceLeDiff, false_or]
    rw [if_pos (by omega)]
  | case7 a b c d r ih =>
    have h1 := hl a (by simp); have h2 := hl b (by simp); have h3 := hl c (by simp); have h4 := hl d (by simp)
    simp only [List.foldl_cons, dstep]
    simp only [Nat.zero_add, Nat.reduceSub, Nat.reducePow, Nat.reduceAdd, Nat.reduceLT, if_true, if_false]
    rw [ih _ _ (fun n hn => hl n (by simp [hn]))]
    cases decN r with
    | none => rfl
    | some k =>
      simp only [Option.map_some, Option.some.injEq, List.append_assoc, List.append_cancel_left_eq, List.cons_append, List.nil_append, List.cons.injEq, and_true]
      refine ⟨ofNat_congr (by omega), ofNat_congr (by omega), ofNat_congr (by omega)⟩
theorem dstep_n (l : List Nat) (h : Nat) (o : List UInt8) : (l.foldl dstep (h, 0, o)).2.1 = 6 * l.length % 8 := by
  have gen : ∀ (l : List Nat) (s : Nat × Nat × List UInt8), s.2.1 < 8 → (l.foldl dstep s).2.1 = (s.2.1 + 6 * l.length) % 8 := by
    intro l
    induction l with
    | nil => intro s hs; simp; omega
    | cons c l ih =>
      intro s hs
      have e : (dstep s c).2.1 = (s.2.1 + 6) % 8 := by unfold dstep; split <;> simp <;> omega
      rw [List.foldl_cons, ih _ (by rw [e]; omega), e]
      simp
      omega
  simpa using gen l (h, 0, o) (by simp)

end Go.Proofs.YtckihiiimomgfaaDoor.B64Math

namespace Go.Proofs.YtckihiiimomgfaaDoor.ZookieMath

def crc4 (s : Nat) : List UInt8 := [UInt8.ofNat (s / 16777216), UInt8.ofNat (s / 65536), UInt8.ofNat (s / 256), UInt8.ofNat s]
/-- a revision's bytes, with their sum behind -/
def sealed (x : Nat) : List UInt8 := WireMath.put x ++ crc4 (CrcMath.add 0 (WireMath.put x))
def text (x : Nat) : List UInt8 := B64Math.enc (sealed x)
/-- a text's revision, an error's number -/
def back (s : List UInt8) : Nat × Nat := match B64Math.dec s with
  | none => (0, 4)
  | some b => if (WireMath.get b).2.2 = 0 ∧ (WireMath.get b).1 ≤ 4611686018427387903 ∧ text (WireMath.get b).1 = s then ((WireMath.get b).1, 0) else (0, 4)

theorem sealed_length (x : Nat) : (sealed x).length = (WireMath.put x).length + 4 := by simp [sealed, crc4]
theorem sealed_le (x : Nat) (hx : x < 18446744073709551616) : (sealed x).length ≤ 14 := by
  have := WireMath.put_le 9 x (by omega)
  rw [sealed_length]
  omega
theorem get_sealed (x : Nat) (hx : x < 18446744073709551616) : WireMath.get (sealed x) = (x, (WireMath.put x).length, 0) := WireMath.get_put x _ hx
theorem dec_text (x : Nat) : B64Math.dec (text x) = some (sealed x) := B64Math.dec_enc _
theorem text_inj {x y : Nat} (hx : x < 18446744073709551616) (hy : y < 18446744073709551616) (h : text x = text y) : x = y := by
  have h1 := dec_text x
  rw [h, dec_text y] at h1
  injection h1 with h1
  have h2 := get_sealed x hx
  rw [← h1, get_sealed y hy] at h2
  exact (congrArg Prod.fst h2).symm
theorem back_text (x : Nat) (hx : x < 18446744073709551616) : back (text x) = if x ≤ 4611686018427387903 then (x, 0) else (0, 4) := by
  unfold back
  rw [dec_text]
  simp only [get_sealed x hx]
  by_cases h : x ≤ 4611686018427387903
  · rw [if_pos ⟨trivial, h, trivial⟩, if_pos h]
  · rw [if_neg (fun hh => h hh.2.1), if_neg h]
theorem text_iff {s b : List UInt8} (x : Nat) (h : B64Math.dec s = some b) : text x = s ↔ sealed x = b := by
  constructor
  · intro e
    have := dec_text x
    rw [e, h] at this
    injection this with this
    exact this.symm
  · intro e
    unfold text
    rw [e]
    exact B64Math.enc_dec s b h
theorem back_some {s : List UInt8} (h : (back s).2 = 0) : text (back s).1 = s ∧ (back s).1 ≤ 4611686018427387903 := by
  unfold back at h ⊢
  cases hd : B64Math.dec s with
  | none => rw [hd] at h; cases h
  | some b =>
    rw [hd] at h
    simp only at h ⊢
    split at h
    · rename_i hc
      rw [if_pos hc]
      exact ⟨hc.2.2, hc.2.1⟩
    · cases h
/-- the document's way tells the same -/
theorem back_ref {s b : List UInt8} (h : B64Math.dec s = some b) :
    back s = if 5 ≤ b.length ∧ (WireMath.get b).2.2 = 0 ∧ (WireMath.get b).2.1 + 4 = b.length ∧ (WireMath.get b).1 ≤ 4611686018427387903 ∧ sealed (WireMath.get b).1 = b then ((WireMath.get b).1, 0) else (0, 4) := by
  unfold back
  rw [h]
  simp only
  rcases hg : WireMath.get b with ⟨x, n, f⟩
  simp only
  simp only [text_iff x h]
  by_cases hc : f = 0 ∧ x ≤ 4611686018427387903 ∧ sealed x = b
  · rw [if_pos hc, if_pos]
    obtain ⟨rfl, hx, rfl⟩ := hc
    have hl := sealed_length x
    have hp := WireMath.put_pos x
    have h2 := get_sealed x (by omega)
    rw [hg] at h2
    injection h2 with _ h2
    injection h2 with h2 _
    exact ⟨by omega, rfl, by omega, hx, rfl⟩
  · rw [if_neg hc, if_neg (fun hh => hc ⟨hh.2.1, hh.2.2.2.1, hh.2.2.2.2⟩)]

/-- the value of sevens, the least first -/
def sev : List UInt8 → Nat
  | [] => 0
  | c :: r => c.toNat % 128 + 128 * sev r
theorem sev_append (a b : List UInt8) : sev (a ++ b) = sev a + 2 ^ (7 * a.length) * sev b := by
  induction a with
  | nil => simp [sev]
  | cons c r ih =>
    simp only [List.cons_append, sev, ih, List.length_cons]
    rw [WireMath.pow7, Nat.mul_add, Nat.mul_assoc]
    omega
theorem sev_lt (a : List UInt8) : sev a < 2 ^ (7 * a.length) := by
  induction a with
  | nil => decide
  | cons c r ih =>
    simp only [sev, List.length_cons]
    rw [WireMath.pow7]
    have := Nat.mod_lt c.toNat (show 128 > 0 by decide)
    omega
theorem sev_take (l : List UInt8) (k : Nat) (hk : k < l.length) : sev (l.take (k + 1)) = sev (l.take k) + l[k].toNat % 128 * 2 ^ (7 * k) := by
  rw [List.take_succ_eq_append_getElem hk, sev_append, List.length_take, Nat.min_eq_left (by omega)]
  simp only [sev]
  rw [Nat.mul_comm]
  simp
theorem sev_drop (l : List UInt8) (k : Nat) (hk : k < l.length) : sev (l.drop k) = l[k].toNat % 128 + 128 * sev (l.drop (k + 1)) := by
  rw [List.drop_eq_getElem_cons hk, sev]
/-- the last of ten is 0 or 1: nothing is lost -/
theorem sev_fits (l : List UInt8) (k : Nat) (hl : l.length ≤ 10) (h9 : ∀ h : 9 < l.length, l[9].toNat ≤ 1) : sev (l.drop k) < 18446744073709551616 := by
  by_cases h : 9 < l.length
  · by_cases hk : k ≤ 9
    · have e : l.drop k = (l.take 9).drop k ++ [l[9]] := by
        have e1 : l = l.take 9 ++ [l[9]] := by
          have := List.take_succ_eq_append_getElem h
          rw [← this, List.take_of_length_le (by omega)]
        conv => lhs; rw [e1]
        rw [List.drop_append_of_le_length (by rw [List.length_take]; omega)]
      rw [e, sev_append]
      have h1 := sev_lt ((l.take 9).drop k)
      rw [List.length_drop, List.length_take, Nat.min_eq_left (by omega)] at h1 ⊢
      have h2 : sev [l[9]] ≤ 1 := by
        simp only [sev]
        have := h9 h
        omega
      have h3 : 2 ^ (7 * (9 - k)) ≤ 2 ^ 63 := Nat.pow_le_pow_right (by decide) (by omega)
      have h4 := Nat.mul_le_mul_left (2 ^ (7 * (9 - k))) h2
      omega
    · rw [List.drop_of_length_le (by omega)]; decide
  · have h1 := sev_lt (l.drop k)
    have h2 : 2 ^ (7 * (l.drop k).length) ≤ 2 ^ 63 := Nat.pow_le_pow_right (by decide) (by rw [List.length_drop]; omega)
    omega
end Go.Proofs.YtckihiiimomgfaaDoor.ZookieMath

namespace Go.Proofs.YtckihiiimomgfaaDoor
open Go.RowKit
def RGet1 (l : List UInt8) (i : Value) : Prop :=
  ∃ k : Nat, k ≤ l.length ∧ k ≤ 10 ∧ i = .int .i64 (k : Nat) ∧ (k ≤ 9 → WireMath.getF k (ZookieMath.sev (l.take k)) (l.drop k) = WireMath.get l) ∧ (k = 10 → WireMath.get l = (0, 0, 5))
def RGet2 (l : List UInt8) (x i : Value) : Prop :=
  ∃ k : Nat, k ≤ l.length ∧ i = .int .i64 ((k : Int) - 1) ∧ x = .int .u64 (ZookieMath.sev (l.drop k) : Nat)
set_option maxRecDepth 100000 in
set_option maxHeartbeats 1000000 in
theorem refGet_any (A : Option Addr) (c : Nat) (l : List UInt8) (w : World) (_hl : l.length ≤ 1000000) (hr : Bs w A l) :
    Calls Tryd.prog 109 #[.slice A l.length c] w fun e w' => e = numRet l ∧ w = w' := by
  go_enter Tryd.func109, Tryd.ntmps109
  go_wp2_with fail
  go_loop [5] (fun i => RGet1 l i) (fun i => l.length - (intOf i).toNat)
  case atStart => exact ⟨0, Nat.zero_le _, by decide, rfl, fun _ => rfl, fun h => by omega⟩
  case round =>
    obtain ⟨k, hk, hk10, rfl, hget, hten⟩ := hrel
    by_cases hlt : k < l.length
    · by_cases h10 : k < 10
      · have hget := hget (by omega)
        have hst := ZookieMath.sev_take l k hlt
        rw [List.drop_eq_getElem_cons hlt] at hget
        simp only [WireMath.getF] at hget
        obtain ⟨ad, rfl, _, hca⟩ := hr.at_ hlt
        obtain ⟨b, hb⟩ : ∃ b, l[k] = b := ⟨_, rfl⟩
        rw [hb] at hca hget hst
        have hb256 := b.toNat_lt
        have h9v : ∀ h : 9 < l.length, k = 9 → l[9].toNat = b.toNat := fun h e => by subst e; rw [hb]
        obtain ⟨n, hn⟩ : ∃ n, b.toNat = n := ⟨_, rfl⟩
        rw [hn] at hca hget hb256 hst h9v
        clear hb hn hten
        have e10 : (((k : Nat) : Int) == 10) = false := by rw [beq_eq_false_iff_ne]; omega
        have eln : (((k : Nat) : Int) == (l.length : Int)) = false := by rw [beq_eq_false_iff_ne]; omega
        have HR := Lib.hid hr
        have HN := Lib.hid h9v
        have HT := Lib.hid hst
        clear hr h9v hst
        by_cases h128 : 128 ≤ n
        · have HG := Lib.hid hget
          clear hget e10 eln
          go_wp2_with fail
          go_round
          case rel =>
            have hget := HG.out
            refine ⟨k + 1, by omega, by omega, by go_num, fun h => ?_, fun h => ?_⟩
            · rw [if_neg (by omega), if_pos h128] at hget
              rw [HT.out, show n % 128 = n - 128 by omega]
              exact hget
            · rw [if_pos (by omega)] at hget
              exact hget.symm
          case measure => simp [intOf]; omega
        · by_cases h9 : k = 9 ∧ 1 < n
          · rw [if_pos (.inr h9)] at hget
            have HG := Lib.hid hget
            clear hget
            have e9 : (((k : Nat) : Int) == 9) = true := by rw [h9.1]; rfl
            have h1 : 1 < n := h9.2
            clear h9
            go_wp2_with fail
            go_ret3
            exact ⟨by unfold numRet; rw [← HG.out]; rfl, rfl⟩
          · rw [if_neg (by omega), if_neg h128] at hget
            have e9 : ((((k : Nat) : Int) == 9) = false) ∨ ((((k : Nat) : Int) == 9) = true ∧ decide (1 < (n : Int)) = false) := by
              by_cases h : k = 9
              · subst h
                exact .inr ⟨rfl, by simp; omega⟩
              · exact .inl (by rw [beq_eq_false_iff_ne]; omega)
            by_cases h0 : n = 0 ∧ 0 < k
            · rw [if_pos h0] at hget
              have HG := Lib.hid hget
              clear hget h9
              have z1 : (((n : Nat) : Int) == 0) = true := by rw [h0.1]; rfl
              have z2 : 0 < k := h0.2
              clear h0
              rcases e9 with e9 | ⟨e9, e9'⟩
              all_goals
                go_wp2_with fail
                go_ret3
                exact ⟨by unfold numRet; rw [← HG.out]; rfl, rfl⟩
            · rw [if_neg h0] at hget
              have hfin : WireMath.get l = (ZookieMath.sev (l.take (k + 1)), k + 1, 0) := by
                rw [HT.out, show n % 128 = n by omega]
                exact hget.symm
              have hfit := ZookieMath.sev_fits (l.take (k + 1))
              have hlen : (l.take (k + 1)).length = k + 1 := by rw [List.length_take]; omega
              have hfits : ∀ j, ZookieMath.sev ((l.take (k + 1)).drop j) < 18446744073709551616 := fun j => hfit j (by omega) (fun h => by
                have hk9 : k = 9 := by omega
                rw [List.getElem_take, HN.out (by omega) hk9]
                omega)
              have hr2 : Bs w (some ad) (l.take (k + 1)) := HR.out.take _
              have HG := Lib.hid hfin
              have hz : (0 < k ∧ (((n : Nat) : Int) == 0) = false) ∨ (k ≤ 0 ∧ k ≤ 0) := by
                by_cases h : 0 < k
                · exact .inl ⟨h, by rw [beq_eq_false_iff_ne]; omega⟩
                · exact .inr (by omega)
              clear h0 h9 hget hfin hfit HN HT HR
              generalize hm : l.take (k + 1) = m at *
              have hML := Lib.hid hm
              have HF := Lib.hid hfits
              have HM := Lib.hid hr2
              clear hm hfits hr2
              rcases e9 with e9 | ⟨e9, e9'⟩
              all_goals
                rcases hz with ⟨hz0, hz⟩ | ⟨hz, hk0⟩
                all_goals
                  first
                    | exact absurd (beq_iff_eq.1 e9) (by omega)
                    | (go_wp2_with fail
                       go_loop [6, 7] (fun x i => RGet2 m x i) (fun _ i => (intOf i + 1).toNat)
                       case atStart => exact ⟨k + 1, by omega, by go_num, by rw [List.drop_of_length_le (by omega)]; rfl⟩
                       case round =>
                         obtain ⟨j, hj, rfl, rfl⟩ := hrel
                         by_cases hj0 : j = 0
                         · subst hj0
                           go_wp2_with fail
                           go_ret3
                           exact ⟨by unfold numRet; rw [HG.out]; exact ret_int3 rfl (by go_num) rfl, rfl⟩
                         · obtain ⟨i, rfl⟩ : ∃ i, j = i + 1 := ⟨j - 1, by omega⟩
                           have hsd := ZookieMath.sev_drop m i (by omega)
                           have hft := HF.out i
                           obtain ⟨ad', e', _, hcj⟩ := HM.out.at_ (k := i) (by omega)
                           injection e' with e'
                           subst e'
                           have hi1 : ((i + 1 : Nat) : Int) - 1 = (i : Int) := by omega
                           rw [hi1]
                           have hq256 := m[i].toNat_lt
                           obtain ⟨q, hq⟩ : ∃ q, m[i].toNat = q := ⟨_, rfl⟩
                           rw [hq] at hcj hsd hq256
                           obtain ⟨s, hs⟩ : ∃ s, ZookieMath.sev (m.drop (i + 1)) = s := ⟨_, rfl⟩
                           rw [hs] at hsd ⊢
                           rw [hsd] at hft
                           have HSD := Lib.hid hsd
                           clear hs hq hi1 hj0 hsd
                           go_wp2_with fail
                           go_round
                           case rel => exact ⟨i, by omega, by go_num, by rw [HSD.out]; go_num⟩
                           case measure => simp [intOf])
      · have h5 := hten (by omega)
        obtain rfl : k = 10 := by omega
        have HG := Lib.hid h5
        clear h5 hten hget
        go_wp2_with fail
        go_ret3
        exact ⟨by unfold numRet; rw [HG.out]; rfl, rfl⟩
    · obtain rfl : k = l.length := by omega
      by_cases h10 : l.length = 10
      · have HG := Lib.hid (hten h10)
        have e10 : ((l.length : Int) == 10) = true := by rw [h10]; rfl
        have e9 : ((l.length : Int) == 9) = false := by rw [h10]; rfl
        clear hten hget
        go_wp2_with fail
        go_ret3
        exact ⟨by unfold numRet; rw [HG.out]; rfl, rfl⟩
      · have hg := hget (by omega)
        rw [List.drop_of_length_le (by omega)] at hg
        have HG := Lib.hid hg
        have e10 : ((l.length : Int) == 10) = false := by rw [beq_eq_false_iff_ne]; omega
        have e9 : ((l.length : Int) == 9) = false ∨ ((l.length : Int) == 9) = true := by cases h : ((l.length : Int) == 9) <;> simp
        clear hten hget hg
        rcases e9 with e9 | e9
        all_goals
          go_wp2_with fail
          go_ret3
          exact ⟨by unfold numRet; rw [← HG.out]; rfl, rfl⟩
end Go.Proofs.YtckihiiimomgfaaDoor

namespace Go.Proofs.YtckihiiimomgfaaDoor
open Go.RowKit
structure RRdAt (w : World) (g : Nat) (A : Option Addr) (c : Nat) (l : List UInt8) (e : Nat) : Prop where
  blk : w.heap[g]? = some (.cells #[.slice A l.length c, .int .i64 (e : Int)] 139 (0, 0))
  hc : l.length ≤ c
  hm : c ≤ maxLen
  bs : Bs w A l
  ne : ∀ ad, A = some ad → l ≠ [] → ad.block ≠ g
theorem RRdAt.below {w w' : World} {g : Nat} {A : Option Addr} {c : Nat} {l : List UInt8} {e : Nat} (h : RRdAt w g A c l e) (hb : Below w.heap.size w w') : RRdAt w' g A c l e :=
  ⟨(hb.block g (heap_lt h.blk)).trans h.blk, h.hc, h.hm, h.bs.below hb, h.ne⟩
def RRdTo (w : World) (g : Nat) (l : List UInt8) (e : Nat) (w' : World) : Prop := w.grownBy w' (some g) ∧ ∃ A c, RRdAt w' g A c l e
theorem RRdTo.refl {w : World} {g : Nat} {A : Option Addr} {c : Nat} {l : List UInt8} {e : Nat} (h : RRdAt w g A c l e) : RRdTo w g l e w := ⟨⟨rfl, rfl, rfl, Nat.le_refl _, fun _ _ _ => rfl⟩, A, c, h⟩
theorem RRdTo.of {w w1 w2 : World} {g : Nat} {l : List UInt8} {e : Nat} (h : w.grownBy w1 (some g)) (h' : RRdTo w1 g l e w2) : RRdTo w g l e w2 := ⟨grown_then h h'.1, h'.2⟩
theorem rrd_write {w : World} {g : Nat} {A : Option Addr} {c : Nat} {l : List UInt8} {e : Nat} (h : RRdAt w g A c l e) (A' : Option Addr) (c' : Nat) (l' : List UInt8) (hc : l'.length ≤ c') (hm : c' ≤ maxLen) (hb : Bs w A' l') (hne : ∀ ad, A' = some ad → l' ≠ [] → ad.block ≠ g) :
    RRdTo w g l' e (w.setCell ⟨g, 0, none⟩ (.slice A' l'.length c')) := by
  have hk : w.grownBy (w.setCell ⟨g, 0, none⟩ (.slice A' l'.length c')) (some g) := grown_set ⟨rfl, rfl, rfl, Nat.le_refl _, fun _ _ _ => rfl⟩ 0 _
  refine ⟨hk, A', c', ⟨?_, hc, hm, ?_, hne⟩⟩
  · have := set_block h.blk 0 (.slice A' l'.length c')
    simpa using this
  · exact (Kept.of_grown (F := fun k => k = g) hk (fun k e => by injection e with e; exact e.symm)).bs hb hne
theorem rrd_drop_ne {w : World} {g : Nat} {A : Option Addr} {c : Nat} {l : List UInt8} {e : Nat} (h : RRdAt w g A c l e) (n : Nat) {ad : Addr} (hA : (if c = n then A else A.map (·.add n)) = some ad) (hl : l ≠ []) : ad.block ≠ g := by
  split at hA
  · exact h.ne ad hA hl
  · cases A with
    | none => cases hA
    | some a =>
      simp at hA
      subst hA
      rw [addr_block]
      exact h.ne a rfl hl
set_option maxHeartbeats 400000 in
theorem rrdFail_any (g : Nat) (A : Option Addr) (c : Nat) (l : List UInt8) (f : Nat) (w : World) (h : RRdAt w g A c l 0) :
    Calls Tryd.prog 102 #[.pointer (some ⟨g, 0, none⟩), .int .i64 (f : Int)] w fun en w' => en = .returned (.tuple #[]) ∧ RRdTo w g [] f w' := by
  have k0 : w.cell? ⟨g, 0, none⟩ = some (.slice A l.length c) := block_cell h.blk
  have k1 : w.cell? ⟨g, 1, none⟩ = some (.int .i64 0) := block_cell h.blk
  have f0 : w.frozen? ⟨g, 0, none⟩ = false := block_free h.blk
  have f1 : w.frozen? ⟨g, 1, none⟩ = false := block_free h.blk
  have HW := Lib.hid h
  clear h
  go_enter Tryd.func102, Tryd.ntmps102
  go_wp2_with fail
  go_end0
  refine ⟨rfl, grown_set (grown_set ⟨rfl, rfl, rfl, Nat.le_refl _, fun _ _ _ => rfl⟩ 1 _) 0 _, none, 0, ⟨?_, Nat.le_refl _, Nat.zero_le _, Bs.nil _ _, fun _ e => by cases e⟩⟩
  have := set_block (set_block HW.out.blk 1 (.int .i64 (f : Int))) 0 (.slice none 0 0)
  simpa using this
set_option maxHeartbeats 400000 in
theorem rrdU_err (g : Nat) (A : Option Addr) (c : Nat) (l : List UInt8) (e : Nat) (w : World) (h : RRdAt w g A c l e) (he : e ≠ 0) :
    Calls Tryd.prog 101 #[.pointer (some ⟨g, 0, none⟩)] w fun en w' => en = .returned (.int .u64 0) ∧ w = w' := by
  have k1 : w.cell? ⟨g, 1, none⟩ = some (.int .i64 (e : Int)) := block_cell h.blk
  have he' := rd_err_spell he
  clear h he
  go_enter Tryd.func101, Tryd.ntmps101
  go_wp2_with fail
  go_ret
  exact ⟨rfl, rfl⟩
set_option maxHeartbeats 400000 in
theorem rrdU_bad (g : Nat) (A : Option Addr) (c : Nat) (l : List UInt8) (x n f : Nat) (w : World) (h : RRdAt w g A c l 0) (hl : l.length ≤ 1000000) (hg : WireMath.get l = (x, n, f)) (hf : f ≠ 0) :
    Calls Tryd.prog 101 #[.pointer (some ⟨g, 0, none⟩)] w fun en w' => en = .returned (.int .u64 0) ∧ RRdTo w g [] f w' := by
  have hnum := refGet_any A c l w hl h.bs
  unfold numRet at hnum
  rw [hg] at hnum
  have HN := Lib.hid hnum
  have HF := Lib.hid (rrdFail_any g A c l f w h)
  have k0 : w.cell? ⟨g, 0, none⟩ = some (.slice A l.length c) := block_cell h.blk
  have k1 : w.cell? ⟨g, 1, none⟩ = some (.int .i64 0) := block_cell h.blk
  have hf' := rd_err_spell hf
  have HX := Lib.hid hf'
  clear h hg hf hnum hf'
  go_enter Tryd.func101, Tryd.ntmps101
  go_wp2_with fail
  refine HN.out.mono ?_
  rintro en w' ⟨rfl, rfl⟩
  have hf' := HX.out
  go_wp2_with fail
  refine HF.out.mono ?_
  rintro en w1 ⟨rfl, hto⟩
  go_wp2_with fail
  go_ret
  exact ⟨rfl, hto⟩
set_option maxHeartbeats 400000 in
theorem rrdU_ok (g : Nat) (A : Option Addr) (c : Nat) (l : List UInt8) (x n : Nat) (w : World) (h : RRdAt w g A c l 0) (hl : l.length ≤ 1000000) (hg : WireMath.get l = (x, n, 0)) :
    Calls Tryd.prog 101 #[.pointer (some ⟨g, 0, none⟩)] w fun en w' => en = .returned (.int .u64 (x : Nat)) ∧ RRdTo w g (l.drop n) 0 w' := by
  have hnum := refGet_any A c l w hl h.bs
  unfold numRet at hnum
  rw [hg] at hnum
  have HN := Lib.hid hnum
  have k0 : w.cell? ⟨g, 0, none⟩ = some (.slice A l.length c) := block_cell h.blk
  have k1 : w.cell? ⟨g, 1, none⟩ = some (.int .i64 0) := block_cell h.blk
  have f0 : w.frozen? ⟨g, 0, none⟩ = false := block_free h.blk
  obtain ⟨_, hn, hnp, _, _⟩ := WireMath.get_one hg
  have hcm := h.hc
  have hmm := h.hm
  unfold maxLen at hmm
  have HD := Lib.hid (rrd_write h _ (c - n) (l.drop n) (by simp; omega) (by unfold maxLen; omega) (h.bs.drop (k := n) h.hc) (fun ad e hne => rrd_drop_ne h n e (by rintro rfl; simp at hne)))
  clear h hg hnum
  go_enter Tryd.func101, Tryd.ntmps101
  go_wp2_with fail
  refine HN.out.mono ?_
  rintro en w' ⟨rfl, rfl⟩
  by_cases hcn : c = n
  · have hd := HD.out
    rw [List.length_drop, if_pos hcn] at hd
    have HD' := Lib.hid hd
    clear hd HD
    subst hcn
    have hln : l.length = c := by omega
    have HLN := Lib.hid hln
    clear hln
    go_wp2_with fail
    go_ret
    have hd := HD'.out
    rw [HLN.out, Nat.sub_self] at hd
    refine ⟨rfl, ?_⟩
    simpa [HLN.out] using hd
  · have hd := HD.out
    rw [List.length_drop, if_neg hcn] at hd
    have HD' := Lib.hid hd
    clear hd HD
    go_wp2_with fail
    go_ret
    exact ⟨rfl, HD'.out⟩
theorem rrdU_any (g : Nat) (A : Option Addr) (c : Nat) (l : List UInt8) (e : Nat) (w : World) (h : RRdAt w g A c l e) (hl : l.length ≤ 1000000) :
    Calls Tryd.prog 101 #[.pointer (some ⟨g, 0, none⟩)] w fun en w' => en = .returned (.int .u64 ((rdU l e).1 : Nat)) ∧ RRdTo w g (rdU l e).2.1 (rdU l e).2.2 w' := by
  unfold rdU
  by_cases he : e = 0
  · subst he
    rw [if_neg (by decide)]
    rcases hg : WireMath.get l with ⟨x, n, f⟩
    simp only
    by_cases hf : f = 0
    · subst hf
      rw [if_pos rfl]
      exact rrdU_ok g A c l x n w h hl hg
    · rw [if_neg hf]
      exact rrdU_bad g A c l x n f w h hl hg hf
  · rw [if_pos he]
    refine (rrdU_err g A c l e w h he).mono ?_
    rintro en w' ⟨rfl, rfl⟩
    exact ⟨rfl, RRdTo.refl h⟩
set_option maxHeartbeats 400000 in
theorem rrdEnd_any (g : Nat) (A : Option Addr) (c : Nat) (l : List UInt8) (e : Nat) (w : World) (h : RRdAt w g A c l e) (_hl : l.length ≤ 1000000) :
    Calls Tryd.prog 85 #[.pointer (some ⟨g, 0, none⟩)] w fun en w' => en = .returned (.int .i64 (rdEnd l e : Nat)) ∧ w = w' := by
  have k0 : w.cell? ⟨g, 0, none⟩ = some (.slice A l.length c) := block_cell h.blk
  have k1 : w.cell? ⟨g, 1, none⟩ = some (.int .i64 (e : Int)) := block_cell h.blk
  clear h
  by_cases he : e = 0
  · have e1 : ((e : Int) == 0) = true := by rw [beq_iff_eq]; omega
    by_cases hl0 : l = []
    · subst hl0
      have hr : rdEnd [] e = 0 := by subst he; rfl
      have HR := Lib.hid hr
      have HE0 := Lib.hid he
      clear hr he
      go_enter Tryd.func85, Tryd.ntmps85
      go_wp2_with fail
      go_ret
      rw [HR.out]
      have := HE0.out
      subst this
      exact ⟨rfl, rfl⟩
    · have hr : rdEnd l e = 6 := by unfold rdEnd; rw [if_neg (by omega), if_neg hl0]
      rw [hr]
      have hpos : 0 < l.length := List.length_pos_iff.2 hl0
      clear hr hl0 he
      go_enter Tryd.func85, Tryd.ntmps85
      go_wp2_with fail
      go_ret
      exact ⟨rfl, rfl⟩
  · have hr : rdEnd l e = e := by unfold rdEnd; rw [if_pos he]
    rw [hr]
    have e1 : ((e : Int) == 0) = false := by rw [beq_eq_false_iff_ne]; omega
    clear hr he
    go_enter Tryd.func85, Tryd.ntmps85
    go_wp2_with fail
    go_ret
    exact ⟨rfl, rfl⟩
set_option maxHeartbeats 1000000 in
set_option maxRecDepth 100000 in
theorem rrdN_any (most : Nat) (g : Nat) (A : Option Addr) (c : Nat) (l : List UInt8) (e : Nat) (w : World) (h : RRdAt w g A c l e) (hl : l.length ≤ 1000000) (hmost : most ≤ 4611686018427387904) :
    Calls Tryd.prog 83 #[.pointer (some ⟨g, 0, none⟩), .int .i64 (most : Int)] w fun en w' => en = .returned (.int .i64 ((rdN most l e).1 : Nat)) ∧ RRdTo w g (rdN most l e).2.1 (rdN most l e).2.2 w' := by
  have HU := Lib.hid (rrdU_any g A c l e w h hl)
  have hxl := rdU_x l e
  have hN : rdN most l e = if (rdU l e).2.2 ≠ 0 then (0, (rdU l e).2.1, (rdU l e).2.2) else if most < (rdU l e).1 then (0, [], 5) else ((rdU l e).1, (rdU l e).2.1, 0) := rfl
  rcases hu : rdU l e with ⟨x, m, f⟩
  rw [hu] at HU hN hxl
  simp only at HU hN hxl
  have d0 : decide ((most : Int) < 0) = false := by simp
  have hwm : IntKind.u64.wrap (most : Int) = (most : Int) := by rw [IntKind.wrap_u64]; omega
  have HXL := Lib.hid hxl
  clear h hu hxl
  by_cases hf : f = 0
  · subst hf
    rw [if_neg (by decide)] at hN
    by_cases hx : most < x
    · rw [if_pos hx] at hN
      rw [hN]
      clear hN
      have hgt : decide ((most : Int) < (x : Int)) = true := by simp; omega
      go_enter Tryd.func83, Tryd.ntmps83
      go_wp2_with fail
      refine HU.out.mono ?_
      rintro en w1 ⟨rfl, hg1, A1, c1, h1⟩
      have HG := Lib.hid hg1
      have H1 := Lib.hid h1
      have k1 : w1.cell? ⟨g, 1, none⟩ = some (.int .i64 0) := block_cell h1.blk
      clear hg1 h1
      go_wp2_with fail
      refine (rrdFail_any g A1 c1 m 5 w1 H1.out).mono ?_
      rintro en w2 ⟨rfl, hto⟩
      obtain ⟨hg2, A2, c2, h2⟩ := hto
      have k2 : w2.cell? ⟨g, 1, none⟩ = some (.int .i64 5) := block_cell h2.blk
      have HG2 := Lib.hid hg2
      have H2 := Lib.hid h2
      clear hg2 h2 k1
      go_wp2_with fail
      go_ret
      exact ⟨rfl, RRdTo.of HG.out ⟨HG2.out, A2, c2, H2.out⟩⟩
    · rw [if_neg hx] at hN
      rw [hN]
      clear hN
      have hgt : decide ((most : Int) < (x : Int)) = false := by simp; omega
      have hxm : x ≤ most := by omega
      have hwx : IntKind.i64.wrap (x : Int) = (x : Int) := by rw [IntKind.wrap_i64]; omega
      go_enter Tryd.func83, Tryd.ntmps83
      go_wp2_with fail
      refine HU.out.mono ?_
      rintro en w1 ⟨rfl, hg1, A1, c1, h1⟩
      have HG := Lib.hid hg1
      have H1 := Lib.hid h1
      have k1 : w1.cell? ⟨g, 1, none⟩ = some (.int .i64 0) := block_cell h1.blk
      clear hg1 h1
      go_wp2_with fail
      go_ret
      exact ⟨rfl, HG.out, A1, c1, H1.out⟩
  · rw [if_pos hf] at hN
    rw [hN]
    have hf' := rd_err_spell hf
    have hf2 : ((f : Int) == 0) = false := by rw [beq_eq_false_iff_ne]; omega
    have HX := Lib.hid (show _ ∧ _ from ⟨hf', hf2⟩)
    clear hN hf hf' hf2
    go_enter Tryd.func83, Tryd.ntmps83
    go_wp2_with fail
    refine HU.out.mono ?_
    rintro en w1 ⟨rfl, hg1, A1, c1, h1⟩
    have HG := Lib.hid hg1
    have H1 := Lib.hid h1
    have k1 : w1.cell? ⟨g, 1, none⟩ = some (.int .i64 (f : Int)) := block_cell h1.blk
    obtain ⟨hf', hf2⟩ := HX.out
    clear hg1 h1
    go_wp2_with fail
    go_ret
    exact ⟨rfl, HG.out, A1, c1, H1.out⟩
def RRdBytesPost (l : List UInt8) (e : Nat) (g : Nat) (w : World) (en : Ending) (w' : World) : Prop :=
  ∃ B d, en = .returned (.slice B (rdBytes l e).1.length d) ∧ w'.ownsRow w.heap.size 5 1 (.slice B (rdBytes l e).1.length d) (rdBytes l e).1.length (bvs (rdBytes l e).1) ∧ RRdTo w g (rdBytes l e).2.1 (rdBytes l e).2.2 w'
set_option maxHeartbeats 1000000 in
set_option maxRecDepth 100000 in
theorem rrdBytes_any (g : Nat) (A : Option Addr) (c : Nat) (l : List UInt8) (e : Nat) (w : World) (h : RRdAt w g A c l e) (hl : l.length ≤ 65536) :
    Calls Tryd.prog 84 #[.pointer (some ⟨g, 0, none⟩)] w (RRdBytesPost l e g w) := by
  have HNN := Lib.hid (rrdN_any 2147483647 g A c l e w h (by omega) (by decide))
  have hgl := heap_lt h.blk
  have hlen := rdN_len 2147483647 l e
  have hxm := rdN_x 2147483647 l e
  have hB : rdBytes l e = if (rdN 2147483647 l e).2.2 ≠ 0 then ([], (rdN 2147483647 l e).2.1, (rdN 2147483647 l e).2.2)
    else if (rdN 2147483647 l e).2.1.length < (rdN 2147483647 l e).1 then ([], [], 3)
    else ((rdN 2147483647 l e).2.1.take (rdN 2147483647 l e).1, (rdN 2147483647 l e).2.1.drop (rdN 2147483647 l e).1, 0) := rfl
  unfold RRdBytesPost
  rcases hu : rdN 2147483647 l e with ⟨x, m, f⟩
  rw [hu] at HNN hB hlen hxm
  simp only at HNN hB hlen hxm
  clear h hu
  by_cases hf : f = 0
  · subst hf
    rw [if_neg (by decide)] at hB
    by_cases hx : m.length < x
    · rw [if_pos hx] at hB
      rw [hB]
      clear hB
      go_enter Tryd.func84, Tryd.ntmps84
      go_wp2_with fail
      refine HNN.out.mono ?_
      rintro en w1 ⟨rfl, hg1, A1, c1, h1⟩
      have HG := Lib.hid hg1
      have H1 := Lib.hid h1
      have k0 : w1.cell? ⟨g, 0, none⟩ = some (.slice A1 m.length c1) := block_cell h1.blk
      have k1 : w1.cell? ⟨g, 1, none⟩ = some (.int .i64 0) := block_cell h1.blk
      clear hg1 h1
      go_wp2_with fail
      refine (rrdFail_any g A1 c1 m 3 w1 H1.out).mono ?_
      rintro en w2 ⟨rfl, hto⟩
      obtain ⟨hg2, A2, c2, h2⟩ := hto
      have k2 : w2.cell? ⟨g, 1, none⟩ = some (.int .i64 3) := block_cell h2.blk
      have HG2 := Lib.hid hg2
      have H2 := Lib.hid h2
      clear hg2 h2 k0 k1
      go_wp2_with fail
      go_ret
      exact ⟨none, 0, rfl, World.ownsRow_nil _ _ _ _, RRdTo.of HG.out ⟨HG2.out, A2, c2, H2.out⟩⟩
    · rw [if_neg hx] at hB
      rw [hB]
      clear hB
      have htl : (m.take x).length = x := by rw [List.length_take]; omega
      obtain ⟨ys, hys⟩ : ∃ ys, m.take x = ys := ⟨_, rfl⟩
      rw [hys] at htl
      rw [hys]
      have HYS := Lib.hid hys
      have HTL := Lib.hid htl
      clear hys htl
      go_enter Tryd.func84, Tryd.ntmps84
      go_wp2_with fail
      refine HNN.out.mono ?_
      rintro en w1 ⟨rfl, hg1, A1, c1, h1⟩
      have HG := Lib.hid hg1
      have H1 := Lib.hid h1
      have k0 : w1.cell? ⟨g, 0, none⟩ = some (.slice A1 m.length c1) := block_cell h1.blk
      have k1 : w1.cell? ⟨g, 1, none⟩ = some (.int .i64 0) := block_cell h1.blk
      have hcm := h1.hc
      have hmm := h1.hm
      unfold maxLen at hmm
      have hcl := copy_any A1 c1 (m.take x) w1 (by rw [HYS.out, HTL.out]; omega) (h1.bs.take x)
      rw [HYS.out, HTL.out] at hcl
      have HCL := Lib.hid hcl
      clear hg1 h1 hcl
      go_wp2_with fail
      refine HCL.out.mono ?_
      rintro en w2 ⟨v2, rfl, hown, hb2⟩
      obtain ⟨A2, c2, rfl, _⟩ := own_shape hown
      have HO := Lib.hid hown
      have H2 := Lib.hid (H1.out.below hb2)
      have k2 : w2.cell? ⟨g, 0, none⟩ = some (.slice A1 m.length c1) := block_cell H2.out.blk
      have f2 : w2.frozen? ⟨g, 0, none⟩ = false := block_free H2.out.blk
      have HD := Lib.hid (rrd_write H2.out _ (c1 - x) (m.drop x) (by simp; omega) (by unfold maxLen; omega) (H2.out.bs.drop (k := x) H2.out.hc) (fun ad e hne => rrd_drop_ne H2.out x e (by rintro rfl; simp at hne)))
      have hkeep : ∀ u : Value, (w2.setCell ⟨g, 0, none⟩ u).ownsRow w.heap.size 5 1 (.slice A2 x c2) x (bvs ys) := fun u =>
        own_base (own_far HO.out (grown_set (w := w2) ⟨rfl, rfl, rfl, Nat.le_refl _, fun _ _ _ => rfl⟩ 0 u) (fun k e => by injection e with e; subst e; exact heap_lt H1.out.blk)) HG.out.size
      have HKP := Lib.hid hkeep
      have hg12 : w.grownBy w2 (some g) := grown_then HG.out (only_of_below hb2 _)
      have HG2 := Lib.hid hg12
      clear k0 k1 hown hb2 hkeep hg12
      by_cases hcn : c1 = x
      · have hd := HD.out
        rw [List.length_drop, if_pos hcn] at hd
        have HD' := Lib.hid hd
        clear hd HD
        subst hcn
        have hln : m.length = c1 := by omega
        have HLN := Lib.hid hln
        clear hln
        go_wp2_with fail
        go_ret
        have hd := HD'.out
        rw [HLN.out, Nat.sub_self] at hd
        refine ⟨A2, c2, by rw [HTL.out]; rfl, by rw [HTL.out]; exact HKP.out _, RRdTo.of HG2.out ?_⟩
        simpa [HLN.out] using hd
      · have hd := HD.out
        rw [List.length_drop, if_neg hcn] at hd
        have HD' := Lib.hid hd
        clear hd HD
        go_wp2_with fail
        go_ret
        exact ⟨A2, c2, by rw [HTL.out]; rfl, by rw [HTL.out]; exact HKP.out _, RRdTo.of HG2.out HD'.out⟩
  · rw [if_pos hf] at hB
    rw [hB]
    have hf' := rd_err_spell hf
    have hf2 : ((f : Int) == 0) = false := by rw [beq_eq_false_iff_ne]; omega
    have HX := Lib.hid (show _ ∧ _ from ⟨hf', hf2⟩)
    clear hB hf hf' hf2
    go_enter Tryd.func84, Tryd.ntmps84
    go_wp2_with fail
    refine HNN.out.mono ?_
    rintro en w1 ⟨rfl, hg1, A1, c1, h1⟩
    have HG := Lib.hid hg1
    have H1 := Lib.hid h1
    have k1 : w1.cell? ⟨g, 1, none⟩ = some (.int .i64 (f : Int)) := block_cell h1.blk
    obtain ⟨hf', hf2⟩ := HX.out
    clear hg1 h1
    go_wp2_with fail
    go_ret
    exact ⟨none, 0, rfl, World.ownsRow_nil _ _ _ _, HG.out, A1, c1, H1.out⟩
end Go.Proofs.YtckihiiimomgfaaDoor
