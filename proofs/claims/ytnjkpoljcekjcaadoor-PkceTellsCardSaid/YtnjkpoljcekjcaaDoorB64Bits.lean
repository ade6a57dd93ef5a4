/- The document's way from letters to bytes, bit by bit, is by fours. No program in sight. -/
import Derived.Test.YtnjkpoljcekjcaaDoorB64Math
namespace Go.Proofs.YtnjkpoljcekjcaaDoor.B64Math

def bits6 (x : Nat) : List Nat := [x / 32 % 2, x / 16 % 2, x / 8 % 2, x / 4 % 2, x / 2 % 2, x % 2]
def allBits (ns : List Nat) : List Nat := ns.flatMap bits6
def val (l : List Nat) : Nat := l.foldl (fun c b => c * 2 + b) 0
/-- so many bytes of eight bits each, and what is left -/
def bytes8 : Nat → List Nat → List UInt8
  | 0, _ => []
  | n + 1, l => UInt8.ofNat (val (l.take 8)) :: bytes8 n (l.drop 8)
def decB (l : List Nat) : Option (List UInt8) :=
  if 6 ≤ l.length % 8 then none else if (l.drop (8 * (l.length / 8))).all (· == 0) then some (bytes8 (l.length / 8) l) else none
theorem allBits_length (ns : List Nat) : (allBits ns).length = 6 * ns.length := by
  induction ns with
  | nil => rfl
  | cons x ns ih =>
    have : allBits (x :: ns) = bits6 x ++ allBits ns := by simp [allBits]
    rw [this, List.length_append, ih]
    simp [bits6]; omega
theorem allBits_append (a b : List Nat) : allBits (a ++ b) = allBits a ++ allBits b := by simp [allBits]
theorem six (x : Nat) (h : x < 64) : ∃ a b c d e f : Nat, bits6 x = [a, b, c, d, e, f] ∧ x = 32 * a + 16 * b + 8 * c + 4 * d + 2 * e + f ∧ a < 2 ∧ b < 2 ∧ c < 2 ∧ d < 2 ∧ e < 2 ∧ f < 2 :=
  ⟨_, _, _, _, _, _, rfl, by omega, by omega, by omega, by omega, by omega, by omega, by omega⟩
theorem decN_bits (ns : List Nat) (h : ∀ n ∈ ns, n < 64) : decN ns = decB (allBits ns) := by
  fun_induction decN ns with
  | case1 => rfl
  | case2 a => simp [decB, allBits, bits6]
  | case3 a b hc =>
    obtain ⟨a5, a4, a3, a2, a1, a0, ea, va, _⟩ := six a (h a (by simp))
    obtain ⟨b5, b4, b3, b2, b1, b0, eb, vb, _⟩ := six b (h b (by simp))
    have e : allBits [a, b] = bits6 a ++ bits6 b := by simp [allBits]
    have z : b3 = 0 ∧ b2 = 0 ∧ b1 = 0 ∧ b0 = 0 := by omega
    obtain ⟨rfl, rfl, rfl, rfl⟩ := z
    rw [e, ea, eb]
    simp only [decB, List.cons_append, List.nil_append, List.length_cons, List.length_nil, Nat.zero_add, Nat.reduceAdd, Nat.reduceMod, Nat.reduceDiv, Nat.reduceMul, Nat.reduceLeDiff, if_false,
      List.drop_succ_cons, List.drop_zero, List.all_cons, List.all_nil, Bool.and_true, bytes8, List.take_succ_cons, List.take_zero, val, List.foldl_cons, List.foldl_nil]
    rw [if_pos (by decide)]
    simp only [Option.some.injEq, List.cons.injEq, and_true]
    exact ofNat_congr (by omega)
  | case4 a b hc =>
    obtain ⟨a5, a4, a3, a2, a1, a0, ea, va, _⟩ := six a (h a (by simp))
    obtain ⟨b5, b4, b3, b2, b1, b0, eb, vb, _⟩ := six b (h b (by simp))
    have e : allBits [a, b] = bits6 a ++ bits6 b := by simp [allBits]
    rw [e, ea, eb]
    simp only [decB, List.cons_append, List.nil_append, List.length_cons, List.length_nil, Nat.zero_add, Nat.reduceAdd, Nat.reduceMod, Nat.reduceDiv, Nat.reduceMul, Nat.reduceLeDiff, if_false,
      List.drop_succ_cons, List.drop_zero, List.all_cons, List.all_nil, Bool.and_true]
    rw [if_neg (by simp; omega)]
  | case5 a b c hc =>
    obtain ⟨a5, a4, a3, a2, a1, a0, ea, va, _⟩ := six a (h a (by simp))
    obtain ⟨b5, b4, b3, b2, b1, b0, eb, vb, _⟩ := six b (h b (by simp))
    obtain ⟨c5, c4, c3, c2, c1, c0, ec, vc, _⟩ := six c (h c (by simp))
    have e : allBits [a, b, c] = bits6 a ++ bits6 b ++ bits6 c := by simp [allBits]
    have z : c1 = 0 ∧ c0 = 0 := by omega
    obtain ⟨rfl, rfl⟩ := z
    rw [e, ea, eb, ec]
    simp only [decB, List.cons_append, List.nil_append, List.length_cons, List.length_nil, Nat.zero_add, Nat.reduceAdd, Nat.reduceMod, Nat.reduceDiv, Nat.reduceMul, Nat.reduceLeDiff, if_false,
      List.drop_succ_cons, List.drop_zero, List.all_cons, List.all_nil, Bool.and_true, bytes8, List.take_succ_cons, List.take_zero, val, List.foldl_cons, List.foldl_nil]
    rw [if_pos (by decide)]
    simp only [Option.some.injEq, List.cons.injEq, and_true]
    have q1 : (a * 4096 + b * 64 + c) / 1024 = a * 4 + b / 16 := by omega
    have q2 : b / 16 = 2 * b5 + b4 := by omega
    have q3 : (a * 4096 + b * 64 + c) / 4 = a * 1024 + b * 16 + c / 4 := by omega
    have q4 : c / 4 = 8 * c5 + 4 * c4 + 2 * c3 + c2 := by omega
    rw [q1, q2, q3, q4]
    clear hc h q1 q2 q3 q4
    exact ⟨ofNat_congr (by omega), ofNat_congr (by omega)⟩
  | case6 a b c hc =>
    obtain ⟨a5, a4, a3, a2, a1, a0, ea, va, _⟩ := six a (h a (by simp))
    obtain ⟨b5, b4, b3, b2, b1, b0, eb, vb, _⟩ := six b (h b (by simp))
    obtain ⟨c5, c4, c3, c2, c1, c0, ec, vc, _⟩ := six c (h c (by simp))
    have e : allBits [a, b, c] = bits6 a ++ bits6 b ++ bits6 c := by simp [allBits]
    rw [e, ea, eb, ec]
    simp only [decB, List.cons_append, List.nil_append, List.length_cons, List.length_nil, Nat.zero_add, Nat.reduceAdd, Nat.reduceMod, Nat.reduceDiv, Nat.reduceMul, Nat.reduceLeDiff, if_false,
      List.drop_succ_cons, List.drop_zero, List.all_cons, List.all_nil, Bool.and_true]
    rw [if_neg (by simp; omega)]
  | case7 a b c d r ih =>
    rw [ih (fun n hn => h n (by simp [hn]))]
    obtain ⟨a5, a4, a3, a2, a1, a0, ea, va, ba⟩ := six a (h a (by simp))
    obtain ⟨b5, b4, b3, b2, b1, b0, eb, vb, bb⟩ := six b (h b (by simp))
    obtain ⟨c5, c4, c3, c2, c1, c0, ec, vc, bc⟩ := six c (h c (by simp))
    obtain ⟨d5, d4, d3, d2, d1, d0, ed, vd, bd⟩ := six d (h d (by simp))
    have e : allBits (a :: b :: c :: d :: r) = bits6 a ++ bits6 b ++ bits6 c ++ bits6 d ++ allBits r := by simp [allBits]
    rw [e, ea, eb, ec, ed]
    generalize allBits r = R
    unfold decB
    simp only [List.cons_append, List.nil_append, List.length_cons]
    have e1 : (R.length + 1 + 1 + 1 + 1 + 1 + 1 + 1 + 1 + 1 + 1 + 1 + 1 + 1 + 1 + 1 + 1 + 1 + 1 + 1 + 1 + 1 + 1 + 1 + 1) % 8 = R.length % 8 := by omega
    have e2 : (R.length + 1 + 1 + 1 + 1 + 1 + 1 + 1 + 1 + 1 + 1 + 1 + 1 + 1 + 1 + 1 + 1 + 1 + 1 + 1 + 1 + 1 + 1 + 1 + 1) / 8 = R.length / 8 + 1 + 1 + 1 := by omega
    have e4 : 8 * (R.length / 8 + 1 + 1 + 1) = 8 * (R.length / 8) + 1 + 1 + 1 + 1 + 1 + 1 + 1 + 1 + 1 + 1 + 1 + 1 + 1 + 1 + 1 + 1 + 1 + 1 + 1 + 1 + 1 + 1 + 1 + 1 := by omega
    rw [e1, e2, e4]
    simp only [List.drop_succ_cons]
    by_cases q1 : 6 ≤ R.length % 8
    · rw [if_pos q1, if_pos q1]; rfl
    · rw [if_neg q1, if_neg q1]
      by_cases q2 : (R.drop (8 * (R.length / 8))).all (· == 0) = true
      · rw [if_pos q2, if_pos q2]
        simp only [bytes8, List.drop_succ_cons, List.drop_zero, List.take_succ_cons, List.take_zero, val, List.foldl_cons, List.foldl_nil, Option.map_some, Option.some.injEq, List.cons.injEq, and_true]
        have t1 : (a * 262144 + b * 4096 + c * 64 + d) / 65536 = a * 4 + b / 16 := by omega
        have t2 : (a * 262144 + b * 4096 + c * 64 + d) / 256 = a * 1024 + b * 16 + c / 4 := by omega
        have t3 : b / 16 = 2 * b5 + b4 := by omega
        have t4 : c / 4 = 8 * c5 + 4 * c4 + 2 * c3 + c2 := by omega
        rw [t1, t2, t3, t4]
        clear t1 t2 t3 t4 q1 q2 h e1 e2 e4
        exact ⟨ofNat_congr (by omega), ofNat_congr (by omega), ofNat_congr (by omega)⟩
      · rw [if_neg q2, if_neg q2]; rfl
theorem bytes8_snoc (n : Nat) (l : List Nat) : bytes8 (n + 1) l = bytes8 n l ++ [UInt8.ofNat (val ((l.drop (8 * n)).take 8))] := by
  induction n generalizing l with
  | zero => simp [bytes8]
  | succ n ih =>
    have e : 8 + 8 * n = 8 * (n + 1) := by omega
    rw [bytes8, ih (l.drop 8), bytes8, List.cons_append, List.drop_drop, e]
theorem bytes8_length (n : Nat) (l : List Nat) : (bytes8 n l).length = n := by
  induction n generalizing l with
  | zero => rfl
  | succ n ih => simp [bytes8, ih]
end Go.Proofs.YtnjkpoljcekjcaaDoor.B64Math
