/- SHA-256 as plain functions on lists of bytes, and its plain laws: blocks, pieces. No program in sight. -/
namespace Go.Proofs.YtnjkpoljcekjcaaDoor.ShaMath

def rot (x n : Nat) : Nat := (x / 2 ^ n) ||| (x * 2 ^ (32 - n) % 4294967296)
def sm0 (v : Nat) : Nat := rot v 7 ^^^ rot v 18 ^^^ (v / 8)
def sm1 (v : Nat) : Nat := rot v 17 ^^^ rot v 19 ^^^ (v / 1024)
def bg0 (v : Nat) : Nat := rot v 2 ^^^ rot v 13 ^^^ rot v 22
def bg1 (v : Nat) : Nat := rot v 6 ^^^ rot v 11 ^^^ rot v 25
def ch (e f g : Nat) : Nat := (e &&& f) ^^^ ((4294967295 ^^^ e) &&& g)
def maj (a b c : Nat) : Nat := (a &&& b) ^^^ (a &&& c) ^^^ (b &&& c)
def kk : List Nat := [1116352408, 1899447441, 3049323471, 3921009573, 961987163, 1508970993, 2453635748, 2870763221,
  3624381080, 310598401, 607225278, 1426881987, 1925078388, 2162078206, 2614888103, 3248222580,
  3835390401, 4022224774, 264347078, 604807628, 770255983, 1249150122, 1555081692, 1996064986,
  2554220882, 2821834349, 2952996808, 3210313671, 3336571891, 3584528711, 113926993, 338241895,
  666307205, 773529912, 1294757372, 1396182291, 1695183700, 1986661051, 2177026350, 2456956037,
  2730485921, 2820302411, 3259730800, 3345764771, 3516065817, 3600352804, 4094571909, 275423344,
  430227734, 506948616, 659060556, 883997877, 958139571, 1322822218, 1537002063, 1747873779,
  1955562222, 2024104815, 2227730452, 2361852424, 2428436474, 2756734187, 3204031479, 3329325298]

def byteAt (b : List UInt8) (i : Nat) : Nat := (b.getD i 0).toNat
def word (b : List UInt8) (i : Nat) : Nat := byteAt b (4 * i) * 16777216 + byteAt b (4 * i + 1) * 65536 + byteAt b (4 * i + 2) * 256 + byteAt b (4 * i + 3)
def wNext (b : List UInt8) (w : List Nat) (k : Nat) : Nat :=
  if k < 16 then word b k else (w.getD (k - 16) 0 + sm0 (w.getD (k - 15) 0) + w.getD (k - 7) 0 + sm1 (w.getD (k - 2) 0)) % 4294967296
def wTo (b : List UInt8) : Nat → List Nat
  | 0 => []
  | k + 1 => wTo b k ++ [wNext b (wTo b k) k]

structure St where
  a : Nat
  b : Nat
  c : Nat
  d : Nat
  e : Nat
  f : Nat
  g : Nat
  h : Nat
def St.lt (s : St) : Prop := s.a < 4294967296 ∧ s.b < 4294967296 ∧ s.c < 4294967296 ∧ s.d < 4294967296 ∧ s.e < 4294967296 ∧ s.f < 4294967296 ∧ s.g < 4294967296 ∧ s.h < 4294967296
def tt (s : St) (k w : Nat) : Nat := (s.h + bg1 s.e + ch s.e s.f s.g + k + w) % 4294967296
def uu (s : St) : Nat := (bg0 s.a + maj s.a s.b s.c) % 4294967296
def rnd (s : St) (k w : Nat) : St := ⟨(tt s k w + uu s) % 4294967296, s.a, s.b, s.c, (s.d + tt s k w) % 4294967296, s.e, s.f, s.g⟩
def rnds (s : St) (w : List Nat) : Nat → St
  | 0 => s
  | k + 1 => rnd (rnds s w k) (kk.getD k 0) (w.getD k 0)
def addSt (s x : St) : St := ⟨(s.a + x.a) % 4294967296, (s.b + x.b) % 4294967296, (s.c + x.c) % 4294967296, (s.d + x.d) % 4294967296, (s.e + x.e) % 4294967296, (s.f + x.f) % 4294967296, (s.g + x.g) % 4294967296, (s.h + x.h) % 4294967296⟩
/-- the state behind a block -/
def next (s : St) (b : List UInt8) : St := addSt s (rnds s (wTo b 64) 64)
def first : St := ⟨1779033703, 3144134277, 1013904242, 2773480762, 1359893119, 2600822924, 528734635, 1541459225⟩
/-- the state behind j blocks -/
def bk (l : List UInt8) : Nat → St
  | 0 => first
  | j + 1 => next (bk l j) (l.drop (64 * j))
def pad (n : Nat) : List UInt8 := 128 :: (List.replicate ((119 - n % 64) % 64) 0 ++ (List.range 8).map fun i => UInt8.ofNat (n * 8 / 2 ^ (56 - 8 * i)))
def wordOut (x : Nat) : List UInt8 := [UInt8.ofNat (x / 16777216), UInt8.ofNat (x / 65536), UInt8.ofNat (x / 256), UInt8.ofNat x]
def out (s : St) : List UInt8 := wordOut s.a ++ wordOut s.b ++ wordOut s.c ++ wordOut s.d ++ wordOut s.e ++ wordOut s.f ++ wordOut s.g ++ wordOut s.h
/-- a text's sum -/
def sha (l : List UInt8) : List UInt8 := out (bk (l ++ pad l.length) ((l ++ pad l.length).length / 64))

theorem wTo_length (b : List UInt8) (k : Nat) : (wTo b k).length = k := by
  induction k with
  | zero => rfl
  | succ k ih => simp [wTo, ih]
theorem wTo_getD (b : List UInt8) (k i : Nat) (h : i < k) : (wTo b k).getD i 0 = wNext b (wTo b i) i := by
  induction k with
  | zero => omega
  | succ k ih =>
    simp only [wTo]
    by_cases hi : i < k
    · rw [List.getD_eq_getElem?_getD, List.getElem?_append_left (by rw [wTo_length]; exact hi), ← List.getD_eq_getElem?_getD, ih hi]
    · obtain rfl : i = k := by omega
      rw [List.getD_eq_getElem?_getD, List.getElem?_append_right (by rw [wTo_length]; omega), wTo_length]
      simp
theorem wTo_take (b : List UInt8) (k j : Nat) (h : j ≤ k) : (wTo b k).take j = wTo b j := by
  induction k with
  | zero => obtain rfl : j = 0 := by omega
            rfl
  | succ k ih =>
    by_cases hj : j ≤ k
    · simp only [wTo]
      rw [List.take_append_of_le_length (by rw [wTo_length]; exact hj), ih hj]
    · obtain rfl : j = k + 1 := by omega
      rw [List.take_of_length_le (by rw [wTo_length]; omega)]
theorem byteAt_lt (b : List UInt8) (i : Nat) : byteAt b i < 256 := UInt8.toNat_lt _
theorem word_lt (b : List UInt8) (i : Nat) : word b i < 4294967296 := by
  have h0 := byteAt_lt b (4 * i); have h1 := byteAt_lt b (4 * i + 1); have h2 := byteAt_lt b (4 * i + 2); have h3 := byteAt_lt b (4 * i + 3)
  unfold word
  omega
theorem wNext_lt (b : List UInt8) (w : List Nat) (k : Nat) : wNext b w k < 4294967296 := by
  unfold wNext
  split
  · exact word_lt _ _
  · exact Nat.mod_lt _ (by decide)
theorem wTo_lt (b : List UInt8) (k i : Nat) : (wTo b k).getD i 0 < 4294967296 := by
  by_cases h : i < k
  · rw [wTo_getD b k i h]; exact wNext_lt _ _ _
  · rw [List.getD_eq_getElem?_getD, List.getElem?_eq_none (by rw [wTo_length]; omega)]; decide
theorem kk_lt : ∀ i, i < 64 → kk.getD i 0 < 4294967296 := by decide
theorem rot_lt {x : Nat} (n : Nat) (hx : x < 4294967296) : rot x n < 4294967296 := by
  unfold rot
  exact Nat.or_lt_two_pow (n := 32) (Nat.lt_of_le_of_lt (Nat.div_le_self _ _) hx) (Nat.mod_lt _ (by decide))
theorem bg0_lt {x : Nat} (hx : x < 4294967296) : bg0 x < 4294967296 := Nat.xor_lt_two_pow (n := 32) (Nat.xor_lt_two_pow (rot_lt _ hx) (rot_lt _ hx)) (rot_lt _ hx)
theorem bg1_lt {x : Nat} (hx : x < 4294967296) : bg1 x < 4294967296 := Nat.xor_lt_two_pow (n := 32) (Nat.xor_lt_two_pow (rot_lt _ hx) (rot_lt _ hx)) (rot_lt _ hx)
theorem sm0_lt {x : Nat} (hx : x < 4294967296) : sm0 x < 4294967296 := Nat.xor_lt_two_pow (n := 32) (Nat.xor_lt_two_pow (rot_lt _ hx) (rot_lt _ hx)) (show x / 8 < 2 ^ 32 by omega)
theorem sm1_lt {x : Nat} (hx : x < 4294967296) : sm1 x < 4294967296 := Nat.xor_lt_two_pow (n := 32) (Nat.xor_lt_two_pow (rot_lt _ hx) (rot_lt _ hx)) (show x / 1024 < 2 ^ 32 by omega)
theorem ch_lt {e f g : Nat} (hf : f < 4294967296) (hg : g < 4294967296) : ch e f g < 4294967296 := Nat.xor_lt_two_pow (n := 32) (Nat.and_lt_two_pow _ hf) (Nat.and_lt_two_pow _ hg)
theorem maj_lt {a b c : Nat} (hb : b < 4294967296) (hc : c < 4294967296) : maj a b c < 4294967296 :=
  Nat.xor_lt_two_pow (n := 32) (Nat.xor_lt_two_pow (Nat.and_lt_two_pow _ hb) (Nat.and_lt_two_pow _ hc)) (Nat.and_lt_two_pow _ hc)
theorem rnd_lt {s : St} (k w : Nat) (h : s.lt) : (rnd s k w).lt := by
  obtain ⟨h1, h2, h3, h4, h5, h6, h7, h8⟩ := h
  exact ⟨Nat.mod_lt _ (by decide), h1, h2, h3, Nat.mod_lt _ (by decide), h5, h6, h7⟩
theorem rnds_lt {s : St} (w : List Nat) (k : Nat) (h : s.lt) : (rnds s w k).lt := by
  induction k with
  | zero => exact h
  | succ k ih => exact rnd_lt _ _ ih
theorem next_lt (s : St) (b : List UInt8) : (next s b).lt := by
  unfold next addSt St.lt
  exact ⟨Nat.mod_lt _ (by decide), Nat.mod_lt _ (by decide), Nat.mod_lt _ (by decide), Nat.mod_lt _ (by decide), Nat.mod_lt _ (by decide), Nat.mod_lt _ (by decide), Nat.mod_lt _ (by decide), Nat.mod_lt _ (by decide)⟩
theorem first_lt : first.lt := by unfold first St.lt; decide
theorem bk_lt (l : List UInt8) (j : Nat) : (bk l j).lt := by
  cases j with
  | zero => exact first_lt
  | succ j => exact next_lt _ _

/-- a block is its first 64 bytes -/
theorem wTo_congr {b c : List UInt8} (h : ∀ i, i < 64 → b.getD i 0 = c.getD i 0) (k : Nat) : wTo b k = wTo c k := by
  induction k with
  | zero => rfl
  | succ k ih =>
    have e : wNext b (wTo c k) k = wNext c (wTo c k) k := by
      unfold wNext
      by_cases hk : k < 16
      · rw [if_pos hk, if_pos hk]
        unfold word byteAt
        rw [h _ (by omega), h _ (by omega), h _ (by omega), h _ (by omega)]
      · rw [if_neg hk, if_neg hk]
    simp only [wTo, ih]
    rw [e]
theorem next_congr (s : St) {b c : List UInt8} (h : ∀ i, i < 64 → b.getD i 0 = c.getD i 0) : next s b = next s c := by
  unfold next; rw [wTo_congr h]
theorem next_take (s : St) (b : List UInt8) : next s (b.take 64) = next s b :=
  next_congr s fun i hi => by rw [List.getD_eq_getElem?_getD, List.getElem?_take_of_lt hi, ← List.getD_eq_getElem?_getD]
theorem bk_append (l m : List UInt8) (j : Nat) (h : 64 * j ≤ l.length) : bk (l ++ m) j = bk l j := by
  induction j with
  | zero => rfl
  | succ j ih =>
    simp only [bk]
    rw [ih (by omega)]
    refine next_congr _ fun i hi => ?_
    rw [List.getD_eq_getElem?_getD, List.getD_eq_getElem?_getD, List.getElem?_drop, List.getElem?_drop, List.getElem?_append_left (by omega)]
theorem pad_length (n : Nat) : (pad n).length = 9 + (119 - n % 64) % 64 := by simp [pad]; omega
theorem padded (n : Nat) : (n + (pad n).length) % 64 = 0 := by rw [pad_length]; omega
theorem wordOut_length (x : Nat) : (wordOut x).length = 4 := rfl
theorem out_length (s : St) : (out s).length = 32 := by simp [out, wordOut_length]
theorem sha_length (l : List UInt8) : (sha l).length = 32 := out_length _

end Go.Proofs.YtnjkpoljcekjcaaDoor.ShaMath
