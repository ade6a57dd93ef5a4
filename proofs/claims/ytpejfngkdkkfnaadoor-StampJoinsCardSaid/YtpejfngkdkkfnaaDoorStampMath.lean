/- The plain laws of parts as sectors: what is laid is read as it was, and nothing else is; a torn sector is one of both or none; split and joined. No program in sight. -/
import Derived.Test.YtpejfngkdkkfnaaDoorCrcMath
namespace Go.Proofs.YtpejfngkdkkfnaaDoor.StampMath
open Go.Proofs.YtpejfngkdkkfnaaDoor

/-- a number in n bytes, the highest first -/
def be : Nat → Nat → List UInt8
  | 0, _ => []
  | n + 1, x => be n (x / 256) ++ [UInt8.ofNat x]
/-- bytes as a number -/
def ofBe (l : List UInt8) : Nat := l.foldl (fun x c => x * 256 + c.toNat) 0

theorem be_length (n x : Nat) : (be n x).length = n := by
  induction n generalizing x with
  | zero => rfl
  | succ n ih => simp [be, ih]
theorem be_drop (n x k : Nat) (h : n ≤ k) : (be n x).drop k = [] := List.drop_of_length_le (by rw [be_length]; exact h)
theorem be_take (n x k : Nat) (h : n ≤ k) : (be n x).take k = be n x := List.take_of_length_le (by rw [be_length]; exact h)
theorem ofBe_snoc (l : List UInt8) (c : UInt8) : ofBe (l ++ [c]) = ofBe l * 256 + c.toNat := by simp [ofBe]
theorem ofBe_be (n x : Nat) (h : x < 256 ^ n) : ofBe (be n x) = x := by
  induction n generalizing x with
  | zero => simp at h; subst h; rfl
  | succ n ih =>
    simp only [be]
    rw [ofBe_snoc, ih _ (by rw [Nat.pow_succ] at h; omega), UInt8.toNat_ofNat']
    omega
theorem ofBe_lt (l : List UInt8) : ofBe l < 256 ^ l.length := by
  have gen : ∀ (l : List UInt8) (x m : Nat), x < 256 ^ m → l.foldl (fun x c => x * 256 + c.toNat) x < 256 ^ (m + l.length) := by
    intro l
    induction l with
    | nil => intro x m h; simpa using h
    | cons c l ih =>
      intro x m h
      have hc := c.toNat_lt
      have := ih (x * 256 + c.toNat) (m + 1) (by rw [Nat.pow_succ]; omega)
      simpa [Nat.add_assoc, Nat.add_comm, Nat.add_left_comm] using this
  simpa [ofBe] using gen l 0 0 (by simp)
theorem be_ofBe (l : List UInt8) : be l.length (ofBe l) = l := by
  have gen : ∀ (r : List UInt8), be r.reverse.length (ofBe r.reverse) = r.reverse := by
    intro r
    induction r with
    | nil => rfl
    | cons c r ih =>
      have hc := c.toNat_lt
      rw [List.reverse_cons, List.length_append, List.length_singleton, ofBe_snoc]
      simp only [be]
      have e1 : (ofBe r.reverse * 256 + c.toNat) / 256 = ofBe r.reverse := by omega
      have e2 : UInt8.ofNat (ofBe r.reverse * 256 + c.toNat) = c := by
        apply UInt8.toNat_inj.1
        rw [UInt8.toNat_ofNat']
        omega
      rw [e1, e2, ih]
  have := gen l.reverse
  rwa [List.reverse_reverse] at this
theorem be_inj {n x y : Nat} (hx : x < 256 ^ n) (hy : y < 256 ^ n) (h : be n x = be n y) : x = y := by
  rw [← ofBe_be n x hx, ← ofBe_be n y hy, h]

structure Part where
  epoch : Int
  seq : Int
  index : Int
  total : Int
  data : List UInt8

def right (p : Part) : Prop :=
  0 ≤ p.epoch ∧ p.epoch ≤ 4294967295 ∧ 0 ≤ p.seq ∧ p.seq ≤ 4294967295 ∧ 1 ≤ p.total ∧ p.total ≤ 65535 ∧ 0 ≤ p.index ∧ p.index < p.total ∧ p.data.length ≤ 38
instance (p : Part) : Decidable (right p) := by unfold right; infer_instance

def stampOf (p : Part) : List UInt8 := be 4 p.epoch.toNat ++ be 4 p.seq.toNat
def headOf (p : Part) : List UInt8 := be 4 p.epoch.toNat ++ be 4 p.seq.toNat ++ be 2 p.index.toNat ++ be 2 p.total.toNat ++ be 2 p.data.length
def lay (p : Part) : List UInt8 :=
  headOf p ++ be 4 (CrcMath.add 0 (headOf p ++ p.data)) ++ p.data ++ List.replicate (38 - p.data.length) 0 ++ stampOf p

theorem stampOf_length (p : Part) : (stampOf p).length = 8 := by simp [stampOf, be_length]
theorem headOf_length (p : Part) : (headOf p).length = 14 := by simp [headOf, be_length]
theorem lay_length (p : Part) (h : p.data.length ≤ 38) : (lay p).length = 64 := by
  simp [lay, headOf_length, be_length, stampOf_length]; omega

/-- the part that bytes would be -/
def fields (b : List UInt8) : Part :=
  { epoch := ofBe (b.take 4), seq := ofBe ((b.drop 4).take 4), index := ofBe ((b.drop 8).take 2), total := ofBe ((b.drop 10).take 2), data := (b.drop 18).take (ofBe ((b.drop 12).take 2)) }
def read (b : List UInt8) : Option Part :=
  if b.length = 64 ∧ ofBe ((b.drop 12).take 2) ≤ 38 ∧ right (fields b) ∧ lay (fields b) = b then some (fields b) else none

theorem fields_lay (p : Part) (h : right p) : fields (lay p) = p ∧ ofBe (((lay p).drop 12).take 2) = p.data.length := by
  obtain ⟨h1, h2, h3, h4, h5, h6, h7, h8, h9⟩ := h
  have l4 := fun x => be_length 4 x
  have l2 := fun x => be_length 2 x
  have hd : (((lay p).drop 12).take 2) = be 2 p.data.length := by
    unfold lay headOf
    simp [List.drop_append, l4, l2, be_drop]
  have e : ofBe (((lay p).drop 12).take 2) = p.data.length := by rw [hd, ofBe_be _ _ (by omega)]
  refine ⟨?_, e⟩
  have a1 : ((lay p).take 4) = be 4 p.epoch.toNat := by
    unfold lay headOf
    simp [l4]
  have a2 : (((lay p).drop 4).take 4) = be 4 p.seq.toNat := by
    unfold lay headOf
    simp [l4]
  have a3 : (((lay p).drop 8).take 2) = be 2 p.index.toNat := by
    unfold lay headOf
    simp [List.drop_append, List.take_append, l4, l2]
  have a4 : (((lay p).drop 10).take 2) = be 2 p.total.toNat := by
    unfold lay headOf
    simp [List.drop_append, l4, l2, be_drop]
  have a5 : (((lay p).drop 18).take p.data.length) = p.data := by
    unfold lay
    have hl := headOf_length p
    simp [List.drop_append, List.take_append, l4, hl]
  obtain ⟨ep, se, ix, to, da⟩ := p
  simp only at *
  unfold fields
  rw [e, a1, a2, a3, a4, a5, ofBe_be _ _ (by omega), ofBe_be _ _ (by omega), ofBe_be _ _ (by omega), ofBe_be _ _ (by omega)]
  simp only [Part.mk.injEq, and_true]
  refine ⟨by omega, by omega, by omega, by omega⟩

/-- what is laid is read as it was -/
theorem read_lay (p : Part) (h : right p) : read (lay p) = some p := by
  obtain ⟨e1, e2⟩ := fields_lay p h
  unfold read
  rw [e1, e2, if_pos ⟨lay_length p h.2.2.2.2.2.2.2.2, h.2.2.2.2.2.2.2.2, h, rfl⟩]
/-- and nothing else is read -/
theorem read_some {b : List UInt8} {p : Part} (h : read b = some p) : right p ∧ lay p = b := by
  unfold read at h
  split at h
  · next hc =>
    simp only [Option.some.injEq] at h
    subst h
    exact ⟨hc.2.2.1, hc.2.2.2⟩
  · cases h

theorem lay_head (p : Part) : (lay p).take 8 = stampOf p := by
  unfold lay headOf stampOf
  simp [List.take_append, be_length, be_take]
theorem lay_tail (p : Part) (h : p.data.length ≤ 38) : (lay p).drop 56 = stampOf p := by
  unfold lay
  have hl := headOf_length p
  have e0 : List.drop 56 (headOf p) = [] := List.drop_eq_nil_of_le (by omega)
  have e1 : List.drop 38 p.data = [] := List.drop_eq_nil_of_le (by omega)
  simp [List.drop_append, hl, be_length, be_drop, e0, e1]
theorem read_stamps {b : List UInt8} {p : Part} (h : read b = some p) : b.take 8 = b.drop 56 ∧ b.take 8 = stampOf p ∧ b.length = 64 := by
  obtain ⟨hr, rfl⟩ := read_some h
  rw [lay_head, lay_tail p hr.2.2.2.2.2.2.2.2]
  exact ⟨rfl, rfl, lay_length p hr.2.2.2.2.2.2.2.2⟩
theorem stampOf_inj {p q : Part} (hp : right p) (hq : right q) (h : stampOf p = stampOf q) : p.epoch = q.epoch ∧ p.seq = q.seq := by
  obtain ⟨h1, h2⟩ := List.append_inj h (by rw [be_length, be_length])
  obtain ⟨a1, a2, a3, a4, _⟩ := hp
  obtain ⟨b1, b2, b3, b4, _⟩ := hq
  have e1 := be_inj (by omega) (by omega) h1
  have e2 := be_inj (by omega) (by omega) h2
  omega

/- torn -/
def tear (n : Nat) (a b : List UInt8) : List UInt8 := a.take n ++ b.drop n
theorem tear_length {n : Nat} {a b : List UInt8} (h : a.length = b.length) : (tear n a b).length = a.length := by
  simp [tear]; omega
theorem tear_get {n : Nat} {a b : List UInt8} (h : a.length = b.length) (i : Nat) : (tear n a b)[i]? = if i < n then a[i]? else b[i]? := by
  unfold tear
  by_cases hn : n ≤ a.length
  · rw [List.getElem?_append]
    simp only [List.length_take]
    rw [Nat.min_eq_left hn]
    by_cases hi : i < n
    · rw [if_pos hi, if_pos hi, List.getElem?_take_of_lt hi]
    · rw [if_neg hi, if_neg hi, List.getElem?_drop]
      congr 1; omega
  · rw [List.take_of_length_le (by omega), List.drop_of_length_le (by omega), List.append_nil]
    by_cases hi : i < n
    · rw [if_pos hi]
    · rw [if_neg hi, List.getElem?_eq_none (by omega), List.getElem?_eq_none (by omega)]
theorem stamps_get {b : List UInt8} (h : b.take 8 = b.drop 56) (i : Nat) (hi : i < 8) : b[i]? = b[56 + i]? := by
  have h1 : (b.take 8)[i]? = b[i]? := List.getElem?_take_of_lt hi
  have h2 : (b.drop 56)[i]? = b[56 + i]? := List.getElem?_drop
  rw [← h1, h, h2]
/-- torn between two sectors with stamps (each one's head is its tail): where it is read, it is one of both, or the two have one stamp -/
theorem torn_eq {n : Nat} {a b : List UInt8} {p : Part} (ha : a.length = 64) (hb : b.length = 64) (sa : a.take 8 = a.drop 56) (sb : b.take 8 = b.drop 56)
    (h : read (tear n a b) = some p) : tear n a b = a ∨ tear n a b = b ∨ a.take 8 = b.take 8 := by
  obtain ⟨hs, _, hl⟩ := read_stamps h
  have hab : a.length = b.length := by omega
  by_cases h8 : n < 8
  · right; left
    refine List.ext_getElem? fun i => ?_
    rw [tear_get hab]
    by_cases hi : i < n
    · rw [if_pos hi]
      have e := stamps_get hs i (by omega)
      rw [tear_get hab, tear_get hab, if_pos hi, if_neg (by omega)] at e
      rw [e, ← stamps_get sb i (by omega)]
    · rw [if_neg hi]
  · by_cases h56 : n ≤ 56
    · right; right
      refine List.ext_getElem? fun i => ?_
      by_cases hi : i < 8
      · rw [List.getElem?_take_of_lt hi, List.getElem?_take_of_lt hi]
        have e := stamps_get hs i hi
        rw [tear_get hab, tear_get hab, if_pos (by omega), if_neg (by omega)] at e
        rw [e, ← stamps_get sb i hi]
      · rw [List.getElem?_eq_none (by simp; omega), List.getElem?_eq_none (by simp; omega)]
    · left
      refine List.ext_getElem? fun i => ?_
      rw [tear_get hab]
      by_cases hi : i < n
      · rw [if_pos hi]
      · rw [if_neg hi]
        by_cases h64 : i < 64
        · have e := stamps_get hs (i - 56) (by omega)
          rw [tear_get hab, tear_get hab, if_pos (by omega), if_neg (by omega)] at e
          have e2 := stamps_get sa (i - 56) (by omega)
          have e3 : 56 + (i - 56) = i := by omega
          rw [e3] at e e2
          rw [← e, e2]
        · rw [List.getElem?_eq_none (by omega), List.getElem?_eq_none (by omega)]
/-- two parts of two stamps -/
theorem torn (n : Nat) (p q : Part) (hp : right p) (hq : right q) (hne : ¬ (p.epoch = q.epoch ∧ p.seq = q.seq)) (r : Part) (h : read (tear n (lay p) (lay q)) = some r) :
    tear n (lay p) (lay q) = lay p ∨ tear n (lay p) (lay q) = lay q := by
  have hp38 := hp.2.2.2.2.2.2.2.2
  have hq38 := hq.2.2.2.2.2.2.2.2
  rcases torn_eq (lay_length p hp38) (lay_length q hq38) (by rw [lay_head, lay_tail p hp38]) (by rw [lay_head, lay_tail q hq38]) h with h | h | h
  · exact .inl h
  · exact .inr h
  · rw [lay_head, lay_head] at h
    exact absurd (stampOf_inj hp hq h) hne
def zeros : List UInt8 := List.replicate 64 0
theorem read_zeros : read zeros = none := by decide +kernel
theorem stamp_zero {p : Part} (hp : right p) (h : stampOf p = zeros.take 8) : p.epoch = 0 ∧ p.seq = 0 := by
  have e : zeros.take 8 = stampOf { epoch := 0, seq := 0, index := 0, total := 1, data := [] } := by decide
  rw [e] at h
  exact stampOf_inj hp (by unfold right; simp) h
theorem torn_empty (n : Nat) (p : Part) (hp : right p) (hne : ¬ (p.epoch = 0 ∧ p.seq = 0)) (r : Part) (h : read (tear n (lay p) zeros) = some r) :
    tear n (lay p) zeros = lay p := by
  have hp38 := hp.2.2.2.2.2.2.2.2
  rcases torn_eq (lay_length p hp38) (by decide) (by rw [lay_head, lay_tail p hp38]) (by decide) h with h1 | h1 | h1
  · exact h1
  · rw [h1, read_zeros] at h; cases h
  · rw [lay_head] at h1
    exact absurd (stamp_zero hp h1) hne
theorem torn_empty' (n : Nat) (p : Part) (hp : right p) (hne : ¬ (p.epoch = 0 ∧ p.seq = 0)) (r : Part) (h : read (tear n zeros (lay p)) = some r) :
    tear n zeros (lay p) = lay p := by
  have hp38 := hp.2.2.2.2.2.2.2.2
  rcases torn_eq (by decide) (lay_length p hp38) (by decide) (by rw [lay_head, lay_tail p hp38]) h with h1 | h1 | h1
  · rw [h1, read_zeros] at h; cases h
  · exact h1
  · rw [lay_head] at h1
    exact absurd (stamp_zero hp h1.symm) hne

/- split and joined -/
def totalOf (n : Nat) : Nat := max ((n + 37) / 38) 1
def partOf (epoch seq : Int) (d : List UInt8) (i : Nat) : Part :=
  { epoch := epoch, seq := seq + i, index := i, total := totalOf d.length, data := (d.drop (38 * i)).take 38 }
def parts (epoch seq : Int) (d : List UInt8) : List Part := (List.range (totalOf d.length)).map (partOf epoch seq d)
theorem parts_length (epoch seq : Int) (d : List UInt8) : (parts epoch seq d).length = totalOf d.length := by simp [parts]
theorem totalOf_pos (n : Nat) : 1 ≤ totalOf n := by unfold totalOf; omega

def full (p : Part) : Prop := if p.index < p.total - 1 then p.data.length = 38 else if 1 < p.total then 0 < p.data.length else True
instance (p : Part) : Decidable (full p) := by unfold full; infer_instance
def fits (n : Nat) (e s : Int) (i : Nat) (p : Part) : Prop := right p ∧ p.total = n ∧ p.index = i ∧ p.epoch = e ∧ p.seq = s + i ∧ full p
instance (n : Nat) (e s : Int) (i : Nat) (p : Part) : Decidable (fits n e s i p) := by unfold fits; infer_instance
/-- the parts' bytes, where each fits from place i on -/
def joinFrom (n : Nat) (e s : Int) : Nat → List Part → Option (List UInt8)
  | _, [] => some []
  | i, p :: l => if fits n e s i p then (joinFrom n e s (i + 1) l).map (p.data ++ ·) else none
def join (l : List Part) : Option (List UInt8) :=
  match l with
  | [] => none
  | p :: _ => joinFrom l.length p.epoch p.seq 0 l

theorem part_right {epoch seq : Int} {d : List UInt8} {i : Nat} (he0 : 0 ≤ epoch) (he1 : epoch ≤ 4294967295) (hs0 : 0 ≤ seq) (hs1 : seq + i ≤ 4294967295) (hi : i < totalOf d.length) (ht : totalOf d.length ≤ 65535) : right (partOf epoch seq d i) := by
  unfold right partOf
  simp only [List.length_take, List.length_drop]
  omega
theorem part_full {epoch seq : Int} {d : List UInt8} {i : Nat} (hi : i < totalOf d.length) : full (partOf epoch seq d i) := by
  unfold full partOf
  simp only [List.length_take, List.length_drop]
  unfold totalOf at *
  split
  · omega
  · split
    · omega
    · trivial
theorem part_fits {epoch seq : Int} {d : List UInt8} {i : Nat} (he0 : 0 ≤ epoch) (he1 : epoch ≤ 4294967295) (hs0 : 0 ≤ seq) (hs1 : seq + i ≤ 4294967295) (hi : i < totalOf d.length) (ht : totalOf d.length ≤ 65535) :
    fits (totalOf d.length) epoch seq i (partOf epoch seq d i) :=
  ⟨part_right he0 he1 hs0 hs1 hi ht, rfl, rfl, rfl, rfl, part_full hi⟩
theorem joinFrom_parts (epoch seq : Int) (d : List UInt8) (he0 : 0 ≤ epoch) (he1 : epoch ≤ 4294967295) (hs0 : 0 ≤ seq) (hs1 : seq + totalOf d.length ≤ 4294967296) (ht : totalOf d.length ≤ 65535) :
    ∀ k i, i + k = totalOf d.length → joinFrom (totalOf d.length) epoch seq i ((List.range' i k).map (partOf epoch seq d)) = some (d.drop (38 * i)) := by
  intro k
  induction k with
  | zero =>
    intro i hi
    have : d.length ≤ 38 * i := by unfold totalOf at hi; omega
    simp [joinFrom, List.drop_of_length_le this]
  | succ k ih =>
    intro i hi
    rw [List.range'_succ, List.map_cons]
    simp only [joinFrom]
    rw [if_pos (part_fits he0 he1 hs0 (by omega) (by omega) ht), ih (i + 1) (by omega)]
    simp only [Option.map_some, partOf, Option.some.injEq]
    have e : 38 * (i + 1) = 38 * i + 38 := by omega
    rw [e, ← List.drop_drop, List.take_append_drop]
/-- split and joined: as it was -/
theorem join_parts (epoch seq : Int) (d : List UInt8) (he0 : 0 ≤ epoch) (he1 : epoch ≤ 4294967295) (hs0 : 0 ≤ seq) (hs1 : seq + totalOf d.length ≤ 4294967296) (ht : totalOf d.length ≤ 65535) :
    join (parts epoch seq d) = some d := by
  have h := joinFrom_parts epoch seq d he0 he1 hs0 hs1 ht (totalOf d.length) 0 (by omega)
  have hp : 0 < totalOf d.length := totalOf_pos _
  have hl := parts_length epoch seq d
  have e0 : (List.range' 0 (totalOf d.length)).map (partOf epoch seq d) = parts epoch seq d := by simp [parts, List.range_eq_range']
  rw [e0] at h
  have hd : d.drop (38 * 0) = d := by simp
  rw [hd] at h
  cases hc : parts epoch seq d with
  | nil => rw [hc] at hl; simp at hl; omega
  | cons p l =>
    have hpe : p = partOf epoch seq d 0 := by
      have : (parts epoch seq d)[0]? = some (partOf epoch seq d 0) := by
        unfold parts
        rw [List.getElem?_map, List.getElem?_range hp]; rfl
      rw [hc] at this
      simpa using this
    rw [hc] at hl h
    unfold join
    simp only
    rw [hl, hpe]
    rw [hpe] at h
    simpa [partOf] using h
theorem joinFrom_length {n : Nat} {e s : Int} {i : Nat} {l : List Part} {d : List UInt8} (hn : i + l.length = n) (h : joinFrom n e s i l = some d) :
    (∀ j p, l[j]? = some p → fits n e s (i + j) p) ∧ (0 < l.length → (l.length - 1) * 38 ≤ d.length ∧ d.length ≤ l.length * 38 ∧ (1 < n → (l.length - 1) * 38 < d.length)) ∧ (l.length = 0 → d = []) ∧
      ∀ j p, l[j]? = some p → p.data = (d.drop (38 * j)).take 38 := by
  induction l generalizing i d with
  | nil => simp [joinFrom] at h; subst h; simp
  | cons p l ih =>
    simp only [joinFrom] at h
    split at h
    · next hf =>
      cases hr : joinFrom n e s (i + 1) l with
      | none => simp [hr] at h
      | some d' =>
        simp [hr] at h
        subst h
        obtain ⟨a1, a2, a3, a4⟩ := ih (by simp at hn; omega) hr
        have hfull := hf.2.2.2.2.2
        have hix := hf.2.2.1
        have hto := hf.2.1
        have h38 : p.data.length ≤ 38 := hf.1.2.2.2.2.2.2.2.2
        have hlen : l.length ≠ 0 → p.data.length = 38 := by
          intro hl0
          unfold full at hfull
          rw [if_pos (by simp at hn; omega)] at hfull
          exact hfull
        refine ⟨?_, ?_, ?_, ?_⟩
        · intro j q hj
          cases j with
          | zero => simp at hj; subst hj; exact hf
          | succ j =>
            simp at hj
            have := a1 j q hj
            rwa [show i + 1 + j = i + (j + 1) by omega] at this
        · intro _
          simp only [List.length_cons, List.length_append, Nat.add_sub_cancel]
          by_cases hl0 : l.length = 0
          · have := a3 hl0
            subst this
            unfold full at hfull
            rw [if_neg (by simp at hn; omega)] at hfull
            refine ⟨by omega, by simp; omega, fun hn1 => ?_⟩
            rw [if_pos (by omega)] at hfull
            simp; omega
          · have := hlen hl0
            have := a2 (by omega)
            refine ⟨by omega, by omega, fun hn1 => by have := this.2.2 hn1; omega⟩
        · intro hz; simp at hz
        · intro j q hj
          cases j with
          | zero =>
            simp at hj; subst hj
            by_cases hl0 : l.length = 0
            · have := a3 hl0
              subst this
              simp [List.take_of_length_le h38]
            · have := hlen hl0
              simp [← this]
          | succ j =>
            simp at hj
            have hl0 : l.length ≠ 0 := by
              intro h0
              rw [List.getElem?_eq_none (by omega)] at hj
              cases hj
            have e38 := hlen hl0
            have e1 : List.drop (38 * (j + 1)) p.data = [] := List.drop_eq_nil_of_le (by omega)
            have e2 : 38 * (j + 1) - p.data.length = 38 * j := by omega
            rw [a4 j q hj, List.drop_append, e1, List.nil_append, e2]
    · cases h
/-- joined parts are those of their record -/
theorem join_some {l : List Part} {d : List UInt8} (h : join l = some d) : ∃ e s : Int, l = parts e s d ∧ l.length = totalOf d.length ∧ (∀ p ∈ l, right p) ∧ ∀ p, l[0]? = some p → p.epoch = e ∧ p.seq = s := by
  cases l with
  | nil => simp [join] at h
  | cons p l =>
    unfold join at h
    simp only at h
    obtain ⟨a1, a2, _, a4⟩ := joinFrom_length (by simp) h
    have ht : (p :: l).length = totalOf d.length := by
      have := a2 (by simp)
      unfold totalOf
      by_cases hn : 1 < (p :: l).length
      · have := this.2.2 hn; omega
      · simp at hn
        subst hn
        simp at this
        simp
        omega
    refine ⟨p.epoch, p.seq, ?_, ht, ?_, ?_⟩
    · refine List.ext_getElem? fun j => ?_
      by_cases hj : j < (p :: l).length
      · have h1 := List.getElem?_eq_getElem hj
        have hf := a1 j _ h1
        have hd := a4 j _ h1
        unfold parts
        rw [List.getElem?_map, List.getElem?_range (by omega), h1]
        simp only [Option.map_some, Option.some.injEq]
        generalize (p :: l)[j] = q at *
        obtain ⟨_, b2, b3, b4, b5, _⟩ := hf
        obtain ⟨qe, qs, qi, qt, qd⟩ := q
        simp only at *
        unfold partOf
        simp only [Part.mk.injEq]
        refine ⟨b4, by rw [b5]; omega, by omega, by omega, hd⟩
      · rw [List.getElem?_eq_none (by omega), List.getElem?_eq_none (by rw [parts_length]; omega)]
    · intro q hq
      obtain ⟨j, hj⟩ := List.getElem?_of_mem hq
      exact (a1 j q hj).1
    · intro q hq
      simp at hq
      subst hq
      exact ⟨rfl, rfl⟩

end Go.Proofs.YtpejfngkdkkfnaaDoor.StampMath
