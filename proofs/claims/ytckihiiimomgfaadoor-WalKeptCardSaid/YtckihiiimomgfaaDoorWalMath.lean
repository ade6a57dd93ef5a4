/- A log of records in sectors, as plain data, and its plain law: wherever the power goes off and whatever is lost or torn, what was appended is said, and at most the one in flight. No program in sight. -/
import Derived.Test.YtckihiiimomgfaaDoorDiskMath
namespace Go.Proofs.YtckihiiimomgfaaDoor.WalMath
open Go.Proofs.YtckihiiimomgfaaDoor StampMath DiskMath

/-- the part at a sector, if it goes on as it must -/
def partAt (S : List Sector) (to at_ : Nat) (index seq : Nat) : Option Part :=
  if at_ < to then match read (S.getD at_ []) with
    | some p => if p.index = index ∧ p.seq = seq then some p else none
    | none => none
  else none
/-- the parts from place i on, so many -/
def partsAt (S : List Sector) (to at_ seq i : Nat) : Nat → Option (List Part)
  | 0 => some []
  | k + 1 => match partAt S to (at_ + i) i (seq + i) with
    | some p => (partsAt S to at_ seq (i + 1) k).map (p :: ·)
    | none => none
def record (S : List Sector) (to at_ seq : Nat) : Option (List UInt8 × Nat) :=
  match partAt S to at_ 0 seq with
  | none => none
  | some p => match partsAt S to at_ seq 1 (p.total.toNat - 1) with
    | none => none
    | some l => (join (p :: l)).map fun b => (b, p.total.toNat)
/-- all records: behind so many steps at most -/
def says (S : List Sector) (to : Nat) : Nat → Nat → Nat → List (List UInt8) × Nat × Nat
  | 0, at_, seq => ([], at_, seq)
  | f + 1, at_, seq => match record S to at_ seq with
    | none => ([], at_, seq)
    | some (b, n) => (b :: (says S to f (at_ + n) (seq + n)).1, (says S to f (at_ + n) (seq + n)).2)

theorem partAt_some {S : List Sector} {to at_ index seq : Nat} {p : Part} (h : partAt S to at_ index seq = some p) : at_ < to ∧ read (S.getD at_ []) = some p ∧ p.index = index ∧ p.seq = seq := by
  unfold partAt at h
  split at h
  · next h1 =>
    split at h
    · next q hq =>
      split at h
      · next h2 => simp only [Option.some.injEq] at h; subst h; exact ⟨h1, hq, h2.1, h2.2⟩
      · cases h
    · cases h
  · cases h
theorem partAt_mk {S : List Sector} {to at_ index seq : Nat} {p : Part} (h1 : at_ < to) (h2 : read (S.getD at_ []) = some p) (h3 : p.index = index) (h4 : p.seq = seq) : partAt S to at_ index seq = some p := by
  unfold partAt
  rw [if_pos h1, h2]
  simp [h3, h4]
theorem partsAt_some {S : List Sector} {to at_ seq i k : Nat} {l : List Part} (h : partsAt S to at_ seq i k = some l) : l.length = k ∧ ∀ j p, l[j]? = some p → partAt S to (at_ + (i + j)) (i + j) (seq + (i + j)) = some p := by
  induction k generalizing i l with
  | zero => simp [partsAt] at h; subst h; simp
  | succ k ih =>
    simp only [partsAt] at h
    split at h
    · next p hp =>
      cases hr : partsAt S to at_ seq (i + 1) k with
      | none => simp [hr] at h
      | some m =>
        simp [hr] at h
        subst h
        obtain ⟨a, b⟩ := ih hr
        refine ⟨by simp [a], fun j q hj => ?_⟩
        cases j with
        | zero => simp at hj; subst hj; exact hp
        | succ j =>
          simp at hj
          have := b j q hj
          rwa [show i + 1 + j = i + (j + 1) by omega] at this
    · cases h
theorem partsAt_mk {S : List Sector} {to at_ seq i k : Nat} {l : List Part} (hl : l.length = k) (h : ∀ j p, l[j]? = some p → partAt S to (at_ + (i + j)) (i + j) (seq + (i + j)) = some p) : partsAt S to at_ seq i k = some l := by
  induction k generalizing i l with
  | zero => cases l with
    | nil => rfl
    | cons p l => simp at hl
  | succ k ih => cases l with
    | nil => simp at hl
    | cons p l =>
      simp only [partsAt]
      have h0 := h 0 p rfl
      simp only [Nat.add_zero] at h0
      rw [h0, ih (l := l) (by simpa using hl) (fun j q hj => by
        have := h (j + 1) q (by simpa using hj)
        rwa [show i + (j + 1) = i + 1 + j by omega] at this)]
      rfl
/-- a record is its parts, sector by sector -/
theorem record_some {S : List Sector} {to at_ seq : Nat} {b : List UInt8} {n : Nat} (h : record S to at_ seq = some (b, n)) :
    n = totalOf b.length ∧ ∃ e : Int, ∀ j, j < n → at_ + j < to ∧ read (S.getD (at_ + j) []) = some (partOf e seq b j) := by
  unfold record at h
  cases hp : partAt S to at_ 0 seq with
  | none => simp [hp] at h
  | some p =>
    simp only [hp] at h
    cases hl : partsAt S to at_ seq 1 (p.total.toNat - 1) with
    | none => simp [hl] at h
    | some l =>
      simp only [hl] at h
      cases hj : join (p :: l) with
      | none => simp [hj] at h
      | some d =>
        simp [hj] at h
        obtain ⟨rfl, rfl⟩ := h
        obtain ⟨e, s, e1, e2, e3, e4⟩ := join_some hj
        obtain ⟨a1, a2⟩ := partsAt_some hl
        obtain ⟨b1, b2, b3, b4⟩ := partAt_some hp
        have hr := e3 p (by simp)
        have hs := e4 p rfl
        have ht : p.total.toNat = totalOf d.length := by
          have : p = partOf e s d 0 := by
            have h0 : (parts e s d)[0]? = some p := by rw [← e1]; rfl
            unfold parts at h0
            rw [List.getElem?_map, List.getElem?_range (totalOf_pos _)] at h0
            simpa using h0.symm
          rw [this]; simp [partOf]
        refine ⟨ht, e, fun j hj => ?_⟩
        have hsq : s = seq := by omega
        have hq : (p :: l)[j]? = some (partOf e s d j) := by
          rw [e1]
          unfold parts
          rw [List.getElem?_map, List.getElem?_range (by omega)]; rfl
        rw [hsq] at hq
        cases j with
        | zero =>
          simp at hq
          subst hq
          exact ⟨b1, b2⟩
        | succ j =>
          simp at hq
          have := partAt_some (a2 j _ hq)
          rw [show 1 + j = j + 1 by omega] at this
          exact ⟨this.1, this.2.1⟩
theorem record_mk {S : List Sector} {to at_ seq : Nat} {b : List UInt8} {e : Int} (he0 : 0 ≤ e) (he1 : e ≤ 4294967295) (hs : seq + totalOf b.length ≤ 4294967296) (ht : totalOf b.length ≤ 65535)
    (h : ∀ j, j < totalOf b.length → at_ + j < to ∧ read (S.getD (at_ + j) []) = some (partOf e seq b j)) : record S to at_ seq = some (b, totalOf b.length) := by
  have hp := totalOf_pos b.length
  have h0 := h 0 hp
  have hpa : partAt S to at_ 0 seq = some (partOf e seq b 0) := partAt_mk h0.1 h0.2 rfl (by simp [partOf])
  obtain ⟨l, hl⟩ : ∃ l, parts e seq b = partOf e seq b 0 :: l := by
    have hlen := parts_length e seq b
    cases hc : parts e seq b with
    | nil => rw [hc] at hlen; simp at hlen; omega
    | cons p l =>
      refine ⟨l, ?_⟩
      have h1 : (parts e seq b)[0]? = some p := by rw [hc]; rfl
      unfold parts at h1
      rw [List.getElem?_map, List.getElem?_range hp] at h1
      simp at h1
      rw [h1]
  have hll : l.length = totalOf b.length - 1 := by have := parts_length e seq b; rw [hl] at this; simp at this; omega
  have hlj : ∀ j p, l[j]? = some p → p = partOf e seq b (j + 1) ∧ j + 1 < totalOf b.length := by
    intro j p hj
    have hlt : j < l.length := by
      rcases Nat.lt_or_ge j l.length with h | h
      · exact h
      · rw [List.getElem?_eq_none h] at hj; cases hj
    have h1 : (parts e seq b)[j + 1]? = some p := by rw [hl]; simpa using hj
    unfold parts at h1
    rw [List.getElem?_map, List.getElem?_range (by omega)] at h1
    simp at h1
    exact ⟨h1.symm, by omega⟩
  unfold record
  rw [hpa]
  have ht2 : (partOf e seq b 0).total.toNat = totalOf b.length := by simp [partOf]
  simp only [ht2]
  rw [partsAt_mk (l := l) hll (fun j p hj => by
    obtain ⟨rfl, hlt⟩ := hlj j p hj
    have := h (j + 1) hlt
    rw [show 1 + j = j + 1 by omega]
    exact partAt_mk this.1 this.2 rfl (by simp [partOf]))]
  simp only
  rw [← hl, join_parts e seq b he0 he1 (by omega) (by omega) ht]
  rfl

/- what the sectors know of epochs -/
def hd (c : Sector) : Nat := ofBe (c.take 4)
def tl (c : Sector) : Nat := ofBe ((c.drop 56).take 4)
theorem small4 {l : List UInt8} (h4 : l.length = 4) (h : ofBe l < 256) : l = [0, 0, 0, UInt8.ofNat (ofBe l)] := by
  match l, h4 with
  | [a, b, c, d], _ =>
    simp only [ofBe, List.foldl_cons, List.foldl_nil] at h ⊢
    have ha : a.toNat = 0 := by omega
    have hb : b.toNat = 0 := by omega
    have hc : c.toNat = 0 := by omega
    have ea : a = 0 := UInt8.toNat_inj.1 ha
    have eb : b = 0 := UInt8.toNat_inj.1 hb
    have ec : c = 0 := UInt8.toNat_inj.1 hc
    subst ea; subst eb; subst ec
    have ed : UInt8.ofNat (((((0 * 256 + (0 : UInt8).toNat) * 256 + (0 : UInt8).toNat) * 256 + (0 : UInt8).toNat) * 256) + d.toNat) = d := by
      apply UInt8.toNat_inj.1
      rw [UInt8.toNat_ofNat']
      have := d.toNat_lt
      simp
    rw [ed]
theorem hd_lay (p : Part) (h : right p) : hd (lay p) = p.epoch.toNat ∧ tl (lay p) = p.epoch.toNat := by
  have h38 := h.2.2.2.2.2.2.2.2
  have e1 : (lay p).take 4 = be 4 p.epoch.toNat := by
    have := congrArg (List.take 4) (lay_head p)
    rw [List.take_take] at this
    simpa [stampOf, be_length] using this
  have e2 : ((lay p).drop 56).take 4 = be 4 p.epoch.toNat := by
    rw [lay_tail p h38]
    simp [stampOf, be_length]
  unfold hd tl
  obtain ⟨h1, h2, _⟩ := h
  rw [e1, e2, ofBe_be _ _ (by omega)]
  exact ⟨rfl, rfl⟩

/-- torn, the new one of a later epoch than all that the old one knows of, all epochs below 256: it is one of both or none; and what it knows of -/
theorem torn_late {n : Nat} {p : Part} {c : Sector} (hp : right p) (hc : c.length = 64) (h1 : hd c < p.epoch.toNat) (h2 : tl c < p.epoch.toNat) (he : p.epoch.toNat < 256) :
    (∀ r, read (tear n (lay p) c) = some r → tear n (lay p) c = lay p ∨ tear n (lay p) c = c) ∧ (tear n (lay p) c).length = 64 ∧ hd (tear n (lay p) c) ≤ p.epoch.toNat ∧ tl (tear n (lay p) c) ≤ p.epoch.toNat := by
  have h38 := hp.2.2.2.2.2.2.2.2
  have hl := lay_length p h38
  have hlen : (lay p).length = c.length := by omega
  have hL : (tear n (lay p) c).length = 64 := by rw [tear_length hlen]; exact hl
  obtain ⟨l1, l2⟩ := hd_lay p hp
  have s1 := small4 (l := c.take 4) (by simp; omega) (by unfold hd at h1; omega)
  have s2 := small4 (l := (c.drop 56).take 4) (by simp; omega) (by unfold tl at h2; omega)
  have s3 := small4 (l := (lay p).take 4) (by simp; omega) (by unfold hd at l1; omega)
  have s4 := small4 (l := ((lay p).drop 56).take 4) (by simp; omega) (by unfold tl at l2; omega)
  have gc : ∀ i, i < 4 → c[i]? = ([0, 0, 0, UInt8.ofNat (hd c)] : List UInt8)[i]? := fun i hi => by
    have e : (c.take 4)[i]? = ([0, 0, 0, UInt8.ofNat (hd c)] : List UInt8)[i]? := congrArg (fun l : List UInt8 => l[i]?) s1
    rwa [List.getElem?_take_of_lt hi] at e
  have gt : ∀ i, i < 4 → c[56 + i]? = ([0, 0, 0, UInt8.ofNat (tl c)] : List UInt8)[i]? := fun i hi => by
    have e : ((c.drop 56).take 4)[i]? = ([0, 0, 0, UInt8.ofNat (tl c)] : List UInt8)[i]? := congrArg (fun l : List UInt8 => l[i]?) s2
    rwa [List.getElem?_take_of_lt hi, List.getElem?_drop] at e
  have gp : ∀ i, i < 4 → (lay p)[i]? = ([0, 0, 0, UInt8.ofNat (p.epoch.toNat)] : List UInt8)[i]? := fun i hi => by
    have e : ((lay p).take 4)[i]? = ([0, 0, 0, UInt8.ofNat (hd (lay p))] : List UInt8)[i]? := congrArg (fun l : List UInt8 => l[i]?) s3
    rwa [List.getElem?_take_of_lt hi, l1] at e
  have gq : ∀ i, i < 4 → (lay p)[56 + i]? = ([0, 0, 0, UInt8.ofNat (p.epoch.toNat)] : List UInt8)[i]? := fun i hi => by
    have e : (((lay p).drop 56).take 4)[i]? = ([0, 0, 0, UInt8.ofNat (tl (lay p))] : List UInt8)[i]? := congrArg (fun l : List UInt8 => l[i]?) s4
    rwa [List.getElem?_take_of_lt hi, List.getElem?_drop, l2] at e
  have one : ∀ x : Nat, x < 256 → ofBe [0, 0, 0, UInt8.ofNat x] = x := fun x hx => by
    simp [ofBe]; omega
  have hhead : (tear n (lay p) c).take 4 = [0, 0, 0, UInt8.ofNat (if 4 ≤ n then p.epoch.toNat else hd c)] := by
    refine List.ext_getElem? fun i => ?_
    by_cases hi : i < 4
    · rw [List.getElem?_take_of_lt hi, tear_get hlen]
      by_cases hn : i < n
      · rw [if_pos hn, gp i hi]
        match i, hi with
        | 0, _ => rfl
        | 1, _ => rfl
        | 2, _ => rfl
        | 3, _ => rw [if_pos (by omega)]
      · rw [if_neg hn, gc i hi]
        match i, hi with
        | 0, _ => rfl
        | 1, _ => rfl
        | 2, _ => rfl
        | 3, _ => rw [if_neg (by omega)]
    · rw [List.getElem?_eq_none (by simp; omega), List.getElem?_eq_none (by simp; omega)]
  have htail : ((tear n (lay p) c).drop 56).take 4 = [0, 0, 0, UInt8.ofNat (if 60 ≤ n then p.epoch.toNat else tl c)] := by
    refine List.ext_getElem? fun i => ?_
    by_cases hi : i < 4
    · rw [List.getElem?_take_of_lt hi, List.getElem?_drop, tear_get hlen]
      by_cases hn : 56 + i < n
      · rw [if_pos hn, gq i hi]
        match i, hi with
        | 0, _ => rfl
        | 1, _ => rfl
        | 2, _ => rfl
        | 3, _ => rw [if_pos (by omega)]
      · rw [if_neg hn, gt i hi]
        match i, hi with
        | 0, _ => rfl
        | 1, _ => rfl
        | 2, _ => rfl
        | 3, _ => rw [if_neg (by omega)]
    · rw [List.getElem?_eq_none (by simp; omega), List.getElem?_eq_none (by simp; omega)]
  have eh : hd (tear n (lay p) c) = if 4 ≤ n then p.epoch.toNat else hd c := by
    unfold hd at h1 ⊢; rw [hhead, one]; · rfl
    · split <;> first | omega | (unfold hd; omega)
  have et : tl (tear n (lay p) c) = if 60 ≤ n then p.epoch.toNat else tl c := by
    unfold tl at h2 ⊢; rw [htail, one]; · rfl
    · split <;> first | omega | (unfold tl; omega)
  refine ⟨fun r hr => ?_, hL, by rw [eh]; split <;> omega, by rw [et]; split <;> omega⟩
  obtain ⟨hs, _, _⟩ := read_stamps hr
  have hht : hd (tear n (lay p) c) = tl (tear n (lay p) c) := by
    unfold hd tl
    have := congrArg (List.take 4) hs
    rw [List.take_take] at this
    simpa using congrArg ofBe this
  by_cases h4 : n < 4
  · right
    refine List.ext_getElem? fun i => ?_
    rw [tear_get hlen]
    by_cases hi : i < n
    · rw [if_pos hi, gp i (by omega), gc i (by omega)]
      match i, (show i < 3 by omega) with
      | 0, _ => rfl
      | 1, _ => rfl
      | 2, _ => rfl
    · rw [if_neg hi]
  · have h60 : 60 ≤ n := by
      rw [eh, et, if_pos (by omega)] at hht
      rcases Nat.lt_or_ge n 60 with h | h
      · rw [if_neg (by omega)] at hht; omega
      · exact h
    left
    refine List.ext_getElem? fun i => ?_
    rw [tear_get hlen]
    by_cases hi : i < n
    · rw [if_pos hi]
    · rw [if_neg hi]
      by_cases h64 : i < 64
      · have e := stamps_get hs (i - 56) (by omega)
        rw [tear_get hlen, tear_get hlen, if_pos (by omega), if_neg (by omega)] at e
        have e2 := stamps_get (b := lay p) (by rw [lay_head, lay_tail p h38]) (i - 56) (by omega)
        have e3 : 56 + (i - 56) = i := by omega
        rw [e3] at e e2
        rw [← e, e2]
      · rw [List.getElem?_eq_none (by omega), List.getElem?_eq_none (by omega)]

end Go.Proofs.YtckihiiimomgfaaDoor.WalMath
