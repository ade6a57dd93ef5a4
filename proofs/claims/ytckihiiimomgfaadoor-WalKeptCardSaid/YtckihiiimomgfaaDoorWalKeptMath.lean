/- A log of records in sectors, as plain data: wherever the power goes off and whatever is lost or torn, what was appended is said, and at most the one in flight. No program in sight. -/
import Derived.Test.YtckihiiimomgfaaDoorWalMath
namespace Go.Proofs.YtckihiiimomgfaaDoor.WalMath
open Go.Proofs.YtckihiiimomgfaaDoor StampMath DiskMath

/-- a log -/
structure Lg where
  to : Nat
  at_ : Nat
  epoch : Nat
  next : Nat
  err : Nat
/-- parts are written, sector by sector -/
def putParts (d : Dk) (a : Nat) : Nat → List Part → Dk × Nat
  | _, [] => (d, 0)
  | i, p :: ps => if (write d (a + i : Nat) (lay p)).2 = 0 then putParts (write d (a + i : Nat) (lay p)).1 a (i + 1) ps else write d (a + i : Nat) (lay p)
def put (d : Dk) (a : Nat) (ps : List Part) : Dk × Nat :=
  if (putParts d a 0 ps).2 = 0 then flush (putParts d a 0 ps).1 else putParts d a 0 ps
/-- a record is appended -/
def append (g : Lg) (d : Dk) (b : List UInt8) : Lg × Dk × Nat :=
  if g.err ≠ 0 then (g, d, g.err) else if 65536 < b.length then (g, d, 5) else if 4294967295 < g.next + (totalOf b.length - 1) then (g, d, 8)
  else if g.to - g.at_ < totalOf b.length then (g, d, 8)
  else if (put d g.at_ (parts g.epoch g.next b)).2 = 0 then ({ g with at_ := g.at_ + totalOf b.length, next := g.next + totalOf b.length }, (put d g.at_ (parts g.epoch g.next b)).1, 0)
  else ({ g with err := (put d g.at_ (parts g.epoch g.next b)).2 }, (put d g.at_ (parts g.epoch g.next b)).1, (put d g.at_ (parts g.epoch g.next b)).2)
/-- the greatest epoch that sectors know of -/
def newest (l : List Sector) : Nat := l.foldl (fun n c => max (max n (hd c)) (tl c)) 0
theorem newest_ge (l : List Sector) : ∀ c ∈ l, hd c ≤ newest l ∧ tl c ≤ newest l := by
  have gen : ∀ (l : List Sector) (n : Nat), n ≤ l.foldl (fun n c => max (max n (hd c)) (tl c)) n ∧ ∀ c ∈ l, hd c ≤ l.foldl (fun n c => max (max n (hd c)) (tl c)) n ∧ tl c ≤ l.foldl (fun n c => max (max n (hd c)) (tl c)) n := by
    intro l
    induction l with
    | nil => intro n; simp
    | cons a l ih =>
      intro n
      obtain ⟨h1, h2⟩ := ih (max (max n (hd a)) (tl a))
      refine ⟨by simp only [List.foldl_cons]; omega, fun c hc => ?_⟩
      simp only [List.foldl_cons]
      rcases List.mem_cons.1 hc with rfl | hc
      · omega
      · exact h2 c hc
  exact (gen l 0).2
theorem newest_le {l : List Sector} {E : Nat} (h : ∀ c ∈ l, hd c ≤ E ∧ tl c ≤ E) : newest l ≤ E := by
  have gen : ∀ (l : List Sector) (n : Nat), n ≤ E → (∀ c ∈ l, hd c ≤ E ∧ tl c ≤ E) → l.foldl (fun n c => max (max n (hd c)) (tl c)) n ≤ E := by
    intro l
    induction l with
    | nil => intro n hn _; simpa using hn
    | cons a l ih =>
      intro n hn h
      have ha := h a (by simp)
      exact ih _ (by simp only; omega) (fun c hc => h c (by simp [hc]))
  exact gen l 0 (by omega) h

/-- the writes of a record's parts, from part i on, so many -/
def wl (e a s : Nat) (b : List UInt8) (i m : Nat) : List (Nat × Sector) := (List.range' i m).map fun j => (a + j, lay (partOf e s b j))
theorem wl_succ (e a s : Nat) (b : List UInt8) (i m : Nat) : wl e a s b i (m + 1) = (a + i, lay (partOf e s b i)) :: wl e a s b (i + 1) m := by
  unfold wl; rw [List.range'_succ]; rfl
theorem wl_snoc (e a s : Nat) (b : List UInt8) (i m : Nat) : wl e a s b i m ++ [(a + (i + m), lay (partOf e s b (i + m)))] = wl e a s b i (m + 1) := by
  unfold wl; rw [List.range'_concat]; simp
theorem torn_wl (e a s : Nat) (b : List UInt8) : ∀ (m i : Nat) (L : List Int) (f : List Sector) (k : Nat), k < f.length →
    (DiskMath.torn f (wl e a s b i m) L).getD k [] = f.getD k [] ∨ ∃ j c, i ≤ j ∧ j < i + m ∧ k = a + j ∧ (DiskMath.torn f (wl e a s b i m) L).getD k [] = tear c (lay (partOf e s b j)) (f.getD k [])
  | 0, i, L, f, k, _ => .inl (by simp [wl, DiskMath.torn])
  | m + 1, i, [], f, k, _ => .inl (by rw [wl_succ]; simp [DiskMath.torn])
  | m + 1, i, n :: L, f, k, hk => by
    rw [wl_succ]
    simp only [DiskMath.torn]
    have hl : k < (tearAt f (a + i) (clamp n) (lay (partOf e s b i))).length := by simpa [tearAt] using hk
    have hself : (tearAt f (a + i) (clamp n) (lay (partOf e s b i))).getD k [] = if k = a + i then tear (clamp n) (lay (partOf e s b i)) (f.getD k []) else f.getD k [] := by
      unfold tearAt
      rw [List.getD_eq_getElem?_getD, List.getElem?_set]
      by_cases h : a + i = k
      · subst h; rw [if_pos rfl, if_pos hk, if_pos rfl]; rfl
      · rw [if_neg h, if_neg (fun x => h x.symm), ← List.getD_eq_getElem?_getD]
    rcases torn_wl e a s b m (i + 1) L _ k hl with h | ⟨j, c, h1, h2, h3, h4⟩
    · rw [h, hself]
      by_cases hki : k = a + i
      · rw [if_pos hki]
        exact .inr ⟨i, _, Nat.le_refl _, by omega, hki, rfl⟩
      · rw [if_neg hki]; exact .inl rfl
    · rw [h4, hself, if_neg (by omega)]
      exact .inr ⟨j, c, by omega, by omega, h3, rfl⟩
theorem view_wl (e a s : Nat) (b : List UInt8) : ∀ (m i : Nat) (f : List Sector) (k : Nat), k < f.length →
    ((wl e a s b i m).foldl (fun f w => f.set w.1 w.2) f).getD k [] = if a + i ≤ k ∧ k < a + i + m then lay (partOf e s b (k - a)) else f.getD k []
  | 0, i, f, k, _ => by rw [if_neg (by omega)]; simp [wl]
  | m + 1, i, f, k, hk => by
    rw [wl_succ]
    simp only [List.foldl_cons]
    rw [view_wl e a s b m (i + 1) _ k (by simpa using hk), List.getD_eq_getElem?_getD, List.getElem?_set]
    by_cases h : a + i = k
    · rw [if_neg (by omega), if_pos h, if_pos (by omega), if_pos (by omega)]
      have : k - a = i := by omega
      rw [this]; rfl
    · rw [if_neg h, ← List.getD_eq_getElem?_getD]
      by_cases h2 : a + (i + 1) ≤ k ∧ k < a + (i + 1) + m
      · rw [if_pos h2, if_pos (by omega)]
      · rw [if_neg h2, if_neg (by omega)]

/-- records, one behind the other -/
def Laid (S : List Sector) (n : Nat) : Nat → List (List UInt8) → Nat → Prop
  | a, [], z => a = z
  | a, r :: rs, z => record S n a a = some (r, totalOf r.length) ∧ Laid S n (a + totalOf r.length) rs z
theorem record_right {S : List Sector} {to a seq : Nat} {b : List UInt8} {n : Nat} (h : record S to a seq = some (b, n)) :
    n = totalOf b.length ∧ ∃ e : Nat, e ≤ 4294967295 ∧ seq + n ≤ 4294967296 ∧ n ≤ 65535 ∧ ∀ j, j < n → a + j < to ∧ read (S.getD (a + j) []) = some (partOf e seq b j) := by
  obtain ⟨h1, e, h2⟩ := record_some h
  have hp := totalOf_pos b.length
  have hr := (read_some (h2 (n - 1) (by omega)).2).1
  unfold right partOf at hr
  simp only at hr
  obtain ⟨a1, a2, a3, a4, a5, a6, _⟩ := hr
  obtain ⟨e', rfl⟩ := Int.eq_ofNat_of_zero_le a1
  exact ⟨h1, e', by omega, by omega, by omega, h2⟩
theorem record_mk' {S : List Sector} {to a seq : Nat} {b : List UInt8} {e : Nat} (he1 : e ≤ 4294967295) (hs : seq + totalOf b.length ≤ 4294967296) (ht : totalOf b.length ≤ 65535)
    (h : ∀ j, j < totalOf b.length → a + j < to ∧ read (S.getD (a + j) []) = some (partOf e seq b j)) : record S to a seq = some (b, totalOf b.length) :=
  record_mk (e := (e : Int)) (by omega) (by omega) hs ht h
theorem record_congr {S S' : List Sector} {to a seq : Nat} {b : List UInt8} {n : Nat} (h : record S to a seq = some (b, n)) (hag : ∀ j, j < n → S'.getD (a + j) [] = S.getD (a + j) []) : record S' to a seq = some (b, n) := by
  obtain ⟨rfl, e, h1, h2, h3, h4⟩ := record_right h
  exact record_mk' h1 h2 h3 (fun j hj => ⟨(h4 j hj).1, by rw [hag j hj]; exact (h4 j hj).2⟩)
theorem Laid.le {S : List Sector} {n : Nat} : ∀ {rs : List (List UInt8)} {a z : Nat}, Laid S n a rs z → a ≤ z
  | [], _, _, h => Nat.le_of_eq h
  | r :: rs, a, z, h => by have := h.2.le; omega
theorem Laid.congr {S S' : List Sector} {n : Nat} : ∀ {rs : List (List UInt8)} {a z : Nat}, Laid S n a rs z → (∀ k, k < z → S'.getD k [] = S.getD k []) → Laid S' n a rs z
  | [], _, _, h, _ => h
  | r :: rs, a, z, h, hag => by
    have hle := h.2.le
    exact ⟨record_congr h.1 (fun j hj => hag _ (by omega)), h.2.congr hag⟩
theorem Laid.snoc {S : List Sector} {n : Nat} : ∀ {rs : List (List UInt8)} {a z : Nat} {b : List UInt8}, Laid S n a rs z → record S n z z = some (b, totalOf b.length) → Laid S n a (rs ++ [b]) (z + totalOf b.length)
  | [], a, z, b, h, hr => by
    have e : a = z := h
    subst e
    exact ⟨hr, rfl⟩
  | r :: rs, a, z, b, h, hr => ⟨h.1, h.2.snoc hr⟩
theorem says_laid {S : List Sector} {n : Nat} : ∀ {rs : List (List UInt8)} {a z : Nat} (f : Nat), Laid S n a rs z → rs.length < f → record S n z z = none → says S n f a a = (rs, z, z)
  | [], a, z, f + 1, h, _, hr => by
    have e : a = z := h
    subst e
    simp [says, hr]
  | r :: rs, a, z, f + 1, h, hf, hr => by
    have := says_laid f h.2 (by simpa using hf) hr
    simp [says, h.1, this]

/-- the sectors behind sure records, the log at place a in epoch E -/
structure Core (n E : Nat) (S : List Sector) (a : Nat) (sure : List (List UInt8)) : Prop where
  len : S.length = n
  all : ∀ k, k < n → (S.getD k []).length = 64 ∧ hd (S.getD k []) ≤ E ∧ tl (S.getD k []) ≤ E
  late : ∀ k, a ≤ k → k < n → hd (S.getD k []) < E ∧ tl (S.getD k []) < E
  laid : Laid S n 0 sure a
  none_ : record S n a a = none
  far : ∀ k p, a < k → k < n → read (S.getD k []) = some p → p.index ≠ 0
  le : a ≤ n
  n40 : n ≤ 100
  e255 : E < 256
theorem far_none {n : Nat} {S : List Sector} {a : Nat} (h : ∀ p, a < n → read (S.getD a []) = some p → p.index ≠ 0) : record S n a a = none := by
  unfold record
  have : partAt S n a 0 a = none := by
    cases hp : partAt S n a 0 a with
    | none => rfl
    | some p =>
      obtain ⟨h1, h2, h3, _⟩ := partAt_some hp
      exact absurd (by simpa using h3) (h p h1 h2)
  rw [this]
theorem parts_inj {e s : Nat} {r b : List UInt8} (he : e ≤ 4294967295) (hs : s + totalOf r.length ≤ 4294967296) (ht : totalOf r.length ≤ 65535) (h : ∀ j, j < totalOf r.length → partOf e s r j = partOf e s b j) : r = b := by
  have h0 := h 0 (totalOf_pos _)
  have htt : totalOf r.length = totalOf b.length := by
    have := congrArg Part.total h0
    simp [partOf] at this
    omega
  have e1 : parts e s r = parts e s b := by
    unfold parts
    rw [htt]
    exact List.map_congr_left fun j hj => h j (by rw [htt]; simpa using hj)
  have j1 := join_parts e s r (by omega) (by omega) (by omega) (by omega) ht
  have j2 := join_parts e s b (by omega) (by omega) (by omega) (by omega) (by omega)
  rw [e1, j2] at j1
  injection j1 with j1
  exact j1.symm
/-- behind a crash within the writing of b's parts -/
theorem core_crash {n E a : Nat} {S : List Sector} {sure : List (List UInt8)} (h : Core n E S a sure) (b : List UInt8) (m : Nat) (hm : m ≤ totalOf b.length) (ht : 0 < m → a + totalOf b.length ≤ n) (L : List Int) (f : Nat) (hf : sure.length + 1 < f)
    {S' : List Sector} (hS' : S' = DiskMath.torn S (wl E a a b 0 m) L) {E' : Nat} (hE' : E' = newest S' + 1) (hEE : E' < 256) :
    E' ≤ E + 1 ∧ ∃ all a', says S' n f 0 0 = (all, a', a') ∧ (all = sure ∨ (0 < m ∧ all = sure ++ [b])) ∧ Core n E' S' a' all := by
  have hlen : S'.length = n := by rw [hS', torn_length, h.len]
  have hget : ∀ k, k < n → S'.getD k [] = S.getD k [] ∨ ∃ j c, j < m ∧ k = a + j ∧ S'.getD k [] = tear c (lay (partOf E a b j)) (S.getD k []) := by
    intro k hk
    rw [hS']
    rcases torn_wl E a a b m 0 L S k (by rw [h.len]; exact hk) with h1 | ⟨j, c, _, h2, h3, h4⟩
    · exact .inl h1
    · exact .inr ⟨j, c, by omega, h3, h4⟩
  have hright : ∀ j, j < m → right (partOf E a b j) := fun j hj => by
    have := ht (by omega)
    have := h.n40
    have := h.e255
    exact part_right (by omega) (by omega) (by omega) (by omega) (by omega) (by omega)
  have htorn : ∀ j c k, j < m → k = a + j → k < n → _ := fun j c k hj hk hkn => torn_late (n := c) (p := partOf E a b j) (c := S.getD k []) (hright j hj) (h.all k hkn).1 (by have := (h.late k (by omega) hkn).1; simpa [partOf] using this) (by have := (h.late k (by omega) hkn).2; simpa [partOf] using this) (by have := h.e255; simpa [partOf] using this)
  have hall : ∀ k, k < n → (S'.getD k []).length = 64 ∧ hd (S'.getD k []) ≤ E ∧ tl (S'.getD k []) ≤ E := by
    intro k hk
    rcases hget k hk with e | ⟨j, c, hj, hkj, e⟩
    · rw [e]; exact h.all k hk
    · obtain ⟨_, t2, t3, t4⟩ := htorn j c k hj hkj hk
      rw [e]
      exact ⟨t2, by simpa [partOf] using t3, by simpa [partOf] using t4⟩
  have hread : ∀ k p, k < n → read (S'.getD k []) = some p → (read (S.getD k []) = some p) ∨ ∃ j, j < m ∧ k = a + j ∧ p = partOf E a b j := by
    intro k p hk hr
    rcases hget k hk with e | ⟨j, c, hj, hkj, e⟩
    · rw [e] at hr; exact .inl hr
    · obtain ⟨t1, _⟩ := htorn j c k hj hkj hk
      rw [e] at hr
      rcases t1 p hr with t | t
      · rw [t, read_lay _ (hright j hj)] at hr
        injection hr with hr
        exact .inr ⟨j, hj, hkj, hr.symm⟩
      · rw [t] at hr; exact .inl hr
  have hnew : ∀ k, k < n → hd (S'.getD k []) < E' ∧ tl (S'.getD k []) < E' := by
    intro k hk
    have hmem : S'.getD k [] ∈ S' := by
      rw [List.getD_eq_getElem?_getD, List.getElem?_eq_getElem (by omega)]
      exact List.getElem_mem _
    have := newest_ge S' _ hmem
    omega
  have hle : E' ≤ E + 1 := by
    have := newest_le (l := S') (E := E) (fun c hc => by
      obtain ⟨k, hk⟩ := List.getElem?_of_mem hc
      have hkl := (List.getElem?_eq_some_iff.1 hk).1
      have := hall k (by omega)
      rw [List.getD_eq_getElem?_getD, hk] at this
      exact this.2)
    omega
  have hlaid : Laid S' n 0 sure a := h.laid.congr (fun k hk => by
    rcases hget k (by have := h.le; omega) with e | ⟨j, c, hj, hkj, e⟩
    · exact e
    · omega)
  have hfar : ∀ k p, a < k → k < n → read (S'.getD k []) = some p → p.index ≠ 0 := by
    intro k p hak hk hr
    rcases hread k p hk hr with hr | ⟨j, hj, hkj, rfl⟩
    · exact h.far k p hak hk hr
    · simp [partOf]; omega
  refine ⟨hle, ?_⟩
  cases hrec : record S' n a a with
  | none =>
    refine ⟨sure, a, says_laid f hlaid (by omega) hrec, .inl rfl, hlen, fun k hk => ⟨(hall k hk).1, ?_⟩, fun k _ hk => hnew k hk, hlaid, hrec, hfar, h.le, h.n40, hEE⟩
    have := hnew k hk; omega
  | some x =>
    obtain ⟨r, n'⟩ := x
    obtain ⟨rfl, e, h1, h2, h3, h4⟩ := record_right hrec
    have hdE : ∀ k p, k < n → a ≤ k → read (S.getD k []) = some p → p.epoch.toNat < E := by
      intro k p hk hak hr
      obtain ⟨r1, r2⟩ := read_some hr
      have := (hd_lay p r1).1
      rw [r2] at this
      have := (h.late k hak hk).1
      omega
    have hp := totalOf_pos r.length
    have h0 := h4 0 hp
    by_cases heE : e = E
    · subst heE
      have hall2 : ∀ j, j < totalOf r.length → j < m ∧ partOf e a r j = partOf e a b j := by
        intro j hj
        obtain ⟨g1, g2⟩ := h4 j hj
        rcases hread _ _ g1 g2 with hr | ⟨j', hj', hk', hr⟩
        · have := hdE _ _ g1 (by omega) hr
          simp [partOf] at this
        · have : j' = j := by omega
          subst this
          exact ⟨hj', hr⟩
      have hrb : r = b := parts_inj h1 h2 h3 (fun j hj => (hall2 j hj).2)
      subst hrb
      have hm0 := (hall2 0 hp).1
      have hn := ht hm0
      have hnone : record S' n (a + totalOf r.length) (a + totalOf r.length) = none := far_none (fun p h1 h2 => hfar _ p (by omega) h1 h2)
      have hl2 := hlaid.snoc hrec
      refine ⟨sure ++ [r], a + totalOf r.length, says_laid f hl2 (by simp; omega) hnone, .inr ⟨hm0, rfl⟩, hlen, fun k hk => ⟨(hall k hk).1, ?_⟩, fun k _ hk => hnew k hk, hl2, hnone, fun k p hk => hfar k p (by omega), hn, h.n40, hEE⟩
      have := hnew k hk; omega
    · exfalso
      have : record S n a a = some (r, totalOf r.length) := record_mk' h1 h2 h3 (fun j hj => by
        obtain ⟨g1, g2⟩ := h4 j hj
        refine ⟨g1, ?_⟩
        rcases hread _ _ g1 g2 with hr | ⟨j', hj', hk', hr⟩
        · exact hr
        · exfalso
          have := congrArg Part.epoch hr
          simp [partOf] at this
          omega)
      rw [h.none_] at this
      cases this
/-- behind an append that is OK -/
theorem core_append {n E a : Nat} {S : List Sector} {sure : List (List UInt8)} (h : Core n E S a sure) (b : List UInt8) (ht : a + totalOf b.length ≤ n)
    {S' : List Sector} (hS' : S' = (wl E a a b 0 (totalOf b.length)).foldl (fun f w => f.set w.1 w.2) S) : Core n E S' (a + totalOf b.length) (sure ++ [b]) := by
  have hlen : S'.length = n := by
    have gen : ∀ (l : List (Nat × Sector)) (f : List Sector), (l.foldl (fun f w => f.set w.1 w.2) f).length = f.length := by
      intro l
      induction l with
      | nil => intro f; rfl
      | cons w l ih => intro f; rw [List.foldl_cons, ih]; simp
    rw [hS', gen, h.len]
  have hget : ∀ k, k < n → S'.getD k [] = if a ≤ k ∧ k < a + totalOf b.length then lay (partOf E a b (k - a)) else S.getD k [] := fun k hk => by
    rw [hS', view_wl E a a b _ 0 S k (by rw [h.len]; exact hk)]
    simp
  have hn := h.n40
  have he := h.e255
  have hright : ∀ j, j < totalOf b.length → right (partOf E a b j) := fun j hj => part_right (by omega) (by omega) (by omega) (by omega) (by omega) (by omega)
  have hrec : record S' n a a = some (b, totalOf b.length) := record_mk' (e := E) (by omega) (by omega) (by omega) (fun j hj => ⟨by omega, by
    rw [hget _ (by omega), if_pos (by omega), Nat.add_sub_cancel_left, read_lay _ (hright j hj)]⟩)
  have hp := totalOf_pos b.length
  have hfar : ∀ k p, a < k → k < n → a + totalOf b.length ≤ k → read (S'.getD k []) = some p → p.index ≠ 0 := fun k p hk hkn hge hr => by
    rw [hget k hkn, if_neg (by omega)] at hr
    exact h.far k p hk hkn hr
  refine ⟨hlen, fun k hk => ?_, fun k hak hk => ?_, (h.laid.congr (fun k hk => by rw [hget k (by omega), if_neg (by omega)])).snoc hrec, far_none (fun p h1 h2 => hfar _ p (by omega) h1 (by omega) h2), fun k p hak hk hr => hfar k p (by omega) hk (by omega) hr, ht, hn, he⟩
  · rw [hget k hk]
    split
    · next hc =>
      have hr := hright (k - a) (by omega)
      obtain ⟨l1, l2⟩ := hd_lay _ hr
      exact ⟨lay_length _ hr.2.2.2.2.2.2.2.2, by rw [l1]; simp [partOf], by rw [l2]; simp [partOf]⟩
    · exact h.all k hk
  · rw [hget k hk, if_neg (by omega)]
    exact h.late k (by omega) hk

/-- parts that are written: how far -/
theorem putParts_some (E a s : Nat) (b : List UInt8) (ht : totalOf b.length ≤ 65535) (hE : E ≤ 4294967295) (hs : s + totalOf b.length ≤ 4294967296) : ∀ (k i : Nat) (d : Dk), i + k = totalOf b.length → a + totalOf b.length ≤ d.fast.length → d.dead = false →
    ∃ m, m ≤ k ∧ (putParts d a i ((List.range' i k).map (partOf E s b))).1.fast = d.fast ∧ (putParts d a i ((List.range' i k).map (partOf E s b))).1.waits = d.waits ++ wl E a s b i m ∧
      (((putParts d a i ((List.range' i k).map (partOf E s b))).2 = 0 ∧ m = k ∧ (putParts d a i ((List.range' i k).map (partOf E s b))).1.dead = false) ∨
       ((putParts d a i ((List.range' i k).map (partOf E s b))).2 = 7 ∧ (putParts d a i ((List.range' i k).map (partOf E s b))).1.dead = true))
  | 0, i, d, _, _, hd => ⟨0, Nat.le_refl _, rfl, by simp [putParts, wl], .inl ⟨rfl, rfl, by simpa [putParts] using hd⟩⟩
  | k + 1, i, d, hi, hl, hdd => by
    have hright : right (partOf E s b i) := part_right (by omega) (by omega) (by omega) (by omega) (by omega) ht
    have hlen := lay_length _ hright.2.2.2.2.2.2.2.2
    have hc : 0 ≤ ((a + i : Nat) : Int) ∧ ((a + i : Nat) : Int) < (d.fast.length : Int) ∧ (lay (partOf E s b i)).length = 64 := ⟨by omega, by omega, hlen⟩
    obtain ⟨s1, s2, s3, s4⟩ := step_fst d
    rw [List.range'_succ, List.map_cons]
    cases hst : (step d).2 with
    | true =>
      have hw : write d ((a + i : Nat) : Int) (lay (partOf E s b i)) = ({ (step d).1 with waits := d.waits ++ [(a + i, lay (partOf E s b i))] }, 0) := by
        unfold write
        rw [if_pos hc, if_pos hst, Int.toNat_natCast]
      obtain ⟨m, h1, h2, h3, h4⟩ := putParts_some E a s b ht hE hs k (i + 1) { (step d).1 with waits := d.waits ++ [(a + i, lay (partOf E s b i))] } (by omega) (by rw [s1]; exact hl) (s3 hst).1
      simp only [putParts, hw, if_true]
      refine ⟨m + 1, by omega, by rw [h2]; exact s1, ?_, ?_⟩
      · rw [h3, wl_succ]; simp
      · rcases h4 with ⟨h4, h5, h6⟩ | h4
        · exact .inl ⟨h4, by omega, h6⟩
        · exact .inr h4
    | false =>
      have hw : write d ((a + i : Nat) : Int) (lay (partOf E s b i)) = ((step d).1, 7) := by
        unfold write
        rw [if_pos hc, hst]
        simp
      simp only [putParts, hw]
      refine ⟨0, Nat.zero_le _, ?_, ?_, .inr ⟨?_, ?_⟩⟩
      · simpa using s1
      · simpa [wl] using s2
      · simp
      · simpa using s4 hst

/-- a log and its disk behind calls -/
structure Kept (n : Nat) (g : Lg) (d : Dk) (sure : List (List UInt8)) (maybe : List UInt8) (doubt : Bool) : Prop where
  to : g.to = n
  core : Core n g.epoch d.fast g.at_ sure
  next : g.next = g.at_
  is : (g.err = 0 ∧ d.dead = false ∧ d.waits = [] ∧ doubt = false) ∨
    (g.err = 7 ∧ d.dead = true ∧ doubt = true ∧ ∃ m, m ≤ totalOf maybe.length ∧ g.at_ + totalOf maybe.length ≤ n ∧ d.waits = wl g.epoch g.at_ g.at_ maybe 0 m)
theorem kept_append {n : Nat} {g : Lg} {d : Dk} {sure : List (List UInt8)} {maybe : List UInt8} {doubt : Bool} (h : Kept n g d sure maybe doubt) (b : List UInt8) (hb : b.length ≤ 150) :
    ((append g d b).2.2 = 0 ∧ Kept n (append g d b).1 (append g d b).2.1 (sure ++ [b]) maybe doubt) ∨
    ((append g d b).2.2 = 7 ∧ d.dead = false ∧ Kept n (append g d b).1 (append g d b).2.1 sure b true) ∨
    ((append g d b).2.2 ≠ 0 ∧ ((append g d b).2.2 = 7 → d.dead = true) ∧ Kept n (append g d b).1 (append g d b).2.1 sure maybe doubt) := by
  rcases h.is with ⟨h1, h2, h3, h4⟩ | ⟨h1, h2, h3, h4⟩
  · have hle := h.core.le
    have hn := h.core.n40
    have he := h.core.e255
    have hto := h.to
    have hnx := h.next
    have h4b : totalOf b.length ≤ 4 := by unfold totalOf; omega
    have hp := totalOf_pos b.length
    by_cases hroom : g.to - g.at_ < totalOf b.length
    · have e : append g d b = (g, d, 8) := by
        unfold append
        rw [if_neg (by omega), if_neg (by omega), if_neg (by omega), if_pos hroom]
      rw [e]
      exact .inr (.inr ⟨by simp, by simp, h⟩)
    · have e : append g d b = if (put d g.at_ (parts g.epoch g.next b)).2 = 0 then ({ g with at_ := g.at_ + totalOf b.length, next := g.next + totalOf b.length }, (put d g.at_ (parts g.epoch g.next b)).1, 0)
          else ({ g with err := (put d g.at_ (parts g.epoch g.next b)).2 }, (put d g.at_ (parts g.epoch g.next b)).1, (put d g.at_ (parts g.epoch g.next b)).2) := by
        unfold append
        rw [if_neg (by omega), if_neg (by omega), if_neg (by omega), if_neg hroom]
      have hps : parts g.epoch g.next b = (List.range' 0 (totalOf b.length)).map (partOf g.epoch g.at_ b) := by
        unfold parts
        rw [List.range_eq_range', hnx]
      obtain ⟨m, m1, m2, m3, m4⟩ := putParts_some g.epoch g.at_ g.at_ b (by omega) (by omega) (by omega) (totalOf b.length) 0 d (by omega) (by rw [h.core.len]; omega) h2
      rw [← hps] at m2 m3 m4
      rw [h3, List.nil_append] at m3
      generalize hP : putParts d g.at_ 0 (parts g.epoch g.next b) = P at m2 m3 m4
      rcases m4 with ⟨p1, p2, p3⟩ | ⟨p1, p2⟩
      · obtain ⟨s1, s2, s3, s4⟩ := step_fst P.1
        cases hst : (step P.1).2 with
        | true =>
          have hput : put d g.at_ (parts g.epoch g.next b) = ({ (step P.1).1 with fast := view P.1, waits := [] }, 0) := by
            unfold put
            rw [hP, if_pos p1]
            unfold flush
            rw [if_pos hst]
          rw [e, hput]
          refine .inl ⟨by simp, ?_⟩
          simp only [if_true]
          have hc := core_append h.core b (by omega) (S' := view P.1) (by unfold view; rw [m2, m3, p2])
          exact ⟨hto, hc, by simp; omega, .inl ⟨h1, (s3 hst).1, rfl, h4⟩⟩
        | false =>
          have hput : put d g.at_ (parts g.epoch g.next b) = ((step P.1).1, 7) := by
            unfold put
            rw [hP, if_pos p1]
            unfold flush
            rw [hst]
            simp
          rw [e, hput]
          refine .inr (.inl ⟨by simp, h2, ?_⟩)
          simp only [show ¬ (7 : Nat) = 0 by decide, if_false]
          refine ⟨hto, by simp only; rw [s1, m2]; exact h.core, hnx, .inr ⟨rfl, s4 hst, rfl, m, m1, by simp only; omega, by simp only; rw [s2, m3]⟩⟩
      · have hput : put d g.at_ (parts g.epoch g.next b) = P := by
          unfold put
          rw [hP, if_neg (by omega)]
        rw [e, hput, p1]
        refine .inr (.inl ⟨by simp, h2, ?_⟩)
        simp only [show ¬ (7 : Nat) = 0 by decide, if_false]
        refine ⟨hto, by simp only; rw [m2]; exact h.core, hnx, .inr ⟨rfl, p2, rfl, m, m1, by simp only; omega, m3⟩⟩
  · have e : append g d b = (g, d, g.err) := by
      unfold append
      rw [if_pos (by omega)]
    rw [e]
    exact .inr (.inr ⟨by simp only; omega, fun _ => h2, h⟩)
theorem kept_arm {n : Nat} {g : Lg} {d : Dk} {sure : List (List UInt8)} {maybe : List UInt8} {doubt : Bool} (h : Kept n g d sure maybe doubt) (x : Int) : Kept n g (arm d x).1 sure maybe doubt := by
  unfold arm
  split
  · exact h
  · split
    · exact h
    · exact ⟨h.to, h.core, h.next, h.is⟩
theorem kept_crash {n : Nat} {g : Lg} {d : Dk} {sure : List (List UInt8)} {maybe : List UInt8} {doubt : Bool} (h : Kept n g d sure maybe doubt) (L : List Int) (f : Nat) (hf : sure.length + 1 < f) (hE : g.epoch + 1 < 256) :
    newest (crash d L).fast + 1 ≤ g.epoch + 1 ∧ ∃ all a', says (crash d L).fast n f 0 0 = (all, a', a') ∧ (all = sure ∨ (doubt = true ∧ all = sure ++ [maybe])) ∧
      ∀ my, Kept n ⟨n, a', newest (crash d L).fast + 1, a', 0⟩ (crash d L) all my false := by
  have hx : ∃ m, m ≤ totalOf maybe.length ∧ (0 < m → g.at_ + totalOf maybe.length ≤ n) ∧ d.waits = wl g.epoch g.at_ g.at_ maybe 0 m ∧ (0 < m → doubt = true) := by
    rcases h.is with ⟨_, _, h3, _⟩ | ⟨_, _, h3, m, h4, h5, h6⟩
    · exact ⟨0, Nat.zero_le _, fun h => by omega, by rw [h3]; rfl, fun h => by omega⟩
    · exact ⟨m, h4, fun _ => h5, h6, fun _ => h3⟩
  obtain ⟨m, m1, m2, m3, m4⟩ := hx
  have hS' : (crash d L).fast = DiskMath.torn d.fast (wl g.epoch g.at_ g.at_ maybe 0 m) L := by rw [← m3]; rfl
  have hpre : newest (crash d L).fast + 1 < 256 ∨ 256 ≤ newest (crash d L).fast + 1 := by omega
  have hle : newest (crash d L).fast + 1 ≤ g.epoch + 1 := by
    rcases hpre with hp | hp
    · exact (core_crash h.core maybe m m1 m2 L f hf hS' rfl hp).1
    · exfalso
      have := newest_le (l := (crash d L).fast) (E := g.epoch) (fun c hc => by
        obtain ⟨k, hk⟩ := List.getElem?_of_mem hc
        have hkl := (List.getElem?_eq_some_iff.1 hk).1
        have hl : (crash d L).fast.length = n := by rw [hS', torn_length, h.core.len]
        have hc' : c = (crash d L).fast.getD k [] := by rw [List.getD_eq_getElem?_getD, hk]; rfl
        rw [hc', hS']
        rcases torn_wl g.epoch g.at_ g.at_ maybe m 0 L d.fast k (by rw [h.core.len]; omega) with e | ⟨j, c', _, h2, h3, h4⟩
        · rw [e]; exact (h.core.all k (by omega)).2
        · rw [h4]
          have hc40 := h.core.n40
          have he := h.core.e255
          have ht := m2 (by omega)
          obtain ⟨_, _, t3, t4⟩ := torn_late (n := c') (p := partOf g.epoch g.at_ maybe j) (c := d.fast.getD k []) (part_right (by omega) (by omega) (by omega) (by omega) (by omega) (by omega)) (h.core.all k (by omega)).1
            (by have := (h.core.late k (by omega) (by omega)).1; simpa [partOf] using this) (by have := (h.core.late k (by omega) (by omega)).2; simpa [partOf] using this) (by simpa [partOf] using he)
          exact ⟨by simpa [partOf] using t3, by simpa [partOf] using t4⟩)
      omega
  obtain ⟨_, all, a', c1, c2, c3⟩ := core_crash h.core maybe m m1 m2 L f hf hS' rfl (by omega)
  refine ⟨hle, all, a', c1, ?_, fun my => ⟨rfl, c3, rfl, .inl ⟨rfl, rfl, rfl, rfl⟩⟩⟩
  rcases c2 with c2 | ⟨c2, c4⟩
  · exact .inl c2
  · exact .inr ⟨m4 c2, c4⟩
theorem hd_zeros : hd zeros = 0 ∧ tl zeros = 0 := by decide +kernel
theorem kept_new {n : Nat} (hn : n ≤ 100) : Kept n ⟨n, 0, 1, 0, 0⟩ (new n) [] [] false := by
  have hg : ∀ k, k < n → (List.replicate n zeros).getD k [] = zeros := fun k hk => by rw [List.getD_eq_getElem?_getD, List.getElem?_replicate, if_pos hk]; rfl
  have hz := hd_zeros
  refine ⟨rfl, ⟨by simp [new], fun k hk => ?_, fun k _ hk => ?_, rfl, far_none (fun p h1 h2 => ?_), fun k p _ hk h2 => ?_, Nat.zero_le _, hn, show (1 : Nat) < 256 by decide⟩, rfl, .inl ⟨rfl, rfl, rfl, rfl⟩⟩
  · simp only [new]; rw [hg k hk]; exact ⟨by decide, by omega, by omega⟩
  · simp only [new]; rw [hg k hk]; show hd zeros < 1 ∧ tl zeros < 1; omega
  · simp only [new] at h2; rw [hg 0 h1, read_zeros] at h2; cases h2
  · simp only [new] at h2; rw [hg k hk, read_zeros] at h2; cases h2
end Go.Proofs.YtckihiiimomgfaaDoor.WalMath
