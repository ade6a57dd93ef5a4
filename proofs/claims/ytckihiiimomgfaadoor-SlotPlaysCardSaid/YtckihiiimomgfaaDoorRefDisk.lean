/- The document's disk in memory: fast rows, waiting writes; kept, stored into, appended to. -/
import Derived.Test.YtckihiiimomgfaaDoorGRow
import Derived.Test.YtckihiiimomgfaaDoorGMath
namespace Go.Proofs.YtckihiiimomgfaaDoor
open Go.RowKit DiskMath
/-- no block of F is of type T -/
def NoT (w : World) (F : Nat → Prop) (T : TypeId) : Prop := ∀ k, F k → ∀ cs fr, w.heap[k]? ≠ some (.cells cs T fr)
theorem NoT.of {w : World} {g : Nat} {cs : Array Value} {T' T : TypeId} {fr : Nat × Nat} (h : w.heap[g]? = some (.cells cs T' fr)) (hne : T' ≠ T) : NoT w (fun k => k = g) T := fun k hk cs' fr' e => by
  subst hk
  rw [h] at e
  injection e with e
  injection e with _ e
  exact hne e
theorem NoT.own {w : World} {base : Nat} {e T : TypeId} {size n : Nat} {v : Value} {xs : List Value} (h : w.ownsRow base e size v n xs) (hne : e ≠ T) : NoT w (fun k => v.ownBlock = some k) T := fun k hk cs' fr' e2 => by
  rcases h.2 with ⟨e1, _⟩ | ⟨g, cap, cur, e1, _, hg, _⟩
  · rw [e1] at hk; simp [Value.ownBlock] at hk
  · rw [e1] at hk
    have : g = k := by simpa [Value.ownBlock] using hk
    subst this
    rw [hg] at e2
    injection e2 with e2
    injection e2 with _ e2
    exact hne e2
theorem own_noT {w w' : World} {F : Nat → Prop} {base : Nat} {e : TypeId} {size n : Nat} {v : Value} {xs : List Value} (h : w.ownsRow base e size v n xs) (hk : Kept F w w') (hn : NoT w F e) : w'.ownsRow base e size v n xs :=
  hk.own h fun g hg hf => by
    rcases h.2 with ⟨e1, _⟩ | ⟨g', cap, cur, e1, _, hb, _⟩
    · rw [e1] at hg; simp [Value.ownBlock] at hg
    · rw [e1] at hg
      have : g' = g := by simpa [Value.ownBlock] using hg
      subst this
      exact hn g' hf _ _ hb
theorem Rows8.other {w w' : World} {G F : Nat → Prop} {v : Value} {ls : List (List UInt8)} (h : Rows8 w G v ls) (hk : Kept F w w') (h1 : NoT w F 29) (h2 : NoT w F 5) : Rows8 w' G v ls := by
  obtain ⟨vs, a, b, c⟩ := h
  refine ⟨vs, own_noT a hk h1, b, fun j l hj => ?_⟩
  obtain ⟨u, d, e, f⟩ := c j l hj
  exact ⟨u, d, own_noT e hk h2, f⟩
/-- a row is stored -/
theorem Rows8.set {w : World} {G : Nat → Prop} {v u : Value} {ls : List (List UInt8)} {g c j : Nat} {l : List UInt8} (h : Rows8 w G v ls) (hv : v = .slice (some ⟨g, 0, none⟩) ls.length c) (hj : j < ls.length) (hu : Own8 w 0 u l) (hG : ∀ k, u.ownBlock = some k → G k) : Rows8 (w.setCell ⟨g, j, none⟩ u) G v (ls.set j l) := by
  obtain ⟨vs, a, b, d⟩ := h
  have hvl : vs.length = ls.length := by have := a.1; omega
  rcases a.2 with ⟨e, h0⟩ | ⟨g', cap, cur, e, hb, hg, hn, hm, hcs, htk⟩
  · rw [h0] at hj; exact absurd hj (Nat.not_lt_zero _)
  rw [hv] at e
  injection e with e1 e2 e3
  injection e1 with e1
  injection e1 with e1
  subst e1
  have hk : Kept (fun k => k = g) w (w.setCell ⟨g, j, none⟩ u) := (Kept.refl (fun k => k = g) w).setCell (p := ⟨g, j, none⟩) (.inl rfl) u
  have hn8 : NoT w (fun k => k = g) 5 := NoT.of hg (by decide)
  have hsz : ls.length ≤ cur.size := by omega
  refine ⟨vs.set j u, ⟨by rw [List.length_set, List.length_set]; omega, .inr ⟨g, cap, _, by rw [hv, e3, List.length_set], hb, set_block hg j u, by rw [List.length_set]; exact hn, hm, by simpa using hcs, ?_⟩⟩, b, fun i m hi => ?_⟩
  · rw [List.length_set, ← htk]
    rw [Array.toList_setIfInBounds]
    rw [List.take_set]
  · rw [List.getElem?_set] at hi
    by_cases hij : j = i
    · subst hij
      rw [if_pos rfl, if_pos hj] at hi
      injection hi with hi
      subst hi
      exact ⟨u, by rw [List.getElem?_set, if_pos rfl, if_pos (by omega)], own_noT hu hk hn8, hG⟩
    · rw [if_neg hij] at hi
      obtain ⟨y, h4, h5, h6⟩ := d i m hi
      exact ⟨y, by rw [List.getElem?_set, if_neg hij]; exact h4, own_noT h5 hk hn8, h6⟩
/-- v is a row of waiting writes -/
def RWaits (w : World) (G : Nat → Prop) (v : Value) (ws : List (Nat × Sector)) : Prop :=
  ∃ xs : List Value, w.ownsRow 0 117 2 v ws.length xs ∧ (∀ g, v.ownBlock = some g → G g) ∧ ∀ (j : Nat) (x : Nat × Sector), ws[j]? = some x → ∃ u, xs[2 * j]? = some (.int .i64 (x.1 : Int)) ∧ xs[2 * j + 1]? = some u ∧ Own8 w 0 u x.2 ∧ ∀ g, u.ownBlock = some g → G g
theorem RWaits.nil (w : World) (G : Nat → Prop) : RWaits w G (.slice none 0 0) [] := ⟨[], World.ownsRow_nil _ _ _ _, fun g hg => by simp [Value.ownBlock] at hg, fun j l hj => by simp at hj⟩
theorem RWaits.shape {w : World} {G : Nat → Prop} {v : Value} {ws : List (Nat × Sector)} (h : RWaits w G v ws) : ∃ A c, v = .slice A ws.length c ∧ ws.length ≤ c := by
  obtain ⟨vs, h1, _⟩ := h
  exact own_shape h1
theorem RWaits.kept {w w' : World} {G F : Nat → Prop} {v : Value} {ws : List (Nat × Sector)} (h : RWaits w G v ws) (hk : Kept F w w') (hd : ∀ k, G k → ¬ F k) : RWaits w' G v ws := by
  obtain ⟨xs, a, b, c⟩ := h
  refine ⟨xs, hk.own a (fun g hg => hd g (b g hg)), b, fun j x hj => ?_⟩
  obtain ⟨u, d, e, f, i⟩ := c j x hj
  exact ⟨u, d, e, f.keep hk (fun g hg => hd g (i g hg)), i⟩
theorem RWaits.other {w w' : World} {G F : Nat → Prop} {v : Value} {ws : List (Nat × Sector)} (h : RWaits w G v ws) (hk : Kept F w w') (h1 : NoT w F 117) (h2 : NoT w F 5) : RWaits w' G v ws := by
  obtain ⟨xs, a, b, c⟩ := h
  refine ⟨xs, own_noT a hk h1, b, fun j x hj => ?_⟩
  obtain ⟨u, d, e, f, i⟩ := c j x hj
  exact ⟨u, d, e, own_noT f hk h2, i⟩
theorem RWaits.mono {w : World} {G H : Nat → Prop} {v : Value} {ws : List (Nat × Sector)} (h : RWaits w G v ws) (hs : ∀ k, G k → H k) : RWaits w H v ws := by
  obtain ⟨xs, a, b, c⟩ := h
  refine ⟨xs, a, fun g hg => hs g (b g hg), fun j x hj => ?_⟩
  obtain ⟨u, d, e, f, i⟩ := c j x hj
  exact ⟨u, d, e, f, fun g hg => hs g (i g hg)⟩
theorem RWaits.lt {w : World} {G : Nat → Prop} {v : Value} {ws : List (Nat × Sector)} (h : RWaits w G v ws) : RWaits w (fun k => G k ∧ k < w.heap.size) v ws := by
  obtain ⟨xs, a, b, c⟩ := h
  refine ⟨xs, a, fun g hg => ⟨b g hg, (a.lt g hg).2⟩, fun j x hj => ?_⟩
  obtain ⟨u, d, e, f, i⟩ := c j x hj
  exact ⟨u, d, e, f, fun g hg => ⟨i g hg, (f.lt g hg).2⟩⟩
theorem RWaits.at_ {w : World} {G : Nat → Prop} {v : Value} {ws : List (Nat × Sector)} (h : RWaits w G v ws) {j : Nat} {x : Nat × Sector} (hj : ws[j]? = some x) :
    ∃ g c u, v = .slice (some ⟨g, 0, none⟩) ws.length c ∧ ws.length ≤ c ∧ g < w.heap.size ∧ G g ∧ w.cell? ⟨g, j * 2, none⟩ = some (.int .i64 (x.1 : Int)) ∧ w.cell? ⟨g, j * 2 + 1, none⟩ = some u ∧ Own8 w 0 u x.2 ∧ ∀ k, u.ownBlock = some k → G k := by
  obtain ⟨xs, a, b, c⟩ := h
  have hlt : j < ws.length := (List.getElem?_eq_some_iff.1 hj).1
  obtain ⟨u, d, e, f, i⟩ := c j x hj
  have hce : ∀ g, _ := fun g => a.cells (g := g)
  rcases a.2 with ⟨_, h0⟩ | ⟨g, cap, cur, rfl, hb, hg, hn, _⟩
  · rw [h0] at hlt; exact absurd hlt (Nat.not_lt_zero _)
  · refine ⟨g, cap, u, rfl, hn, heap_lt hg, b g rfl, ?_, ?_, f, i⟩
    · have := hce g rfl _ _ d
      rwa [Addr.add_lit, Nat.zero_add, Nat.mul_comm] at this
    · have := hce g rfl _ _ e
      rwa [Addr.add_lit, Nat.zero_add, Nat.mul_comm] at this
/-- the power of both disks -/
def ArmRel (d : Dk) (ar : Bool) (lf : Int) (c : Nat) : Prop :=
  (-9223372036854775808 ≤ lf ∧ lf ≤ 9223372036854775807) ∧ (d.dead = true → d.armed = 0) ∧ (d.dead = false → (ar = false ∧ d.armed = 0) ∨ (ar = true ∧ 0 ≤ lf ∧ ((d.armed : Int) = lf + 1 ∨ ((d.armed : Int) = lf ∧ 9223372036854775807 ≤ lf + c))))
structure RDiskB (w : World) (G : Nat → Prop) (p : Nat) (vf vw : Value) (ar : Bool) (lf : Int) (d : Dk) (c : Nat) : Prop where
  blk : w.heap[p]? = some (.cells #[vf, vw, .bool ar, .int .i64 lf, .bool d.dead] 61 (0, 0))
  fast : Rows8 w G vf d.fast
  waits : RWaits w G vw d.waits
  pos : 0 < d.fast.length
  max : d.fast.length ≤ 65536
  sec : ∀ s ∈ d.fast, s.length = 64
  wsec : ∀ x ∈ d.waits, x.1 < d.fast.length ∧ x.2.length = 64
  few : d.waits.length ≤ 100000
  arm : ArmRel d ar lf c
  cnt : c ≤ 1000000
def RDiskAt (w : World) (G : Nat → Prop) (p : Nat) (d : Dk) (c : Nat) : Prop := G p ∧ ∃ vf vw ar lf, RDiskB w G p vf vw ar lf d c
theorem RDiskAt.kept {w w' : World} {G F : Nat → Prop} {p : Nat} {d : Dk} {c : Nat} (h : RDiskAt w G p d c) (hk : Kept F w w') (hd : ∀ k, G k → ¬ F k) : RDiskAt w' G p d c := by
  obtain ⟨hp, vf, vw, ar, lf, h⟩ := h
  exact ⟨hp, vf, vw, ar, lf, hk.heap h.blk (hd p hp), h.fast.kept hk hd, h.waits.kept hk hd, h.pos, h.max, h.sec, h.wsec, h.few, h.arm, h.cnt⟩
theorem RDiskAt.below {w w' : World} {G : Nat → Prop} {p : Nat} {d : Dk} {c : Nat} (h : RDiskAt w G p d c) (hb : Below w.heap.size w w') : RDiskAt w' G p d c := h.kept (Kept.of_below (F := fun _ => False) hb) (fun _ _ h => h)
theorem RDiskAt.mono {w : World} {G H : Nat → Prop} {p : Nat} {d : Dk} {c : Nat} (h : RDiskAt w G p d c) (hs : ∀ k, G k → H k) : RDiskAt w H p d c := by
  obtain ⟨hp, vf, vw, ar, lf, h⟩ := h
  exact ⟨hs p hp, vf, vw, ar, lf, h.blk, h.fast.mono hs, h.waits.mono hs, h.pos, h.max, h.sec, h.wsec, h.few, h.arm, h.cnt⟩
theorem RDiskAt.lt {w : World} {G : Nat → Prop} {p : Nat} {d : Dk} {c : Nat} (h : RDiskAt w G p d c) : RDiskAt w (fun k => G k ∧ k < w.heap.size) p d c := by
  obtain ⟨hp, vf, vw, ar, lf, h⟩ := h
  exact ⟨⟨hp, heap_lt h.blk⟩, vf, vw, ar, lf, h.blk, h.fast.lt, h.waits.lt, h.pos, h.max, h.sec, h.wsec, h.few, h.arm, h.cnt⟩
theorem RDiskB.cells {w : World} {G : Nat → Prop} {p : Nat} {vf vw : Value} {ar : Bool} {lf : Int} {d : Dk} {c : Nat} (h : RDiskB w G p vf vw ar lf d c) :
    w.cell? ⟨p, 0, none⟩ = some vf ∧ w.cell? ⟨p, 1, none⟩ = some vw ∧ w.cell? ⟨p, 2, none⟩ = some (.bool ar) ∧ w.cell? ⟨p, 3, none⟩ = some (.int .i64 lf) ∧ w.cell? ⟨p, 4, none⟩ = some (.bool d.dead) ∧ ∀ i, w.frozen? ⟨p, i, none⟩ = false :=
  ⟨block_cell h.blk, block_cell h.blk, block_cell h.blk, block_cell h.blk, block_cell h.blk, fun _ => block_free h.blk⟩
/-- the disk's own block is stored into -/
theorem RDiskB.setP {w : World} {G : Nat → Prop} {p : Nat} {vf vw : Value} {ar : Bool} {lf : Int} {d : Dk} {c : Nat} (h : RDiskB w G p vf vw ar lf d c) (i : Nat) (u : Value) :
    Rows8 (w.setCell ⟨p, i, none⟩ u) G vf d.fast ∧ RWaits (w.setCell ⟨p, i, none⟩ u) G vw d.waits := by
  have hk : Kept (fun k => k = p) w (w.setCell ⟨p, i, none⟩ u) := (Kept.refl (fun k => k = p) w).setCell (p := ⟨p, i, none⟩) (.inl rfl) u
  exact ⟨h.fast.other hk (NoT.of h.blk (by decide)) (NoT.of h.blk (by decide)), h.waits.other hk (NoT.of h.blk (by decide)) (NoT.of h.blk (by decide))⟩
theorem RDiskB.set2 {w : World} {G : Nat → Prop} {p : Nat} {vf vw : Value} {ar : Bool} {lf : Int} {d : Dk} {c : Nat} (h : RDiskB w G p vf vw ar lf d c) (b : Bool) (d' : Dk) (hf : d'.fast = d.fast) (hw : d'.waits = d.waits) (hd : d'.dead = d.dead) (c' : Nat) (hc : c' ≤ 1000000) (ha : ArmRel d' b lf c') : RDiskB (w.setCell ⟨p, 2, none⟩ (.bool b)) G p vf vw b lf d' c' := by
  obtain ⟨h1, h2⟩ := h.setP 2 (.bool b)
  obtain ⟨f, wt, a, dd⟩ := d'
  obtain ⟨f', wt', a', dd'⟩ := d
  simp only at hf hw hd
  subst hf hw hd
  exact ⟨set_block h.blk 2 _, h1, h2, h.pos, h.max, h.sec, h.wsec, h.few, ha, hc⟩
theorem RDiskB.set3 {w : World} {G : Nat → Prop} {p : Nat} {vf vw : Value} {ar : Bool} {lf : Int} {d : Dk} {c : Nat} (h : RDiskB w G p vf vw ar lf d c) (x : Int) (d' : Dk) (hf : d'.fast = d.fast) (hw : d'.waits = d.waits) (hd : d'.dead = d.dead) (c' : Nat) (hc : c' ≤ 1000000) (ha : ArmRel d' ar x c') : RDiskB (w.setCell ⟨p, 3, none⟩ (.int .i64 x)) G p vf vw ar x d' c' := by
  obtain ⟨h1, h2⟩ := h.setP 3 (.int .i64 x)
  obtain ⟨f, wt, a, dd⟩ := d'
  obtain ⟨f', wt', a', dd'⟩ := d
  simp only at hf hw hd
  subst hf hw hd
  exact ⟨set_block h.blk 3 _, h1, h2, h.pos, h.max, h.sec, h.wsec, h.few, ha, hc⟩
theorem RDiskB.set4 {w : World} {G : Nat → Prop} {p : Nat} {vf vw : Value} {ar : Bool} {lf : Int} {d : Dk} {c : Nat} (h : RDiskB w G p vf vw ar lf d c) (b : Bool) (d' : Dk) (hf : d'.fast = d.fast) (hw : d'.waits = d.waits) (hd : d'.dead = b) (c' : Nat) (hc : c' ≤ 1000000) (ha : ArmRel d' ar lf c') : RDiskB (w.setCell ⟨p, 4, none⟩ (.bool b)) G p vf vw ar lf d' c' := by
  obtain ⟨h1, h2⟩ := h.setP 4 (.bool b)
  obtain ⟨f, wt, a, dd⟩ := d'
  obtain ⟨f', wt', a', dd'⟩ := d
  simp only at hf hw hd
  subst hf hw hd
  exact ⟨set_block h.blk 4 _, h1, h2, h.pos, h.max, h.sec, h.wsec, h.few, ha, hc⟩
end Go.Proofs.YtckihiiimomgfaaDoor
