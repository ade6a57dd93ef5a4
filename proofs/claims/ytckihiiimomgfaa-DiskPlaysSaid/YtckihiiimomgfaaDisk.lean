/- A disk in memory; the contracts of its readers: Len, ok, Waits, Power, New. -/
import Derived.Test.YtckihiiimomgfaaDiskMath
import Derived.Test.YtckihiiimomgfaaRowV
import Derived.Test.YtckihiiimomgfaaMapInt
import Derived.Test.YtckihiiimomgfaaZeros
import Derived.Test.YtckihiiimomgfaaClone
namespace Go.Proofs.Ytckihiiimomgfaa
open Go.RowKit DiskMath
/-- a sector's value -/
abbrev secV (s : List UInt8) : Value := .agg (bvs s).toArray
/-- what a map holds behind writes -/
def nowOf (ws : List (Nat × List UInt8)) : List (Int × Value) := ws.foldl (fun m x => putL (x.1 : Int) (secV x.2) m) []
def wcells (ws : List (Nat × List UInt8)) : List Value := ws.flatMap fun x => .int .i64 (x.1 : Int) :: bvs x.2
theorem nowOf_snoc (ws : List (Nat × List UInt8)) (x : Nat × List UInt8) : nowOf (ws ++ [x]) = putL (x.1 : Int) (secV x.2) (nowOf ws) := by simp [nowOf]
theorem wcells_snoc (ws : List (Nat × List UInt8)) (x : Nat × List UInt8) : wcells (ws ++ [x]) = wcells ws ++ (.int .i64 (x.1 : Int) :: bvs x.2) := by simp [wcells]
/-- a sector is what was written last, or what is fast -/
theorem look_view (fast : List (List UInt8)) : ∀ (ws : List (Nat × List UInt8)) (i : Nat), i < fast.length →
    (lookL (i : Int) (nowOf ws) = none ∧ (ws.foldl (fun f x => f.set x.1 x.2) fast)[i]? = fast[i]?) ∨ (∃ s, lookL (i : Int) (nowOf ws) = some (secV s) ∧ (ws.foldl (fun f x => f.set x.1 x.2) fast)[i]? = some s ∧ ∃ k, (k, s) ∈ ws) := by
  have gen : ∀ (ws : List (Nat × List UInt8)) (r : List (Nat × List UInt8)), ws = r.reverse → ∀ i, i < fast.length →
      (lookL (i : Int) (nowOf ws) = none ∧ (ws.foldl (fun f x => f.set x.1 x.2) fast)[i]? = fast[i]?) ∨ (∃ s, lookL (i : Int) (nowOf ws) = some (secV s) ∧ (ws.foldl (fun f x => f.set x.1 x.2) fast)[i]? = some s ∧ ∃ k, (k, s) ∈ ws) := by
    intro ws r
    induction r generalizing ws with
    | nil => intro h i _; subst h; left; exact ⟨rfl, rfl⟩
    | cons x r ih =>
      intro h i hi
      rw [List.reverse_cons] at h
      subst h
      have hlen : (r.reverse.foldl (fun f x => f.set x.1 x.2) fast).length = fast.length := by
        have g : ∀ (l : List (Nat × List UInt8)) (f : List (List UInt8)), (l.foldl (fun f x => f.set x.1 x.2) f).length = f.length := by
          intro l
          induction l with
          | nil => intro f; rfl
          | cons w l ih => intro f; rw [List.foldl_cons, ih]; simp
        exact g _ _
      rw [nowOf_snoc, lookL_putL, List.foldl_append, List.foldl_cons, List.foldl_nil, List.getElem?_set]
      by_cases e : x.1 = i
      · right
        refine ⟨x.2, by rw [if_pos (by omega)], by rw [if_pos e, if_pos (by omega)], x.1, by simp⟩
      · rw [if_neg (by omega), if_neg e]
        rcases ih r.reverse rfl i hi with ⟨h1, h2⟩ | ⟨s, h1, h2, k, h3⟩
        · exact .inl ⟨h1, h2⟩
        · exact .inr ⟨s, h1, h2, k, by simp at h3 ⊢; exact .inl h3⟩
  intro ws i hi
  exact gen ws ws.reverse (by simp) i hi
/-- a disk lies in these blocks -/
structure DiskB (w : World) (p gf gm n : Nat) (vw : Value) (d : Dk) : Prop where
  blk : w.heap[p]? = some (.cells #[.slice (some ⟨gf, 0, none⟩) n n, .map (some gm), vw, .int .i64 (d.armed : Nat), .bool d.dead] 64 (0, 0))
  fast : RowV w gf 66 (flat d.fast)
  map : MapIs w gm (nowOf d.waits)
  waits : w.ownsRow 0 68 65 vw d.waits.length (wcells d.waits)
  len : d.fast.length = n
  pos : 0 < n
  max : n ≤ 65536
  sec : ∀ s ∈ d.fast, s.length = 64
  wsec : ∀ x ∈ d.waits, x.1 < n ∧ x.2.length = 64
  few : d.waits.length ≤ 100000
  arm : d.armed ≤ 9223372036854775807
/-- block p is a disk, with all its memory among F -/
def DiskAt (w : World) (F : Nat → Prop) (p : Nat) (d : Dk) : Prop := ∃ gf gm n vw, DiskB w p gf gm n vw d ∧ F p ∧ F gf ∧ F gm ∧ ∀ g, vw.ownBlock = some g → F g
theorem DiskB.ne {w : World} {p gf gm n : Nat} {vw : Value} {d : Dk} (h : DiskB w p gf gm n vw d) : p ≠ gf ∧ p ≠ gm ∧ gf ≠ gm ∧ (∀ g, vw.ownBlock = some g → g ≠ p ∧ g ≠ gf ∧ g ≠ gm) := by
  obtain ⟨es, c, hm, _⟩ := h.map
  have hp := h.blk
  have hf : w.heap[gf]? = some (.cells (flat d.fast).toArray 66 (0, 0)) := h.fast
  refine ⟨fun e => ?_, fun e => ?_, fun e => ?_, fun g hg => ⟨fun e => ?_, fun e => ?_, fun e => ?_⟩⟩
  · subst e; rw [hp] at hf; simp at hf
  · subst e; rw [hp] at hm; simp at hm
  · subst e; rw [hf] at hm; simp at hm
  · subst e; exact own_ne h.waits hp (by decide) hg
  · subst e; exact own_ne h.waits hf (by decide) hg
  · subst e
    rcases h.waits.2 with ⟨e, _⟩ | ⟨g', cap, cur, e, _, hb, _⟩
    · rw [e] at hg; simp [Value.ownBlock] at hg
    · rw [e] at hg
      have : g' = g := by simpa [Value.ownBlock] using hg
      subst this
      rw [hb] at hm; simp at hm
theorem DiskB.lt {w : World} {p gf gm n : Nat} {vw : Value} {d : Dk} (h : DiskB w p gf gm n vw d) : p < w.heap.size ∧ gf < w.heap.size ∧ gm < w.heap.size ∧ (∀ g, vw.ownBlock = some g → g < w.heap.size) :=
  ⟨heap_lt h.blk, h.fast.lt, h.map.lt, fun g hg => (h.waits.lt g hg).2⟩
theorem DiskB.kept {w w' : World} {F : Nat → Prop} {p gf gm n : Nat} {vw : Value} {d : Dk} (h : DiskB w p gf gm n vw d) (hk : Kept F w w') (hp : ¬ F p) (hf : ¬ F gf) (hm : ¬ F gm) (hv : ∀ g, vw.ownBlock = some g → ¬ F g) : DiskB w' p gf gm n vw d :=
  ⟨hk.heap h.blk hp, h.fast.keep hk hf, h.map.kept hk hm, hk.own h.waits hv, h.len, h.pos, h.max, h.sec, h.wsec, h.few, h.arm⟩
theorem DiskAt.kept {w w' : World} {F G : Nat → Prop} {p : Nat} {d : Dk} (h : DiskAt w F p d) (hk : Kept G w w') (hd : ∀ k, F k → ¬ G k) : DiskAt w' F p d := by
  obtain ⟨gf, gm, n, vw, hb, h1, h2, h3, h4⟩ := h
  exact ⟨gf, gm, n, vw, hb.kept hk (hd _ h1) (hd _ h2) (hd _ h3) (fun g hg => hd _ (h4 g hg)), h1, h2, h3, h4⟩
theorem DiskAt.below {w w' : World} {F : Nat → Prop} {p : Nat} {d : Dk} (h : DiskAt w F p d) (hb : Below w.heap.size w w') : DiskAt w' F p d := h.kept (Kept.of_below (F := fun _ => False) hb) (fun _ _ h => h)
theorem DiskAt.mono {w : World} {F G : Nat → Prop} {p : Nat} {d : Dk} (h : DiskAt w F p d) (hs : ∀ k, F k → G k) : DiskAt w G p d := by
  obtain ⟨gf, gm, n, vw, hb, h1, h2, h3, h4⟩ := h
  exact ⟨gf, gm, n, vw, hb, hs _ h1, hs _ h2, hs _ h3, fun g hg => hs _ (h4 g hg)⟩
theorem DiskAt.lt {w : World} {F : Nat → Prop} {p : Nat} {d : Dk} (h : DiskAt w F p d) : DiskAt w (fun k => F k ∧ k < w.heap.size) p d := by
  obtain ⟨gf, gm, n, vw, hb, h1, h2, h3, h4⟩ := h
  obtain ⟨l1, l2, l3, l4⟩ := hb.lt
  exact ⟨gf, gm, n, vw, hb, ⟨h1, l1⟩, ⟨h2, l2⟩, ⟨h3, l3⟩, fun g hg => ⟨h4 g hg, l4 g hg⟩⟩
theorem DiskB.cells {w : World} {p gf gm n : Nat} {vw : Value} {d : Dk} (h : DiskB w p gf gm n vw d) : w.cell? ⟨p, 0, none⟩ = some (.slice (some ⟨gf, 0, none⟩) n n) ∧ w.cell? ⟨p, 1, none⟩ = some (.map (some gm)) ∧ w.cell? ⟨p, 2, none⟩ = some vw ∧ w.cell? ⟨p, 3, none⟩ = some (.int .i64 (d.armed : Nat)) ∧ w.cell? ⟨p, 4, none⟩ = some (.bool d.dead) ∧ ∀ i, w.frozen? ⟨p, i, none⟩ = false :=
  ⟨block_cell h.blk, block_cell h.blk, block_cell h.blk, block_cell h.blk, block_cell h.blk, fun _ => block_free h.blk⟩
theorem own65_shape {w : World} {base : Nat} {e : TypeId} {size n : Nat} {v : Value} {xs : List Value} (h : w.ownsRow base e size v n xs) : ∃ A c, v = .slice A n c ∧ n ≤ c := own_shape h
set_option maxHeartbeats 400000 in
theorem diskLen_any (w : World) (p gf gm n : Nat) (vw : Value) (d : Dk) (h : DiskB w p gf gm n vw d) : Calls Try.prog 29 #[.pointer (some ⟨p, 0, none⟩)] w fun e w' => e = .returned (.int .i64 (n : Nat)) ∧ w = w' := by
  obtain ⟨c0, _⟩ := h.cells
  clear h
  go_enter Try.func29, Try.ntmps29
  go_wp2_with fail
  go_ret
  exact ⟨rfl, rfl⟩
set_option maxHeartbeats 400000 in
theorem diskOk_any (w : World) (p gf gm n : Nat) (vw : Value) (d : Dk) (h : DiskB w p gf gm n vw d) : Calls Try.prog 31 #[.pointer (some ⟨p, 0, none⟩)] w fun e w' => e = .returned (.bool true) ∧ w = w' := by
  have hp := h.pos
  have HH := Lib.hid h
  clear h
  go_enter Try.func31, Try.ntmps31
  go_wp2_with fail
  refine (diskLen_any w p gf gm n vw d HH.out).mono ?_
  rintro e w' ⟨rfl, rfl⟩
  go_wp2_with fail
  go_ret
  exact ⟨rfl, rfl⟩
set_option maxHeartbeats 400000 in
theorem diskWaits_any (w : World) (F : Nat → Prop) (p : Nat) (d : Dk) (h : DiskAt w F p d) : Calls Try.prog 18 #[.pointer (some ⟨p, 0, none⟩)] w fun e w' => e = .returned (.int .i64 (d.waits.length : Nat)) ∧ w = w' := by
  obtain ⟨gf, gm, n, vw, hb, _⟩ := h
  obtain ⟨_, _, c2, _⟩ := hb.cells
  obtain ⟨A, c, rfl, _⟩ := own_shape hb.waits
  have HH := Lib.hid hb
  clear hb
  go_enter Try.func18, Try.ntmps18
  go_wp2_with fail
  refine (diskOk_any w p gf gm n _ d HH.out).mono ?_
  rintro e w' ⟨rfl, rfl⟩
  go_wp2_with fail
  go_ret
  exact ⟨rfl, rfl⟩
set_option maxHeartbeats 400000 in
theorem diskPower_any (w : World) (F : Nat → Prop) (p : Nat) (d : Dk) (h : DiskAt w F p d) : Calls Try.prog 19 #[.pointer (some ⟨p, 0, none⟩)] w fun e w' => e = .returned (.bool (!d.dead)) ∧ w = w' := by
  obtain ⟨gf, gm, n, vw, hb, _⟩ := h
  obtain ⟨_, _, _, _, c4, _⟩ := hb.cells
  have HH := Lib.hid hb
  clear hb
  go_enter Try.func19, Try.ntmps19
  go_wp2_with fail
  refine (diskOk_any w p gf gm n _ d HH.out).mono ?_
  rintro e w' ⟨rfl, rfl⟩
  go_wp2_with fail
  go_ret
  exact ⟨rfl, rfl⟩
theorem Kept.self {F : Nat → Prop} (w : World) : Kept F w w := Kept.refl F w
/-- a store into a disk's own block -/
theorem DiskB.set3 {w : World} {p gf gm n : Nat} {vw : Value} {d : Dk} (h : DiskB w p gf gm n vw d) (e : Int) (m : Nat) (he : e = (m : Int)) (hm : m ≤ 9223372036854775807) : DiskB (w.setCell ⟨p, 3, none⟩ (.int .i64 e)) p gf gm n vw { d with armed := m } := by
  subst he
  obtain ⟨n1, n2, n3, n4⟩ := h.ne
  have hk : Kept (fun k => k = p) w (w.setCell ⟨p, 3, none⟩ (.int .i64 (m : Int))) := (Kept.refl (fun k => k = p) w).setCell (p := ⟨p, 3, none⟩) (.inl rfl) _
  exact ⟨set_block h.blk 3 _, h.fast.keep hk (fun e => n1 e.symm), h.map.kept hk (fun e => n2 e.symm), hk.own h.waits (fun g hg => (n4 g hg).1), h.len, h.pos, h.max, h.sec, h.wsec, h.few, hm⟩
theorem DiskB.set4 {w : World} {p gf gm n : Nat} {vw : Value} {d : Dk} (h : DiskB w p gf gm n vw d) (b : Bool) : DiskB (w.setCell ⟨p, 4, none⟩ (.bool b)) p gf gm n vw { d with dead := b } := by
  obtain ⟨n1, n2, n3, n4⟩ := h.ne
  have hk : Kept (fun k => k = p) w (w.setCell ⟨p, 4, none⟩ (.bool b)) := (Kept.refl (fun k => k = p) w).setCell (p := ⟨p, 4, none⟩) (.inl rfl) _
  exact ⟨set_block h.blk 4 _, h.fast.keep hk (fun e => n1 e.symm), h.map.kept hk (fun e => n2 e.symm), hk.own h.waits (fun g hg => (n4 g hg).1), h.len, h.pos, h.max, h.sec, h.wsec, h.few, h.arm⟩
theorem DiskB.keptP {w : World} {p i : Nat} {v : Value} {F : Nat → Prop} (hp : F p) : Kept F w (w.setCell ⟨p, i, none⟩ v) := (Kept.refl F w).setCell (p := ⟨p, i, none⟩) (.inl hp) _
set_option maxHeartbeats 1000000 in
theorem diskStep_any (w : World) (F : Nat → Prop) (p gf gm n : Nat) (vw : Value) (d : Dk) (h : DiskB w p gf gm n vw d) (hFp : F p) :
    Calls Try.prog 32 #[.pointer (some ⟨p, 0, none⟩)] w fun e w' => e = .returned (.int .i64 (if (DiskMath.step d).2 then 0 else 7)) ∧ DiskB w' p gf gm n vw (DiskMath.step d).1 ∧ Kept F w w' ∧ w'.heap.size = w.heap.size := by
  obtain ⟨_, _, _, c3, c4, f⟩ := h.cells
  have f3 := f 3
  have f4 := f 4
  have harm := h.arm
  obtain ⟨fast, waits, armed, dead⟩ := d
  simp only at c3 c4 harm
  have HH := Lib.hid h
  clear h f
  go_enter Try.func32, Try.ntmps32
  by_cases ha : 0 < armed
  · by_cases h1 : armed = 1
    · subst h1
      have hs : DiskMath.step ⟨fast, waits, 1, dead⟩ = (⟨fast, waits, 0, true⟩, false) := by unfold DiskMath.step; cases dead <;> simp
      rw [hs]
      go_wp2_with fail
      go_ret
      exact ⟨rfl, (HH.out.set3 _ 0 rfl (by decide)).set4 true, (DiskB.keptP hFp).trans (DiskB.keptP (F := F) hFp) (fun _ h => .inl h), by simp⟩
    · have hs : DiskMath.step ⟨fast, waits, armed, dead⟩ = (⟨fast, waits, armed - 1, dead⟩, !dead) := by
        unfold DiskMath.step
        rw [if_pos ha]
        have : (armed == 1) = false := by simpa using h1
        simp [this]
      rw [hs]
      have hne : ((armed : Int) - 1 == 0) = false := by rw [beq_eq_false_iff_ne]; omega
      have hd := (HH.out.set3 ((armed : Int) - 1) (armed - 1) (by omega) (by omega))
      have HD := Lib.hid hd
      clear hd
      cases dead
      · go_wp2_with fail
        go_ret
        exact ⟨rfl, HD.out, DiskB.keptP hFp, by simp⟩
      · go_wp2_with fail
        go_ret
        exact ⟨rfl, HD.out, DiskB.keptP hFp, by simp⟩
  · obtain rfl : armed = 0 := by omega
    have hs : DiskMath.step ⟨fast, waits, 0, dead⟩ = (⟨fast, waits, 0, dead⟩, !dead) := by unfold DiskMath.step; simp
    rw [hs]
    cases dead
    · go_wp2_with fail
      go_ret
      exact ⟨rfl, HH.out, Kept.refl _ _, rfl⟩
    · go_wp2_with fail
      go_ret
      exact ⟨rfl, HH.out, Kept.refl _ _, rfl⟩
end Go.Proofs.Ytckihiiimomgfaa
