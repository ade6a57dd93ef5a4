/- Texts laid as one: Disk, Disk2, Disk3, Disk4, Disk5, Disk6, Disk7. -/
import Derived.Test.YtckihiiimomgfaaDoorGMath
import Derived.Test.YtckihiiimomgfaaDoorGMem
import Derived.Test.YtckihiiimomgfaaDoorGReg
import Derived.Test.YtckihiiimomgfaaDoorGRow
import Derived.Laws.Cover3
import Derived.Deep.MidRow
import Derived.StillTailTactics
import Derived.IntWalk
namespace Go.Proofs.YtckihiiimomgfaaDoor
open Go.RowKit DiskMath
/-- a sector's value -/
abbrev secV (s : List UInt8) : Value := .agg (bvs s).toArray
/-- what a map holds behind writes -/
def nowOf (ws : List (Nat × List UInt8)) : List (Int × Value) := ws.foldl (fun m x => putL (x.1 : Int) (secV x.2) m) []
def wcells (ws : List (Nat × List UInt8)) : List Value := ws.flatMap fun x => .int .i64 (x.1 : Int) :: bvs x.2
theorem nowOf_snoc (ws : List (Nat × List UInt8)) (x : Nat × List UInt8) : nowOf (ws ++ [x]) = putL (x.1 : Int) (secV x.2) (nowOf ws) := by simp [nowOf]
theorem wcells_snoc (ws : List (Nat × List UInt8)) (x : Nat × List UInt8) : wcells (ws ++ [x]) = wcells ws ++ (.int .i64 (x.1 : Int) :: bvs x.2) := by simp [wcells]
/-- a sector is what was written last, or what is fast -/
theorem look_view (fast : List (List UInt8)) : ∀ (ws : List (Nat × List UInt8)) (i : Nat), i < fast.length →
    (lookL (i : Int) (nowOf ws) = none ∧ (ws.foldl (fun f x => f.set x.1 x.2) fast)[i]? = fast[i]?) ∨ (∃ s, lookL (i : Int) (nowOf ws) = some (secV s) ∧ (ws.foldl (fun f x => f.set x.1 x.2) fast)[i]? = some s ∧ ∃ k, (k, s) ∈ ws) := by
  have gen : ∀ (ws : List (Nat × List UInt8)) (r : List (Nat × List UInt8)), ws = r.reverse → ∀ i, i < fast.length →
      (lookL (i : Int) (nowOf ws) = none ∧ (ws.foldl (fun f x => f.set x.1 x.2) fast)[i]? = fast[i]?) ∨ (∃ s, lookL (i : Int) (nowOf ws) = some (secV s) ∧ (ws.foldl (fun f x => f.set x.1 x.2) fast)[i]? = some s ∧ ∃ k, (k, s) ∈ ws) := by
    intro ws r
    induction r generalizing ws with
    | nil => intro h i _; subst h; left; exact ⟨rfl, rfl⟩
    | cons x r ih =>
      intro h i hi
      rw [List.reverse_cons] at h
      subst h
      have hlen : (r.reverse.foldl (fun f x => f.set x.1 x.2) fast).length = fast.length := by
        have g : ∀ (l : List (Nat × List UInt8)) (f : List (List UInt8)), (l.foldl (fun f x => f.set x.1 x.2) f).length = f.length := by
          intro l
          induction l with
          | nil => intro f; rfl
          | cons w l ih => intro f; rw [List.foldl_cons, ih]; simp
        exact g _ _
      rw [nowOf_snoc, lookL_putL, List.foldl_append, List.foldl_cons, List.foldl_nil, List.getElem?_set]
      by_cases e : x.1 = i
      · right
        refine ⟨x.2, by rw [if_pos (by omega)], by rw [if_pos e, if_pos (by omega)], x.1, by simp⟩
      · rw [if_neg (by omega), if_neg e]
        rcases ih r.reverse rfl i hi with ⟨h1, h2⟩ | ⟨s, h1, h2, k, h3⟩
        · exact .inl ⟨h1, h2⟩
        · exact .inr ⟨s, h1, h2, k, by simp at h3 ⊢; exact .inl h3⟩
  intro ws i hi
  exact gen ws ws.reverse (by simp) i hi
/-- a disk lies in these blocks -/
structure DiskB (w : World) (p gf gm n : Nat) (vw : Value) (d : Dk) : Prop where
  blk : w.heap[p]? = some (.cells #[.slice (some ⟨gf, 0, none⟩) n n, .map (some gm), vw, .int .i64 (d.armed : Nat), .bool d.dead] 89 (0, 0))
  fast : RowV w gf 103 (flat d.fast)
  map : MapIs w gm (nowOf d.waits)
  waits : w.ownsRow 0 105 65 vw d.waits.length (wcells d.waits)
  len : d.fast.length = n
  pos : 0 < n
  max : n ≤ 65536
  sec : ∀ s ∈ d.fast, s.length = 64
  wsec : ∀ x ∈ d.waits, x.1 < n ∧ x.2.length = 64
  few : d.waits.length ≤ 100000
  arm : d.armed ≤ 9223372036854775807
/-- block p is a disk, with all its memory among F -/
def DiskAt (w : World) (F : Nat → Prop) (p : Nat) (d : Dk) : Prop := ∃ gf gm n vw, DiskB w p gf gm n vw d ∧ F p ∧ F gf ∧ F gm ∧ ∀ g, vw.ownBlock = some g → F g
theorem DiskB.ne {w : World} {p gf gm n : Nat} {vw : Value} {d : Dk} (h : DiskB w p gf gm n vw d) : p ≠ gf ∧ p ≠ gm ∧ gf ≠ gm ∧ (∀ g, vw.ownBlock = some g → g ≠ p ∧ g ≠ gf ∧ g ≠ gm) := by
  obtain ⟨es, c, hm, _⟩ := h.map
  have hp := h.blk
  have hf : w.heap[gf]? = some (.cells (flat d.fast).toArray 103 (0, 0)) := h.fast
  refine ⟨fun e => ?_, fun e => ?_, fun e => ?_, fun g hg => ⟨fun e => ?_, fun e => ?_, fun e => ?_⟩⟩
  · subst e; rw [hp] at hf; simp at hf
  · subst e; rw [hp] at hm; simp at hm
  · subst e; rw [hf] at hm; simp at hm
  · subst e; exact own_ne h.waits hp (by decide) hg
  · subst e; exact own_ne h.waits hf (by decide) hg
  · subst e
    rcases h.waits.2 with ⟨e, _⟩ | ⟨g', cap, cur, e, _, hb, _⟩
    · rw [e] at hg; simp [Value.ownBlock] at hg
    · rw [e] at hg
      have : g' = g := by simpa [Value.ownBlock] using hg
      subst this
      rw [hb] at hm; simp at hm
theorem DiskB.lt {w : World} {p gf gm n : Nat} {vw : Value} {d : Dk} (h : DiskB w p gf gm n vw d) : p < w.heap.size ∧ gf < w.heap.size ∧ gm < w.heap.size ∧ (∀ g, vw.ownBlock = some g → g < w.heap.size) :=
  ⟨heap_lt h.blk, h.fast.lt, h.map.lt, fun g hg => (h.waits.lt g hg).2⟩
theorem DiskB.kept {w w' : World} {F : Nat → Prop} {p gf gm n : Nat} {vw : Value} {d : Dk} (h : DiskB w p gf gm n vw d) (hk : Kept F w w') (hp : ¬ F p) (hf : ¬ F gf) (hm : ¬ F gm) (hv : ∀ g, vw.ownBlock = some g → ¬ F g) : DiskB w' p gf gm n vw d :=
  ⟨hk.heap h.blk hp, h.fast.keep hk hf, h.map.kept hk hm, hk.own h.waits hv, h.len, h.pos, h.max, h.sec, h.wsec, h.few, h.arm⟩
theorem DiskAt.kept {w w' : World} {F G : Nat → Prop} {p : Nat} {d : Dk} (h : DiskAt w F p d) (hk : Kept G w w') (hd : ∀ k, F k → ¬ G k) : DiskAt w' F p d := by
  obtain ⟨gf, gm, n, vw, hb, h1, h2, h3, h4⟩ := h
  exact ⟨gf, gm, n, vw, hb.kept hk (hd _ h1) (hd _ h2) (hd _ h3) (fun g hg => hd _ (h4 g hg)), h1, h2, h3, h4⟩
theorem DiskAt.below {w w' : World} {F : Nat → Prop} {p : Nat} {d : Dk} (h : DiskAt w F p d) (hb : Below w.heap.size w w') : DiskAt w' F p d := h.kept (Kept.of_below (F := fun _ => False) hb) (fun _ _ h => h)
theorem DiskAt.mono {w : World} {F G : Nat → Prop} {p : Nat} {d : Dk} (h : DiskAt w F p d) (hs : ∀ k, F k → G k) : DiskAt w G p d := by
  obtain ⟨gf, gm, n, vw, hb, h1, h2, h3, h4⟩ := h
  exact ⟨gf, gm, n, vw, hb, hs _ h1, hs _ h2, hs _ h3, fun g hg => hs _ (h4 g hg)⟩
theorem DiskAt.lt {w : World} {F : Nat → Prop} {p : Nat} {d : Dk} (h : DiskAt w F p d) : DiskAt w (fun k => F k ∧ k < w.heap.size) p d := by
  obtain ⟨gf, gm, n, vw, hb, h1, h2, h3, h4⟩ := h
  obtain ⟨l1, l2, l3, l4⟩ := hb.lt
  exact ⟨gf, gm, n, vw, hb, ⟨h1, l1⟩, ⟨h2, l2⟩, ⟨h3, l3⟩, fun g hg => ⟨h4 g hg, l4 g hg⟩⟩
theorem DiskB.cells {w : World} {p gf gm n : Nat} {vw : Value} {d : Dk} (h : DiskB w p gf gm n vw d) : w.cell? ⟨p, 0, none⟩ = some (.slice (some ⟨gf, 0, none⟩) n n) ∧ w.cell? ⟨p, 1, none⟩ = some (.map (some gm)) ∧ w.cell? ⟨p, 2, none⟩ = some vw ∧ w.cell? ⟨p, 3, none⟩ = some (.int .i64 (d.armed : Nat)) ∧ w.cell? ⟨p, 4, none⟩ = some (.bool d.dead) ∧ ∀ i, w.frozen? ⟨p, i, none⟩ = false :=
  ⟨block_cell h.blk, block_cell h.blk, block_cell h.blk, block_cell h.blk, block_cell h.blk, fun _ => block_free h.blk⟩
theorem own65_shape {w : World} {base : Nat} {e : TypeId} {size n : Nat} {v : Value} {xs : List Value} (h : w.ownsRow base e size v n xs) : ∃ A c, v = .slice A n c ∧ n ≤ c := own_shape h
set_option maxHeartbeats 400000 in
theorem diskLen_any (w : World) (p gf gm n : Nat) (vw : Value) (d : Dk) (h : DiskB w p gf gm n vw d) : Calls Tryd.prog 69 #[.pointer (some ⟨p, 0, none⟩)] w fun e w' => e = .returned (.int .i64 (n : Nat)) ∧ w = w' := by
  obtain ⟨c0, _⟩ := h.cells
  clear h
  go_enter Tryd.func69, Tryd.ntmps69
  go_wp2_with fail
  go_ret
  exact ⟨rfl, rfl⟩
set_option maxHeartbeats 400000 in
theorem diskOk_any (w : World) (p gf gm n : Nat) (vw : Value) (d : Dk) (h : DiskB w p gf gm n vw d) : Calls Tryd.prog 44 #[.pointer (some ⟨p, 0, none⟩)] w fun e w' => e = .returned (.bool true) ∧ w = w' := by
  have hp := h.pos
  have HH := Lib.hid h
  clear h
  go_enter Tryd.func44, Tryd.ntmps44
  go_wp2_with fail
  refine (diskLen_any w p gf gm n vw d HH.out).mono ?_
  rintro e w' ⟨rfl, rfl⟩
  go_wp2_with fail
  go_ret
  exact ⟨rfl, rfl⟩
set_option maxHeartbeats 400000 in
theorem diskWaits_any (w : World) (F : Nat → Prop) (p : Nat) (d : Dk) (h : DiskAt w F p d) : Calls Tryd.prog 29 #[.pointer (some ⟨p, 0, none⟩)] w fun e w' => e = .returned (.int .i64 (d.waits.length : Nat)) ∧ w = w' := by
  obtain ⟨gf, gm, n, vw, hb, _⟩ := h
  obtain ⟨_, _, c2, _⟩ := hb.cells
  obtain ⟨A, c, rfl, _⟩ := own_shape hb.waits
  have HH := Lib.hid hb
  clear hb
  go_enter Tryd.func29, Tryd.ntmps29
  go_wp2_with fail
  refine (diskOk_any w p gf gm n _ d HH.out).mono ?_
  rintro e w' ⟨rfl, rfl⟩
  go_wp2_with fail
  go_ret
  exact ⟨rfl, rfl⟩
set_option maxHeartbeats 400000 in
theorem diskPower_any (w : World) (F : Nat → Prop) (p : Nat) (d : Dk) (h : DiskAt w F p d) : Calls Tryd.prog 15 #[.pointer (some ⟨p, 0, none⟩)] w fun e w' => e = .returned (.bool (!d.dead)) ∧ w = w' := by
  obtain ⟨gf, gm, n, vw, hb, _⟩ := h
  obtain ⟨_, _, _, _, c4, _⟩ := hb.cells
  have HH := Lib.hid hb
  clear hb
  go_enter Tryd.func15, Tryd.ntmps15
  go_wp2_with fail
  refine (diskOk_any w p gf gm n _ d HH.out).mono ?_
  rintro e w' ⟨rfl, rfl⟩
  go_wp2_with fail
  go_ret
  exact ⟨rfl, rfl⟩
theorem Kept.self {F : Nat → Prop} (w : World) : Kept F w w := Kept.refl F w
/-- a store into a disk's own block -/
theorem DiskB.set3 {w : World} {p gf gm n : Nat} {vw : Value} {d : Dk} (h : DiskB w p gf gm n vw d) (e : Int) (m : Nat) (he : e = (m : Int)) (hm : m ≤ 9223372036854775807) : DiskB (w.setCell ⟨p, 3, none⟩ (.int .i64 e)) p gf gm n vw { d with armed := m } := by
  subst he
  obtain ⟨n1, n2, n3, n4⟩ := h.ne
  have hk : Kept (fun k => k = p) w (w.setCell ⟨p, 3, none⟩ (.int .i64 (m : Int))) := (Kept.refl (fun k => k = p) w).setCell (p := ⟨p, 3, none⟩) (.inl rfl) _
  exact ⟨set_block h.blk 3 _, h.fast.keep hk (fun e => n1 e.symm), h.map.kept hk (fun e => n2 e.symm), hk.own h.waits (fun g hg => (n4 g hg).1), h.len, h.pos, h.max, h.sec, h.wsec, h.few, hm⟩
theorem DiskB.set4 {w : World} {p gf gm n : Nat} {vw : Value} {d : Dk} (h : DiskB w p gf gm n vw d) (b : Bool) : DiskB (w.setCell ⟨p, 4, none⟩ (.bool b)) p gf gm n vw { d with dead := b } := by
  obtain ⟨n1, n2, n3, n4⟩ := h.ne
  have hk : Kept (fun k => k = p) w (w.setCell ⟨p, 4, none⟩ (.bool b)) := (Kept.refl (fun k => k = p) w).setCell (p := ⟨p, 4, none⟩) (.inl rfl) _
  exact ⟨set_block h.blk 4 _, h.fast.keep hk (fun e => n1 e.symm), h.map.kept hk (fun e => n2 e.symm), hk.own h.waits (fun g hg => (n4 g hg).1), h.len, h.pos, h.max, h.sec, h.wsec, h.few, h.arm⟩
theorem DiskB.keptP {w : World} {p i : Nat} {v : Value} {F : Nat → Prop} (hp : F p) : Kept F w (w.setCell ⟨p, i, none⟩ v) := (Kept.refl F w).setCell (p := ⟨p, i, none⟩) (.inl hp) _
set_option maxHeartbeats 1000000 in
theorem diskStep_any (w : World) (F : Nat → Prop) (p gf gm n : Nat) (vw : Value) (d : Dk) (h : DiskB w p gf gm n vw d) (hFp : F p) :
    Calls Tryd.prog 99 #[.pointer (some ⟨p, 0, none⟩)] w fun e w' => e = .returned (.int .i64 (if (DiskMath.step d).2 then 0 else 7)) ∧ DiskB w' p gf gm n vw (DiskMath.step d).1 ∧ Kept F w w' ∧ w'.heap.size = w.heap.size := by
  obtain ⟨_, _, _, c3, c4, f⟩ := h.cells
  have f3 := f 3
  have f4 := f 4
  have harm := h.arm
  obtain ⟨fast, waits, armed, dead⟩ := d
  simp only at c3 c4 harm
  have HH := Lib.hid h
  clear h f
  go_enter Tryd.func99, Tryd.ntmps99
  by_cases ha : 0 < armed
  · by_cases h1 : armed = 1
    · subst h1
      have hs : DiskMath.step ⟨fast, waits, 1, dead⟩ = (⟨fast, waits, 0, true⟩, false) := by unfold DiskMath.step; cases dead <;> simp
      rw [hs]
      go_wp2_with fail
      go_ret
      exact ⟨rfl, (HH.out.set3 _ 0 rfl (by decide)).set4 true, (DiskB.keptP hFp).trans (DiskB.keptP (F := F) hFp) (fun _ h => .inl h), by simp⟩
    · have hs : DiskMath.step ⟨fast, waits, armed, dead⟩ = (⟨fast, waits, armed - 1, dead⟩, !dead) := by
        unfold DiskMath.step
        rw [if_pos ha]
        have : (armed == 1) = false := by simpa using h1
        simp [this]
      rw [hs]
      have hne : ((armed : Int) - 1 == 0) = false := by rw [beq_eq_false_iff_ne]; omega
      have hd := (HH.out.set3 ((armed : Int) - 1) (armed - 1) (by omega) (by omega))
      have HD := Lib.hid hd
      clear hd
      cases dead
      · go_wp2_with fail
        go_ret
        exact ⟨rfl, HD.out, DiskB.keptP hFp, by simp⟩
      · go_wp2_with fail
        go_ret
        exact ⟨rfl, HD.out, DiskB.keptP hFp, by simp⟩
  · obtain rfl : armed = 0 := by omega
    have hs : DiskMath.step ⟨fast, waits, 0, dead⟩ = (⟨fast, waits, 0, dead⟩, !dead) := by unfold DiskMath.step; simp
    rw [hs]
    cases dead
    · go_wp2_with fail
      go_ret
      exact ⟨rfl, HH.out, Kept.refl _ _, rfl⟩
    · go_wp2_with fail
      go_ret
      exact ⟨rfl, HH.out, Kept.refl _ _, rfl⟩
end Go.Proofs.YtckihiiimomgfaaDoor

namespace Go.Proofs.YtckihiiimomgfaaDoor
open Go.RowKit DiskMath
set_option maxHeartbeats 400000 in
theorem diskArm_any (w : World) (F : Nat → Prop) (p : Nat) (d : Dk) (x : Int) (hx0 : -9223372036854775808 ≤ x) (hx1 : x ≤ 9223372036854775807) (h : DiskAt w F p d) :
    Calls Tryd.prog 17 #[.pointer (some ⟨p, 0, none⟩), .int .i64 x] w fun e w' => e = .returned (.int .i64 ((arm d x).2 : Nat)) ∧ DiskAt w' F p (arm d x).1 ∧ Kept F w w' ∧ w'.heap.size = w.heap.size := by
  obtain ⟨gf, gm, n, vw, hb, h1, h2, h3, h4⟩ := h
  obtain ⟨_, _, _, c3, c4, f⟩ := hb.cells
  have f3 := f 3
  obtain ⟨fast, waits, armed, dead⟩ := d
  simp only at c3 c4
  have HH := Lib.hid hb
  have H4 := Lib.hid h4
  clear hb f h4
  have hwr : wrap64 9223372036854775808 = -9223372036854775808 := by decide +kernel
  go_enter Tryd.func17, Tryd.ntmps17
  go_wp2_with fail
  refine (diskOk_any w p gf gm n _ _ HH.out).mono ?_
  rintro e w' ⟨rfl, rfl⟩
  by_cases hn : x < 0
  · have ha : arm ⟨fast, waits, armed, dead⟩ x = (⟨fast, waits, armed, dead⟩, 2) := by unfold arm; rw [if_pos hn]
    have HA := Lib.hid ha
    clear ha
    go_wp2_with fail
    go_ret
    rw [HA.out]
    exact ⟨rfl, ⟨gf, gm, n, vw, HH.out, h1, h2, h3, H4.out⟩, Kept.refl _ _, rfl⟩
  · cases dead
    · by_cases hm : x = 9223372036854775807
      · subst hm
        have ha : arm ⟨fast, waits, armed, false⟩ 9223372036854775807 = (⟨fast, waits, 9223372036854775807, false⟩, 0) := by unfold arm; simp
        have HA := Lib.hid ha
        clear ha
        go_wp2_with fail
        go_ret
        rw [HA.out]
        exact ⟨rfl, ⟨gf, gm, n, vw, HH.out.set3 _ 9223372036854775807 (by decide) (by decide), h1, h2, h3, H4.out⟩, DiskB.keptP h1, by simp⟩
      · have ha : arm ⟨fast, waits, armed, false⟩ x = (⟨fast, waits, (x + 1).toNat, false⟩, 0) := by unfold arm; rw [if_neg hn]; simp [hm]
        have HA := Lib.hid ha
        clear ha
        have hx2 : x ≤ 9223372036854775806 := by omega
        have hx3 : 0 ≤ x := by omega
        clear hx1 hm hn hx0
        go_wp2_with fail
        go_ret
        rw [HA.out]
        refine ⟨rfl, ⟨gf, gm, n, vw, HH.out.set3 _ (x + 1).toNat (by omega) (by omega), h1, h2, h3, H4.out⟩, DiskB.keptP h1, by simp⟩
    · have ha : arm ⟨fast, waits, armed, true⟩ x = (⟨fast, waits, armed, true⟩, 7) := by unfold arm; rw [if_neg hn]; simp
      have HA := Lib.hid ha
      clear ha
      go_wp2_with fail
      go_ret
      rw [HA.out]
      exact ⟨rfl, ⟨gf, gm, n, vw, HH.out, h1, h2, h3, H4.out⟩, Kept.refl _ _, rfl⟩
set_option maxHeartbeats 400000 in
theorem diskSettle_any (w : World) (F : Nat → Prop) (p gf gm n : Nat) (vw : Value) (d : Dk) (h : DiskB w p gf gm n vw d) (hp : F p) (hm : F gm) :
    Calls Tryd.prog 52 #[.pointer (some ⟨p, 0, none⟩)] w fun e w' => e = .returned (.tuple #[]) ∧ DiskB w' p gf gm n (.slice none 0 0) { d with waits := [] } ∧ Kept F w w' ∧ w'.heap.size = w.heap.size := by
  obtain ⟨_, c1, c2, _, _, f⟩ := h.cells
  have f2 := f 2
  obtain ⟨n1, n2, n3, n4⟩ := h.ne
  have hk : Kept (fun k => k = p) w (w.setCell ⟨p, 2, none⟩ (.slice none 0 0)) := (Kept.refl (fun k => k = p) w).setCell (p := ⟨p, 2, none⟩) (.inl rfl) _
  have hmap := h.map.kept hk (fun e => n2 e.symm)
  have hblk := set_block h.blk 2 (.slice none 0 0)
  have hfast := h.fast.keep hk (fun e => n1 e.symm)
  have HH := Lib.hid h
  have HM := Lib.hid hmap
  have HB := Lib.hid hblk
  have HF := Lib.hid hfast
  have HN2 := Lib.hid n2
  have HN3 := Lib.hid n3
  have HK := Lib.hid (show Kept F w (w.setCell ⟨p, 2, none⟩ (.slice none 0 0)) from (Kept.refl F w).setCell (p := ⟨p, 2, none⟩) (.inl hp) _)
  clear h f hk hmap hblk hfast n1 n2 n3 n4
  go_enter Tryd.func52, Tryd.ntmps52
  go_wp2_with (refine wpList_clear rfl (.tmp 8) 86 rfl 3 103 Tryd.underlying86 gm _ rfl HM.out ?_; intro w2 hm2 hk2 hs2; have HM2 := Lib.hid hm2; have HK2 := Lib.hid hk2; have HS2 := Lib.hid hs2; clear hm2 hk2 hs2)
  go_end0
  refine ⟨rfl, ⟨HK2.out.heap HB.out (fun e => HN2.out e), HF.out.keep HK2.out (fun e => HN3.out e), HM2.out, World.ownsRow_nil _ _ _ _, HH.out.len, HH.out.pos, HH.out.max, HH.out.sec, fun x hx => by simp at hx, by simp, HH.out.arm⟩, HK.out.trans HK2.out (fun k hk => by subst hk; exact .inl hm), by rw [HS2.out]; simp⟩
theorem info_sec : (Tryd.prog.info? 103).map (fun i => (i.zero, i.size, i.bytes)) = some (some (secV (List.replicate 64 0)), 64, 64) := by kernel_rfl
theorem made_flat (n : Nat) : madeCells (secV (List.replicate 64 0)).cells (n * 64) = (flat (List.replicate n StampMath.zeros)).toArray := by
  apply Array.ext'
  apply List.ext_getElem?
  intro j
  have hlen : (flat (List.replicate n StampMath.zeros)).length = 64 * n := by
    rw [secs_length (fun s hs => by obtain ⟨_, rfl⟩ := List.mem_replicate.1 hs; rfl), List.length_replicate]
  have hval : ∀ j, j < 64 * n → (flat (List.replicate n StampMath.zeros))[j]? = some (.int .u8 0) := by
    intro j hj
    have h64 := flat_at (ss := List.replicate n StampMath.zeros) (fun s hs => by obtain ⟨_, rfl⟩ := List.mem_replicate.1 hs; rfl) (i := j / 64) (s := StampMath.zeros) (by rw [List.getElem?_replicate, if_pos (by omega)])
    have e : (((flat (List.replicate n StampMath.zeros)).drop (64 * (j / 64))).take 64)[j % 64]? = (bvs StampMath.zeros)[j % 64]? := by rw [h64]
    rw [List.getElem?_take_of_lt (by omega), List.getElem?_drop, show 64 * (j / 64) + j % 64 = j by omega] at e
    rw [e]
    have hz : bvs StampMath.zeros = List.replicate 64 (.int .u8 0) := by unfold bvs StampMath.zeros; rw [List.map_replicate]; rfl
    have : ∀ k, k < 64 → (bvs StampMath.zeros)[k]? = some (.int .u8 0) := fun k hk => by rw [hz, List.getElem?_replicate, if_pos hk]
    exact this _ (by omega)
  by_cases hj : j < 64 * n
  · have h0 : ∀ k, k < 64 → (secV (List.replicate 64 0)).cells[k]! = .int .u8 0 := fun k hk => by
      rw [show (secV (List.replicate 64 0)).cells = (List.replicate 64 (Value.int .u8 0)).toArray by unfold secV bvs; rw [List.map_replicate]; rfl]
      rw [getElem!_pos _ _ (by rw [List.size_toArray, List.length_replicate]; exact hk)]
      simp only [List.getElem_toArray, List.getElem_replicate]
    show (madeCells _ _).toList[j]? = (flat _)[j]?
    rw [hval j hj, Array.getElem?_toList]
    simp only [madeCells, Array.getElem?_map]
    rw [Array.getElem?_range, if_pos (by omega)]
    simp only [Option.map_some]
    rw [show (secV (List.replicate 64 0)).cells.size = 64 by simp [Value.cells, bvs_length], h0 _ (by omega)]
  · show (madeCells _ _).toList[j]? = (flat _)[j]?
    rw [List.getElem?_eq_none (by rw [Array.length_toList, size_madeCells]; omega), List.getElem?_eq_none (by omega)]
end Go.Proofs.YtckihiiimomgfaaDoor

namespace Go.Proofs.YtckihiiimomgfaaDoor
open Go.RowKit DiskMath
theorem new_sec (n : Nat) : ∀ s ∈ (DiskMath.new n).fast, s.length = 64 := fun s hs => by
  obtain ⟨_, rfl⟩ := List.mem_replicate.1 hs
  rfl
set_option maxRecDepth 100000 in
set_option maxHeartbeats 400000 in
theorem diskNew_yes (n : Nat) (w : World) (h1 : 1 ≤ n) (h2 : n ≤ 65536) :
    Calls Tryd.prog 11 #[.int .i64 (n : Int)] w fun e w' => e = .returned (.tuple #[.pointer (some ⟨w.heap.size + 2, 0, none⟩), .int .i64 0]) ∧ DiskAt w' (fun k => w.heap.size ≤ k) (w.heap.size + 2) (DiskMath.new n) ∧ Below w.heap.size w w' := by
  obtain ⟨i0, hi0, hz0, hz1, hz2⟩ := info_parts info_sec
  have hmk : ∀ u : World, (Instr.makeSlice 85 (.int .i64 (n : Int)) (.int .i64 (n : Int))).run Tryd.prog u = .ok (.slice (some ⟨u.heap.size, 0, none⟩) n n) (u.alloc (.cells (flat (List.replicate n StampMath.zeros)).toArray 103)) := by
    intro u
    have h := run_make (P := Tryd.prog) u 85 103 i0 (secV (List.replicate 64 0)) Tryd.underlying85 hi0 hz0 .i64 .i64 (n : Int) (n : Int) (by omega) (by omega) (by rw [hz2]; omega) (by omega)
    rw [h, hz1, Int.toNat_natCast, made_flat]
  have hmm := @run_makeMap Tryd.prog
  go_enter Tryd.func11, Tryd.ntmps11
  go_wp2_with fail
  go_ret2
  have k1 := below_alloc w (.cells (flat (List.replicate n StampMath.zeros)).toArray 103)
  have k2 := below_alloc (w.alloc (.cells (flat (List.replicate n StampMath.zeros)).toArray 103)) (.map #[] 0)
  have s1 : (w.alloc (.cells (flat (List.replicate n StampMath.zeros)).toArray 103)).heap.size = w.heap.size + 1 := by simp
  have s2 : ((w.alloc (.cells (flat (List.replicate n StampMath.zeros)).toArray 103)).alloc (.map #[] 0)).heap.size = w.heap.size + 2 := by simp
  refine ⟨rfl, ⟨w.heap.size, w.heap.size + 1, n, .slice none 0 0, ⟨?_, ?_, ?_, World.ownsRow_nil _ _ _ _, by simp [DiskMath.new], h1, h2, new_sec n, fun x hx => by simp [DiskMath.new] at hx, by simp [DiskMath.new], by simp [DiskMath.new]⟩, by omega, Nat.le_refl _, by omega, fun g hg => by simp [Value.ownBlock] at hg⟩, ?_⟩
  · have := heap_alloc_new ((w.alloc (.cells (flat (List.replicate n StampMath.zeros)).toArray 103)).alloc (.map #[] 0)) (.cells #[.slice (some ⟨w.heap.size, 0, none⟩) n n, .map (some (w.heap.size + 1)), .slice none 0 0, .int .i64 0, .bool false] 89)
    rw [s2] at this
    exact this
  · have h0 : RowV (w.alloc (.cells (flat (List.replicate n StampMath.zeros)).toArray 103)) w.heap.size 103 (flat (List.replicate n StampMath.zeros)) := heap_alloc_new w _
    exact (h0.below k2).below (below_alloc _ _)
  · have h0 := MapIs.made (w.alloc (.cells (flat (List.replicate n StampMath.zeros)).toArray 103))
    rw [s1] at h0
    exact h0.below (below_alloc _ _)
  · exact ((k1.trans (k2.mono (by omega))).alloc (by omega) _)
set_option maxHeartbeats 400000 in
theorem diskNew_no (n : Int) (w : World) (h : n < 1 ∨ 65536 < n) : Calls Tryd.prog 11 #[.int .i64 n] w fun e w' => e = .returned (.tuple #[.pointer none, .int .i64 2]) ∧ w = w' := by
  rcases h with h | h
  · go_enter Tryd.func11, Tryd.ntmps11
    go_wp2_with fail
    go_ret2
    exact ⟨rfl, rfl⟩
  · have h' : ¬ n < 1 := by omega
    go_enter Tryd.func11, Tryd.ntmps11
    go_wp2_with fail
    go_ret2
    exact ⟨rfl, rfl⟩
theorem view_getD (d : Dk) (n i : Nat) (hl : d.fast.length = n) (hi : i < n) (hs : ∀ s ∈ d.fast, s.length = 64) (hw : ∀ x ∈ d.waits, x.1 < n ∧ x.2.length = 64) :
    ∃ s, (DiskMath.view d)[i]? = some s ∧ s.length = 64 ∧ ((lookL (i : Int) (nowOf d.waits) = none ∧ d.fast[i]? = some s) ∨ lookL (i : Int) (nowOf d.waits) = some (secV s)) := by
  rcases look_view d.fast d.waits i (by omega) with ⟨h1, h2⟩ | ⟨s, h1, h2, k, h3⟩
  · have h4 : d.fast[i]? = some d.fast[i] := List.getElem?_eq_getElem (by omega)
    exact ⟨d.fast[i], by unfold DiskMath.view; rw [h2, h4], hs _ (List.getElem_mem _), .inl ⟨h1, h4⟩⟩
  · exact ⟨s, h2, (hw _ h3).2, .inr h1⟩
set_option maxRecDepth 100000 in
set_option maxHeartbeats 1000000 in
theorem diskRead_yes (w : World) (F : Nat → Prop) (p : Nat) (d : Dk) (i : Nat) (h : DiskAt w F p d) (hi : i < d.fast.length) :
    Calls Tryd.prog 30 #[.pointer (some ⟨p, 0, none⟩), .int .i64 (i : Int)] w fun e w' => ∃ v s, e = .returned (.tuple #[v, .int .i64 0]) ∧ (DiskMath.view d)[i]? = some s ∧ s.length = 64 ∧ w'.ownsRow w.heap.size 5 1 v 64 (bvs s) ∧ Below w.heap.size w w' := by
  obtain ⟨gf, gm, n, vw, hb, _⟩ := h
  obtain ⟨c0, c1, _, _, _, _⟩ := hb.cells
  have hlen := hb.len
  have hpos := hb.pos
  have hmax := hb.max
  have hin : i < n := by omega
  obtain ⟨s, hs, hs64, hcase⟩ := view_getD d n i hlen hin hb.sec hb.wsec
  have hz := (Tryd.prog.info? 103)
  have hi66 : (Tryd.prog.info? 103).map (·.size) = some (bvs s).toArray.size := by rw [List.size_toArray, bvs_length, hs64]; kernel_rfl
  have HH := Lib.hid hb
  have HS := Lib.hid hs
  have HS64 := Lib.hid hs64
  have HI66 := Lib.hid hi66
  have hii : (i : Int) < (n : Int) := by omega
  obtain ⟨Z, hZ⟩ : ∃ Z : List UInt8, List.replicate 64 0 = Z := ⟨_, rfl⟩
  have hZl : Z.length = 64 := by rw [← hZ]; rfl
  have hzv : ∀ w : World, (zeroValue 103).run Tryd.prog w = .ok (secV Z) w := fun w => by rw [← hZ]; kernel_rfl
  clear hz
  have info64 : ∀ m : List UInt8, m.length = 64 → (Tryd.prog.info? 103).map (·.size) = some (bvs m).length := fun m hm => by rw [bvs_length, hm]; kernel_rfl
  have HI64 := Lib.hid info64
  have HZL := Lib.hid hZl
  rcases hcase with ⟨h1, h2⟩ | h1
  · have hlk := run_look_none (P := Tryd.prog) Tryd.underlying86 Tryd.underlying3 hb.map h1 (hzv w)
    have HLK := Lib.hid hlk
    have hbs : Bs w (some ⟨gf, 64 * i, none⟩) s := by
      have hr := hb.fast
      intro j c hj
      refine ⟨_, rfl, hr.lt, ?_⟩
      rw [Addr.add_lit, hr.cell]
      have h3 := flat_at hb.sec h2
      have h4 : ((flat d.fast).drop (64 * i)).take 64 = bvs s := h3
      have hjl : j < 64 := by rw [← hs64]; exact (List.getElem?_eq_some_iff.1 hj).1
      have h5 := bvs_get s j c hj
      rw [← h4, List.getElem?_take_of_lt hjl, List.getElem?_drop] at h5
      exact h5
    have HBS := Lib.hid hbs
    clear hb hlen hs hs64 hi66 hlk h1 h2 hZ hZl info64 hbs
    go_enter Tryd.func30, Tryd.ntmps30
    go_wp2_with fail
    refine (diskOk_any w p gf gm n vw d HH.out).mono ?_
    rintro e w' ⟨rfl, rfl⟩
    have hlk := HLK.out
    go_wp2_with (refine wpList_store_new rfl 103 (.tmp 6) (.tmp 31) rfl rfl (bvs Z) rfl rfl (by first | rfl | (rw [bvs_length, HZL.out]; rfl)) (HI64.out Z HZL.out) (bvs_one Z) ?_; intro w1 hr1 hb1 hs1; have HR1 := Lib.hid hr1; have HB1 := Lib.hid hb1; have HS1 := Lib.hid hs1; have c0' := hb1.cell (p := ⟨p, 0, none⟩) (HH.out.lt.1); clear hr1 hb1 hs1)
    have hbs1 : Bs w1 (some ⟨gf, i * 64, none⟩) s := by
      have := HBS.out.below HB1.out
      rw [Nat.mul_comm] at this
      exact this
    have hcl := clone_any (some ⟨gf, i * 64, none⟩) 64 s w1 (by rw [HS64.out]; decide) hbs1
    rw [HS64.out] at hcl
    refine hcl.mono ?_
    rintro e w2 ⟨v2, rfl, ho2, hb2⟩
    have HO2 := Lib.hid ho2
    have HB2 := Lib.hid hb2
    clear ho2 hb2 hcl hbs1 hlk
    go_wp2_with fail
    go_ret2
    exact ⟨v2, s, rfl, HS.out, HS64.out, own_base HO2.out HB1.out.size, below_then HB1.out HB2.out⟩
  · have hlk := run_look_some (P := Tryd.prog) Tryd.underlying86 Tryd.underlying3 hb.map h1
    have HLK := Lib.hid hlk
    clear hb hlen hs hs64 hi66 hlk h1 hZ hZl info64
    go_enter Tryd.func30, Tryd.ntmps30
    go_wp2_with fail
    refine (diskOk_any w p gf gm n vw d HH.out).mono ?_
    rintro e w' ⟨rfl, rfl⟩
    have hlk := HLK.out
    go_wp2_with (refine wpList_store_new rfl 103 (.tmp 6) (.tmp 31) rfl rfl (bvs s) rfl rfl (by rw [bvs_length, HS64.out]; show (bvs Z).toArray.size = 64; rw [List.size_toArray, bvs_length, HZL.out]) (HI64.out s HS64.out) (bvs_one s) ?_; intro w1 hr1 hb1 hs1; have HR1 := Lib.hid hr1; have HB1 := Lib.hid hb1; have HS1 := Lib.hid hs1; have c0' := hb1.cell (p := ⟨p, 0, none⟩) (HH.out.lt.1); clear hr1 hb1 hs1)
    have hbs1 : Bs w1 (some ⟨w.heap.size, 0, none⟩) s := by
      have hr : Row8 w1 w.heap.size 103 s := HR1.out
      exact hr.bs
    have hcl := clone_any (some ⟨w.heap.size, 0, none⟩) 64 s w1 (by rw [HS64.out]; decide) hbs1
    rw [HS64.out] at hcl
    refine hcl.mono ?_
    rintro e w2 ⟨v2, rfl, ho2, hb2⟩
    have HO2 := Lib.hid ho2
    have HB2 := Lib.hid hb2
    clear ho2 hb2 hcl hbs1 hlk
    go_wp2_with fail
    go_ret2
    exact ⟨v2, s, rfl, HS.out, HS64.out, own_base HO2.out HB1.out.size, below_then HB1.out HB2.out⟩
set_option maxHeartbeats 400000 in
theorem diskRead_no (w : World) (F : Nat → Prop) (p : Nat) (d : Dk) (i : Int) (h : DiskAt w F p d) (hi : i < 0 ∨ (d.fast.length : Int) ≤ i) :
    Calls Tryd.prog 30 #[.pointer (some ⟨p, 0, none⟩), .int .i64 i] w fun e w' => e = .returned (.tuple #[.slice none 0 0, .int .i64 2]) ∧ w = w' := by
  obtain ⟨gf, gm, n, vw, hb, _⟩ := h
  obtain ⟨c0, c1, _, _, _, _⟩ := hb.cells
  have hlen := hb.len
  rw [hlen] at hi
  have HH := Lib.hid hb
  clear hb hlen
  rcases hi with hi | hi
  · go_enter Tryd.func30, Tryd.ntmps30
    go_wp2_with fail
    refine (diskOk_any w p gf gm n vw d HH.out).mono ?_
    rintro e w' ⟨rfl, rfl⟩
    go_wp2_with fail
    go_ret2
    exact ⟨rfl, rfl⟩
  · have hi0 : ¬ i < 0 := by omega
    go_enter Tryd.func30, Tryd.ntmps30
    go_wp2_with fail
    refine (diskOk_any w p gf gm n vw d HH.out).mono ?_
    rintro e w' ⟨rfl, rfl⟩
    go_wp2_with fail
    go_ret2
    exact ⟨rfl, rfl⟩
end Go.Proofs.YtckihiiimomgfaaDoor

namespace Go.Proofs.YtckihiiimomgfaaDoor
open Go.RowKit DiskMath
set_option maxHeartbeats 400000 in
theorem diskWrite_no (w : World) (F : Nat → Prop) (p : Nat) (d : Dk) (i : Int) (A : Option Addr) (m c : Nat) (h : DiskAt w F p d) (hi : i < 0 ∨ (d.fast.length : Int) ≤ i ∨ m ≠ 64) :
    Calls Tryd.prog 78 #[.pointer (some ⟨p, 0, none⟩), .int .i64 i, .slice A m c] w fun e w' => e = .returned (.int .i64 2) ∧ w = w' := by
  obtain ⟨gf, gm, n, vw, hb, _⟩ := h
  obtain ⟨c0, _⟩ := hb.cells
  rw [hb.len] at hi
  have HH := Lib.hid hb
  clear hb
  go_enter Tryd.func78, Tryd.ntmps78
  go_wp2_with fail
  refine (diskOk_any w p gf gm n _ d HH.out).mono ?_
  rintro e w' ⟨rfl, rfl⟩
  by_cases h1 : i < 0
  · clear hi
    go_wp2_with fail
    go_ret
    exact ⟨rfl, rfl⟩
  · by_cases h2 : (n : Int) ≤ i
    · clear hi
      go_wp2_with fail
      go_ret
      exact ⟨rfl, rfl⟩
    · have h3 : ((m : Int) == 64) = false := by rw [beq_eq_false_iff_ne]; omega
      have h4 : ((m : Int) != 64) = true := by rw [bne, h3]; rfl
      have h5 : ¬ ((m : Int) = 64) := by omega
      have h6 : i < (n : Int) := by omega
      have h7 : 0 ≤ i := by omega
      clear hi h1 h2
      go_wp2_with fail
      go_ret
      exact ⟨rfl, rfl⟩
end Go.Proofs.YtckihiiimomgfaaDoor

namespace Go.Proofs.YtckihiiimomgfaaDoor
open Go.RowKit DiskMath
def zeroWrite : Value := .agg (.int .i64 0 :: bvs (List.replicate 64 0)).toArray
theorem info_write : (Tryd.prog.info? 105).map (fun i => (i.zero, i.size, i.bytes)) = some (some zeroWrite, 65, 72) := by kernel_rfl
theorem write_fields : ∃ fs, Tryd.prog.underlying 105 = some (.struct fs) ∧ fs.toList.mapM (fun f => (Tryd.prog.info? f.type).map fun i => (f.offset, i.size)) = some [(0, 1), (1, 64)] := ⟨_, Tryd.underlying105, by kernel_rfl⟩
set_option maxRecDepth 100000 in
set_option maxHeartbeats 1000000 in
theorem diskWrite_yes (w : World) (F : Nat → Prop) (p : Nat) (d : Dk) (i : Nat) (gb ob c : Nat) (b : List UInt8) (h : DiskAt w F p d) (hi : i < d.fast.length) (hl : b.length = 64) (hc : 64 ≤ c) (hr : Bs w (some ⟨gb, ob, none⟩) b) (hgb : ¬ F gb) (hf : d.waits.length < 100000) :
    Calls Tryd.prog 78 #[.pointer (some ⟨p, 0, none⟩), .int .i64 (i : Int), .slice (some ⟨gb, ob, none⟩) 64 c] w fun e w' => e = .returned (.int .i64 ((write d i b).2 : Nat)) ∧ DiskAt w' (fun k => F k ∨ w.heap.size ≤ k) p (write d i b).1 ∧ Kept F w w' := by
  obtain ⟨gf, gm, n, vw, hb, q1, q2, q3, q4⟩ := h
  obtain ⟨c0, _⟩ := hb.cells
  rw [hb.len] at hi
  have hwr : write d i b = if (DiskMath.step d).2 then ({ (DiskMath.step d).1 with waits := d.waits ++ [(i, b)] }, 0) else ((DiskMath.step d).1, 7) := by
    unfold write
    rw [if_pos ⟨by omega, by rw [hb.len]; omega, hl⟩]
    simp
  have HW := Lib.hid hwr
  have HH := Lib.hid hb
  have h1 : ¬ (i : Int) < 0 := by omega
  have h2 : ¬ (n : Int) ≤ i := by omega
  have h3 : (i : Int) < n := by omega
  clear hb hwr
  obtain ⟨iw, hiw, hzw, hsw, hbw⟩ := info_parts info_write
  obtain ⟨zw, hzwe⟩ : ∃ zw : Value, zeroWrite = zw := ⟨_, rfl⟩
  have hzsw : zw.cells.size = 65 := by rw [← hzwe]; rfl
  rw [hzwe] at hzw
  clear hzwe
  go_enter Tryd.func78, Tryd.ntmps78
  go_wp2_with fail
  refine (diskOk_any w p gf gm n _ d HH.out).mono ?_
  rintro e w' ⟨rfl, rfl⟩
  go_wp2_with fail
  refine (diskStep_any w F p gf gm n vw d HH.out q1).mono ?_
  rintro e w1 ⟨rfl, hb1, hk1, hs1⟩
  have HB1 := Lib.hid hb1
  have HK1 := Lib.hid hk1
  have HS1 := Lib.hid hs1
  clear hb1 hk1 hs1
  by_cases hd : (DiskMath.step d).2 = true
  · have HD := Lib.hid hd
    have hrg : w1.rangeAt gb ob (bvs b) := by
      intro j v hj
      have hj' : j < b.length := by have := (List.getElem?_eq_some_iff.1 hj).1; rwa [bvs_length] at this
      obtain ⟨ad, e, hlt, hce⟩ := hr.at_ hj'
      obtain rfl : ad = ⟨gb, ob, none⟩ := (Option.some.inj e).symm
      have := bvs_get b j _ (List.getElem?_eq_getElem hj')
      rw [this] at hj
      obtain rfl := Option.some.inj hj
      rw [HK1.out.cell (p := ⟨gb, ob + j, none⟩) hlt hgb]
      rw [Addr.add_lit] at hce
      exact hce
    have hus := Tryd.underlying103
    have hib : (Tryd.prog.info? 103).map (·.size) = some (bvs b).length := by rw [bvs_length, hl]; kernel_rfl
    have HRG := Lib.hid hrg
    have hat : ∀ w, (Instr.arrayAt 103 (.slice (some ⟨gb, ob, none⟩) 64 c)).run Tryd.prog w = .ok (.pointer (some ⟨gb, ob, none⟩)) w := fun w => run_arrayAt w _ _ 64 _ _ _ hus (by omega)
    obtain ⟨Z, hZ⟩ : ∃ Z : List UInt8, List.replicate 64 0 = Z := ⟨_, rfl⟩
    have hzv : ∀ w : World, (zeroValue 103).run Tryd.prog w = .ok (secV Z) w := fun w => by rw [← hZ]; kernel_rfl
    have hZl : (bvs Z).toArray.size = (bvs b).length := by rw [← hZ, List.size_toArray, bvs_length, bvs_length, hl]; rfl
    clear hZ
    rw [if_pos hd]
    clear hd hrg
    have hc' : (64 : Int) ≤ c := by omega
    go_wp2_with (first
      | refine wpList_load_mid rfl 103 (.tmp 36) rfl gb ob rfl (bvs b) _ HRG.out hus rfl hib ?_
      | refine wpList_store_new rfl 103 (.tmp 8) (.tmp 37) rfl rfl (bvs b) rfl rfl (by show (bvs Z).toArray.size = (bvs b).length; exact hZl) hib (bvs_one b) ?_; intro w2 hr2 hb2 hs2; have HR2 := Lib.hid hr2; have HB2 := Lib.hid hb2; clear hr2 hb2)
    have hd2 := HB1.out.kept (Kept.of_below (F := fun _ => False) HB2.out) (fun h => h) (fun h => h) (fun h => h) (fun _ _ h => h)
    have hm2 : MapIs w2.drew gm (nowOf (DiskMath.step d).1.waits) := hd2.map
    have HM2 := Lib.hid hm2
    have HD2 := Lib.hid hd2
    have u1 := Tryd.underlying86
    have u2 := Tryd.underlying3
    have hRG2 : w2.rangeAt w1.heap.size 0 (bvs b) := by have := HR2.out.range 0 (bvs b).length; rwa [List.drop_zero, List.take_length] at this
    have b1 : w2.cell? ⟨p, 1, none⟩ = some (.map (some gm)) := hd2.cells.2.1
    have HRG2 := Lib.hid hRG2
    clear hd2 hm2 hzv hat hRG2
    refine wp_region_headS 6 6 (fun w' => w'.cell? ⟨p, 1, none⟩ = some (.map (some gm)) ∧ w'.rangeAt w1.heap.size 0 (bvs b)) (by kernel_rfl) (by kernel_rfl) (by rintro _ ⟨_, _⟩ ⟨_, _⟩ _ rfl h; exact h) ⟨b1, HRG2.out⟩ ?_
    iterate 5 (refine wpHeadS_step (v := ?_) (Or.inl ⟨by rfl, ?_⟩) ?_; rotate_left; · intro w' hSw; obtain ⟨s1, -⟩ := hSw; go_simp; (try with_reducible rfl))
    refine wpHeadS_step (yieldsIf_load_mid (by rfl) 103 (.tmp 8) rfl w1.heap.size 0 (by rfl) (bvs b) _ (fun w' hS => hS.2) hus rfl hib) (wpHeadS_nil (wpTailS_end (by decide) ?_))
    simp only [Act.put, List.setIfInBounds_toArray, List.set_cons_zero, List.set_cons_succ]
    refine wpList_put rfl (.tmp 41) (.tmp 42) (.tmp 43) 86 rfl 3 103 u1 u2 gm _ (i : Int) (secV b) rfl rfl rfl HM2.out ?_
    intro w3 hm3 hk3 hs3
    have HM3 := Lib.hid hm3
    have HK3 := Lib.hid hk3
    have HS3 := Lib.hid hs3
    clear hm3 hk3 hs3
    go_wp2_with fail
    have hd3 : DiskB w2.drew p gf gm n vw (DiskMath.step d).1 := HD2.out.kept (Kept.refl (fun _ => False) w2).drew (fun h => h) (fun h => h) (fun h => h) (fun _ _ h => h)
    obtain ⟨n1, n2, n3, n4⟩ := hd3.ne
    have c2 : w3.cell? ⟨p, 2, none⟩ = some vw := by rw [HK3.out.cell (p := ⟨p, 2, none⟩) hd3.lt.1 n2]; exact hd3.cells.2.2.1
    have hgm1 : w1.heap.size ≠ gm := by have := HB1.out.lt.2.2.1; omega
    have hr3 := RowV.keep (w := w2.drew) (w' := w3) (F := fun x => x = gm) HR2.out HK3.out hgm1
    have HR3 := Lib.hid hr3
    have hRG3 : w3.rangeAt w1.heap.size 0 (bvs b) := by
      have := hr3.range 0 (bvs b).length; rwa [List.drop_zero, List.take_length] at this
    have hown3 : w3.ownsRow 0 105 65 vw (DiskMath.step d).1.waits.length (wcells (DiskMath.step d).1.waits) := HK3.out.own hd3.waits (fun g hg e => (n4 g hg).2.2 e)
    have hblk3 := HK3.out.heap hd3.blk n2
    have HRG3 := Lib.hid hRG3
    have HOWN3 := Lib.hid hown3
    have HBLK3 := Lib.hid hblk3
    have HN4 := Lib.hid n4
    have HN1 := Lib.hid n1
    have HN2 := Lib.hid n2
    have HN3 := Lib.hid n3
    clear hd3 hr3 hRG3 hown3 hblk3 n1 n2 n3 n4
    refine wp_region_headS 8 10 (fun w' => w'.cell? ⟨p, 2, none⟩ = some vw ∧ w'.rangeAt w1.heap.size 0 (bvs b)) (by kernel_rfl) (by kernel_rfl) (by rintro _ ⟨_, _⟩ ⟨_, _⟩ _ rfl h; exact h) ⟨c2, HRG3.out⟩ ?_
    simp only [Act.put]
    iterate 6 (refine wpHeadS_step (v := ?_) (Or.inl ⟨by rfl, ?_⟩) ?_; rotate_left; · intro w' hSw; obtain ⟨s1, -⟩ := hSw; go_simp; (try with_reducible rfl))
    refine wpHeadS_step (yieldsIf_load_mid (by rfl) 103 (.tmp 8) rfl w1.heap.size 0 (by rfl) (bvs b) _ (fun w' hS => hS.2) hus rfl hib) ?_
    simp only [Act.put, List.setIfInBounds_toArray, List.set_cons_zero, List.set_cons_succ]
    obtain ⟨fsw, hfs, hpl⟩ := write_fields
    refine wpHeadS_step (yieldsIf_build_two (by rfl) 105 (.tmp 49) (.tmp 50) rfl fsw iw zw 64 hiw hfs hzw hpl hzsw .i64 (i : Int) (bvs b) (by rw [bvs_length]; exact hl) rfl rfl) (wpHeadS_nil ?_)
    simp only [Act.put, List.setIfInBounds_toArray, List.set_cons_zero, List.set_cons_succ]
    refine wpTailS_buildSlice (by decide) rfl 87 105 (.tmp 51) rfl iw zw (.int .i64 (i : Int) :: bvs b) Tryd.underlying87 hiw hzw (by rw [List.length_cons, bvs_length, hl]; exact hsw) (by rw [List.length_cons, bvs_length, hl]; exact hzsw) (by simp) (by simp [bvs_length, hl]) rfl ⟨?_, ?_⟩ ?_
    · show (w3.alloc _).cell? _ = _
      rw [World.cell?_alloc_lt _ _ _ (show p < w3.heap.size by have := cell_lt' c2; exact this)]
      exact c2
    · exact World.rangeAt_alloc (w := w3.drew) HRG3.out _
    have hst := (step_fst d).2.1
    have hlw : (DiskMath.step d).1.waits.length = d.waits.length := by rw [hst]
    refine wpTailS_push (by decide) rfl (.tmp 48) (.tmp 52) 87 rfl 0 105 iw zw 65 72 Tryd.underlying87 hiw hzw hsw hbw hzsw (by decide) vw _ (wcells (DiskMath.step d).1.waits) rfl (w0 := w3.drew) HOWN3.out.drew (.int .i64 (i : Int) :: bvs b) rfl rfl (by rw [List.length_cons, bvs_length, hl]) (List.forall_mem_cons.2 ⟨rfl, bvs_one b⟩) (by rw [hlw]; unfold maxLen; omega) (by rw [hlw]; omega) (Nat.zero_le _) ?_
    intro v' w4 ho4 hk4 hv4
    have hp3 : p < w3.heap.size := cell_lt' c2
    have c24 : w4.cell? ⟨p, 2, none⟩ = some vw := by rw [hk4.cell (p := ⟨p, 2, none⟩) hp3 (fun h => (HN4.out p h).1 rfl)]; exact c2
    have hv1 : vw.ownBlock ≠ some w1.heap.size := fun e => by have := HB1.out.lt.2.2.2 _ e; omega
    have hr4 : RowV w4 w1.heap.size 103 (bvs b) := RowV.keep (w := w3.drew) HR3.out hk4 hv1
    have f24 : w4.frozen? ⟨p, 2, none⟩ = false := block_free (hk4.heap (a := w3.drew) HBLK3.out (fun h => (HN4.out p h).1 rfl))
    obtain ⟨A', c', rfl, hc4⟩ := own_shape ho4
    have HO4 := Lib.hid ho4
    have HK4 := Lib.hid hk4
    have HV4 := Lib.hid hv4
    have HST := Lib.hid hst
    have HLW := Lib.hid hlw
    clear ho4 hk4 hv4 hst hlw hc4
    refine ⟨⟨c24, by have := hr4.range 0 (bvs b).length; rwa [List.drop_zero, List.take_length] at this⟩, wpTailS_end (by decide) ?_⟩
    simp only [Act.put, List.setIfInBounds_toArray, List.set_cons_zero, List.set_cons_succ]
    go_wp2_with fail
    go_ret
    rw [HW.out, HD.out]
    have hne : (Value.slice A' ((DiskMath.step d).1.waits.length + 1) c').ownBlock ≠ some p := own_ne HO4.out (HK4.out.heap (a := w3.drew) HBLK3.out (fun h => (HN4.out p h).1 rfl)) (by decide)
    have hkp : Kept (fun k => k = p) w4 (w4.setCell ⟨p, 2, none⟩ (.slice A' ((DiskMath.step d).1.waits.length + 1) c')) := (Kept.refl (fun k => k = p) w4).setCell (p := ⟨p, 2, none⟩) (.inl rfl) _
    have hf3 := RowV.keep (w := w2.drew) (w' := w3) (F := fun x => x = gm) HD2.out.fast HK3.out HN3.out
    have hf4 := RowV.keep (w := w3.drew) (w' := w4) hf3 HK4.out (fun h => (HN4.out gf h).2.1 rfl)
    have hm4 := MapIs.kept (w := w3.drew) HM3.out HK4.out (fun h => (HN4.out gm h).2.2 rfl)
    have hs34 := HK4.out.size
    have hs23 : w2.heap.size ≤ w3.heap.size := HK3.out.size
    have hs12 := HB2.out.size
    have hs01 := HK1.out.size
    have hb4 : w4.heap[p]? = _ := HK4.out.heap (a := w3.drew) HBLK3.out (fun h => (HN4.out p h).1 rfl)
    have ho4 : w4.ownsRow 0 105 65 (.slice A' ((DiskMath.step d).1.waits.length + 1) c') ((DiskMath.step d).1.waits ++ [(i, b)]).length (wcells ((DiskMath.step d).1.waits ++ [(i, b)])) := by
      rw [wcells_snoc, List.length_append]
      exact HO4.out
    have hd1 := HB1.out
    rw [if_pos rfl, ← HST.out]
    refine ⟨rfl, ⟨gf, gm, n, .slice A' ((DiskMath.step d).1.waits.length + 1) c', ⟨set_block hb4 2 _, hf4.keep hkp (fun e => HN1.out e.symm), ?_, hkp.own ho4 (fun g hg e => by subst e; exact hne hg), hd1.len, hd1.pos, hd1.max, hd1.sec, ?_, ?_, hd1.arm⟩, .inl q1, .inl q2, .inl q3, ?_⟩, ?_⟩
    · show MapIs _ gm (nowOf ((DiskMath.step d).1.waits ++ [(i, b)]))
      rw [nowOf_snoc]
      exact hm4.kept hkp (fun e => HN2.out e.symm)
    · intro x hx
      rcases List.mem_append.1 hx with hx | hx
      · exact hd1.wsec x hx
      · simp at hx; subst hx; exact ⟨hi, hl⟩
    · show ((DiskMath.step d).1.waits ++ [(i, b)]).length ≤ 100000
      rw [List.length_append, HLW.out]; simp; omega
    · intro g hg
      rcases HV4.out g hg with h | h
      · exact .inl (q4 g h)
      · right; have h' : w3.heap.size ≤ g := h; omega
    · have k1 : Kept F w w2 := HK1.out.then_below HB2.out
      have k2 : Kept F w w3 := (Kept.drew k1).trans HK3.out (fun k hk => by subst hk; exact .inl q3)
      have k3 : Kept F w w4 := (Kept.drew k2).trans HK4.out (fun k hk => .inl (q4 k hk))
      exact k3.trans hkp (fun k hk => by subst hk; exact .inl q1)
  · have hd' : (DiskMath.step d).2 = false := by simpa using hd
    have HD := Lib.hid hd'
    rw [hd']
    clear hd hd'
    go_wp2_with fail
    go_ret
    rw [HW.out, HD.out]
    exact ⟨rfl, ⟨gf, gm, n, vw, HB1.out, .inl q1, .inl q2, .inl q3, fun g hg => .inl (q4 g hg)⟩, HK1.out⟩
end Go.Proofs.YtckihiiimomgfaaDoor

namespace Go.Proofs.YtckihiiimomgfaaDoor
open Go.RowKit DiskMath
theorem wcells_length (ws : List (Nat × List UInt8)) (h : ∀ x ∈ ws, x.2.length = 64) : (wcells ws).length = 65 * ws.length := by
  induction ws with
  | nil => rfl
  | cons x ws ih =>
    have h1 := h x (by simp)
    have h2 := ih (fun y hy => h y (by simp [hy]))
    unfold wcells at h2 ⊢
    rw [List.flatMap_cons, List.length_append, List.length_cons, bvs_length, h1, h2, List.length_cons]
    omega
theorem wcells_at (ws : List (Nat × List UInt8)) (h : ∀ x ∈ ws, x.2.length = 64) (k i : Nat) (b : List UInt8) (hk : ws[k]? = some (i, b)) : ((wcells ws).drop (k * 65)).take 65 = .int .i64 (i : Int) :: bvs b := by
  induction ws generalizing k with
  | nil => simp at hk
  | cons x ws ih =>
    have h1 := h x (by simp)
    have e : wcells (x :: ws) = (.int .i64 (x.1 : Int) :: bvs x.2) ++ wcells ws := by simp [wcells]
    cases k with
    | zero =>
      simp at hk
      subst hk
      rw [e, Nat.zero_mul, List.drop_zero, List.take_append, List.take_of_length_le (by simp [bvs_length, h1])]
      simp [bvs_length, h1]
    | succ k =>
      rw [e, List.drop_append, List.drop_of_length_le (by simp [bvs_length, h1]; omega), List.nil_append, List.length_cons, bvs_length, h1, show (k + 1) * 65 - (64 + 1) = k * 65 by omega]
      exact ih (fun y hy => h y (by simp [hy])) k (by simpa using hk)
/-- a place among the disk's waiting writes -/
theorem DiskB.wait {w : World} {p gf gm n : Nat} {vw : Value} {d : Dk} (h : DiskB w p gf gm n vw d) {k i : Nat} {b : List UInt8} (hk : d.waits[k]? = some (i, b)) :
    ∃ g c, vw = .slice (some ⟨g, 0, none⟩) d.waits.length c ∧ d.waits.length ≤ c ∧ g < w.heap.size ∧ w.rangeAt g (k * 65) (.int .i64 (i : Int) :: bvs b) := by
  have hlt : k < d.waits.length := (List.getElem?_eq_some_iff.1 hk).1
  have hce : ∀ g, _ := fun g => h.waits.cells (g := g)
  rcases h.waits.2 with ⟨_, h0⟩ | ⟨g, cap, cur, rfl, hb, hg, hn, _⟩
  · omega
  · refine ⟨g, cap, rfl, hn, heap_lt hg, fun j v hj => ?_⟩
    have hjl : j < 65 := by
      have := (List.getElem?_eq_some_iff.1 hj).1
      rw [List.length_cons, bvs_length, (h.wsec _ (List.mem_of_getElem? hk)).2] at this
      exact this
    have e := wcells_at d.waits (fun x hx => (h.wsec x hx).2) k i b hk
    rw [← e, List.getElem?_take_of_lt hjl, List.getElem?_drop] at hj
    have := hce g rfl _ v hj
    rwa [Addr.add_lit, Nat.zero_add] at this
theorem info_write_zero : ∃ Z : List Value, Z.length = 65 ∧ ∀ w : World, (zeroValue 105).run Tryd.prog w = .ok (.agg Z.toArray) w := ⟨.int .i64 0 :: bvs (List.replicate 64 0), rfl, fun w => by kernel_rfl⟩
def sets (f : List Sector) (ws : List (Nat × Sector)) : List Sector := ws.foldl (fun f x => f.set x.1 x.2) f
theorem sets_length (ws : List (Nat × Sector)) (f : List Sector) : (sets f ws).length = f.length := by
  unfold sets
  induction ws generalizing f with
  | nil => rfl
  | cons x ws ih => rw [List.foldl_cons, ih]; simp
theorem sets_sec (ws : List (Nat × Sector)) (f : List Sector) (h : ∀ s ∈ f, s.length = 64) (hw : ∀ x ∈ ws, x.2.length = 64) : ∀ s ∈ sets f ws, s.length = 64 := by
  unfold sets
  induction ws generalizing f with
  | nil => exact h
  | cons x ws ih =>
    rw [List.foldl_cons]
    refine ih _ (fun s hs => ?_) (fun y hy => hw y (by simp [hy]))
    rcases List.mem_or_eq_of_mem_set hs with h1 | rfl
    · exact h s h1
    · exact hw x (by simp)
theorem sets_snoc (ws : List (Nat × Sector)) (f : List Sector) (x : Nat × Sector) : sets f (ws ++ [x]) = (sets f ws).set x.1 x.2 := by simp [sets]
/-- a sector is stored among the fast ones -/
theorem DiskB.setFast {w : World} {p gf gm n : Nat} {vw : Value} {d : Dk} (h : DiskB w p gf gm n vw d) (i : Nat) (b : List UInt8) (hi : i < n) (hb : b.length = 64) : DiskB (w.setCells gf (64 * i) (bvs b)) p gf gm n vw { d with fast := d.fast.set i b } := by
  obtain ⟨n1, n2, n3, n4⟩ := h.ne
  have hk := setCells_keep gf (bvs b) (64 * i) w
  have hl := h.len
  have hr := h.fast.store (64 * i) (bvs b) (by rw [bvs_length, hb, secs_length h.sec]; omega)
  rw [flat_set h.sec (by omega) hb] at hr
  refine ⟨hk.heap h.blk (fun e => n1 e), hr, h.map.kept hk (fun e => n3 e.symm), hk.own h.waits (fun g hg e => (n4 g hg).2.1 e), by rw [List.length_set]; exact hl, h.pos, h.max, fun s hs => ?_, h.wsec, h.few, h.arm⟩
  rcases List.mem_or_eq_of_mem_set hs with h1 | rfl
  · exact h.sec s h1
  · exact hb
def FlRel (w : World) (F : Nat → Prop) (p gf gm n : Nat) (vw : Value) (d : Dk) (i : Value) (wr : World) : Prop :=
  ∃ k : Nat, k ≤ d.waits.length ∧ i = .int .i64 (k : Int) ∧ DiskB wr p gf gm n vw { d with fast := sets d.fast (d.waits.take k) } ∧ Kept F w wr
set_option maxRecDepth 100000 in
set_option maxHeartbeats 1000000 in
theorem diskFlush_any (w : World) (F : Nat → Prop) (p : Nat) (d : Dk) (h : DiskAt w F p d) :
    Calls Tryd.prog 80 #[.pointer (some ⟨p, 0, none⟩)] w fun e w' => e = .returned (.int .i64 ((flush d).2 : Nat)) ∧ DiskAt w' F p (flush d).1 ∧ Kept F w w' := by
  obtain ⟨gf, gm, n, vw, hb, q1, q2, q3, q4⟩ := h
  have hfl : flush d = if (DiskMath.step d).2 then ({ (DiskMath.step d).1 with fast := view d, waits := [] }, 0) else ((DiskMath.step d).1, 7) := rfl
  have HW := Lib.hid hfl
  have HH := Lib.hid hb
  have hview : view d = sets (DiskMath.step d).1.fast (DiskMath.step d).1.waits := by rw [(step_fst d).1, (step_fst d).2.1]; rfl
  have HV := Lib.hid hview
  have HQ4 := Lib.hid q4
  clear hb hfl hview q4
  go_enter Tryd.func80, Tryd.ntmps80
  go_wp2_with fail
  refine (diskOk_any w p gf gm n _ d HH.out).mono ?_
  rintro e w' ⟨rfl, rfl⟩
  go_wp2_with fail
  refine (diskStep_any w F p gf gm n vw d HH.out q1).mono ?_
  rintro e w1 ⟨rfl, hb1, hk1, hs1⟩
  have HB1 := Lib.hid hb1
  have HK1 := Lib.hid hk1
  have HS1 := Lib.hid hs1
  obtain ⟨_, _, c2, _⟩ := hb1.cells
  clear hb1 hk1 hs1
  by_cases hd : (DiskMath.step d).2 = true
  · have HD := Lib.hid hd
    rw [if_pos hd]
    clear hd
    obtain ⟨A, c, rfl, hnc⟩ := own_shape HB1.out.waits
    obtain ⟨d1, hd1⟩ : ∃ d1, (DiskMath.step d).1 = d1 := ⟨_, rfl⟩
    rw [hd1] at HB1 HV c2 hnc
    have HD1 := Lib.hid hd1
    have hfew := HB1.out.few
    obtain ⟨m, hm⟩ : ∃ m, d1.waits.length = m := ⟨_, rfl⟩
    rw [hm] at HB1 c2 hnc hfew
    rw [hd1, hm] at HQ4
    have HM := Lib.hid hm
    clear hd1 hm HH
    go_wp2_with fail
    go_loopw [19] (fun i wr => FlRel w F p gf gm n (.slice A m c) d1 i wr) (fun i _ => m - (intOf i).toNat)
    case atStart => exact ⟨0, Nat.zero_le _, rfl, HB1.out, HK1.out⟩
    case round =>
      obtain ⟨k, hk, rfl, hbk, hkk⟩ := hrel
      obtain ⟨wo, rfl⟩ : ∃ wo : World, wo = wr := ⟨_, rfl⟩
      rw [HM.out] at hk
      by_cases hlt : k < m
      · obtain ⟨⟨i, b⟩, hx⟩ : ∃ x, d1.waits[k]? = some x := ⟨_, List.getElem?_eq_getElem (by have := HM.out; omega)⟩
        obtain ⟨g, c', hv, _, hg, hrg⟩ := hbk.wait hx
        obtain ⟨hin, hl⟩ := hbk.wsec (i, b) (List.mem_of_getElem? hx)
        injection hv with hv1 hv2 hv3
        subst hv1 hv3
        clear hv2
        have HBK := Lib.hid hbk
        have HKK := Lib.hid hkk
        have HX := Lib.hid hx
        have HRG := Lib.hid hrg
        have HL := Lib.hid hl
        obtain ⟨Z, hZl, hzv⟩ := info_write_zero
        have HZL := Lib.hid hZl
        have hus := Tryd.underlying105
        have hib : (Tryd.prog.info? 105).map (·.size) = some (Value.int .i64 (i : Int) :: bvs b).length := by rw [List.length_cons, bvs_length, hl]; kernel_rfl
        have h1 : ∀ u ∈ Value.int .i64 (i : Int) :: bvs b, u.oneCell' = true := List.forall_mem_cons.2 ⟨rfl, bvs_one b⟩
        have HONE := Lib.hid h1
        clear hbk hkk hx hrg hl hZl h1
        go_wp2_with (first
          | refine wpList_load_mid rfl 105 (.tmp 21) rfl g (k * 65) rfl (.int .i64 (i : Int) :: bvs b) _ HRG.out hus rfl hib ?_
          | refine wpList_store_new rfl 105 (.tmp 5) (.tmp 22) rfl rfl (.int .i64 (i : Int) :: bvs b) rfl rfl (by show Z.toArray.size = _; rw [List.size_toArray, HZL.out, List.length_cons, bvs_length, HL.out]) hib HONE.out ?_; intro w2 hr2 hb2 hs2; have HR2 := Lib.hid hr2; have HB2 := Lib.hid hb2; clear hr2 hb2)
        have hd2 := HBK.out.kept (Kept.of_below (F := fun _ => False) HB2.out) (fun h => h) (fun h => h) (fun h => h) (fun _ _ h => h)
        have b0 : w2.cell? ⟨p, 0, none⟩ = some (.slice (some ⟨gf, 0, none⟩) n n) := hd2.cells.1
        have b1 : w2.cell? ⟨wo.heap.size, 0, none⟩ = some (.int .i64 (i : Int)) := by rw [HR2.out.cell]; rfl
        have b2 : w2.rangeAt wo.heap.size 1 (bvs b) := by
          have := HR2.out.range 1 64
          rw [List.drop_succ_cons, List.drop_zero, List.take_of_length_le (by rw [bvs_length, HL.out]; exact Nat.le_refl _)] at this
          exact this
        have HD2 := Lib.hid hd2
        have hin1 : (i : Int) < (n : Int) := by omega
        have hin0 : (0 : Int) ≤ (i : Int) := by omega
        have hu2 := Tryd.underlying103
        have hi2 : (Tryd.prog.info? 103).map (·.size) = some (bvs b).length := by rw [bvs_length, HL.out]; kernel_rfl
        clear hd2 hus hib hzv
        refine wp_region_headS 9 9 (fun w' => (w'.cell? ⟨p, 0, none⟩ = some (.slice (some ⟨gf, 0, none⟩) n n) ∧ w'.cell? ⟨wo.heap.size, 0, none⟩ = some (.int .i64 (i : Int))) ∧ w'.rangeAt wo.heap.size 1 (bvs b)) (by kernel_rfl) (by kernel_rfl) (by rintro _ ⟨_, _⟩ ⟨_, _⟩ _ rfl h; exact h) ⟨⟨b0, b1⟩, b2⟩ ?_
        iterate 7 (refine wpHeadS_step (v := ?_) (Or.inl ⟨by rfl, ?_⟩) ?_; rotate_left; · intro w' hSw; obtain ⟨⟨s1, s2⟩, -⟩ := hSw; go_simp; (try with_reducible rfl))
        simp only [Act.put, List.setIfInBounds_toArray, List.set_cons_zero, List.set_cons_succ]
        refine wpHeadS_step (yieldsIf_load_mid (by rfl) 103 (.tmp 29) rfl wo.heap.size 1 (by rfl) (bvs b) _ (fun w' hS => hS.2) hu2 rfl hi2) ?_
        simp only [Act.put, List.setIfInBounds_toArray, List.set_cons_zero, List.set_cons_succ]
        refine wpHeadS_step (v := ?_) (Or.inl ⟨by rfl, ?_⟩) ?_
        rotate_left
        · intro w' hSw; clear hSw; go_simp; (try with_reducible rfl)
        refine wpHeadS_nil (wpTailS_end (by decide) ?_)
        simp only [Act.put, List.setIfInBounds_toArray, List.set_cons_zero, List.set_cons_succ]
        have hd5 := ((HD2.out.kept (Kept.refl (fun _ => False) w2).drew (fun h => h) (fun h => h) (fun h => h) (fun _ _ h => h)).setFast i b hin HL.out)
        rw [Nat.mul_comm] at hd5
        have HD5 := Lib.hid hd5
        have hth : w2.drew.there gf (i * 64) (bvs b).toArray.size := by
          rw [List.size_toArray, bvs_length, HL.out]
          exact RowV.there (w := w2.drew) HD2.out.fast _ _ (by
            have h1 := HD2.out.len
            rw [secs_length HD2.out.sec, h1]; omega)
        clear hd5
        refine wpList_store_mid rfl 103 (.tmp 31) (.tmp 30) rfl gf (i * 64) (bvs b).toArray rfl rfl hth (by rw [List.size_toArray]; exact hi2) (all_oneCell_toArray (bvs_one b)) ?_
        obtain ⟨w5, hw5⟩ : ∃ w5, w2.drew.setCells gf (i * 64) (bvs b) = w5 := ⟨_, rfl⟩
        have hk5 : Kept F wo w5 := by
          have k1 : Kept F wo w2.drew := ((Kept.refl F wo).then_below HB2.out).drew
          rw [← hw5]
          exact k1.trans (setCells_keep gf (bvs b) (i * 64) w2.drew) (fun k hk => by subst hk; exact .inl q2)
        have hk6 := HKK.out.trans hk5 (fun k hk => .inl hk)
        have HK6 := Lib.hid hk6
        rw [show (bvs b).toArray.toList = bvs b from rfl, hw5]
        rw [hw5] at HD5
        clear hth hw5 hk5 hk6
        go_wp2_with fail
        go_roundw
        case rel =>
          refine ⟨k + 1, by have := HM.out; omega, by go_num, ?_, HK6.out⟩
          have e : d1.waits.take (k + 1) = d1.waits.take k ++ [(i, b)] := by rw [List.take_add_one, HX.out]; rfl
          rw [e, sets_snoc]
          exact HD5.out
        case measure => simp [intOf]; omega
      · obtain rfl : k = m := by omega
        have hbs : DiskB wo p gf gm n (.slice A k c) { d1 with fast := view d } := by
          have h := hbk
          rw [List.take_of_length_le (by have := HM.out; omega), ← HV.out] at h
          exact h
        have HBS := Lib.hid hbs
        have HKK := Lib.hid hkk
        clear hbk hbs hkk hlt hk
        go_wp2_with fail
        refine (diskSettle_any wo F p gf gm n _ _ HBS.out q1 q3).mono ?_
        rintro e w6 ⟨rfl, hb6, hk6, hs6⟩
        have HB6 := Lib.hid hb6
        have HK6 := Lib.hid (HKK.out.trans hk6 (fun k hk => .inl hk))
        clear hb6 hk6 hs6
        go_wp2_with fail
        go_ret
        rw [HW.out, HD.out, HD1.out]
        exact ⟨rfl, ⟨gf, gm, n, _, HB6.out, q1, q2, q3, fun g hg => by simp [Value.ownBlock] at hg⟩, HK6.out⟩
  · have hd' : (DiskMath.step d).2 = false := by simpa using hd
    have HD := Lib.hid hd'
    rw [hd']
    clear hd hd'
    go_wp2_with fail
    go_ret
    rw [HW.out, HD.out]
    exact ⟨rfl, ⟨gf, gm, n, vw, HB1.out, q1, q2, q3, HQ4.out⟩, HK1.out⟩
end Go.Proofs.YtckihiiimomgfaaDoor

namespace Go.Proofs.YtckihiiimomgfaaDoor
open Go.RowKit DiskMath
theorem torn_snoc (ws : List (Nat × Sector)) (f : List Sector) (w : Nat × Sector) (l : List Int) (z : Int) (h : l[ws.length]? = some z) : torn f (ws ++ [w]) l = tearAt (torn f ws l) w.1 (clamp z) w.2 := by
  induction ws generalizing f l with
  | nil =>
    cases l with
    | nil => simp at h
    | cons a l => simp at h; subst h; simp [torn]
  | cons x ws ih =>
    cases l with
    | nil => simp at h
    | cons a l =>
      simp only [List.cons_append, torn]
      exact ih _ l (by simpa using h)
theorem torn_take (ws : List (Nat × Sector)) (f : List Sector) (l : List Int) (k : Nat) (h : l.length ≤ k) : torn f (ws.take k) l = torn f ws l := by
  induction ws generalizing f l k with
  | nil => simp
  | cons x ws ih =>
    cases l with
    | nil => cases k <;> simp [torn]
    | cons a l =>
      cases k with
      | zero => simp at h
      | succ k =>
        simp only [List.take_succ_cons, torn]
        exact ih _ l k (by simpa using h)
theorem clamp_le (z : Int) : clamp z ≤ 64 := by unfold clamp; omega
theorem tear_sec {i n : Nat} {f : List Sector} {b : Sector} (hf : ∀ s ∈ f, s.length = 64) (hb : b.length = 64) : ∀ s ∈ tearAt f i n b, s.length = 64 := fun s hs => by
  unfold tearAt at hs
  by_cases hi : i < f.length
  · rcases List.mem_or_eq_of_mem_set hs with h1 | rfl
    · exact hf s h1
    · have e : f.getD i [] = f[i] := by rw [List.getD_eq_getElem?_getD, List.getElem?_eq_getElem hi]; rfl
      have := hf f[i] (List.getElem_mem _)
      rw [StampMath.tear_length (by rw [e]; omega)]
      exact hb
  · rw [List.set_eq_of_length_le (by omega)] at hs
    exact hf s hs
/-- a sector's first bytes are stored among the fast ones -/
theorem DiskB.tearFast {w w' : World} {p gf gm n : Nat} {vw : Value} {d : Dk} (h : DiskB w p gf gm n vw d) (i m : Nat) (b : List UInt8) (hi : i < n) (hb : b.length = 64) (hm : m ≤ 64) (hr : RowV w' gf 103 (spliceV (flat d.fast) (64 * i) (bvs (b.take m)))) (hk : Kept (fun k => k = gf) w w') : DiskB w' p gf gm n vw { d with fast := tearAt d.fast i m b } := by
  obtain ⟨n1, n2, n3, n4⟩ := h.ne
  have hl := h.len
  have hil : i < d.fast.length := by omega
  rw [flat_part h.sec (List.getElem?_eq_getElem hil) b m hb hm] at hr
  have e : tearAt d.fast i m b = d.fast.set i (b.take m ++ (d.fast[i]).drop m) := by
    unfold tearAt StampMath.tear
    rw [List.getD_eq_getElem?_getD, List.getElem?_eq_getElem hil]
    rfl
  refine ⟨hk.heap h.blk (fun e => n1 e), by rw [e]; exact hr, h.map.kept hk (fun e => n3 e.symm), hk.own h.waits (fun g hg e => (n4 g hg).2.1 e), by rw [e, List.length_set]; exact hl, h.pos, h.max, tear_sec h.sec hb, h.wsec, h.few, h.arm⟩
def CrRel (w : World) (F : Nat → Prop) (p gf gm n : Nat) (vw : Value) (d : Dk) (l : List Int) (i : Value) (wr : World) : Prop :=
  ∃ k : Nat, k ≤ d.waits.length ∧ k ≤ l.length ∧ i = .int .i64 (k : Int) ∧ DiskB wr p gf gm n vw { d with fast := torn d.fast (d.waits.take k) l } ∧ Kept F w wr
set_option maxRecDepth 100000 in
set_option maxHeartbeats 1000000 in
theorem diskCrash_any (w : World) (F : Nat → Prop) (p : Nat) (d : Dk) (A0 : Option Addr) (c0 : Nat) (l : List Int) (h : DiskAt w F p d) (_hlc : l.length ≤ c0) (hlm : c0 ≤ maxLen) (hr : Ns w A0 l) (hA : ∀ ad, A0 = some ad → l ≠ [] → ¬ F ad.block) :
    Calls Tryd.prog 18 #[.pointer (some ⟨p, 0, none⟩), .slice A0 l.length c0] w fun e w' => e = .returned (.tuple #[]) ∧ DiskAt w' F p (crash d l) ∧ Kept F w w' := by
  obtain ⟨gf, gm, n, vw, hb, q1, q2, q3, q4⟩ := h
  have HQ4 := Lib.hid q4
  obtain ⟨_, _, c2, _⟩ := hb.cells
  obtain ⟨A, c, rfl, hnc⟩ := own_shape hb.waits
  have hfew := hb.few
  obtain ⟨m, hm⟩ : ∃ m, d.waits.length = m := ⟨_, rfl⟩
  obtain ⟨nl, hnl⟩ : ∃ nl, l.length = nl := ⟨_, rfl⟩
  rw [hm] at hnc c2 hb HQ4 hfew
  rw [hnl] at _hlc ⊢
  have HM := Lib.hid hm
  have HNL := Lib.hid hnl
  have HH := Lib.hid hb
  have hcm : c0 ≤ 9223372036854775807 := by unfold maxLen at hlm; omega
  have HA := Lib.hid hA
  clear hb q4 hm hnl hlm hA
  go_enter Tryd.func18, Tryd.ntmps18
  go_wp2_with fail
  refine (diskOk_any w p gf gm n _ d HH.out).mono ?_
  rintro e w' ⟨rfl, rfl⟩
  go_wp2_with fail
  go_loopw [14] (fun i wr => CrRel w F p gf gm n (.slice A m c) d l i wr) (fun i _ => m - (intOf i).toNat)
  case atStart => exact ⟨0, Nat.zero_le _, Nat.zero_le _, rfl, HH.out, Kept.refl _ _⟩
  case round =>
    obtain ⟨k, hk, hkl, rfl, hbk, hkk⟩ := hrel
    obtain ⟨wo, rfl⟩ : ∃ wo : World, wo = wr := ⟨_, rfl⟩
    rw [HM.out] at hk
    rw [HNL.out] at hkl
    by_cases hlt : k < m
    · obtain ⟨⟨i, b⟩, hx⟩ : ∃ x, d.waits[k]? = some x := ⟨_, List.getElem?_eq_getElem (by have := HM.out; omega)⟩
      obtain ⟨g, c', hv, _, hg, hrg⟩ := hbk.wait hx
      obtain ⟨hin, hl⟩ := hbk.wsec (i, b) (List.mem_of_getElem? hx)
      injection hv with hv1 hv2 hv3
      subst hv1 hv3
      clear hv2
      have HBK := Lib.hid hbk
      have HKK := Lib.hid hkk
      have HX := Lib.hid hx
      have HRG := Lib.hid hrg
      have HL := Lib.hid hl
      obtain ⟨Z, hZl, hzv⟩ := info_write_zero
      have HZL := Lib.hid hZl
      have hus := Tryd.underlying105
      have hib : (Tryd.prog.info? 105).map (·.size) = some (Value.int .i64 (i : Int) :: bvs b).length := by rw [List.length_cons, bvs_length, hl]; kernel_rfl
      have h1 : ∀ u ∈ Value.int .i64 (i : Int) :: bvs b, u.oneCell' = true := List.forall_mem_cons.2 ⟨rfl, bvs_one b⟩
      have HONE := Lib.hid h1
      clear hbk hkk hx hrg hl hZl h1
      by_cases hkn : k < nl
      · obtain ⟨z, hz⟩ : ∃ z, l[k]? = some z := ⟨_, List.getElem?_eq_getElem (by have := HNL.out; omega)⟩
        obtain ⟨ad, rfl, had, hcz⟩ := hr k z hz
        have HZ := Lib.hid hz
        clear hz
        go_wp2_with (first
          | refine wpList_load_mid rfl 105 (.tmp 17) rfl g (k * 65) rfl (.int .i64 (i : Int) :: bvs b) _ HRG.out hus rfl hib ?_
          | refine wpList_store_new rfl 105 (.tmp 5) (.tmp 18) rfl rfl (.int .i64 (i : Int) :: bvs b) rfl rfl (by show Z.toArray.size = _; rw [List.size_toArray, HZL.out, List.length_cons, bvs_length, HL.out]) hib HONE.out ?_; intro w2 hr2 hb2 hs2; have HR2 := Lib.hid hr2; have HB2 := Lib.hid hb2; clear hr2 hb2)
        have hd2 := HBK.out.kept (Kept.of_below (F := fun _ => False) HB2.out) (fun h => h) (fun h => h) (fun h => h) (fun _ _ h => h)
        have b0 : w2.cell? ⟨p, 0, none⟩ = some (.slice (some ⟨gf, 0, none⟩) n n) := hd2.cells.1
        have b1 : w2.cell? ⟨wo.heap.size, 0, none⟩ = some (.int .i64 (i : Int)) := by rw [HR2.out.cell]; rfl
        have hczo : w2.cell? (ad.add k) = some (.int .i64 z) := by
          rw [HB2.out.cell (by rw [addr_block]; exact Nat.lt_of_lt_of_le had HKK.out.size), HKK.out.cell (by rw [addr_block]; exact had) (by rw [addr_block]; exact HA.out ad rfl (by intro e; have := HNL.out; rw [e] at this; simp at this; omega))]
          exact hcz
        have hb12 : Bs w2 (some ⟨wo.heap.size, 1, none⟩) b := fun j x hj => by
          refine ⟨_, rfl, by show wo.heap.size < _; omega, ?_⟩
          rw [Addr.add_lit, HR2.out.cell, Nat.add_comm 1 j, List.getElem?_cons_succ]
          exact bvs_get b j x hj
        have HB12 := Lib.hid hb12
        have HD2 := Lib.hid hd2
        have hin1 : (i : Int) < (n : Int) := by omega
        have hin0 : (0 : Int) ≤ (i : Int) := by omega
        have hkn1 : (k : Int) < (nl : Int) := by omega
        have hkn0 : (0 : Int) ≤ (k : Int) := by omega
        have hw1 : IntKind.i64.wrap (k : Int) = (k : Int) := IntWalk.i64_in _ (by omega)
        clear hd2 hus hib hzv hb12 hcz
        refine wp_region_headS 16 17 (fun w' => w'.cell? ⟨p, 0, none⟩ = some (.slice (some ⟨gf, 0, none⟩) n n) ∧ w'.cell? ⟨wo.heap.size, 0, none⟩ = some (.int .i64 (i : Int)) ∧ w'.cell? (ad.add k) = some (.int .i64 z)) (by kernel_rfl) (by kernel_rfl) (by rintro _ ⟨_, _⟩ ⟨_, _⟩ _ rfl h; exact h) ⟨b0, b1, hczo⟩ ?_
        have HS0 := Lib.hid (show _ ∧ _ ∧ _ from ⟨b0, b1, hczo⟩)
        clear b0 b1 hczo
        iterate 14 (refine wpHeadS_step (v := ?_) (Or.inl ⟨by rfl, ?_⟩) ?_; rotate_left; · intro w' hSw; obtain ⟨s1, s2, s3⟩ := hSw; go_simp; (try with_reducible rfl))
        simp only [Act.put, List.setIfInBounds_toArray, List.set_cons_zero, List.set_cons_succ]
        obtain ⟨cl, hcl⟩ : ∃ cl, clamp z = cl := ⟨_, rfl⟩
        have hcl64 : cl ≤ 64 := by rw [← hcl]; exact clamp_le z
        have HCL := Lib.hid hcl
        clear hcl
        refine wpHeadS_step (v := .int .i64 (cl : Int)) (Or.inl ⟨by rfl, ?_⟩) ?_
        · intro w' hSw; clear hSw; go_simp; rw [← HCL.out]; unfold clamp; split <;> split <;> omega
        have hcli : (cl : Int) ≤ 64 := by omega
        have hcl0 : (0 : Int) ≤ (cl : Int) := by omega
        refine wpHeadS_step (v := ?_) (Or.inl ⟨by rfl, ?_⟩) ?_
        rotate_left
        · intro w' hSw; clear hSw; go_simp; (try with_reducible rfl)
        simp only [Act.put, List.setIfInBounds_toArray, List.set_cons_zero, List.set_cons_succ]
        have hlen := HD2.out.len
        have hfl : (flat (torn d.fast (d.waits.take k) l)).length = 64 * n := by rw [secs_length HD2.out.sec]; exact congrArg (64 * ·) hlen
        have htl : (b.take cl).length = cl := by rw [List.length_take, HL.out]; omega
        refine wpHeadS_nil (wpTailS_op (by decide) rfl fun K hK => wp_copy_keep (.tmp 30) (.tmp 38) 29 29 rfl 5 Tryd.underlying29 (by kernel_rfl) (some ⟨gf, i * 64, none⟩) (some ⟨wo.heap.size, 1, none⟩) 64 64 cl 64 rfl rfl gf (i * 64) (flat (torn d.fast (d.waits.take k) l)) 103 HD2.out.fast (bvs (b.take cl)) ?_ ?_ ?_ (bvs_one _) ?_)
        · rw [bvs_length, htl]; exact (Nat.min_eq_left (by omega)).symm
        · intro _
          refine ⟨rfl, _, rfl, fun j v hj => ?_⟩
          obtain ⟨x, hx, rfl⟩ := bvs_inv hj
          obtain ⟨ad', e, _, hce⟩ := (HB12.out.take cl) j x hx
          injection e with e
          subst e
          exact hce
        · rw [bvs_length, htl, hfl]; omega
        · intro w5 hr5 hk5 hs5
          obtain ⟨n1, n2, n3, n4⟩ := HD2.out.ne
          obtain ⟨b0, b1, hczo⟩ := HS0.out
          have hgfw : gf < wo.heap.size := HBK.out.lt.2.1
          have hadgf : ad.block ≠ gf := fun e => HA.out ad rfl (by intro e; have := HNL.out; rw [e] at this; simp at this; omega) (e ▸ q2)
          refine hK.out _ _ ⟨?_, ?_, ?_⟩ ?_
          · rw [hk5.cell (p := ⟨p, 0, none⟩) (show p < w2.heap.size from cell_lt' b0) n1]; exact b0
          · rw [hk5.cell (p := ⟨wo.heap.size, 0, none⟩) (show wo.heap.size < w2.heap.size from cell_lt' b1) (show ¬ wo.heap.size = gf by omega)]; exact b1
          · rw [hk5.cell (by rw [addr_block]; exact (show ad.block < w2.heap.size by have := cell_lt' hczo; rwa [addr_block] at this)) (by rw [addr_block]; exact hadgf)]; exact hczo
          · have hd2' : DiskB w2.drew p gf gm n (.slice (some ⟨g, 0, none⟩) m c) { d with fast := torn d.fast (d.waits.take k) l } := HD2.out.kept (Kept.refl (fun _ => False) w2).drew (fun h => h) (fun h => h) (fun h => h) (fun _ _ h => h)
            have hd5 := hd2'.tearFast i cl b hin HL.out hcl64 (by rw [Nat.mul_comm]; exact hr5) hk5
            have hkk5 : Kept F wo w5 := ((Kept.refl F wo).then_below HB2.out).drew.trans hk5 (fun k hk => by subst hk; exact .inl q2)
            have HD5 := Lib.hid hd5
            have HK5 := Lib.hid (HKK.out.trans hkk5 (fun k hk => .inl hk))
            clear hd2' hd5 hkk5 hk5 hr5 hs5 n1 n2 n3 n4 b0 b1 hczo hK HS0 HD2 K
            refine wpTailS_end (by decide) ?_
            simp only [Act.put, List.setIfInBounds_toArray, List.set_cons_zero, List.set_cons_succ]
            go_wp2_with fail
            go_roundw
            case rel =>
              refine ⟨k + 1, by have := HM.out; omega, by have := HNL.out; omega, by go_num, ?_, HK5.out⟩
              have e : d.waits.take (k + 1) = d.waits.take k ++ [(i, b)] := by rw [List.take_add_one, HX.out]; rfl
              have hk0 : (d.waits.take k).length = k := by rw [List.length_take]; have := HM.out; omega
              rw [e, torn_snoc _ _ _ _ z (by rw [hk0]; exact HZ.out), HCL.out]
              exact HD5.out
            case measure => simp [intOf]; omega
      · go_wp2_with (first
          | refine wpList_load_mid rfl 105 (.tmp 17) rfl g (k * 65) rfl (.int .i64 (i : Int) :: bvs b) _ HRG.out hus rfl hib ?_
          | refine wpList_store_new rfl 105 (.tmp 5) (.tmp 18) rfl rfl (.int .i64 (i : Int) :: bvs b) rfl rfl (by show Z.toArray.size = _; rw [List.size_toArray, HZL.out, List.length_cons, bvs_length, HL.out]) hib HONE.out ?_; intro w2 hr2 hb2 hs2; have HR2 := Lib.hid hr2; have HB2 := Lib.hid hb2; clear hr2 hb2)
        have hbs : DiskB w2 p gf gm n (.slice (some ⟨g, 0, none⟩) m c) { d with fast := torn d.fast d.waits l } := by
          have h := HBK.out.kept (Kept.of_below (F := fun _ => False) HB2.out) (fun h => h) (fun h => h) (fun h => h) (fun _ _ h => h)
          rw [torn_take _ _ _ _ (by have := HNL.out; omega)] at h
          exact h
        have HBS := Lib.hid hbs
        have HKS := Lib.hid (HKK.out.then_below HB2.out)
        clear hbs
        refine (diskSettle_any w2 F p gf gm n _ _ HBS.out q1 q3).mono ?_
        rintro e w6 ⟨rfl, hb6, hk6, hs6⟩
        obtain ⟨_, _, _, c63, c64, f6⟩ := hb6.cells
        have f63 := f6 3
        have f64 := f6 4
        have HB6 := Lib.hid hb6
        have HK6 := Lib.hid (HKS.out.trans hk6 (fun k hk => .inl hk))
        clear hb6 hk6 hs6 f6
        go_wp2_with fail
        go_end0
        refine ⟨rfl, ⟨gf, gm, n, _, (HB6.out.set3 0 0 rfl (by decide)).set4 false, q1, q2, q3, fun g hg => by simp [Value.ownBlock] at hg⟩, ?_⟩
        exact (HK6.out.trans (DiskB.keptP (F := F) q1) (fun _ h => .inl h)).trans (DiskB.keptP (F := F) q1) (fun _ h => .inl h)
    · obtain rfl : k = m := by omega
      have hbs : DiskB wo p gf gm n (.slice A k c) { d with fast := torn d.fast d.waits l } := by
        have h := hbk
        rw [List.take_of_length_le (by have := HM.out; omega)] at h
        exact h
      have HBS := Lib.hid hbs
      have HKS := Lib.hid hkk
      clear hbk hbs hkk hlt hk
      go_wp2_with fail
      refine (diskSettle_any wo F p gf gm n _ _ HBS.out q1 q3).mono ?_
      rintro e w6 ⟨rfl, hb6, hk6, hs6⟩
      obtain ⟨_, _, _, c63, c64, f6⟩ := hb6.cells
      have f63 := f6 3
      have f64 := f6 4
      have HB6 := Lib.hid hb6
      have HK6 := Lib.hid (HKS.out.trans hk6 (fun k hk => .inl hk))
      clear hb6 hk6 hs6 f6
      go_wp2_with fail
      go_end0
      refine ⟨rfl, ⟨gf, gm, n, _, (HB6.out.set3 0 0 rfl (by decide)).set4 false, q1, q2, q3, fun g hg => by simp [Value.ownBlock] at hg⟩, ?_⟩
      exact (HK6.out.trans (DiskB.keptP (F := F) q1) (fun _ h => .inl h)).trans (DiskB.keptP (F := F) q1) (fun _ h => .inl h)
end Go.Proofs.YtckihiiimomgfaaDoor
