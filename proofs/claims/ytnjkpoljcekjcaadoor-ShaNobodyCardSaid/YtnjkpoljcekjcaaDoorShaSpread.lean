/- The contract of a block spread into 64 words. -/
import Derived.Test.YtnjkpoljcekjcaaDoorShaRot
import Derived.Test.YtnjkpoljcekjcaaDoorFoot
import Derived.Deep.MidRow
import Derived.StillTailTactics
import Derived.IntWalk
namespace Go.Proofs.YtnjkpoljcekjcaaDoor
open Go.RowKit
def uvs (l : List Nat) : List Value := l.map fun n : Nat => Value.int .u32 (n : Int)
theorem uvs_length (l : List Nat) : (uvs l).length = l.length := by simp [uvs]
theorem uvs_one (l : List Nat) : ∀ u ∈ uvs l, u.oneCell' = true := by
  intro u hu
  obtain ⟨c, _, rfl⟩ := List.mem_map.1 hu
  rfl
/-- block g holds the words l -/
def Row32 (w : World) (g : Nat) (T : TypeId) (l : List Nat) : Prop := w.heap[g]? = some (.cells (uvs l).toArray T (0, 0))
theorem Row32.cell {w : World} {g : Nat} {T : TypeId} {l : List Nat} (h : Row32 w g T l) (i : Nat) (hi : i < l.length) : w.cell? ⟨g, i, none⟩ = some (.int .u32 (l.getD i 0 : Nat)) := by
  rw [block_cell h]
  simp [uvs, List.getD_eq_getElem?_getD, List.getElem?_eq_getElem hi]
theorem Row32.there {w : World} {g : Nat} {T : TypeId} {l : List Nat} (h : Row32 w g T l) : w.there g 0 l.length := fun j hj => by
  rw [Nat.zero_add, h.cell j hj]
  exact ⟨rfl, block_free h⟩
theorem Row32.range {w : World} {g : Nat} {T : TypeId} {l : List Nat} (h : Row32 w g T l) : w.rangeAt g 0 (uvs l) := fun j v hv => by
  rw [Nat.zero_add, block_cell h]
  simpa using hv
theorem uvs_set (l : List Nat) (k x : Nat) : (uvs l).toArray.setIfInBounds k (.int .u32 (x : Int)) = (uvs (l.set k x)).toArray := by
  simp [uvs, List.map_set]
theorem Row32.set {w : World} {g : Nat} {T : TypeId} {l : List Nat} (h : Row32 w g T l) (k : Nat) (e : Int) (x : Nat) (he : e = (x : Int)) : Row32 (w.setCell ⟨g, k, none⟩ (.int .u32 e)) g T (l.set k x) := by
  subst he
  have := set_block h k (.int .u32 (x : Int))
  rw [uvs_set] at this
  exact this
theorem Row32.far {w : World} {g g' : Nat} {T : TypeId} {l : List Nat} (h : Row32 w g T l) (hne : g ≠ g') (k : Nat) (u : Value) : Row32 (w.setCell ⟨g', k, none⟩ u) g T l :=
  ((Kept.refl (fun x => x = g') w).setCell (p := ⟨g', k, none⟩) (.inl rfl) u).heap h hne
theorem Row32.drew {w : World} {g : Nat} {T : TypeId} {l : List Nat} (h : Row32 w g T l) : Row32 w.drew g T l := h
theorem Below.setCells {B : Nat} {a : World} {b : Nat} (hb : B ≤ b) : ∀ (vs : List Value) (o : Nat) (w : World), Below B a w → Below B a (w.setCells b o vs)
  | [], _, _, h => h
  | v :: r, o, _, h => Below.setCells hb r (o + 1) _ (h.setCell hb v)
theorem setCells_size (g : Nat) : ∀ (vs : List Value) (o : Nat) (w : World), (w.setCells g o vs).heap.size = w.heap.size
  | [], _, _ => rfl
  | v :: r, o, w => (setCells_size g r (o + 1) (w.setCell ⟨g, o, none⟩ v)).trans (by simp)
theorem setCells_block (g : Nat) (T : TypeId) (fr : Nat × Nat) : ∀ (vs : List Value) (o : Nat) (w : World) (cs : Array Value), w.heap[g]? = some (.cells cs T fr) → ∃ cs', (w.setCells g o vs).heap[g]? = some (.cells cs' T fr) ∧ cs'.size = cs.size
  | [], _, _, cs, h => ⟨cs, h, rfl⟩
  | v :: r, o, w, cs, h => by
    obtain ⟨cs', h1, h2⟩ := setCells_block g T fr r (o + 1) _ _ (set_block h o v)
    exact ⟨cs', h1, by simpa using h2⟩
theorem setCells_kept (g : Nat) : ∀ (vs : List Value) (o : Nat) (a w : World) (F : Nat → Prop), Kept F a w → (F g ∨ a.heap.size ≤ g) → Kept F a (w.setCells g o vs)
  | [], _, _, _, _, h, _ => h
  | v :: r, o, a, _, F, h, hg => setCells_kept g r (o + 1) a _ F (h.setCell (p := ⟨g, o, none⟩) hg v) hg
theorem Row32.store {w : World} {g : Nat} {T : TypeId} {l m : List Nat} (h : Row32 w g T l) (hlen : m.length = l.length) : Row32 (w.setCells g 0 (uvs m)) g T m := by
  obtain ⟨cs', h1, h2⟩ := setCells_block g T (0, 0) (uvs m) 0 w _ h
  have ht : w.there g 0 (uvs m).length := by
    rw [uvs_length, hlen]; exact h.there
  have hrg := World.rangeAt_setCells_same w g 0 (uvs m) ht
  have e : cs' = (uvs m).toArray := by
    apply Array.ext
    · rw [h2]; simp [uvs_length, hlen]
    · intro j hj1 hj2
      have hj : j < (uvs m).length := by simpa using hj2
      have := hrg j _ (List.getElem?_eq_getElem hj)
      rw [Nat.zero_add, block_cell h1, Array.getElem?_eq_getElem hj1] at this
      injection this with this
  rw [e] at h1
  exact h1
theorem Row32.keep {w w' : World} {g : Nat} {T : TypeId} {l : List Nat} {F : Nat → Prop} (h : Row32 w g T l) (hk : Kept F w w') (hn : ¬ F g) : Row32 w' g T l := hk.heap h hn
theorem Row32.below {w w' : World} {g : Nat} {T : TypeId} {l : List Nat} (h : Row32 w g T l) (hb : Below w.heap.size w w') : Row32 w' g T l := (hb.block g (heap_lt h)).trans h
def fillTo (l : List UInt8) (k : Nat) : List Nat := ShaMath.wTo l k ++ List.replicate (64 - k) 0
theorem fillTo_length (l : List UInt8) (k : Nat) (h : k ≤ 64) : (fillTo l k).length = 64 := by
  unfold fillTo
  rw [List.length_append, ShaMath.wTo_length, List.length_replicate]
  omega
theorem fillTo_set (l : List UInt8) (k : Nat) (h : k < 64) : (fillTo l k).set k (ShaMath.wNext l (ShaMath.wTo l k) k) = fillTo l (k + 1) := by
  unfold fillTo
  rw [show 64 - k = (64 - (k + 1)) + 1 by omega, List.replicate_succ, List.set_append_right _ _ (by rw [ShaMath.wTo_length]; omega), ShaMath.wTo_length]
  simp [ShaMath.wTo]
theorem fillTo_getD (l : List UInt8) (k i : Nat) (h : i < k) : (fillTo l k).getD i 0 = (ShaMath.wTo l k).getD i 0 := by
  unfold fillTo
  rw [List.getD_eq_getElem?_getD, List.getElem?_append_left (by rw [ShaMath.wTo_length]; exact h), ← List.getD_eq_getElem?_getD]
theorem alloc2 (w : World) (o1 o2 : Obj) : ((w.alloc o1).alloc o2).heap[w.heap.size + 1]? = some o2 ∧ ((w.alloc o1).alloc o2).heap[w.heap.size]? = some o1 := by
  have e1 := heap_alloc_new (w.alloc o1) o2
  have e2 : (w.alloc o1).heap.size = w.heap.size + 1 := by simp
  rw [e2] at e1
  exact ⟨e1, ((below_alloc (w.alloc o1) o2).block _ (by omega)).trans (heap_alloc_new _ _)⟩
theorem named (n : Nat) : ∃ q : Nat, n = q := ⟨_, rfl⟩
def SprRel (l : List UInt8) (w : World) (lo hi : Nat) (i : Value) (wr : World) : Prop :=
  ∃ k : Nat, lo ≤ k ∧ k ≤ hi ∧ i = .int .i64 (k : Nat) ∧ Row32 wr (w.heap.size + 1) 65 (fillTo l k) ∧ Row32 wr w.heap.size 65 (List.replicate 64 0) ∧ Below w.heap.size w wr ∧ wr.heap.size = w.heap.size + 2
theorem word_or (b0 b1 b2 b3 : Nat) (h0 : b0 < 256) (h1 : b1 < 256) (h2 : b2 < 256) (h3 : b3 < 256) :
    bits .or .u32 (bits .or .u32 (bits .or .u32 ((b0 : Int) * 16777216) ((b1 : Int) * 65536)) ((b2 : Int) * 256)) (b3 : Int) = ((b0 * 16777216 + b1 * 65536 + b2 * 256 + b3 : Nat) : Int) := by
  have e0 : (b0 : Int) * 16777216 = ((b0 * 16777216 : Nat) : Int) := by omega
  have e1 : (b1 : Int) * 65536 = ((b1 * 65536 : Nat) : Int) := by omega
  have e2 : (b2 : Int) * 256 = ((b2 * 256 : Nat) : Int) := by omega
  rw [e0, e1, e2, u32_or_nat _ _ (by omega) (by omega)]
  rw [nat_join 24 (b0 * 16777216) (b1 * 65536) (by omega) (by omega), u32_or_nat _ _ (by omega) (by omega)]
  rw [nat_join 16 (b0 * 16777216 + b1 * 65536) (b2 * 256) (by omega) (by omega), u32_or_nat _ _ (by omega) (by omega)]
  rw [nat_join 8 (b0 * 16777216 + b1 * 65536 + b2 * 256) b3 (by omega) (by omega)]
theorem xor3 (a b c : Nat) (ha : a < 4294967296) (hb : b < 4294967296) (hc : c < 4294967296) : bits .xor .u32 (bits .xor .u32 (a : Int) (b : Int)) (c : Int) = ((a ^^^ b ^^^ c : Nat) : Int) := by
  rw [u32_xor_nat _ _ ha hb, u32_xor_nat _ _ (Nat.xor_lt_two_pow (n := 32) ha hb) hc]
theorem sm0_spell (v : Nat) (h : v < 4294967296) : bits .xor .u32 (bits .xor .u32 (ShaMath.rot v 7 : Nat) (ShaMath.rot v 18 : Nat)) ((v : Int) / 8) = (ShaMath.sm0 v : Nat) := by
  have e : (v : Int) / 8 = ((v / 8 : Nat) : Int) := by omega
  rw [e]
  exact xor3 _ _ _ (ShaMath.rot_lt _ h) (ShaMath.rot_lt _ h) (by omega)
theorem sm1_spell (v : Nat) (h : v < 4294967296) : bits .xor .u32 (bits .xor .u32 (ShaMath.rot v 17 : Nat) (ShaMath.rot v 19 : Nat)) ((v : Int) / 1024) = (ShaMath.sm1 v : Nat) := by
  have e : (v : Int) / 1024 = ((v / 1024 : Nat) : Int) := by omega
  rw [e]
  exact xor3 _ _ _ (ShaMath.rot_lt _ h) (ShaMath.rot_lt _ h) (by omega)
set_option maxHeartbeats 1000000 in
theorem spread_any (A : Option Addr) (n c : Nat) (l : List UInt8) (w : World) (hn : l.length = n) (hl : 64 ≤ n) (hm : n ≤ 1000000) (hr : Bs w A l) :
    Calls Tryd.prog 41 #[.slice A n c] w fun e w' => e = .returned (.agg (uvs (ShaMath.wTo l 64)).toArray) ∧ Below w.heap.size w w' := by
  go_enter Tryd.func41, Tryd.ntmps41
  go_wp2_with fail
  go_loopw [10] (fun i wr => SprRel l w 0 16 i wr) (fun i _ => 16 - (intOf i).toNat)
  case atStart =>
    refine ⟨0, Nat.le_refl _, by decide, rfl, ?_, ?_, ((Below.refl _ _).alloc (Nat.le_refl _) _).alloc (by simp) _, by simp⟩
    · exact (alloc2 w _ _).1
    · exact (alloc2 w _ _).2
  case round =>
    obtain ⟨k, _, hk, rfl, hrow, hz, hb, hs⟩ := hrel
    have HROW := Lib.hid hrow
    have HZ := Lib.hid hz
    have HB := Lib.hid hb
    by_cases hlt : k < 16
    · obtain ⟨ad, rfl, hadb, h0⟩ := (hr.below hb).at_ (k := 4 * k) (by omega)
      obtain ⟨_, e1, _, h1⟩ := (hr.below hb).at_ (k := 4 * k + 1) (by omega)
      obtain ⟨_, e2, _, h2⟩ := (hr.below hb).at_ (k := 4 * k + 2) (by omega)
      obtain ⟨_, e3, _, h3⟩ := (hr.below hb).at_ (k := 4 * k + 3) (by omega)
      injection e1 with e1; injection e2 with e2; injection e3 with e3
      subst e1 e2 e3
      have hw : ShaMath.wNext l (ShaMath.wTo l k) k = l[4 * k].toNat * 16777216 + l[4 * k + 1].toNat * 65536 + l[4 * k + 2].toNat * 256 + l[4 * k + 3].toNat := by
        unfold ShaMath.wNext
        rw [if_pos hlt]
        unfold ShaMath.word ShaMath.byteAt
        simp only [List.getD_eq_getElem?_getD, List.getElem?_eq_getElem (show 4 * k < l.length by omega), List.getElem?_eq_getElem (show 4 * k + 1 < l.length by omega), List.getElem?_eq_getElem (show 4 * k + 2 < l.length by omega), List.getElem?_eq_getElem (show 4 * k + 3 < l.length by omega), Option.getD_some]
      have hor := word_or _ _ _ _ l[4 * k].toNat_lt l[4 * k + 1].toNat_lt l[4 * k + 2].toNat_lt l[4 * k + 3].toNat_lt
      rw [← hw] at hor
      have q0 := l[4 * k].toNat_lt
      have q1 := l[4 * k + 1].toNat_lt
      have q2 := l[4 * k + 2].toNat_lt
      have q3 := l[4 * k + 3].toNat_lt
      obtain ⟨b0, g0⟩ : ∃ b, l[4 * k].toNat = b := ⟨_, rfl⟩
      obtain ⟨b1, g1⟩ : ∃ b, l[4 * k + 1].toNat = b := ⟨_, rfl⟩
      obtain ⟨b2, g2⟩ : ∃ b, l[4 * k + 2].toNat = b := ⟨_, rfl⟩
      obtain ⟨b3, g3⟩ : ∃ b, l[4 * k + 3].toNat = b := ⟨_, rfl⟩
      rw [g0] at h0 hor q0; rw [g1] at h1 hor q1; rw [g2] at h2 hor q2; rw [g3] at h3 hor q3
      have HOR := Lib.hid hor
      have HR := Lib.hid hr
      have hc : wr.cell? ⟨w.heap.size + 1, k, none⟩ = some (.int .u32 ((fillTo l k).getD k 0 : Nat)) := hrow.cell k (by rw [fillTo_length _ _ (by omega)]; omega)
      have hf : wr.frozen? ⟨w.heap.size + 1, k, none⟩ = false := block_free hrow
      clear g0 g1 g2 g3 hw hr hor hrow hz hb
      obtain ⟨p0, e0⟩ := named (4 * k)
      obtain ⟨p1, e1⟩ := named (p0 + 1)
      obtain ⟨p2, e2⟩ := named (p0 + 2)
      obtain ⟨p3, e3⟩ := named (p0 + 3)
      rw [e0] at h0 h1 h2 h3
      rw [e1] at h1; rw [e2] at h2; rw [e3] at h3
      have v0 : IntKind.i64.wrap (4 * (k : Int)) = (p0 : Int) := (IntWalk.i64_in _ (by omega)).trans (by omega)
      have v1 : IntKind.i64.wrap ((p0 : Int) + 1) = (p1 : Int) := (IntWalk.i64_in _ (by omega)).trans (by omega)
      have v2 : IntKind.i64.wrap ((p0 : Int) + 2) = (p2 : Int) := (IntWalk.i64_in _ (by omega)).trans (by omega)
      have v3 : IntKind.i64.wrap ((p0 : Int) + 3) = (p3 : Int) := (IntWalk.i64_in _ (by omega)).trans (by omega)
      have n0 : p0 < n := by omega
      have n1 : p1 < n := by omega
      have n2 : p2 < n := by omega
      have n3 : p3 < n := by omega
      have r0 : IntKind.u32.wrap (b0 : Int) = (b0 : Int) := by rw [IntKind.wrap_u32]; omega
      have r1 : IntKind.u32.wrap (b1 : Int) = (b1 : Int) := by rw [IntKind.wrap_u32]; omega
      have r2 : IntKind.u32.wrap (b2 : Int) = (b2 : Int) := by rw [IntKind.wrap_u32]; omega
      have r3 : IntKind.u32.wrap (b3 : Int) = (b3 : Int) := by rw [IntKind.wrap_u32]; omega
      have s0 : IntKind.u32.wrap ((b0 : Int) * 16777216) = (b0 : Int) * 16777216 := by rw [IntKind.wrap_u32]; omega
      have s1 : IntKind.u32.wrap ((b1 : Int) * 65536) = (b1 : Int) * 65536 := by rw [IntKind.wrap_u32]; omega
      have s2 : IntKind.u32.wrap ((b2 : Int) * 256) = (b2 : Int) * 256 := by rw [IntKind.wrap_u32]; omega
      clear e0 e1 e2 e3
      go_wp2_with fail
      go_still_tail 34, (by kernel_rfl)
      clear h0 h1 h2 h3 v0 v1 v2 v3 r0 r1 r2 r3 s0 s1 s2
      go_wp2_with fail
      go_roundw
      case rel =>
        refine ⟨k + 1, by omega, by omega, by go_num, ?_, HZ.out.drew.far (by omega) _ _, HB.out.drew.setCell (by simp) _, by simpa using hs⟩
        have := HROW.out.drew.set k _ _ HOR.out
        rw [fillTo_set _ _ (by omega)] at this
        exact this
      case measure => simp [intOf]; omega
    · have hk16 : k = 16 := by omega
      have hrow' : Row32 wr (w.heap.size + 1) 65 (fillTo l 16) := by rw [← hk16]; exact hrow
      have HROW := Lib.hid hrow'
      clear hrow hz hb hrow' hk16
      go_wp2_with fail
      go_loopw [5] (fun i wr => SprRel l w 16 64 i wr) (fun i _ => 64 - (intOf i).toNat)
      case atStart => exact ⟨16, Nat.le_refl _, by decide, rfl, HROW.out, HZ.out, HB.out, hs⟩
      case round =>
        clear HROW HZ HB hs hlt hk
        obtain ⟨k, hk0, hk, rfl, hrow, hz, hb, hs⟩ := hrel
        have hlen := fillTo_length l k hk
        have HROW := Lib.hid hrow
        have HZ := Lib.hid hz
        have HB := Lib.hid hb
        have HL := Lib.hid hlen
        by_cases hlt : k < 64
        · have a0 := hrow.cell (k - 16) (by omega)
          have a1 := hrow.cell (k - 15) (by omega)
          have a2 := hrow.cell (k - 7) (by omega)
          have a3 := hrow.cell (k - 2) (by omega)
          rw [fillTo_getD _ _ _ (by omega)] at a0 a1 a2 a3
          have l0 := ShaMath.wTo_lt l k (k - 16)
          have l1 := ShaMath.wTo_lt l k (k - 15)
          have l2 := ShaMath.wTo_lt l k (k - 7)
          have l3 := ShaMath.wTo_lt l k (k - 2)
          have hw : ShaMath.wNext l (ShaMath.wTo l k) k = ((ShaMath.wTo l k).getD (k - 16) 0 + ShaMath.sm0 ((ShaMath.wTo l k).getD (k - 15) 0) + (ShaMath.wTo l k).getD (k - 7) 0 + ShaMath.sm1 ((ShaMath.wTo l k).getD (k - 2) 0)) % 4294967296 := by
            unfold ShaMath.wNext
            rw [if_neg (by omega)]
          obtain ⟨x0, g0⟩ := named ((ShaMath.wTo l k).getD (k - 16) 0)
          obtain ⟨x1, g1⟩ := named ((ShaMath.wTo l k).getD (k - 15) 0)
          obtain ⟨x2, g2⟩ := named ((ShaMath.wTo l k).getD (k - 7) 0)
          obtain ⟨x3, g3⟩ := named ((ShaMath.wTo l k).getD (k - 2) 0)
          rw [g0] at a0 l0 hw; rw [g1] at a1 l1 hw; rw [g2] at a2 l2 hw; rw [g3] at a3 l3 hw
          have hs0 := sm0_spell x1 l1
          have hs1 := sm1_spell x3 l3
          obtain ⟨y0, gy0⟩ := named (ShaMath.sm0 x1)
          obtain ⟨y1, gy1⟩ := named (ShaMath.sm1 x3)
          rw [gy0] at hs0 hw; rw [gy1] at hs1 hw
          have HW := Lib.hid hw
          obtain ⟨p0, e0⟩ := named (k - 16)
          obtain ⟨p1, e1⟩ := named (k - 15)
          obtain ⟨p2, e2⟩ := named (k - 7)
          obtain ⟨p3, e3⟩ := named (k - 2)
          rw [e0] at a0; rw [e1] at a1; rw [e2] at a2; rw [e3] at a3
          have A0 := Lib.hid a0
          have A2 := Lib.hid a2
          have v0 : IntKind.i64.wrap ((k : Int) - 16) = (p0 : Int) := (IntWalk.i64_in _ (by omega)).trans (by omega)
          have v1 : IntKind.i64.wrap ((k : Int) - 15) = (p1 : Int) := (IntWalk.i64_in _ (by omega)).trans (by omega)
          have v2 : IntKind.i64.wrap ((k : Int) - 7) = (p2 : Int) := (IntWalk.i64_in _ (by omega)).trans (by omega)
          have v3 : IntKind.i64.wrap ((k : Int) - 2) = (p3 : Int) := (IntWalk.i64_in _ (by omega)).trans (by omega)
          have n0 : p0 < 64 := by omega
          have n1 : p1 < 64 := by omega
          have n2 : p2 < 64 := by omega
          have n3 : p3 < 64 := by omega
          have m0 : (p0 : Int) < 64 := by omega
          have m2 : (p2 : Int) < 64 := by omega
          have hcf : ∀ w', Row32 w' (w.heap.size + 1) 65 (fillTo l k) → w'.cell? ⟨w.heap.size + 1, k, none⟩ = some (.int .u32 ((fillTo l k).getD k 0 : Nat)) ∧ w'.frozen? ⟨w.heap.size + 1, k, none⟩ = false := fun w' h => ⟨h.cell k (by omega), block_free h⟩
          have HCF := Lib.hid hcf
          clear e0 e1 e2 e3 g0 g1 g2 g3 gy0 gy1 hw hrow hz hb a0 a2 hlen hcf
          go_wp2_with fail
          go_quiet (fail)
          have hrowm : Row32 (wr.drewN nq) (w.heap.size + 1) 65 (fillTo l k) := HROW.out
          have hzm : Row32 (wr.drewN nq) w.heap.size 65 (List.replicate 64 0) := HZ.out
          have hbm : Below w.heap.size w (wr.drewN nq) := below_then HB.out (below_refl_drewN _ _ _)
          have hsm : (wr.drewN nq).heap.size = w.heap.size + 2 := hs
          have a0 : (wr.drewN nq).cell? ⟨w.heap.size + 1, p0, none⟩ = some (.int .u32 (x0 : Int)) := A0.out
          have a2 : (wr.drewN nq).cell? ⟨w.heap.size + 1, p2, none⟩ = some (.int .u32 (x2 : Int)) := A2.out
          clear A0 A2 HROW HZ HB hs a1 a3 v1 v3
          obtain ⟨wm, hwm⟩ : ∃ x : World, x = wr.drewN nq := ⟨_, rfl⟩
          rw [← hwm] at hrowm hzm hbm hsm a0 a2 ⊢
          clear hwm
          obtain ⟨hc, hf⟩ := HCF.out wm hrowm
          have HROW := Lib.hid hrowm
          have HZ := Lib.hid hzm
          have HB := Lib.hid hbm
          clear hrowm hzm hbm HCF
          go_wp2_with fail
          refine (rotL_any x1 7 (-7) wm l1 rfl (by decide) (by decide)).mono ?_
          rintro e w' ⟨rfl, rfl⟩
          go_wp2_with fail
          refine (rotL_any x1 18 (-18) wm l1 rfl (by decide) (by decide)).mono ?_
          rintro e w' ⟨rfl, rfl⟩
          go_wp2_with fail
          refine (rotL_any x3 17 (-17) wm l3 rfl (by decide) (by decide)).mono ?_
          rintro e w' ⟨rfl, rfl⟩
          go_wp2_with fail
          refine (rotL_any x3 19 (-19) wm l3 rfl (by decide) (by decide)).mono ?_
          rintro e w' ⟨rfl, rfl⟩
          go_wp2_with fail
          go_still_tail 14, (by kernel_rfl)
          clear a0 a2 v0 v2 hs0 hs1
          go_wp2_with fail
          go_roundw
          case rel =>
            refine ⟨k + 1, by omega, by omega, by go_num, ?_, HZ.out.drew.far (by omega) _ _, HB.out.drew.setCell (by simp) _, by simpa using hsm⟩
            have := (HROW.out.set k (((x0 : Int) + (y0 : Int) + (x2 : Int) + (y1 : Int)) % 4294967296) (ShaMath.wNext l (ShaMath.wTo l k) k) (by rw [HW.out]; omega)).drew
            rw [fillTo_set _ _ (by omega)] at this
            exact this
          case measure => simp [intOf]; omega
        · obtain rfl : k = 64 := by omega
          have e64 : fillTo l 64 = ShaMath.wTo l 64 := by simp [fillTo]
          have h64 : (ShaMath.wTo l 64).length = 64 := ShaMath.wTo_length _ _
          obtain ⟨m, hm64⟩ : ∃ m, ShaMath.wTo l 64 = m := ⟨_, rfl⟩
          rw [e64, hm64] at hrow
          rw [hm64] at h64
          have HM := Lib.hid hm64
          have hinf : (Tryd.prog.info? 65).map (·.size) = some 64 := by kernel_rfl
          have hsz : (uvs m).toArray.size = 64 := by rw [List.size_toArray, uvs_length, h64]
          rw [← hsz] at hinf
          have hfin := hz.store (m := m) (by rw [h64]; rfl)
          have hth : wr.there w.heap.size 0 (uvs m).toArray.size := by rw [hsz]; exact hz.there
          have HF := Lib.hid hfin
          have HROW := Lib.hid hrow
          have HT := Lib.hid hth
          have HI := Lib.hid hinf
          have HO := Lib.hid (all_oneCell_toArray (uvs_one m))
          clear hrow hz hb hlen e64 hm64 hfin hinf h64 HL hlt hk hk0 hth hsz
          go_wp2_with (first
            | refine wpList_load_row rfl 65 (.tmp 3) rfl (w.heap.size + 1) rfl 65 (uvs m).toArray (0, 0) _ HROW.out Tryd.underlying65 rfl HI.out ?_
            | refine wpList_store_mid rfl 65 (.tmp 2) (.tmp 92) rfl w.heap.size 0 (uvs m).toArray rfl rfl HT.out HI.out HO.out ?_)
          refine bodyPost_ret (v := .agg (uvs m).toArray) (results_cell_row rfl _ _ w.heap.size 65 (uvs m).toArray (0, 0) _ rfl HF.out Tryd.underlying65 rfl HI.out) rfl ⟨by rw [HM.out], Below.setCells (Nat.le_refl _) _ _ _ HB.out⟩
end Go.Proofs.YtnjkpoljcekjcaaDoor
