/- More words for memory: a boxed value's cells, a row of the call's own kept, a piece of bytes; the contract of bytes.Equal. -/
import Derived.Test.YtpejfngkdkkfnaaDoorBase
import Derived.Laws.Cells
import Derived.Laws.BytesString
import Derived.Deep.OwnRows
namespace Go.Proofs.YtpejfngkdkkfnaaDoor
open Go.RowKit

theorem cell_lt' {w : World} {a : Addr} {v : Value} (h : w.cell? a = some v) : a.block < w.heap.size := by
  rcases Nat.lt_or_ge a.block w.heap.size with h1 | h1
  · exact h1
  · simp [World.cell?, Array.getElem?_eq_none h1] at h
theorem bcell {W w1 : World} (hb : Below W.heap.size W w1) : (∀ b o, b < W.heap.size → w1.cell? ⟨b, o, none⟩ = W.cell? ⟨b, o, none⟩) ∧ (∀ b o, b < W.heap.size → w1.frozen? ⟨b, o, none⟩ = W.frozen? ⟨b, o, none⟩) :=
  ⟨fun b o h => hb.cell (p := ⟨b, o, none⟩) h, fun b o h => hb.frozen (p := ⟨b, o, none⟩) h⟩
theorem only_of_below {a w : World} (h : Below a.heap.size a w) (row : Option Nat) : a.grownBy w row := ⟨h.os, h.tape, h.output, h.size, fun i hi _ => h.block i hi⟩
theorem box_cell {w w1 : World} {cs : Array Value} {t : TypeId} {B : Nat} (hb : Below B (w.alloc (.cells cs t)) w1) (hB : w.heap.size < B) (j : Nat) : w1.cell? ⟨w.heap.size, j, none⟩ = cs[j]? := by
  rw [hb.cell (p := ⟨w.heap.size, j, none⟩) hB]
  exact cell_of_row _ _ _ _ _ _ (heap_alloc_new w (.cells cs t))
theorem box_free {w w1 : World} {cs : Array Value} {t : TypeId} {B : Nat} (hb : Below B (w.alloc (.cells cs t)) w1) (hB : w.heap.size < B) (j : Nat) : w1.frozen? ⟨w.heap.size, j, none⟩ = false := by
  rw [hb.frozen (p := ⟨w.heap.size, j, none⟩) hB]
  have e : (w.alloc (.cells cs t)).heap[w.heap.size]? = some (.cells cs t (0, 0)) := heap_alloc_new w _
  unfold World.frozen?
  simp only [e]
  simp
theorem own_below {w w' : World} {base : Nat} {e : TypeId} {size : Nat} {v : Value} {n : Nat} {xs : List Value} (h : w.ownsRow base e size v n xs) (hb : Below w.heap.size w w') : w'.ownsRow base e size v n xs :=
  h.kept (only_of_below hb none) (by cases hv : v.ownBlock <;> simp)
theorem own_base {w : World} {base base' : Nat} {e : TypeId} {size : Nat} {v : Value} {n : Nat} {xs : List Value} (h : w.ownsRow base e size v n xs) (hb : base' ≤ base) : w.ownsRow base' e size v n xs := by
  obtain ⟨h1, h2⟩ := h
  refine ⟨h1, ?_⟩
  rcases h2 with h2 | ⟨g, cap, cur, a, b, c⟩
  · exact .inl h2
  · exact .inr ⟨g, cap, cur, a, Nat.le_trans hb b, c⟩
theorem addr_lit (ad : Addr) (k j : Nat) (hk : 0 < k) : (⟨ad.block, ad.off + k, none⟩ : Addr).add j = ad.add (k + j) := by
  unfold Addr.add
  by_cases hj : j = 0
  · subst hj; simp; omega
  · simp [hj, Nat.add_assoc]
theorem Bs.sub {w : World} {ad : Addr} {l : List UInt8} (h : Bs w (some ad) l) (k n : Nat) (hk : 0 < k) : Bs w (some ⟨ad.block, ad.off + k, none⟩) ((l.drop k).take n) := fun j c hj => by
  have hjn : j < n := by
    rcases Nat.lt_or_ge j n with h1 | h1
    · exact h1
    · rw [List.getElem?_eq_none (by simp; omega)] at hj; cases hj
  rw [List.getElem?_take_of_lt hjn, List.getElem?_drop] at hj
  obtain ⟨ad', e, hb, hc⟩ := h _ c hj
  injection e with e
  subst e
  exact ⟨_, rfl, hb, by rw [addr_lit _ _ _ hk]; exact hc⟩
theorem fold_push (l : List UInt8) (s : ByteArray) : ((l.map fun c => (c.toNat : Int)).foldl (fun (r : ByteArray) (n : Int) => r.push (UInt8.ofNat n.toNat)) s) = ⟨(s.data.toList ++ l).toArray⟩ := by
  induction l generalizing s with
  | nil => simp
  | cons c l ih =>
    simp only [List.map_cons, List.foldl_cons]
    rw [ih]
    congr 1
    simp [ByteArray.push]
/-- a struct of five cells lies in block g -/
structure PartAt (w : World) (g : Nat) (a b i t : Int) (v : Value) : Prop where
  c0 : w.cell? ⟨g, 0, none⟩ = some (.int .i64 a)
  c1 : w.cell? ⟨g, 1, none⟩ = some (.int .i64 b)
  c2 : w.cell? ⟨g, 2, none⟩ = some (.int .i64 i)
  c3 : w.cell? ⟨g, 3, none⟩ = some (.int .i64 t)
  c4 : w.cell? ⟨g, 4, none⟩ = some v
theorem PartAt.of_block {w : World} {g : Nat} {a b i t : Int} {v : Value} {T : TypeId} {fr : Nat × Nat} (h : w.heap[g]? = some (.cells #[.int .i64 a, .int .i64 b, .int .i64 i, .int .i64 t, v] T fr)) : PartAt w g a b i t v :=
  ⟨cell_of_row _ _ _ _ _ _ h, cell_of_row _ _ _ _ _ _ h, cell_of_row _ _ _ _ _ _ h, cell_of_row _ _ _ _ _ _ h, cell_of_row _ _ _ _ _ _ h⟩
theorem PartAt.below {w w' : World} {g : Nat} {a b i t : Int} {v : Value} (h : PartAt w g a b i t v) (hb : Below w.heap.size w w') : PartAt w' g a b i t v :=
  have hl := cell_lt' h.c0
  ⟨(hb.cell (p := ⟨g, 0, none⟩) hl).trans h.c0, (hb.cell (p := ⟨g, 1, none⟩) hl).trans h.c1, (hb.cell (p := ⟨g, 2, none⟩) hl).trans h.c2, (hb.cell (p := ⟨g, 3, none⟩) hl).trans h.c3, (hb.cell (p := ⟨g, 4, none⟩) hl).trans h.c4⟩
theorem PartAt.grown {w w' : World} {g : Nat} {a b i t : Int} {v : Value} {row : Option Nat} (h : PartAt w g a b i t v) (hg : w.grownBy w' row) (hne : some g ≠ row) : PartAt w' g a b i t v :=
  ⟨hg.cell h.c0 hne, hg.cell h.c1 hne, hg.cell h.c2 hne, hg.cell h.c3 hne, hg.cell h.c4 hne⟩
theorem own_far {w w' : World} {base : Nat} {e : TypeId} {size : Nat} {v : Value} {n : Nat} {xs : List Value} {row : Option Nat} (h : w.ownsRow base e size v n xs) (hg : w.grownBy w' row) (hne : ∀ g, row = some g → g < base) : w'.ownsRow base e size v n xs :=
  h.kept hg (by
    cases hv : v.ownBlock with
    | none => exact .inl rfl
    | some k =>
      right
      rintro rfl
      have := (h.lt k hv).1
      have := hne k rfl
      omega)
theorem set_block {w : World} {g : Nat} {cs : Array Value} {T : TypeId} {fr : Nat × Nat} (h : w.heap[g]? = some (.cells cs T fr)) (i : Nat) (u : Value) : (w.setCell ⟨g, i, none⟩ u).heap[g]? = some (.cells (cs.setIfInBounds i u) T fr) := by
  simp [World.setCell, Array.getElem?_modify, h]
theorem grown_set {a w : World} {g : Nat} (h : a.grownBy w (some g)) (i : Nat) (u : Value) : a.grownBy (w.setCell ⟨g, i, none⟩ u) (some g) :=
  ⟨h.os, h.tape, h.output, by simpa [World.setCell] using h.size, fun k hk hne => (Below.heap_setCell w ⟨g, i, none⟩ u k (by rintro rfl; exact hne rfl)).trans (h.block k hk hne)⟩
/-- a part is boxed behind its data -/
theorem box_behind {W0 w0 w1 : World} {B : Nat} {T : TypeId} {a b i t : Int} {v : Value} {n : Nat} {xs : List Value} (hb0 : Below B W0 w0) (hs : B ≤ w0.heap.size) (hb1 : Below w0.heap.size w0 w1) (hown : w1.ownsRow w0.heap.size 5 1 v n xs) :
    PartAt (w1.alloc (.cells #[.int .i64 a, .int .i64 b, .int .i64 i, .int .i64 t, v] T)) w1.heap.size a b i t v ∧ (w1.alloc (.cells #[.int .i64 a, .int .i64 b, .int .i64 i, .int .i64 t, v] T)).ownsRow B 5 1 v n xs ∧
      Below B W0 (w1.alloc (.cells #[.int .i64 a, .int .i64 b, .int .i64 i, .int .i64 t, v] T)) :=
  ⟨.of_block (heap_alloc_new w1 _), own_base (hown.alloc _) hs, (hb0.trans (hb1.mono hs)).alloc (Nat.le_trans hs hb1.size) _⟩
/-- a part is boxed ahead of its data -/
theorem box_ahead {W0 w0 w1 : World} {B : Nat} {T : TypeId} {z0 z1 z2 z3 z4 : Value} {a b i t : Int} {v : Value} {n : Nat} {xs : List Value} (hb0 : Below B W0 w0) (hs : B ≤ w0.heap.size) (hb1 : Below (w0.alloc (.cells #[z0, z1, z2, z3, z4] T)).heap.size (w0.alloc (.cells #[z0, z1, z2, z3, z4] T)) w1)
    (hown : w1.ownsRow (w0.alloc (.cells #[z0, z1, z2, z3, z4] T)).heap.size 5 1 v n xs) (u : World)
    (hu : u = ((((w1.setCell ⟨w0.heap.size, 0, none⟩ (.int .i64 a)).setCell ⟨w0.heap.size, 1, none⟩ (.int .i64 b)).setCell ⟨w0.heap.size, 2, none⟩ (.int .i64 i)).setCell ⟨w0.heap.size, 3, none⟩ (.int .i64 t)).setCell ⟨w0.heap.size, 4, none⟩ v) :
    PartAt u w0.heap.size a b i t v ∧ u.ownsRow B 5 1 v n xs ∧ Below B W0 u := by
  subst hu
  have hblk : w1.heap[w0.heap.size]? = some (.cells #[z0, z1, z2, z3, z4] T (0, 0)) := (hb1.block w0.heap.size (by simp)).trans (heap_alloc_new w0 _)
  have h5 := set_block (set_block (set_block (set_block (set_block hblk 0 (.int .i64 a)) 1 (.int .i64 b)) 2 (.int .i64 i)) 3 (.int .i64 t)) 4 v
  have hg : w1.grownBy (((((w1.setCell ⟨w0.heap.size, 0, none⟩ (.int .i64 a)).setCell ⟨w0.heap.size, 1, none⟩ (.int .i64 b)).setCell ⟨w0.heap.size, 2, none⟩ (.int .i64 i)).setCell ⟨w0.heap.size, 3, none⟩ (.int .i64 t)).setCell ⟨w0.heap.size, 4, none⟩ v) (some w0.heap.size) :=
    grown_set (grown_set (grown_set (grown_set (grown_set ⟨rfl, rfl, rfl, Nat.le_refl _, fun _ _ _ => rfl⟩ 0 _) 1 _) 2 _) 3 _) 4 _
  have hs1 : B ≤ w1.heap.size := by have := hb1.size; simp at this; omega
  refine ⟨.of_block h5, own_base (hown.kept hg ?_) (by simp; omega), ((hb0.alloc hs _).trans (hb1.mono (by simp; omega))).grown hg hs1 (fun k hk => by injection hk with hk; omega)⟩
  cases hv : v.ownBlock with
  | none => exact .inl rfl
  | some g =>
    right
    have := (hown.lt g hv).1
    simp at this
    intro e
    injection e with e
    omega
section
variable {P : Program}
/-- bytes as a text -/
theorem run_convert_bs (w : World) (src dst e : TypeId) (hs : P.underlying src = some (.slice e)) (he : P.underlying e = some (.int .u8)) (hd : P.underlying dst = some .string)
    (A : Option Addr) (c n : Nat) (l : List UInt8) (hn : n = l.length) (hr : Bs w A l) : (convert src dst (.slice A n c)).run P w = .ok (.string ⟨l.toArray⟩) w := by
  subst hn
  rw [run_convert_bytes_string w src dst e _ _ c hs he hd]
  cases A with
  | none =>
    obtain rfl : l = [] := by
      cases l with
      | nil => rfl
      | cons a l => obtain ⟨ad, h, _⟩ := hr 0 a rfl; cases h
    rfl
  | some ad =>
    have hl : (loadCells ad l.length).run P w = .ok (((l.map fun c => (c.toNat : Int))).map (Value.int .u8)).toArray w := by
      have := run_loadCells_list (P := P) w ad (bvs l) (fun j v hj => by
        obtain ⟨cc, hcc, rfl⟩ := bvs_inv hj
        obtain ⟨ad', e', _, hcell⟩ := hr j cc hcc
        injection e' with e'
        subst e'
        exact hcell)
      rw [bvs_length] at this
      rw [this]
      simp [bvs]
    rw [run_bytesToString w ad l.length c _ hl, fold_push]
    rfl
end
theorem list_beq (l m : List UInt8) : (l == m) = sameB l m := by
  unfold sameB
  rw [Bool.eq_iff_iff, decide_eq_true_iff, beq_iff_eq]
set_option maxHeartbeats 400000 in
theorem equal_any (A B : Option Addr) (c d : Nat) (l m : List UInt8) (w : World) (ha : Bs w A l) (hb : Bs w B m) :
    Calls Tryd.prog 40 #[.slice A l.length c, .slice B m.length d] w fun e w' => e = .returned (.bool (sameB l m)) ∧ w = w' := by
  have h1 := run_convert_bs (P := Tryd.prog) w 23 9 5 Tryd.underlying23 Tryd.underlying5 Tryd.underlying9 A c _ l rfl ha
  have h2 := run_convert_bs (P := Tryd.prog) w 23 9 5 Tryd.underlying23 Tryd.underlying5 Tryd.underlying9 B d _ m rfl hb
  clear ha hb
  have HB := Lib.hid (list_beq l m)
  go_enter Tryd.func40, Tryd.ntmps40
  go_wp2_with fail
  go_ret
  exact ⟨ret_bool (by have := HB.out; simpa using this), rfl⟩
theorem equal_at (A B : Option Addr) (c d n m : Nat) (l k : List UInt8) (w : World) (hn : l.length = n) (hm : k.length = m) (ha : Bs w A l) (hb : Bs w B k) :
    Calls Tryd.prog 40 #[.slice A n c, .slice B m d] w fun e w' => e = .returned (.bool (sameB l k)) ∧ w = w' := by
  subst hn hm
  exact equal_any A B c d l k w ha hb
theorem same_at (A B : Option Addr) (c d n m : Nat) (l k : List UInt8) (w : World) (hn : l.length = n) (hm : k.length = m) (hl : n ≤ 65536) (hk : m ≤ 65536) (ha : Bs w A l) (hb : Bs w B k) :
    Calls Tryd.prog 18 #[.slice A n c, .slice B m d] w fun e w' => e = .returned (.bool (sameB l k)) ∧ Below w.heap.size w w' := by
  subst hn hm
  exact same_bel A B c d l k w (by omega) (by omega) ha hb
end Go.Proofs.YtpejfngkdkkfnaaDoor
