/- The contracts of a hash: a new one, bytes put behind. -/
import Derived.Test.YtnjkpoljcekjcaaDoorShaNext
import Derived.Test.YtnjkpoljcekjcaaDoorRest
import Derived.Deep.LoopGhost
import Derived.Deep.DeepCutAuto
import Derived.Deep.RegionLaw
namespace Go.Proofs.YtnjkpoljcekjcaaDoor
open Go.RowKit
abbrev hashCells (s : ShaMath.St) (made : Bool) (v : Value) (n : Nat) : Array Value :=
  #[.int .u32 (s.a : Nat), .int .u32 (s.b : Nat), .int .u32 (s.c : Nat), .int .u32 (s.d : Nat), .int .u32 (s.e : Nat), .int .u32 (s.f : Nat), .int .u32 (s.g : Nat), .int .u32 (s.h : Nat), .bool made, v, .int .i64 (n : Nat)]
/-- the cells of a hash -/
def HashB (w : World) (p : Nat) (s : ShaMath.St) (made : Bool) (v : Value) (n : Nat) : Prop := w.heap[p]? = some (.cells (hashCells s made v n) 46 (0, 0))
def st0 : ShaMath.St := ⟨0, 0, 0, 0, 0, 0, 0, 0⟩
theorem st0_lt : st0.lt := by unfold st0 ShaMath.St.lt; decide
/-- block p is a hash into which the text l was written, with all its memory among F -/
def HashAt (w : World) (F : Nat → Prop) (p : Nat) (l : List UInt8) : Prop :=
  ∃ s made v, HashB w p s made v l.length ∧ RestAt w 0 v (l.drop (64 * (l.length / 64))) ∧ F p ∧ (∀ g, v.ownBlock = some g → F g) ∧
    ((made = true ∧ s = ShaMath.bk l (l.length / 64)) ∨ (made = false ∧ l = [] ∧ s = st0))
theorem HashAt.kept {w w' : World} {F G : Nat → Prop} {p : Nat} {l : List UInt8} (h : HashAt w F p l) (hk : Kept G w w') (hd : ∀ k, F k → ¬ G k) : HashAt w' F p l := by
  obtain ⟨s, made, v, h1, h2, h3, h4, h5⟩ := h
  exact ⟨s, made, v, hk.heap h1 (hd _ h3), h2.kept hk (fun g hg => hd _ (h4 g hg)), h3, h4, h5⟩
theorem HashAt.below {w w' : World} {F : Nat → Prop} {p : Nat} {l : List UInt8} (h : HashAt w F p l) (hb : Below w.heap.size w w') : HashAt w' F p l := h.kept (Kept.of_below (F := fun _ => False) hb) (fun _ _ h => h)
theorem hash_new (w : World) : HashAt (w.alloc (.cells (hashCells st0 false (.slice none 0 0) 0) 46)) (fun k => k = w.heap.size) w.heap.size [] :=
  ⟨st0, false, _, heap_alloc_new w _, .nil _ _, rfl, fun g hg => by simp [Value.ownBlock] at hg, .inr ⟨rfl, rfl, rfl⟩⟩
set_option maxHeartbeats 400000 in
theorem first_any (w : World) : Calls Tryd.prog 32 #[] w fun e w' => e = .returned (.agg (uvs (stl ShaMath.first)).toArray) ∧ Below w.heap.size w w' := by
  go_enter Tryd.func32, Tryd.ntmps32
  go_wp2
  exact bodyPost_ret (v := .agg (uvs (stl ShaMath.first)).toArray) (by simp [results, Tryd.results32, go_sem, uvs, stl, ShaMath.first]) rfl ⟨rfl, below_alloc w _⟩
set_option maxHeartbeats 400000 in
theorem newHash_any (w : World) : Calls Tryd.prog 16 #[] w fun e w' => e = .returned (.pointer (some ⟨w.heap.size, 0, none⟩)) ∧ w' = w.alloc (.cells (hashCells st0 false (.slice none 0 0) 0) 46) := by
  go_enter Tryd.func16, Tryd.ntmps16
  go_wp2
  go_ret
  exact ⟨rfl, rfl⟩
set_option maxHeartbeats 400000 in
theorem hashLen_any (w : World) (F : Nat → Prop) (p : Nat) (l : List UInt8) (h : HashAt w F p l) : Calls Tryd.prog 20 #[.pointer (some ⟨p, 0, none⟩)] w fun e w' => e = .returned (.int .i64 (l.length : Nat)) ∧ w = w' := by
  obtain ⟨s, made, v, hb, _⟩ := h
  have c := block_cell (i := 10) hb
  simp only [List.getElem?_toArray, List.getElem?_cons_succ, List.getElem?_cons_zero] at c
  clear hb
  go_enter Tryd.func20, Tryd.ntmps20
  go_wp2
  go_ret
  exact ⟨rfl, rfl⟩
theorem HashB.setN {w : World} {p n : Nat} {s : ShaMath.St} {made : Bool} {v : Value} (h : HashB w p s made v n) (e : Int) (m : Nat) (he : e = (m : Int)) : HashB (w.setCell ⟨p, 10, none⟩ (.int .i64 e)) p s made v m := by
  subst he
  exact set_block h 10 _
theorem HashB.setV {w : World} {p n : Nat} {s : ShaMath.St} {made : Bool} {v : Value} (h : HashB w p s made v n) (u : Value) : HashB (w.setCell ⟨p, 9, none⟩ u) p s made u n := set_block h 9 _
theorem HashB.setM {w : World} {p n : Nat} {s : ShaMath.St} {made : Bool} {v : Value} (h : HashB w p s made v n) : HashB (w.setCell ⟨p, 8, none⟩ (.bool true)) p s true v n := set_block h 8 _
theorem HashB.setS {w : World} {p n : Nat} {s : ShaMath.St} {made : Bool} {v : Value} (h : HashB w p s made v n) (s2 : ShaMath.St) : HashB (w.setCells p 0 (uvs (stl s2))) p s2 made v n := by
  have h0 : (w.setCell ⟨p, 0, none⟩ (.int .u32 (s2.a : Nat))).heap[p]? = some (.cells #[.int .u32 (s2.a : Nat), .int .u32 (s.b : Nat), .int .u32 (s.c : Nat), .int .u32 (s.d : Nat), .int .u32 (s.e : Nat), .int .u32 (s.f : Nat), .int .u32 (s.g : Nat), .int .u32 (s.h : Nat), .bool made, v, .int .i64 (n : Nat)] 46 (0, 0)) := set_block h 0 _
  have h1 : ((w.setCell ⟨p, 0, none⟩ (.int .u32 (s2.a : Nat))).setCell ⟨p, 1, none⟩ (.int .u32 (s2.b : Nat))).heap[p]? = some (.cells #[.int .u32 (s2.a : Nat), .int .u32 (s2.b : Nat), .int .u32 (s.c : Nat), .int .u32 (s.d : Nat), .int .u32 (s.e : Nat), .int .u32 (s.f : Nat), .int .u32 (s.g : Nat), .int .u32 (s.h : Nat), .bool made, v, .int .i64 (n : Nat)] 46 (0, 0)) := set_block h0 1 _
  have h2 : (((w.setCell ⟨p, 0, none⟩ (.int .u32 (s2.a : Nat))).setCell ⟨p, 1, none⟩ (.int .u32 (s2.b : Nat))).setCell ⟨p, 2, none⟩ (.int .u32 (s2.c : Nat))).heap[p]? = some (.cells #[.int .u32 (s2.a : Nat), .int .u32 (s2.b : Nat), .int .u32 (s2.c : Nat), .int .u32 (s.d : Nat), .int .u32 (s.e : Nat), .int .u32 (s.f : Nat), .int .u32 (s.g : Nat), .int .u32 (s.h : Nat), .bool made, v, .int .i64 (n : Nat)] 46 (0, 0)) := set_block h1 2 _
  have h3 : ((((w.setCell ⟨p, 0, none⟩ (.int .u32 (s2.a : Nat))).setCell ⟨p, 1, none⟩ (.int .u32 (s2.b : Nat))).setCell ⟨p, 2, none⟩ (.int .u32 (s2.c : Nat))).setCell ⟨p, 3, none⟩ (.int .u32 (s2.d : Nat))).heap[p]? = some (.cells #[.int .u32 (s2.a : Nat), .int .u32 (s2.b : Nat), .int .u32 (s2.c : Nat), .int .u32 (s2.d : Nat), .int .u32 (s.e : Nat), .int .u32 (s.f : Nat), .int .u32 (s.g : Nat), .int .u32 (s.h : Nat), .bool made, v, .int .i64 (n : Nat)] 46 (0, 0)) := set_block h2 3 _
  have h4 : (((((w.setCell ⟨p, 0, none⟩ (.int .u32 (s2.a : Nat))).setCell ⟨p, 1, none⟩ (.int .u32 (s2.b : Nat))).setCell ⟨p, 2, none⟩ (.int .u32 (s2.c : Nat))).setCell ⟨p, 3, none⟩ (.int .u32 (s2.d : Nat))).setCell ⟨p, 4, none⟩ (.int .u32 (s2.e : Nat))).heap[p]? = some (.cells #[.int .u32 (s2.a : Nat), .int .u32 (s2.b : Nat), .int .u32 (s2.c : Nat), .int .u32 (s2.d : Nat), .int .u32 (s2.e : Nat), .int .u32 (s.f : Nat), .int .u32 (s.g : Nat), .int .u32 (s.h : Nat), .bool made, v, .int .i64 (n : Nat)] 46 (0, 0)) := set_block h3 4 _
  have h5 : ((((((w.setCell ⟨p, 0, none⟩ (.int .u32 (s2.a : Nat))).setCell ⟨p, 1, none⟩ (.int .u32 (s2.b : Nat))).setCell ⟨p, 2, none⟩ (.int .u32 (s2.c : Nat))).setCell ⟨p, 3, none⟩ (.int .u32 (s2.d : Nat))).setCell ⟨p, 4, none⟩ (.int .u32 (s2.e : Nat))).setCell ⟨p, 5, none⟩ (.int .u32 (s2.f : Nat))).heap[p]? = some (.cells #[.int .u32 (s2.a : Nat), .int .u32 (s2.b : Nat), .int .u32 (s2.c : Nat), .int .u32 (s2.d : Nat), .int .u32 (s2.e : Nat), .int .u32 (s2.f : Nat), .int .u32 (s.g : Nat), .int .u32 (s.h : Nat), .bool made, v, .int .i64 (n : Nat)] 46 (0, 0)) := set_block h4 5 _
  have h6 : (((((((w.setCell ⟨p, 0, none⟩ (.int .u32 (s2.a : Nat))).setCell ⟨p, 1, none⟩ (.int .u32 (s2.b : Nat))).setCell ⟨p, 2, none⟩ (.int .u32 (s2.c : Nat))).setCell ⟨p, 3, none⟩ (.int .u32 (s2.d : Nat))).setCell ⟨p, 4, none⟩ (.int .u32 (s2.e : Nat))).setCell ⟨p, 5, none⟩ (.int .u32 (s2.f : Nat))).setCell ⟨p, 6, none⟩ (.int .u32 (s2.g : Nat))).heap[p]? = some (.cells #[.int .u32 (s2.a : Nat), .int .u32 (s2.b : Nat), .int .u32 (s2.c : Nat), .int .u32 (s2.d : Nat), .int .u32 (s2.e : Nat), .int .u32 (s2.f : Nat), .int .u32 (s2.g : Nat), .int .u32 (s.h : Nat), .bool made, v, .int .i64 (n : Nat)] 46 (0, 0)) := set_block h5 6 _
  have h7 : ((((((((w.setCell ⟨p, 0, none⟩ (.int .u32 (s2.a : Nat))).setCell ⟨p, 1, none⟩ (.int .u32 (s2.b : Nat))).setCell ⟨p, 2, none⟩ (.int .u32 (s2.c : Nat))).setCell ⟨p, 3, none⟩ (.int .u32 (s2.d : Nat))).setCell ⟨p, 4, none⟩ (.int .u32 (s2.e : Nat))).setCell ⟨p, 5, none⟩ (.int .u32 (s2.f : Nat))).setCell ⟨p, 6, none⟩ (.int .u32 (s2.g : Nat))).setCell ⟨p, 7, none⟩ (.int .u32 (s2.h : Nat))).heap[p]? = some (.cells #[.int .u32 (s2.a : Nat), .int .u32 (s2.b : Nat), .int .u32 (s2.c : Nat), .int .u32 (s2.d : Nat), .int .u32 (s2.e : Nat), .int .u32 (s2.f : Nat), .int .u32 (s2.g : Nat), .int .u32 (s2.h : Nat), .bool made, v, .int .i64 (n : Nat)] 46 (0, 0)) := set_block h6 7 _
  exact h7
theorem HashB.there {w : World} {p n : Nat} {s : ShaMath.St} {made : Bool} {v : Value} (h : HashB w p s made v n) : w.there p 0 8 := fun j hj => by
  rw [Nat.zero_add, block_cell h]
  exact ⟨by simp; omega, block_free h⟩
theorem HashB.range {w : World} {p n : Nat} {s : ShaMath.St} {made : Bool} {v : Value} (h : HashB w p s made v n) : w.rangeAt p 0 (uvs (stl s)) := fun j u hu => by
  rw [Nat.zero_add, block_cell h]
  match j, hu with
  | 0, hu => simpa [uvs, stl] using hu
  | 1, hu => simpa [uvs, stl] using hu
  | 2, hu => simpa [uvs, stl] using hu
  | 3, hu => simpa [uvs, stl] using hu
  | 4, hu => simpa [uvs, stl] using hu
  | 5, hu => simpa [uvs, stl] using hu
  | 6, hu => simpa [uvs, stl] using hu
  | 7, hu => simpa [uvs, stl] using hu
  | j + 8, hu => simp [uvs, stl] at hu
theorem HashB.c8 {w : World} {p n : Nat} {s : ShaMath.St} {made : Bool} {v : Value} (h : HashB w p s made v n) : w.cell? ⟨p, 8, none⟩ = some (.bool made) := block_cell h
theorem HashB.c9 {w : World} {p n : Nat} {s : ShaMath.St} {made : Bool} {v : Value} (h : HashB w p s made v n) : w.cell? ⟨p, 9, none⟩ = some v := block_cell h
theorem HashB.c10 {w : World} {p n : Nat} {s : ShaMath.St} {made : Bool} {v : Value} (h : HashB w p s made v n) : w.cell? ⟨p, 10, none⟩ = some (.int .i64 (n : Nat)) := block_cell h
theorem HashB.free {w : World} {p n : Nat} {s : ShaMath.St} {made : Bool} {v : Value} (h : HashB w p s made v n) (i : Nat) : w.frozen? ⟨p, i, none⟩ = false := block_free h
theorem first_as (s1 : ShaMath.St) (hs : ShaMath.first = s1) (w : World) : Calls Tryd.prog 32 #[] w fun e w' => e = .returned (.agg (uvs (stl s1)).toArray) ∧ Below w.heap.size w w' := by
  subst hs
  exact first_any w
theorem info_state : (Tryd.prog.info? 44).map (·.size) = some 8 := by kernel_rfl
theorem stl_size (s : ShaMath.St) : (uvs (stl s)).toArray.size = 8 := by simp [uvs, stl]
/-- a state is stored in a hash: a fresh name for the world behind it -/
theorem wpList_store_hash {ops : Array Oper} {rest : List Oper} {op : Oper} {a : Act} {w : World} {Q : Exit → Act → World → Prop} (hgd : op.guard = none) (x y : Operand) (ho : op.op = .store 44 x y)
    (p n : Nat) (s s2 : ShaMath.St) (made : Bool) (v : Value) (hx : a.eval x = .pointer (some ⟨p, 0, none⟩)) (hy : a.eval y = .agg (uvs (stl s2)).toArray) (hB : HashB w p s made v n)
    (h : ∀ w', HashB w' p s2 made v n → Kept (fun k => k = p) w w' → w'.heap.size = w.heap.size → wpList Tryd.prog ops Q rest (a.put op.dst undef) w') : wpList Tryd.prog ops Q (op :: rest) a w := by
  refine wpList_store_mid hgd 44 x y ho p 0 (uvs (stl s2)).toArray hx hy ?_ ?_ (all_oneCell_toArray (uvs_one _)) ?_
  · rw [stl_size]; exact hB.there
  · rw [stl_size]; exact info_state
  · exact h _ (hB.setS s2) (setCells_kept p _ _ _ _ _ (Kept.refl _ _) (.inl rfl)) (setCells_size _ _ _ _)
theorem wpList_load_hash {ops : Array Oper} {rest : List Oper} {op : Oper} {a : Act} {w : World} {Q : Exit → Act → World → Prop} (hgd : op.guard = none) (x : Operand) (ho : op.op = .load 44 x)
    (p n : Nat) (s : ShaMath.St) (made : Bool) (v : Value) (hx : a.eval x = .pointer (some ⟨p, 0, none⟩)) (hB : HashB w p s made v n)
    (h : wpList Tryd.prog ops Q rest (a.put op.dst (.agg (uvs (stl s)).toArray)) w) : wpList Tryd.prog ops Q (op :: rest) a w :=
  wpList_load_mid hgd 44 x ho p 0 hx (uvs (stl s)) _ hB.range Tryd.underlying44 rfl (by rw [uvs_length]; exact info_state) h
theorem HashB.all {w : World} {p n : Nat} {s : ShaMath.St} {made : Bool} {v : Value} (h : HashB w p s made v n) : w.cell? ⟨p, 0, none⟩ = some (.int .u32 (s.a : Nat)) ∧ w.cell? ⟨p, 1, none⟩ = some (.int .u32 (s.b : Nat)) ∧ w.cell? ⟨p, 2, none⟩ = some (.int .u32 (s.c : Nat)) ∧ w.cell? ⟨p, 3, none⟩ = some (.int .u32 (s.d : Nat)) ∧ w.cell? ⟨p, 4, none⟩ = some (.int .u32 (s.e : Nat)) ∧ w.cell? ⟨p, 5, none⟩ = some (.int .u32 (s.f : Nat)) ∧ w.cell? ⟨p, 6, none⟩ = some (.int .u32 (s.g : Nat)) ∧ w.cell? ⟨p, 7, none⟩ = some (.int .u32 (s.h : Nat)) ∧ w.frozen? ⟨p, 0, none⟩ = false ∧ w.frozen? ⟨p, 1, none⟩ = false ∧ w.frozen? ⟨p, 2, none⟩ = false ∧ w.frozen? ⟨p, 3, none⟩ = false ∧ w.frozen? ⟨p, 4, none⟩ = false ∧ w.frozen? ⟨p, 5, none⟩ = false ∧ w.frozen? ⟨p, 6, none⟩ = false ∧ w.frozen? ⟨p, 7, none⟩ = false :=
  ⟨block_cell h, block_cell h, block_cell h, block_cell h, block_cell h, block_cell h, block_cell h, block_cell h, block_free h, block_free h, block_free h, block_free h, block_free h, block_free h, block_free h, block_free h⟩
theorem HashB.setL {w5 : World} {p n : Nat} {s : ShaMath.St} {made : Bool} {v : Value} (h : HashB w5 p s made v n) (s2 : ShaMath.St) (w6 : World) (hw : w6 = ((((((((w5.setCell ⟨p, 0, none⟩ (.int .u32 (s2.a : Nat))).setCell ⟨p, 1, none⟩ (.int .u32 (s2.b : Nat))).setCell ⟨p, 2, none⟩ (.int .u32 (s2.c : Nat))).setCell ⟨p, 3, none⟩ (.int .u32 (s2.d : Nat))).setCell ⟨p, 4, none⟩ (.int .u32 (s2.e : Nat))).setCell ⟨p, 5, none⟩ (.int .u32 (s2.f : Nat))).setCell ⟨p, 6, none⟩ (.int .u32 (s2.g : Nat))).setCell ⟨p, 7, none⟩ (.int .u32 (s2.h : Nat)))) : HashB w6 p s2 made v n ∧ Kept (fun k => k = p) w5 w6 ∧ w6.heap.size = w5.heap.size := by
  subst hw
  exact ⟨h.setS s2, setCells_kept p (uvs (stl s2)) 0 _ _ _ (Kept.refl _ _) (.inl rfl), setCells_size p (uvs (stl s2)) 0 _⟩
theorem next_lit (s s2 : ShaMath.St) (A : Option Addr) (n c : Nat) (l : List UInt8) (w : World) (h2 : ShaMath.next s l = s2) (hs : s.lt) (hn : l.length = n) (hl : 64 ≤ n) (hm : n ≤ 1000000) (hr : Bs w A l) (hw : Words w) :
    Calls Tryd.prog 33 #[.agg (uvs (stl s)).toArray, .slice A n c] w fun e w' => e = .returned (.agg #[.int .u32 (s2.a : Nat), .int .u32 (s2.b : Nat), .int .u32 (s2.c : Nat), .int .u32 (s2.d : Nat), .int .u32 (s2.e : Nat), .int .u32 (s2.f : Nat), .int .u32 (s2.g : Nat), .int .u32 (s2.h : Nat)]) ∧ Below w.heap.size w w' := by
  subst h2
  exact next_any s A n c l w hs hn hl hm hr hw
theorem RestAt.some {w : World} {base n c : Nat} {A : Option Addr} {l : List UInt8} (h : RestAt w base (.slice A n c) l) (hl : l ≠ []) : ∃ g off, A = some ⟨g, off, none⟩ := by
  rcases h with ⟨_, h⟩ | ⟨g, off, cap, cur, e, _⟩
  · exact absurd h hl
  · injection e with e
    exact ⟨g, off, e⟩
/-- a hash's memory in the midst of Write: behind j blocks -/
structure WrInv (w wr : World) (F : Nat → Prop) (p j : Nat) (L : List UInt8) (v : Value) : Prop where
  blk : HashB wr p (ShaMath.bk L j) true v L.length
  rest : RestAt wr 0 v (L.drop (64 * j))
  kept : Kept F w wr
  own : ∀ g, v.ownBlock = some g → F g ∨ w.heap.size ≤ g
  le : 64 * j ≤ L.length
def WrRel (w : World) (F : Nat → Prop) (p : Nat) (L : List UInt8) (gk : Nat) (wr : World) : Prop := ∃ j v, WrInv w wr F p j L v ∧ L.length / 64 = gk + j
theorem WrInv.next {w wr w1 w2 : World} {F : Nat → Prop} {p j n : Nat} {L : List UInt8} {v : Value} (h : WrInv w wr F p j L v) (hFp : F p) (hb : Below wr.heap.size wr w1) (hn : n = L.length) (h64 : 64 * (j + 1) ≤ L.length) (hB : HashB w2 p (ShaMath.bk L (j + 1)) true v n) (hk : Kept (fun k => k = p) w1 w2)
    {u : Value} (hu : RestAt wr 0 u (L.drop (64 * (j + 1)))) (huo : u.ownBlock = v.ownBlock) : WrInv w (w2.setCell ⟨p, 9, none⟩ u) F p (j + 1) L u := by
  subst hn
  have hkk : Kept (fun k => k = p) wr (w2.setCell ⟨p, 9, none⟩ u) := ((Kept.of_below (F := fun k => k = p) hb).trans hk (fun k hk => .inl hk)).setCell (p := ⟨p, 9, none⟩) (.inl rfl) _
  refine ⟨hB.setV u, hu.kept hkk ?_, h.kept.trans hkk (fun k hk => by subst hk; exact .inl hFp), by rw [huo]; exact h.own, h64⟩
  intro g hg e
  exact h.rest.ne h.blk (by decide) (by rw [← e, ← huo]; exact hg)
set_option maxRecDepth 100000 in
set_option maxHeartbeats 1000000 in
theorem write_any (w : World) (F : Nat → Prop) (p c : Nat) (A : Option Addr) (l b : List UInt8) (hh : HashAt w F p l) (hr : Bs w A b) (hlen : l.length + b.length ≤ 1000000) (hw : Words w) (hFw : ¬ F 0) (hFA : ∀ ad, A = some ad → b ≠ [] → ¬ F ad.block) :
    Calls Tryd.prog 18 #[.pointer (some ⟨p, 0, none⟩), .slice A b.length c] w fun e w' =>
      e = .returned (.tuple #[]) ∧ Kept F w w' ∧ ∃ F' : Nat → Prop, HashAt w' F' p (l ++ b) ∧ ∀ k, F' k → F k ∨ w.heap.size ≤ k := by
  obtain ⟨s, made, v, hB, hR, hFp, hFv, hs⟩ := hh
  obtain ⟨i0, hi0, hz0, hz1, hz2⟩ := info_parts info_u8
  have hplt := heap_lt hB
  obtain ⟨j, hj⟩ : ∃ j, l.length / 64 = j := ⟨_, rfl⟩
  rw [hj] at hR hs
  have hjl : 64 * j ≤ l.length := by omega
  have HR := Lib.hid hR
  have HJ := Lib.hid hj
  clear hR hj
  obtain ⟨n, hn⟩ : ∃ n, l.length = n := ⟨_, rfl⟩
  rw [hn] at hB
  have HN := Lib.hid hn
  clear hn
  obtain ⟨s1, hs1⟩ : ∃ s1, ShaMath.first = s1 := ⟨_, rfl⟩
  have HS1 := Lib.hid hs1
  clear hs1
  rcases hs with ⟨rfl, rfl⟩ | ⟨rfl, hl0, rfl⟩
  focus
    have c8 := hB.c8
    have HB := Lib.hid hB
    clear hB
    go_enter Tryd.func18, Tryd.ntmps18
    go_upto_region 3 with (fail)
    obtain ⟨wa, hwa⟩ : ∃ x : World, x = w := ⟨_, rfl⟩
    have HB2 : Hid (HashB wa p (ShaMath.bk l j) true v n) := by rw [hwa]; exact HB
    have HR2 : Hid (RestAt wa 0 v (l.drop (64 * j))) := by rw [hwa]; exact HR
    have HK : Hid (Kept F w wa) := by rw [hwa]; exact Lib.hid (Kept.refl _ _)
    have HBS2 : Hid (Bs wa A b) := by rw [hwa]; exact Lib.hid hr
    rw [← hwa]
    clear c8 hwa HB HR
  rotate_left
  focus
    have c8 := hB.c8
    have HB := Lib.hid hB
    have hbk : ShaMath.bk l j = s1 := by
      have e1 := HJ.out
      rw [hl0] at e1 ⊢
      obtain rfl : j = 0 := by simpa using e1.symm
      exact HS1.out
    have HBK := Lib.hid hbk
    clear hbk hl0
    clear hB
    go_enter Tryd.func18, Tryd.ntmps18
    go_wp2_with fail
    refine (first_as s1 HS1.out w).mono ?_
    rintro e w1 ⟨rfl, hb1⟩
    have hB1 : HashB w1 p st0 false v n := (hb1.block p hplt).trans HB.out
    have HB1 := Lib.hid hB1
    have HK1 := Lib.hid (Kept.of_below (F := F) hb1)
    have HR1 := Lib.hid (HR.out.below hb1)
    have HBS := Lib.hid (hr.below hb1)
    clear hB1 hb1 HR HB
    go_upto_region 3 with ((refine wpList_store_hash rfl (.tmp 15) (.tmp 13) rfl p n st0 s1 false v rfl rfl HB1.out ?_); (intro w2 hB2 hk2 _hs2); (have c8 := hB2.c8); (have f8 := hB2.free 8))
    have hB3 : HashB (w2.setCell ⟨p, 8, none⟩ (.bool true)) p s1 true v n := hB2.setM
    have hne : ∀ g, v.ownBlock = some g → ¬ g = p := fun g hg e => HR1.out.ne HB1.out (by decide) (by rw [← e]; exact hg)
    have hR3 : RestAt (w2.setCell ⟨p, 8, none⟩ (.bool true)) 0 v (l.drop (64 * j)) := HR1.out.kept (hk2.setCell (p := ⟨p, 8, none⟩) (.inl rfl) _) hne
    have hK3 : Kept F w (w2.setCell ⟨p, 8, none⟩ (.bool true)) := HK1.out.trans (hk2.setCell (p := ⟨p, 8, none⟩) (.inl rfl) _) (fun k hk => by subst hk; exact .inl hFp)
    have hBS3 : Bs (w2.setCell ⟨p, 8, none⟩ (.bool true)) A b := hK3.bs hr hFA
    obtain ⟨wa, hwa⟩ : ∃ x : World, x = w2.setCell ⟨p, 8, none⟩ (.bool true) := ⟨_, rfl⟩
    rw [← hwa] at hB3 hR3 hK3 hBS3 ⊢
    rw [← HBK.out] at hB3
    have HB2 := Lib.hid hB3
    have HR2 := Lib.hid hR3
    have HK := Lib.hid hK3
    have HBS2 := Lib.hid hBS3
    clear hwa hB3 hR3 hK3 hBS3 hne HB1 HR1 HK1 HBS hB2 hk2 _hs2 c8 f8 HBK
  all_goals
    have hnb : n + b.length ≤ 1000000 := by have := HN.out; omega
    have c10 := HB2.out.c10
    have f10 := HB2.out.free 10
    have c9 := HB2.out.c9
    go_upto_region 4 with (fail)
    have hB3 := HB2.out.setN ((n : Int) + (b.length : Int)) (n + b.length) (by omega)
    have hne : ∀ g, v.ownBlock = some g → ¬ g = p := fun g hg e => HR2.out.ne HB2.out (by decide) (by rw [← e]; exact hg)
    have hkp : Kept (fun k => k = p) wa (wa.setCell ⟨p, 10, none⟩ (.int .i64 ((n : Int) + (b.length : Int)))) := (Kept.refl (fun k => k = p) wa).setCell (p := ⟨p, 10, none⟩) (.inl rfl) _
    have hR3 := HR2.out.kept hkp hne
    have hK3 := HK.out.trans hkp (fun k hk => by subst hk; exact .inl hFp)
    have hBS3 := hK3.bs hr hFA
    obtain ⟨wb, hwb⟩ : ∃ x : World, x = wa.setCell ⟨p, 10, none⟩ (.int .i64 ((n : Int) + (b.length : Int))) := ⟨_, rfl⟩
    rw [← hwb] at hB3 hR3 hK3 hBS3 ⊢
    have HB3 := Lib.hid hB3
    have HR3 := Lib.hid hR3
    have HK3 := Lib.hid hK3
    have HBS3 := Lib.hid hBS3
    have HNE := Lib.hid hne
    clear hwb hkp hB3 hR3 hK3 hBS3 hne HB2 HR2 HK HBS2 c10 f10 c9
    have c9 := HB3.out.c9
    go_wp2_with ((at_builtin; refine wpList_append_rest _ rfl _ _ 22 rfl 0 i0 (.int .u8 0) Tryd.underlying22 hi0 hz0 hz1 hz2 rfl v _ rfl HR3.out A c b.length b rfl rfl HBS3.out (by simp; omega) (Nat.zero_le _) ?_; intro v1 w1 hR1 hg1 ho1; have hB1 := (Kept.of_grown (F := fun k => v.ownBlock = some k) hg1 (fun _ e => e)).heap HB3.out (fun e => HNE.out p e rfl); have c9' := HashB.c9 hB1; have f9' := HashB.free hB1 9; obtain ⟨A1, c1, rfl, hc1, hcm1⟩ := hR1.shape))
    have hd : (l.drop (64 * j)) ++ b = (l ++ b).drop (64 * j) := by rw [List.drop_append_of_le_length hjl]
    have hinv : WrInv w (w1.setCell ⟨p, 9, none⟩ (.slice A1 (l.drop (64 * j) ++ b).length c1)) F p j (l ++ b) (.slice A1 (l.drop (64 * j) ++ b).length c1) := by
      have hL : (l ++ b).length = n + b.length := by have := HN.out; simp; omega
      have hkg : Kept (fun k => v.ownBlock = some k) wb w1 := Kept.of_grown hg1 (fun _ e => e)
      refine ⟨?_, ?_, ?_, ?_, ?_⟩
      · rw [hL, ShaMath.bk_append _ _ _ hjl]; exact HashB.setV hB1 _
      · rw [← hd]
        exact hR1.kept ((Kept.refl (fun k => k = p) w1).setCell (p := ⟨p, 9, none⟩) (.inl rfl) _) (fun g hg e => hR1.ne hB1 (by decide) (by rw [← e]; exact hg))
      · exact (HK3.out.trans hkg (fun k hk => .inl (hFv k hk))).setCell (p := ⟨p, 9, none⟩) (.inl hFp) _
      · intro g hg
        rcases ho1 g hg with h | h
        · exact .inl (hFv g h)
        · right; have := HK3.out.size; omega
      · simp; omega
    obtain ⟨L, hL⟩ : ∃ L, l ++ b = L := ⟨_, rfl⟩
    rw [hL, List.length_append, List.length_drop] at hinv
    have hLn : L.length = n + b.length := by rw [← hL]; have := HN.out; simp; omega
    have hjL : j ≤ L.length / 64 := by have := hinv.le; omega
    have HINV := Lib.hid hinv
    have HL := Lib.hid hL
    have HLN := Lib.hid hLn
    clear hinv hL hd hLn HB3 HR3 HK3 HBS3 HNE c9 c9' f9' hR1 hg1 ho1 hB1 hc1 hcm1
    go_loopg [] (L.length / 64 - j) (fun gk wr => WrRel w F p L gk wr)
    case atStart => exact ⟨j, _, HINV.out, by omega⟩
    case round =>
      clear HINV
      obtain ⟨j, v, hI, hgk⟩ := hrel
      obtain ⟨A1, c1, rfl, hc1, hcm1⟩ := hI.rest.shape
      have hnn : (L.drop (64 * j)).length = L.length - 64 * j := by simp
      obtain ⟨n1, hn1⟩ : ∃ n1, L.length - 64 * j = n1 := ⟨_, rfl⟩
      obtain ⟨N, hN⟩ : ∃ N, L.length = N := ⟨_, rfl⟩
      rw [hnn, hn1] at hI hc1
      by_cases h64 : 64 ≤ n1
      · obtain ⟨g, off, rfl⟩ := hI.rest.some (by intro e; have := congrArg List.length e; simp at this; omega)
        have HI := Lib.hid hI
        have c9 := hI.blk.c9
        have HN1 := Lib.hid hn1
        have HNN := Lib.hid hnn
        clear hI hn1 hnn
        have hbk : ShaMath.next (ShaMath.bk L j) (L.drop (64 * j)) = ShaMath.bk L (j + 1) := rfl
        have hslt := ShaMath.bk_lt L j
        have hB := HI.out.blk
        have hbs := HI.out.rest.bs
        have hwr : Words wr := hw.keep HI.out.kept hFw
        have hwr' : Words wr.drew := hwr
        have hplt2 := heap_lt hB
        obtain ⟨R, hR⟩ : ∃ R, L.drop (64 * j) = R := ⟨_, rfl⟩
        rw [hR] at hbk hbs
        have hRl : R.length = n1 := by rw [← hR, HNN.out, HN1.out]
        rw [hN] at hB
        obtain ⟨s, hs⟩ : ∃ s, ShaMath.bk L j = s := ⟨_, rfl⟩
        rw [hs] at hbk hslt hB
        have d0 : wr.cell? ⟨p, 0, none⟩ = _ := block_cell hB
        have d1 : wr.cell? ⟨p, 1, none⟩ = _ := block_cell hB
        have d2 : wr.cell? ⟨p, 2, none⟩ = _ := block_cell hB
        have d3 : wr.cell? ⟨p, 3, none⟩ = _ := block_cell hB
        have d4 : wr.cell? ⟨p, 4, none⟩ = _ := block_cell hB
        have d5 : wr.cell? ⟨p, 5, none⟩ = _ := block_cell hB
        have d6 : wr.cell? ⟨p, 6, none⟩ = _ := block_cell hB
        have d7 : wr.cell? ⟨p, 7, none⟩ = _ := block_cell hB
        simp only [List.getElem?_toArray, List.getElem?_cons_succ, List.getElem?_cons_zero] at d0 d1 d2 d3 d4 d5 d6 d7
        have HBK := Lib.hid hbk
        have HB := Lib.hid hB
        have HBS := Lib.hid hbs
        have HR := Lib.hid hR
        have HRL := Lib.hid hRl
        have HS := Lib.hid hs
        have HNQ := Lib.hid hN
        have HWR := Lib.hid hwr'
        clear hbk hB hbs hR hRl hs hN hwr hwr'
        go_wp2_with fail
        obtain ⟨s2, hs2⟩ : ∃ s2, ShaMath.next s R = s2 := ⟨_, rfl⟩
        have HS2 := Lib.hid hs2
        clear hs2
        go_region_law (go_simp; go_at_call 33; refine (next_lit s s2 (some ⟨g, off, none⟩) n1 c1 R wr.drew HS2.out hslt HRL.out h64 (by have := HLN.out; have := HN1.out; omega) HBS.out.drew HWR.out).mono ?_; rintro e w5 ⟨rfl, hb5⟩; have hb5' : Below wr.heap.size wr w5 := ((Below.refl _ _).drew).trans hb5; have HB5 : Hid (HashB w5 p s true (.slice (some ⟨g, off, none⟩) n1 c1) N) := Lib.hid ((hb5'.block p hplt2).trans HB.out); obtain ⟨e0, e1, e2, e3, e4, e5, e6, e7, f0, f1, f2, f3, f4, f5, f6, f7⟩ := HB5.out.all)
        all_goals
          clear d0 d1 d2 d3 d4 d5 d6 d7 e0 e1 e2 e3 e4 e5 e6 e7 f0 f1 f2 f3 f4 f5 f6 f7 c9
          obtain ⟨w6, hw6⟩ : ∃ x : World, x = ((((((((w5.setCell ⟨p, 0, none⟩ (.int .u32 (s2.a : Nat))).setCell ⟨p, 1, none⟩ (.int .u32 (s2.b : Nat))).setCell ⟨p, 2, none⟩ (.int .u32 (s2.c : Nat))).setCell ⟨p, 3, none⟩ (.int .u32 (s2.d : Nat))).setCell ⟨p, 4, none⟩ (.int .u32 (s2.e : Nat))).setCell ⟨p, 5, none⟩ (.int .u32 (s2.f : Nat))).setCell ⟨p, 6, none⟩ (.int .u32 (s2.g : Nat))).setCell ⟨p, 7, none⟩ (.int .u32 (s2.h : Nat))) := ⟨_, rfl⟩
          rw [← hw6]
          obtain ⟨hB6, hk6, hs6⟩ := HB5.out.setL s2 w6 hw6
          have c9 := hB6.c9
          have f9 := hB6.free 9
          have HB6 := Lib.hid hB6
          have HK6 := Lib.hid hk6
          clear hw6 hB6 hk6 hs6
          have hNL := HNQ.out
          have hN1 := HN1.out
          have hgl := HI.out.le
          have hbk2 : HashB w6 p (ShaMath.bk L (j + 1)) true (.slice (some ⟨g, off, none⟩) n1 c1) N := by rw [← HBK.out, HS2.out]; exact HB6.out
          have hdr : (L.drop (64 * j)).drop 64 = L.drop (64 * (j + 1)) := by rw [List.drop_drop]; congr 1
          have hrd := HI.out.rest.drop (k := 64) (by rw [HNN.out]; omega)
          rw [hdr] at hrd
          have HRD := Lib.hid hrd
          have HBK2 := Lib.hid hbk2
          have hm1 : 64 * (j + 1) ≤ L.length := by omega
          have hm2 : 0 < gk := by omega
          clear hNL hN1 hgl hbk2 hdr hrd
          by_cases hcap : c1 = 64
          · have hu : RestAt wr 0 (.slice (some ⟨g, off, none⟩) (n1 - 64) 0) (L.drop (64 * (j + 1))) := by
              have := HRD.out
              rw [if_pos hcap, hcap] at this
              exact this
            have HU := Lib.hid hu
            clear hu
            go_wp2_with fail
            go_roundg (gk - 1)
            case measure => omega
            case rel => exact ⟨j + 1, _, HI.out.next hFp hb5' HNQ.out.symm hm1 HBK2.out HK6.out HU.out rfl, by omega⟩
          · have hu : RestAt wr 0 (.slice (some ⟨g, off + 64, none⟩) (n1 - 64) (c1 - 64)) (L.drop (64 * (j + 1))) := by
              have := HRD.out
              rw [if_neg hcap] at this
              exact this
            have HU := Lib.hid hu
            clear hu
            go_wp2_with fail
            go_roundg (gk - 1)
            case measure => omega
            case rel => exact ⟨j + 1, _, HI.out.next hFp hb5' HNQ.out.symm hm1 HBK2.out HK6.out HU.out rfl, by omega⟩
      · have c9 := hI.blk.c9
        have hjj : j = L.length / 64 := by have := hI.le; omega
        have HI := Lib.hid hI
        have HJJ := Lib.hid hjj
        clear hI hjj hnn hn1 hN
        go_wp2_with fail
        go_end0
        refine ⟨rfl, HI.out.kept, fun k => k = p ∨ Value.ownBlock (.slice A1 n1 c1) = some k, ?_, ?_⟩
        · rw [HL.out]
          refine ⟨ShaMath.bk L j, true, .slice A1 n1 c1, HI.out.blk, ?_, .inl rfl, fun g hg => .inr hg, .inl ⟨rfl, ?_⟩⟩
          · rw [← HJJ.out]; exact HI.out.rest
          · rw [← HJJ.out]
        · rintro k (rfl | hk)
          · exact .inl hFp
          · exact HI.out.own k hk
end Go.Proofs.YtnjkpoljcekjcaaDoor
