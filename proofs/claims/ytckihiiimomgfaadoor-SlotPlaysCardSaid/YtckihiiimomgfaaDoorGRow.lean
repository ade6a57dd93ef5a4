/- Texts laid as one: Rows8, BuildV. -/
import Derived.Test.YtckihiiimomgfaaDoorGMem
import Derived.Test.YtckihiiimomgfaaDoorGReg
import Derived.Great.BuildSlice
import Derived.Laws.CopyOwn
namespace Go.Proofs.YtckihiiimomgfaaDoor
open Go.RowKit
theorem info_bytes : (Tryd.prog.info? 29).map (fun i => (i.zero, i.size, i.bytes)) = some (some (.slice none 0 0), 1, 24) := by kernel_rfl
/-- v is a row of the rows of bytes ls -/
def Rows8 (w : World) (G : Nat → Prop) (v : Value) (ls : List (List UInt8)) : Prop :=
  ∃ vs : List Value, w.ownsRow 0 29 1 v ls.length vs ∧ (∀ g, v.ownBlock = some g → G g) ∧ ∀ (j : Nat) (l : List UInt8), ls[j]? = some l → ∃ u, vs[j]? = some u ∧ Own8 w 0 u l ∧ ∀ g, u.ownBlock = some g → G g
theorem Rows8.nil (w : World) (G : Nat → Prop) : Rows8 w G (.slice none 0 0) [] := ⟨[], World.ownsRow_nil _ _ _ _, fun g hg => by simp [Value.ownBlock] at hg, fun j l hj => by simp at hj⟩
theorem Rows8.kept {w w' : World} {G F : Nat → Prop} {v : Value} {ls : List (List UInt8)} (h : Rows8 w G v ls) (hk : Kept F w w') (hd : ∀ k, G k → ¬ F k) : Rows8 w' G v ls := by
  obtain ⟨vs, h1, h2, h3⟩ := h
  refine ⟨vs, hk.own h1 (fun g hg => hd g (h2 g hg)), h2, fun j l hj => ?_⟩
  obtain ⟨u, h4, h5, h6⟩ := h3 j l hj
  exact ⟨u, h4, h5.keep hk (fun g hg => hd g (h6 g hg)), h6⟩
theorem Rows8.below {w w' : World} {G : Nat → Prop} {v : Value} {ls : List (List UInt8)} (h : Rows8 w G v ls) (hb : Below w.heap.size w w') : Rows8 w' G v ls := h.kept (Kept.of_below (F := fun _ => False) hb) (fun _ _ h => h)
theorem Rows8.mono {w : World} {G H : Nat → Prop} {v : Value} {ls : List (List UInt8)} (h : Rows8 w G v ls) (hs : ∀ k, G k → H k) : Rows8 w H v ls := by
  obtain ⟨vs, h1, h2, h3⟩ := h
  refine ⟨vs, h1, fun g hg => hs g (h2 g hg), fun j l hj => ?_⟩
  obtain ⟨u, h4, h5, h6⟩ := h3 j l hj
  exact ⟨u, h4, h5, fun g hg => hs g (h6 g hg)⟩
theorem Rows8.lt {w : World} {G : Nat → Prop} {v : Value} {ls : List (List UInt8)} (h : Rows8 w G v ls) : Rows8 w (fun k => G k ∧ k < w.heap.size) v ls := by
  obtain ⟨vs, h1, h2, h3⟩ := h
  refine ⟨vs, h1, fun g hg => ⟨h2 g hg, (h1.lt g hg).2⟩, fun j l hj => ?_⟩
  obtain ⟨u, h4, h5, h6⟩ := h3 j l hj
  exact ⟨u, h4, h5, fun g hg => ⟨h6 g hg, (h5.lt g hg).2⟩⟩
theorem Rows8.shape {w : World} {G : Nat → Prop} {v : Value} {ls : List (List UInt8)} (h : Rows8 w G v ls) : ∃ A c, v = .slice A ls.length c ∧ ls.length ≤ c := by
  obtain ⟨vs, h1, _⟩ := h
  exact own_shape h1
theorem Rows8.at_ {w : World} {G : Nat → Prop} {v : Value} {ls : List (List UInt8)} (h : Rows8 w G v ls) {j : Nat} {l : List UInt8} (hj : ls[j]? = some l) :
    ∃ g c u, v = .slice (some ⟨g, 0, none⟩) ls.length c ∧ ls.length ≤ c ∧ g < w.heap.size ∧ G g ∧ w.cell? ⟨g, j, none⟩ = some u ∧ Own8 w 0 u l ∧ ∀ k, u.ownBlock = some k → G k := by
  obtain ⟨vs, h1, h2, h3⟩ := h
  have hlt : j < ls.length := (List.getElem?_eq_some_iff.1 hj).1
  obtain ⟨u, h4, h5, h6⟩ := h3 j l hj
  have hce : ∀ g, _ := fun g => h1.cells (g := g)
  rcases h1.2 with ⟨_, h0⟩ | ⟨g, cap, cur, rfl, hb, hg, hn, _⟩
  · rw [h0] at hlt; exact absurd hlt (Nat.not_lt_zero _)
  · refine ⟨g, cap, u, rfl, hn, heap_lt hg, h2 g rfl, ?_, h5, h6⟩
    have := hce g rfl j u h4
    rwa [Addr.add_lit, Nat.zero_add] at this
theorem own8_cell {w : World} {base : Nat} {u : Value} {l : List UInt8} (h : Own8 w base u l) : u.oneCell' = true := by
  obtain ⟨A, c, rfl, _⟩ := h.shape
  rfl
section
variable {ops : Array Oper} {Q : Exit → Act → World → Prop}
/-- one row is appended -/
theorem wp_pushR {o : Oper} {a : Act} {K : Act → World → Prop} {w0 w : World} {cs : Array Value} {T : TypeId} (hw : w = w0.alloc (.cells cs T) ∨ w = (w0.alloc (.cells cs T)).drew) (s x : Operand)
    (ho : o.op = .call { callee := .builtin .append, args := #[s, x], argTypes := #[58, 58] }) (G : Nat → Prop) (v u : Value) (ls : List (List UInt8)) (l : List UInt8) (hs : a.eval s = v) (hr : Rows8 w0 G v ls)
    (hx : a.eval x = .slice (some ⟨w0.heap.size, 0, none⟩) 1 1) (hcs : cs = #[u]) (hu : Own8 w0 0 u l) (hG : ∀ g, u.ownBlock = some g → G g) (hlen : ls.length ≤ 1000000)
    (h : ∀ v' w', Rows8 w' (fun k => G k ∨ w0.heap.size ≤ k) v' (ls ++ [l]) → Kept (fun k => v.ownBlock = some k) w0 w' → (∀ g, v'.ownBlock = some g → v.ownBlock = some g ∨ w0.heap.size ≤ g) → K (a.put o.dst v') w') :
    Oper.wp Tryd.prog o a w K Q := by
  obtain ⟨i0, hi0, hz0, hz1, hz2⟩ := info_parts info_bytes
  obtain ⟨vs, h1, h2, h3⟩ := hr
  have hvl : vs.length = ls.length := by have := h1.1; omega
  refine wp_push_new hw s x _ ho 0 29 i0 (.slice none 0 0) 1 24 Tryd.underlying58 hi0 hz0 hz1 hz2 rfl (by decide) v ls.length vs hs h1 [u] hx hcs rfl (fun y hy => by simp at hy; subst hy; exact own8_cell hu) (by unfold maxLen; omega) (by omega) (Nat.zero_le _) ?_
  intro v' w' ho' hk' hv'
  have hne : ∀ (y : Value) (m : List UInt8), Own8 w0 0 y m → Own8 w' 0 y m := fun y m hy => hy.keep hk' (fun g hg hf => by
    rcases h1.2 with ⟨e, _⟩ | ⟨g', cap, cur, e, _, hb, _⟩
    · rw [e] at hf; simp [Value.ownBlock] at hf
    · rw [e] at hf
      have : g' = g := by simpa [Value.ownBlock] using hf
      subst this
      exact own_ne hy hb (by decide) hg)
  refine h v' w' ⟨vs ++ [u], by rw [List.length_append]; exact ho', fun g hg => (hv' g hg).imp (fun e => h2 g e) id, fun j m hj => ?_⟩ hk' hv'
  by_cases hjl : j < ls.length
  · rw [List.getElem?_append_left hjl] at hj
    obtain ⟨y, h4, h5, h6⟩ := h3 j m hj
    exact ⟨y, by rw [List.getElem?_append_left (by omega)]; exact h4, hne y m h5, fun g hg => .inl (h6 g hg)⟩
  · have : j = ls.length := by
      have := (List.getElem?_eq_some_iff.1 hj).1
      simp at this
      omega
    subst this
    rw [List.getElem?_append_right (Nat.le_refl _)] at hj
    simp at hj
    subst hj
    exact ⟨u, by rw [List.getElem?_append_right (by omega), hvl]; simp, hne u l hu, fun g hg => .inl (hG g hg)⟩
theorem wpList_pushR {rest : List Oper} {o : Oper} {a : Act} {w0 : World} {cs : Array Value} {T : TypeId} (hgd : o.guard = none) (s x : Operand)
    (ho : o.op = .call { callee := .builtin .append, args := #[s, x], argTypes := #[58, 58] }) (G : Nat → Prop) (v u : Value) (ls : List (List UInt8)) (l : List UInt8) (hs : a.eval s = v) (hr : Rows8 w0 G v ls)
    (hx : a.eval x = .slice (some ⟨w0.heap.size, 0, none⟩) 1 1) (hcs : cs = #[u]) (hu : Own8 w0 0 u l) (hG : ∀ g, u.ownBlock = some g → G g) (hlen : ls.length ≤ 1000000)
    (h : ∀ v' w', Rows8 w' (fun k => G k ∨ w0.heap.size ≤ k) v' (ls ++ [l]) → Kept (fun k => v.ownBlock = some k) w0 w' → (∀ g, v'.ownBlock = some g → v.ownBlock = some g ∨ w0.heap.size ≤ g) → wpList Tryd.prog ops Q rest (a.put o.dst v') w') :
    wpList Tryd.prog ops Q (o :: rest) a (w0.alloc (.cells cs T)) :=
  wpList_plain hgd fun _ hK => wp_pushR (.inl rfl) s x ho G v u ls l hs hr hx hcs hu hG hlen fun v' w' a b c => hK _ _ (h v' w' a b c)
end
end Go.Proofs.YtckihiiimomgfaaDoor

namespace Go.Proofs.YtckihiiimomgfaaDoor
open Go.RowKit
theorem spliceV_set (L : List Value) (k : Nat) (v : Value) (h : k < L.length) : spliceV L k [v] = L.set k v := by
  refine List.ext_getElem? fun j => ?_
  rw [spliceV_get _ _ _ (by simp; omega), List.getElem?_set]
  by_cases e : k = j
  · subst e
    rw [if_pos (by simp), if_pos rfl, if_pos h]
    simp
  · rw [if_neg (by simp; omega), if_neg e]
theorem fold_set : ∀ (cs : List Value) (z : List Value) (off k : Nat), off + k + cs.length ≤ z.length →
    (cs.zipIdx k).foldl (fun (acc : Array Value) (x : Value × Nat) => acc.setIfInBounds (off + x.2) x.1) z.toArray = (spliceV z (off + k) cs).toArray
  | [], z, off, k, _ => by simp [spliceV]
  | c :: cs, z, off, k, h => by
    simp at h
    rw [List.zipIdx_cons, List.foldl_cons, List.setIfInBounds_toArray, fold_set cs (z.set (off + k) c) off (k + 1) (by simp; omega)]
    congr 1
    refine List.ext_getElem? fun j => ?_
    rw [spliceV_get _ _ _ (by simp; omega), spliceV_get _ _ _ (by simp; omega), List.getElem?_set]
    simp only [List.length_cons]
    by_cases h1 : off + (k + 1) ≤ j ∧ j < off + (k + 1) + cs.length
    · rw [if_pos h1, if_pos (by omega)]
      obtain ⟨i, rfl⟩ : ∃ i, j = off + (k + 1) + i := ⟨j - (off + (k + 1)), by omega⟩
      rw [show off + (k + 1) + i - (off + (k + 1)) = i by omega, show off + (k + 1) + i - (off + k) = i + 1 by omega]
      rfl
    · rw [if_neg h1]
      by_cases e : off + k = j
      · subst e
        rw [if_pos rfl, if_pos (by omega), if_pos (by omega)]
        simp
      · rw [if_neg e, if_neg (by omega)]
theorem fill_step {place : Nat → Option (Nat × Nat)} {z : List Value} {i : Nat} {v : Value} {rest : List (Nat × Value)} {off : Nat} (h : place i = some (off, v.cells.size)) (hl : off + v.cells.size ≤ z.length) :
    Instr.fill place z.toArray ((i, v) :: rest) = Instr.fill place (spliceV z off v.cells.toList).toArray rest := by
  rw [Instr.fill, h]
  have hn : ¬ (v.cells.size ≠ v.cells.size || decide (off + v.cells.size > z.toArray.size)) = true := by simp; omega
  simp only [if_neg hn]
  congr 1
  have := fold_set v.cells.toList z off 0 (by simp; omega)
  rw [Nat.add_zero] at this
  rw [← this]
  rw [← Array.foldl_toList, Array.toList_zipIdx]
theorem spliceV_all (z cs : List Value) (h : z.length = cs.length) : spliceV z 0 cs = cs := by
  unfold spliceV
  rw [List.take_zero, List.nil_append, Nat.zero_add, List.drop_of_length_le (by omega), List.append_nil]
section
variable {P : Program}
/-- a slice of one element, built -/
theorem run_buildSlice_one (w : World) (t e : TypeId) (ie : TypeInfo) (z : Value) (cs : List Value) (hu : P.underlying t = some (.slice e)) (hie : P.info? e = some ie) (hz : ie.zero = some z) (hs : ie.size = cs.length) (hzs : z.cells.size = cs.length) (hpos : 0 < cs.length) (hsm : cs.length ≤ 1000) (v : Value) (hv : v.cells = cs.toArray) :
    (Instr.buildSlice t 1 #[(0, v)]).run P w = .ok (.slice (some ⟨w.heap.size, 0, none⟩) 1 1) (w.alloc (.cells cs.toArray e)) := by
  refine run_buildSlice w t e 1 _ cs.toArray ie z hu hie hz (by omega) (by omega) ?_
  obtain ⟨zl, hzl, hzl2⟩ : ∃ zl : List Value, ((Array.range (1 * ie.size)).map (z.cells[· % z.cells.size]!)) = zl.toArray ∧ zl.length = cs.length := ⟨_, (Array.toArray_toList (xs := _)).symm, by simp [hs]⟩
  rw [hzl]
  show Instr.fill _ _ [(0, v)] = _
  rw [fill_step (z := zl) (v := v) (off := 0) (by rw [hv]; simp [hs]) (by rw [hv]; simp; omega), hv]
  simp [Instr.fill, spliceV_all zl cs hzl2]
/-- a struct of a number and a row, built -/
theorem run_build_two (w : World) (t : TypeId) (fs : Array Field) (it : TypeInfo) (z : Value) (n : Nat) (hi : P.info? t = some it) (hu : P.underlying t = some (.struct fs)) (hz : it.zero = some z)
    (hp : fs.toList.mapM (fun f => (P.info? f.type).map fun i => (f.offset, i.size)) = some [(0, 1), (1, n)]) (hzs : z.cells.size = n + 1) (k : IntKind) (x : Int) (cs : List Value) (hn : cs.length = n) :
    (Instr.build t #[(0, .int k x), (1, .agg cs.toArray)]).run P w = .ok (.agg (.int k x :: cs).toArray) w := by
  refine run_build w t _ _ ?_
  unfold Program.built
  simp only [hi, hu, hz, hp]
  obtain ⟨zl, hzl⟩ : ∃ zl : List Value, z.cells = zl.toArray := ⟨_, (Array.toArray_toList (xs := _)).symm⟩
  rw [hzl] at hzs ⊢
  simp at hzs
  rw [fill_step (z := zl) (v := .int k x) (off := 0) (by simp [Value.cells]) (by simp [Value.cells]; omega), fill_step (v := .agg cs.toArray) (z := spliceV zl 0 (Value.int k x).cells.toList) (off := 1) (by simp [Value.cells, hn]) (by rw [spliceV_length _ _ _ (by simp [Value.cells]; omega)]; simp [Value.cells]; omega)]
  simp only [Instr.fill, Value.cells]
  congr 1
  have e1 : spliceV zl 0 [Value.int k x] = Value.int k x :: zl.drop 1 := by simp [spliceV]
  rw [e1]
  congr 1
  simp [spliceV]
  omega
variable {ops : Array Oper} {Q : Exit → Act → World → Prop} {S : World → Prop} {m : Nat}
theorem yieldsIf_build_two {o : Oper} {a : Act} (hw : Region.wanted o (yielded ops a.tmps) = true) (t : TypeId) (x y : Operand) (ho : o.op = .build t #[(0, x), (1, y)]) (fs : Array Field) (it : TypeInfo) (z : Value) (n : Nat) (hi : P.info? t = some it) (hu : P.underlying t = some (.struct fs)) (hz : it.zero = some z)
    (hp : fs.toList.mapM (fun f => (P.info? f.type).map fun i => (f.offset, i.size)) = some [(0, 1), (1, n)]) (hzs : z.cells.size = n + 1) (k : IntKind) (e : Int) (cs : List Value) (hn : cs.length = n) (hx : a.eval x = .int k e) (hy : a.eval y = .agg cs.toArray) : YieldsIf P ops S o (.agg (.int k e :: cs).toArray) a :=
  .inl ⟨hw, fun w _ => by
    unfold execOp
    simp only [ho, List.map_toArray, List.map_cons, List.map_nil, hx, hy, Sem.run_bind, run_build_two w t fs it z n hi hu hz hp hzs k e cs hn, Result.andThen_ok, Sem.run_pure]⟩
theorem wpTailS_buildSlice {k : Nat} {o : Oper} {rest : List Oper} {a : Act} {w : World} (hk : k < m) (hg : o.guard = none) (t e : TypeId) (x : Operand) (ho : o.op = .buildSlice t 1 #[(0, x)]) (ie : TypeInfo) (z : Value) (cs : List Value)
    (hu : P.underlying t = some (.slice e)) (hie : P.info? e = some ie) (hz : ie.zero = some z) (hs : ie.size = cs.length) (hzs : z.cells.size = cs.length) (hpos : 0 < cs.length) (hsm : cs.length ≤ 1000) (hx : (a.eval x).cells = cs.toArray)
    (hS : S (w.alloc (.cells cs.toArray e))) (h : wpTailS P ops Q S m (k + 1) rest (a.put o.dst (.slice (some ⟨w.heap.size, 0, none⟩) 1 1)) (w.alloc (.cells cs.toArray e))) : wpTailS P ops Q S m k (o :: rest) a w := by
  refine wpTailS_op hk hg fun K hK => ?_
  unfold Oper.wp execOp
  simp only [ho, List.map_toArray, List.map_cons, List.map_nil, Sem.run_bind, run_buildSlice_one w t e ie z cs hu hie hz hs hzs hpos hsm _ hx, Result.andThen_ok]
  exact hK.out _ _ hS h
/-- cells are copied into a known block: the others are kept -/
theorem wp_copy_keep {o : Oper} {a : Act} {w : World} {K : Act → World → Prop} {Q : Exit → Act → World → Prop} (d s : Operand) (dT sT : TypeId)
    (ho : o.op = .call { callee := .builtin .copy, args := #[d, s], argTypes := #[dT, sT] }) (elem : TypeId) (hu : P.underlying dT = some (.slice elem)) (hsz : (P.info? elem).map (·.size) = some 1)
    (dp sp : Option Addr) (dLen dCap sLen sCap : Nat) (hd : a.eval d = .slice dp dLen dCap) (hs : a.eval s = .slice sp sLen sCap)
    (g off : Nat) (cur : List Value) (t : TypeId) (hg : RowV w g t cur) (cs : List Value) (hn : cs.length = Nat.min sLen dLen)
    (hpos : 0 < cs.length → dp = some ⟨g, off, none⟩ ∧ ∃ ad, sp = some ad ∧ ∀ j v, cs[j]? = some v → w.cell? (ad.add j) = some v)
    (hfit : off + cs.length ≤ cur.length) (h1 : ∀ v ∈ cs, v.oneCell' = true)
    (h : ∀ w', RowV w' g t (spliceV cur off cs) → Kept (fun k => k = g) w w' → w'.heap.size = w.heap.size → K (a.put o.dst (goInt cs.length)) w') : Oper.wp P o a w K Q := by
  by_cases h0 : cs.length = 0
  · obtain rfl : cs = [] := List.eq_nil_of_length_eq_zero h0
    have hrun := run_copy_none (P := P) w dT sT o.type elem dp sp dLen dCap sLen sCap hu hsz (by simpa using hn.symm)
    unfold Oper.wp
    simp [execOp, ho, resolve, invoke, builtin, hd, hs, hrun, Result.andThen]
    exact h w (by simpa [spliceV] using hg) (Kept.refl _ _) rfl
  · obtain ⟨rfl, ad, rfl, hsrc⟩ := hpos (by omega)
    have hrun := run_copy_row (P := P) w dT sT o.type elem g off dLen dCap ad sLen sCap cur.toArray t cs hu hsz hg hn hsrc (by simpa using hfit) h1
    unfold Oper.wp
    simp [execOp, ho, resolve, invoke, builtin, hd, hs, hrun, Result.andThen]
    refine h _ ?_ ⟨rfl, rfl, rfl, by simp [World.setRow], fun k _ hk => setRow_other w g k _ hk⟩ (by simp [World.setRow])
    have := setRow_heap w g cur.toArray (cur.take off ++ (cs ++ cur.drop (off + cs.length))).toArray t (0, 0) hg
    unfold RowV spliceV
    rw [List.append_assoc]
    exact this
theorem wpTailS_push {k : Nat} {o : Oper} {rest : List Oper} {a : Act} {w0 : World} {cs : Array Value} {T : TypeId} (hk : k < m) (hg : o.guard = none) (s x : Operand) (t : TypeId)
    (ho : o.op = .call { callee := .builtin .append, args := #[s, x], argTypes := #[t, t] })
    (base : Nat) (e : TypeId) (i : TypeInfo) (z : Value) (size bytes : Nat) (ht : P.underlying t = some (.slice e)) (hi : P.info? e = some i) (hz : i.zero = some z)
    (hsize : i.size = size) (hby : i.bytes = bytes) (hzs : z.cells.size = size) (hsz : 0 < size)
    (v : Value) (n : Nat) (xs : List Value) (hs : a.eval s = v) (hown : w0.ownsRow base e size v n xs) (news : List Value) (hx : a.eval x = .slice (some ⟨w0.heap.size, 0, none⟩) 1 1)
    (hcs : cs = news.toArray) (hl : news.length = size) (h1 : ∀ u ∈ news, u.oneCell' = true) (h63 : n + 1 ≤ maxLen) (hbytes : (n + 1) * bytes ≤ 140737488355328) (hbase : base ≤ w0.heap.size)
    (h : ∀ v' w', w'.ownsRow base e size v' (n + 1) (xs ++ news) → Kept (fun k => v.ownBlock = some k) w0 w' → (∀ g, v'.ownBlock = some g → v.ownBlock = some g ∨ w0.heap.size ≤ g) → S w' ∧ wpTailS P ops Q S m (k + 1) rest (a.put o.dst v') w') :
    wpTailS P ops Q S m k (o :: rest) a (w0.alloc (.cells cs T)) :=
  wpTailS_op hk hg fun K hK => wp_push_new (.inl rfl) s x t ho base e i z size bytes ht hi hz hsize hby hzs hsz v n xs hs hown news hx hcs hl h1 h63 hbytes hbase fun v' w' a b c => by
    obtain ⟨h1, h2⟩ := h v' w' a b c
    exact hK.out _ _ h1 h2
end
end Go.Proofs.YtckihiiimomgfaaDoor
