/- A map whose keys are numbers, in a block of its own: what it holds, looked up, put, cleared; over any program. -/
import Derived.Test.YtckihiiimomgfaaFoot
import Derived.MapKept
import Derived.ChangeMaps5
namespace Go.Proofs.Ytckihiiimomgfaa
open Go.RowKit Go.ChangeMaps
def lookL (k : Int) : List (Int × Value) → Option Value
  | [] => none
  | (a, v) :: r => if k = a then some v else lookL k r
def putL (k : Int) (v : Value) : List (Int × Value) → List (Int × Value)
  | [] => [(k, v)]
  | (a, u) :: r => if k = a then (a, v) :: r else (a, u) :: putL k v r
theorem lookL_putL (k j : Int) (v : Value) : ∀ l, lookL j (putL k v l) = if j = k then some v else lookL j l
  | [] => by simp [lookL, putL]
  | (a, u) :: r => by
    have ih := lookL_putL k j v r
    unfold putL
    by_cases h : k = a
    · subst h
      simp only [if_true, lookL]
      split <;> rfl
    · simp only [h, if_false, lookL, ih]
      by_cases h1 : j = a
      · subst h1
        simp [Ne.symm h]
      · simp [h1]
def ents (l : List (Int × Value)) : List (Value × Value) := l.map fun p => (Value.int .i64 p.1, p.2)
/-- block g is a map that holds l -/
def MapIs (w : World) (g : Nat) (l : List (Int × Value)) : Prop := ∃ es c, w.heap[g]? = some (.map es c) ∧ es.toList.map (fun e => (e.key, e.val)) = ents l
theorem MapIs.lt {w : World} {g : Nat} {l : List (Int × Value)} (h : MapIs w g l) : g < w.heap.size := by obtain ⟨es, c, h, _⟩ := h; exact heap_lt h
theorem MapIs.kept {w w' : World} {F : Nat → Prop} {g : Nat} {l : List (Int × Value)} (h : MapIs w g l) (hk : Kept F w w') (hn : ¬ F g) : MapIs w' g l := by
  obtain ⟨es, c, h, h2⟩ := h
  exact ⟨es, c, hk.heap h hn, h2⟩
theorem MapIs.below {w w' : World} {g : Nat} {l : List (Int × Value)} (h : MapIs w g l) (hk : Below w.heap.size w w') : MapIs w' g l := h.kept (Kept.of_below (F := fun _ => False) hk) (fun h => h)
theorem MapIs.made (w : World) : MapIs (w.alloc (.map #[] 0)) w.heap.size [] := ⟨#[], 0, heap_alloc_new w _, rfl⟩
theorem findNow_ents (k : Int) : ∀ (l : List (Int × Value)) (es : List MapEntry) (i : Nat), es.map (fun e => (e.key, e.val)) = ents l →
    (lookL k l = none ∧ Instr.findNow (.int .i64) (.int .i64 k) es i = some none ∧ ∀ v, putL k v l = l ++ [(k, v)]) ∨
    (∃ j v e, lookL k l = some v ∧ es[j]? = some e ∧ e.key = .int .i64 k ∧ Instr.findNow (.int .i64) (.int .i64 k) es i = some (some (i + j, v)) ∧
      ∀ v', (es.modify j fun e => { e with key := .int .i64 k, val := v' }).map (fun e => (e.key, e.val)) = ents (putL k v' l))
  | [], es, i, h => by
    have : es = [] := by simpa [ents] using h
    subst this
    exact .inl ⟨rfl, rfl, fun _ => rfl⟩
  | (a, u) :: r, [], i, h => by simp [ents] at h
  | (a, u) :: r, e :: es, i, h => by
    simp only [ents, List.map_cons, List.cons.injEq, Prod.mk.injEq] at h
    obtain ⟨⟨h1, h2⟩, h3⟩ := h
    by_cases hk : k = a
    · subst hk
      refine .inr ⟨0, u, e, by simp [lookL], rfl, h1, ?_, fun v' => ?_⟩
      · simp [Instr.findNow, Instr.sameNow, h1, h2]
      · simp [List.modify_cons, ents, putL, h3]
    · have hf : Instr.findNow (.int .i64) (.int .i64 k) (e :: es) i = Instr.findNow (.int .i64) (.int .i64 k) es (i + 1) := by
        have hb : (k == a) = false := by simpa using hk
        simp [Instr.findNow, Instr.sameNow, h1, hb]
      rcases findNow_ents k r es (i + 1) h3 with ⟨g1, g2, g3⟩ | ⟨j, v, e', g1, g2, g3, g4, g5⟩
      · exact .inl ⟨by simp [lookL, hk, g1], by rw [hf, g2], fun v => by simp [putL, hk, g3]⟩
      · refine .inr ⟨j + 1, v, e', by simp [lookL, hk, g1], by simpa using g2, g3, by rw [hf, g4]; congr 3; omega, fun v' => ?_⟩
        have := g5 v'
        simp [ents, putL, hk, h1, h2] at this ⊢
        exact this
section
variable {P : Program}
theorem isKey_i64 (k : Int) : MapKept.IsKey (.int .i64) (.int .i64 k) := by simp [MapKept.IsKey]
theorem run_look_some {w : World} {g : Nat} {l : List (Int × Value)} {t kt et : TypeId} (ht : P.underlying t = some (.map kt et)) (hk : P.underlying kt = some (.int .i64)) (h : MapIs w g l) {k : Int} {v : Value} (hl : lookL k l = some v) :
    (Instr.lookup t (.map (some g)) (.int .i64 k) true).run P w = .ok (.tuple #[v, .bool true]) w := by
  obtain ⟨es, c, hb, he⟩ := h
  rcases findNow_ents k l es.toList 0 he with ⟨g1, _⟩ | ⟨j, v', e', g1, g2, g3, g4, g5⟩
  · rw [hl] at g1; cases g1
  · rw [hl] at g1
    injection g1 with g1
    subst g1
    simp [Instr.lookup, run_underlying ht, MapKept.run_getObj_map hb, MapKept.run_checkKey hk (isKey_i64 k), MapKept.run_findKey hk g4, Result.andThen]
theorem run_look_none {w : World} {g : Nat} {l : List (Int × Value)} {t kt et : TypeId} {z : Value} (ht : P.underlying t = some (.map kt et)) (hk : P.underlying kt = some (.int .i64)) (h : MapIs w g l) {k : Int} (hl : lookL k l = none) (hz : (zeroValue et).run P w = .ok z w) :
    (Instr.lookup t (.map (some g)) (.int .i64 k) true).run P w = .ok (.tuple #[z, .bool false]) w := by
  obtain ⟨es, c, hb, he⟩ := h
  rcases findNow_ents k l es.toList 0 he with ⟨g1, g2, _⟩ | ⟨j, v', e', g1, g2, g3, g4, g5⟩
  · simp [Instr.lookup, run_underlying ht, MapKept.run_getObj_map hb, MapKept.run_checkKey hk (isKey_i64 k), MapKept.run_findKey hk g2, hz, Result.andThen]
  · rw [hl] at g1; cases g1
theorem kept_setBlock {w : World} {g : Nat} {es : Array MapEntry} {c : Nat} (hb : w.heap[g]? = some (.map es c)) (o : Obj) : Kept (fun k => k = g) w (setBlock w g o) :=
  ⟨rfl, rfl, rfl, by simp [setBlock], fun k _ hne => heap_setBlock_other hb o hne⟩
theorem run_put {w : World} {g : Nat} {l : List (Int × Value)} {t kt et : TypeId} (ht : P.underlying t = some (.map kt et)) (hk : P.underlying kt = some (.int .i64)) (h : MapIs w g l) (k : Int) (v : Value) :
    ∃ w', (Instr.mapUpdate t (.map (some g)) (.int .i64 k) v).run P w = .ok () w' ∧ MapIs w' g (putL k v l) ∧ Kept (fun x => x = g) w w' ∧ w'.heap.size = w.heap.size := by
  obtain ⟨es, c, hb, he⟩ := h
  rcases findNow_ents k l es.toList 0 he with ⟨g1, g2, g3⟩ | ⟨j, v', e', g1, g2, g3, g4, g5⟩
  · refine ⟨setBlock w g (.map (es.push { key := .int .i64 k, val := v, born := c }) (c + 1)), ?_, ⟨_, _, heap_setBlock_same hb _, ?_⟩, kept_setBlock hb _, by simp [setBlock]⟩
    · simp [Instr.mapUpdate, run_underlying ht, MapKept.run_getObj_map hb, MapKept.run_checkKey hk (isKey_i64 k), MapKept.run_findKey hk g2, MapKept.run_setObj_map _ hb, Result.andThen, setBlock]
    · rw [g3]
      simp [ents] at he ⊢
      exact he
  · have g2' : es[j]? = some e' := by simpa using g2
    have g4' : Instr.findNow (.int .i64) (.int .i64 k) es.toList 0 = some (some (j, v')) := by simpa using g4
    refine ⟨setBlock w g (.map (es.modify j fun e => { e with key := .int .i64 k, val := v }) c), ?_, ⟨_, _, heap_setBlock_same hb _, ?_⟩, kept_setBlock hb _, by simp [setBlock]⟩
    · simp [Instr.mapUpdate, run_underlying ht, MapKept.run_getObj_map hb, MapKept.run_checkKey hk (isKey_i64 k), MapKept.run_findKey hk g4', g2', g3, MapKept.run_keyThatStays (isKey_i64 k), MapKept.run_setObj_map _ hb, Result.andThen, setBlock]
    · rw [← g5 v]
      simp [Array.toList_modify]
theorem run_clear {w : World} {g : Nat} {l : List (Int × Value)} {t kt et ty : TypeId} (ht : P.underlying t = some (.map kt et)) (h : MapIs w g l) :
    ∃ w', (Builtin.clear_ #[t] ty #[.map (some g)]).run P w = .ok (.tuple #[]) w' ∧ MapIs w' g [] ∧ Kept (fun x => x = g) w w' ∧ w'.heap.size = w.heap.size := by
  obtain ⟨es, c, hb, he⟩ := h
  refine ⟨setBlock w g (.map #[] c), ?_, ⟨_, _, heap_setBlock_same hb _, rfl⟩, kept_setBlock hb _, by simp [setBlock]⟩
  simp [Builtin.clear_, run_underlying ht, MapKept.run_getObj_map hb, MapKept.run_setObj_map _ hb, Result.andThen, setBlock]
theorem wpList_put {ops : Array Oper} {rest : List Oper} {o : Oper} {a : Act} {w : World} {Q : Exit → Act → World → Prop}
    (hg : o.guard = none) (m x y : Operand) (t : TypeId) (hop : o.op = Op.mapUpdate t m x y) (kt et : TypeId) (ht : P.underlying t = some (.map kt et)) (hk : P.underlying kt = some (.int .i64))
    (g : Nat) (l : List (Int × Value)) (k : Int) (v : Value) (hm : a.eval m = .map (some g)) (hx : a.eval x = .int .i64 k) (hv : a.eval y = v) (h : MapIs w g l)
    (hK : ∀ w', MapIs w' g (putL k v l) → Kept (fun x => x = g) w w' → w'.heap.size = w.heap.size → wpList P ops Q rest (a.put o.dst undef) w') : wpList P ops Q (o :: rest) a w := by
  refine wpList_plain hg fun K' hK' => ?_
  obtain ⟨w', hrun, r1, r2, r3⟩ := run_put ht hk h k v
  unfold Oper.wp
  simp [execOp, hop, hm, hx, hv, hrun, Result.andThen]
  exact hK' _ _ (hK w' r1 r2 r3)
theorem wpList_clear {ops : Array Oper} {rest : List Oper} {o : Oper} {a : Act} {w : World} {Q : Exit → Act → World → Prop}
    (hg : o.guard = none) (m : Operand) (t : TypeId) (hop : o.op = .call { callee := .builtin .clear, args := #[m], argTypes := #[t] }) (kt et : TypeId) (ht : P.underlying t = some (.map kt et))
    (g : Nat) (l : List (Int × Value)) (hm : a.eval m = .map (some g)) (h : MapIs w g l)
    (hK : ∀ w', MapIs w' g [] → Kept (fun x => x = g) w w' → w'.heap.size = w.heap.size → wpList P ops Q rest (a.put o.dst (.tuple #[])) w') : wpList P ops Q (o :: rest) a w := by
  refine wpList_plain hg fun K' hK' => ?_
  obtain ⟨w', hrun, r1, r2, r3⟩ := run_clear (ty := o.type) ht h
  unfold Oper.wp execOp
  simp only [hop, resolve, invoke, builtin, Sem.run_bind, Sem.run_pure, Result.andThen_ok, List.map_toArray, List.map_cons, List.map_nil, hm, hrun]
  exact hK' _ _ (hK w' r1 r2 r3)
end
end Go.Proofs.Ytckihiiimomgfaa
