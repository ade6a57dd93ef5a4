/- Noughts appended: 'append(b, make([]byte, n)...)', which the model has as one operation; and bytes that are made. -/
import Derived.Test.YtckihiiimomgfaaMore
import Derived.Lib.AppendStr
namespace Go.Proofs.Ytckihiiimomgfaa
open Go.RowKit
section
variable {P : Program} (w : World)
theorem zeroCells_u8 (m : Nat) : Builtin.zeroCells (Value.int .u8 0).cells m = (List.replicate m (Value.int .u8 0)).toArray := by
  apply Array.ext'
  apply List.ext_getElem
  · simp [Builtin.zeroCells, Value.cells]
  · intro j h1 h2
    simp [Builtin.zeroCells, Value.cells, Nat.mod_one]
theorem append_zeros_eq (t k u ty e : TypeId) (i : TypeInfo) (ht : P.underlying t = some (.slice e)) (hk : P.underlying k = some (.int .i64)) (hu : P.underlying u = some .string) (hi : P.info? e = some i) (hz : i.zero = some (.int .u8 0))
    (hsize : i.size = 1) (hby : i.bytes = 1) (A : Option Addr) (n c m : Nat) (hm : n + m ≤ 1000000) (hnc : n ≤ c) :
    (Builtin.append_ #[t, k] ty #[.slice A n c, .int .i64 (m : Int)]).run P w = (Builtin.append_ #[t, u] ty #[.slice A n c, .string ⟨(List.replicate m 0).toArray⟩]).run P w := by
  have hw : IntKind.i64.wrap (m : Int) = (m : Int) := by rw [IntKind.wrap_i64]; omega
  have h0 : ¬ ((m : Int) < 0) := by omega
  have h48 : ¬ (281474976710656 < (m : Int)) := by omega
  have hsz : (⟨(List.replicate m (0 : UInt8)).toArray⟩ : ByteArray).size = m := by show (List.replicate m (0 : UInt8)).toArray.size = m; simp
  have hcells : Builtin.zeroCells (Value.int .u8 0).cells m = (Array.map (fun b => Value.int .u8 (b.toNat : Int)) (⟨(List.replicate m (0 : UInt8)).toArray⟩ : ByteArray).data).extract 0 m := by
    rw [zeroCells_u8]
    apply Array.ext'
    simp
  have hbig : ¬ (9223372036854775807 < ((n : Int) + (m : Int))) := by omega
  generalize (⟨(List.replicate m (0 : UInt8)).toArray⟩ : ByteArray) = s at *
  by_cases hm0 : m = 0
  · subst hm0
    clear hcells
    have hw0 : IntKind.i64.wrap 0 = 0 := by decide
    simp [Builtin.append_, run_underlying ht, run_underlying hk, run_underlying hu, sizeOf, typeInfo, hi, hsize, Builtin.lenOf, Builtin.firstCells, asInt, asIntOf, hsz, hnc, hw0]
  · by_cases hroom : n + m ≤ c
    · simp [Builtin.append_, run_underlying ht, run_underlying hk, run_underlying hu, sizeOf, typeInfo, hi, hby, hsize, hz, zeroValue, Builtin.lenOf, Builtin.firstCells, asInt, asIntOf, hw, h0, h48, hsz, hm0, hcells, hroom]
    · have hcap : ¬ (281474976710656 < Builtin.nextslicecap (n + m) c) := by
        have := growslice_fits (need := n + m) (old := c) (bytes := 1) (by omega) (by omega)
        omega
      simp [Builtin.append_, run_underlying ht, run_underlying hk, run_underlying hu, sizeOf, typeInfo, hi, hby, hsize, hz, zeroValue, Builtin.lenOf, Builtin.firstCells, asInt, asIntOf, hw, h0, h48, hsz, hbig, hm0, hcells, hroom, hcap]
theorem strCells_zeros (m : Nat) : Lib.strCells ⟨(List.replicate m (0 : UInt8)).toArray⟩ = bvs (List.replicate m 0) := by
  simp [Lib.strCells, bvs]
theorem run_append_zeros (base : Nat) (t k u ty e : TypeId) (i : TypeInfo) (ht : P.underlying t = some (.slice e)) (hk : P.underlying k = some (.int .i64)) (hu : P.underlying u = some .string) (hi : P.info? e = some i) (hz : i.zero = some (.int .u8 0))
    (hsize : i.size = 1) (hby : i.bytes = 1) (v : Value) (n : Nat) (xs : List Value) (hown : w.ownsRow base e 1 v n xs) (m : Nat) (hm : n + m ≤ 1000000) (hbase : base ≤ w.heap.size) :
    ∃ v' w', (Builtin.append_ #[t, k] ty #[v, .int .i64 (m : Int)]).run P w = .ok v' w' ∧ w'.ownsRow base e 1 v' (n + m) (xs ++ bvs (List.replicate m 0)) ∧ w.grownBy w' v.ownBlock := by
  obtain ⟨A, c, rfl, hc⟩ := own_shape hown
  have hsz : (⟨(List.replicate m (0 : UInt8)).toArray⟩ : ByteArray).size = m := by show (List.replicate m (0 : UInt8)).toArray.size = m; simp
  obtain ⟨v', w', h1, h2, h3, _⟩ := Lib.run_append_own_string (P := P) w base t u ty e i ht hu hi hz hsize hby _ n xs hown ⟨(List.replicate m (0 : UInt8)).toArray⟩ (by rw [hsz]; unfold maxLen; omega) (by rw [hsz]; omega) hbase
  rw [hsz, strCells_zeros] at h2
  exact ⟨v', w', (append_zeros_eq w t k u ty e i ht hk hu hi hz hsize hby A n c m hm hc).trans h1, h2, h3⟩
theorem wp_append_zeros {o : Oper} {a : Act} {K : Act → World → Prop} {Q : Exit → Act → World → Prop} (s x : Operand) (t k u : TypeId)
    (ho : o.op = .call { callee := .builtin .append, args := #[s, x], argTypes := #[t, k] })
    (base : Nat) (e : TypeId) (i : TypeInfo) (ht : P.underlying t = some (.slice e)) (hk : P.underlying k = some (.int .i64)) (hu : P.underlying u = some .string) (hi : P.info? e = some i) (hz : i.zero = some (.int .u8 0))
    (hsize : i.size = 1) (hby : i.bytes = 1) (v : Value) (n : Nat) (xs : List Value) (hs : a.eval s = v) (hown : w.ownsRow base e 1 v n xs) (m : Nat) (hx : a.eval x = .int .i64 (m : Int)) (hm : n + m ≤ 1000000) (hbase : base ≤ w.heap.size)
    (h : ∀ v' w', w'.ownsRow base e 1 v' (n + m) (xs ++ bvs (List.replicate m 0)) → w.grownBy w' v.ownBlock → K (a.put o.dst v') w') : o.wp P a w K Q := by
  obtain ⟨v', w', hrun, h2, h3⟩ := run_append_zeros (P := P) w base t k u o.type e i ht hk hu hi hz hsize hby v n xs hown m hm hbase
  unfold Oper.wp execOp
  simp only [ho, resolve, invoke, builtin, Sem.run_bind, Sem.run_pure, Result.andThen_ok, List.map_toArray, List.map_cons, List.map_nil, hs, hx, hrun]
  exact h v' w' h2 h3
theorem wpList_append_zeros {ops : Array Oper} {rest : List Oper} {o : Oper} {a : Act} {Q : Exit → Act → World → Prop} (hgd : o.guard = none) (s x : Operand) (t k u : TypeId)
    (ho : o.op = .call { callee := .builtin .append, args := #[s, x], argTypes := #[t, k] })
    (base : Nat) (e : TypeId) (i : TypeInfo) (ht : P.underlying t = some (.slice e)) (hk : P.underlying k = some (.int .i64)) (hu : P.underlying u = some .string) (hi : P.info? e = some i) (hz : i.zero = some (.int .u8 0))
    (hsize : i.size = 1) (hby : i.bytes = 1) (v : Value) (n : Nat) (xs : List Value) (hs : a.eval s = v) (hown : w.ownsRow base e 1 v n xs) (m : Nat) (hx : a.eval x = .int .i64 (m : Int)) (hm : n + m ≤ 1000000) (hbase : base ≤ w.heap.size)
    (h : ∀ v' w', w'.ownsRow base e 1 v' (n + m) (xs ++ bvs (List.replicate m 0)) → w.grownBy w' v.ownBlock → wpList P ops Q rest (a.put o.dst v') w') : wpList P ops Q (o :: rest) a w :=
  wpList_plain hgd fun _ hK => wp_append_zeros w s x t k u ho base e i ht hk hu hi hz hsize hby v n xs hs hown m hx hm hbase fun v' w' h2 h3 => hK _ _ (h v' w' h2 h3)
/-- bytes that are made -/
theorem made_u8 (m : Nat) : madeCells (Value.int .u8 0).cells m = (bvs (List.replicate m 0)).toArray := by
  apply Array.ext'
  apply List.ext_getElem
  · simp [madeCells, bvs]
  · intro j h1 h2
    simp [madeCells, Value.cells, bvs, Nat.mod_one]
end
end Go.Proofs.Ytckihiiimomgfaa
