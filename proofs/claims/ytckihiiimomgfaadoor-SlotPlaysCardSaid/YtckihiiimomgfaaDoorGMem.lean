/- Texts laid as one: Words, Base, More, Foot, Row8, Push, RowV, MapInt, Zeros, Clone. -/
import Derived.WalkKit
import Derived.WalkSpells
import Derived.WalkLawsBesides
import Derived.Maps.AppendAt
import Derived.Deep.AppendLies
import Derived.Deep.Draws
import Derived.Lib.Hide
import Derived.Test.YtckihiiimomgfaaDoorProg
import Derived.Deep.QuietTactic
import Derived.BigQuiet
import Derived.Outline
import Derived.Laws.Cells
import Derived.Laws.BytesString
import Derived.Deep.OwnRows
import Derived.Deep.MidRow
import Derived.MapKept
import Derived.ChangeMaps5
import Derived.Lib.AppendStr
import Derived.Lib.SliceRun
namespace Go.Proofs.YtckihiiimomgfaaDoor
open Go.RowKit

/-- a byte as a value -/
abbrev bval (c : UInt8) : Value := .int .u8 (c.toNat : Int)
def bvs (l : List UInt8) : List Value := l.map fun c => .int .u8 (c.toNat : Int)
theorem bvs_length (l : List UInt8) : (bvs l).length = l.length := by simp [bvs]
theorem bvs_append (l m : List UInt8) : bvs (l ++ m) = bvs l ++ bvs m := by simp [bvs]
theorem bvs_one (l : List UInt8) : ∀ u ∈ bvs l, u.oneCell' = true := by
  intro u hu
  obtain ⟨c, _, rfl⟩ := List.mem_map.1 hu
  rfl
theorem bvs_get (l : List UInt8) (j : Nat) (c : UInt8) (h : l[j]? = some c) : (bvs l)[j]? = some (.int .u8 (c.toNat : Int)) := by simp [bvs, h]
theorem bvs_inv {l : List UInt8} {j : Nat} {u : Value} (h : (bvs l)[j]? = some u) : ∃ c, l[j]? = some c ∧ u = .int .u8 (c.toNat : Int) := by
  unfold bvs at h
  rw [List.getElem?_map] at h
  cases hc : l[j]? with
  | none => rw [hc] at h; cases h
  | some c => rw [hc] at h; simp at h; exact ⟨c, rfl, h.symm⟩

theorem addr_block (a : Addr) (n : Nat) : (a.add n).block = a.block := by unfold Addr.add; split <;> rfl
theorem addr_add (a : Addr) (i j : Nat) : (a.add i).add j = a.add (i + j) := by
  unfold Addr.add
  by_cases hi : i = 0 <;> by_cases hj : j = 0 <;> simp [hi, hj, Nat.add_assoc]

/-- the slice at A reads as the bytes l -/
def Bs (w : World) (A : Option Addr) (l : List UInt8) : Prop :=
  ∀ (j : Nat) (c : UInt8), l[j]? = some c → ∃ ad, A = some ad ∧ ad.block < w.heap.size ∧ w.cell? (ad.add j) = some (.int .u8 (c.toNat : Int))
section
variable {w w' : World} {A : Option Addr} {l : List UInt8}
theorem Bs.nil (w : World) (A : Option Addr) : Bs w A [] := fun j c h => by simp at h
theorem Bs.at_ (h : Bs w A l) {k : Nat} (hk : k < l.length) : ∃ ad, A = some ad ∧ ad.block < w.heap.size ∧ w.cell? (ad.add k) = some (.int .u8 (l[k].toNat : Int)) :=
  h k l[k] (List.getElem?_eq_getElem hk)
theorem Bs.keep (h : Bs w A l) (hs : w.heap.size ≤ w'.heap.size) (hk : ∀ p : Addr, p.block < w.heap.size → w'.cell? p = w.cell? p) : Bs w' A l := fun j c hj => by
  obtain ⟨ad, e, hb, hc⟩ := h j c hj
  exact ⟨ad, e, by omega, (hk _ (by rw [addr_block]; exact hb)).trans hc⟩
theorem Bs.below (h : Bs w A l) (hb : Below w.heap.size w w') : Bs w' A l := h.keep hb.size fun _ hp => hb.cell hp
theorem Bs.drewN (h : Bs w A l) (n : Nat) : Bs (w.drewN n) A l := h
theorem Bs.drew (h : Bs w A l) : Bs w.drew A l := h
theorem Bs.alloc (h : Bs w A l) (o : Obj) : Bs (w.alloc o) A l := h.below ((Below.refl _ _).alloc (Nat.le_refl _) o)
theorem Bs.take (h : Bs w A l) (n : Nat) : Bs w A (l.take n) := fun j c hj => by
  by_cases hn : j < n
  · rw [List.getElem?_take_of_lt hn] at hj; exact h j c hj
  · rw [List.getElem?_eq_none (by simp; omega)] at hj; cases hj
theorem Bs.drop (h : Bs w A l) {k cap : Nat} (hc : l.length ≤ cap) : Bs w (if cap = k then A else A.map (·.add k)) (l.drop k) := fun j c hj => by
  rw [List.getElem?_drop] at hj
  obtain ⟨ad, rfl, hb, hcell⟩ := h _ c hj
  have hlt : k + j < l.length := (List.getElem?_eq_some_iff.1 hj).1
  rw [if_neg (by omega)]
  exact ⟨ad.add k, rfl, by rw [addr_block]; exact hb, by rw [addr_add]; exact hcell⟩
theorem Bs.of_own {base : Nat} {e : TypeId} {n c : Nat} (h : w.ownsRow base e 1 (.slice A n c) n (bvs l)) : Bs w A l := fun j c hj => by
  have hlen : l.length = n := by have := h.1; rw [bvs_length] at this; omega
  have hlt : j < l.length := (List.getElem?_eq_some_iff.1 hj).1
  rcases h.2 with ⟨h0, h1⟩ | ⟨g, cap, cur, hv, _, hg, _⟩
  · omega
  · have hA : A = some ⟨g, 0, none⟩ := by injection hv
    subst hA
    exact ⟨_, rfl, (h.lt g rfl).2, h.cells (g := g) rfl j _ (bvs_get l j c hj)⟩
end

/-- the slice at A reads as the numbers zs -/
def Ns (w : World) (A : Option Addr) (zs : List Int) : Prop :=
  ∀ (j : Nat) (z : Int), zs[j]? = some z → ∃ ad, A = some ad ∧ ad.block < w.heap.size ∧ w.cell? (ad.add j) = some (.int .i64 z)
section
variable {w w' : World} {A : Option Addr} {zs : List Int}
theorem Ns.at_ (h : Ns w A zs) {k : Nat} (hk : k < zs.length) : ∃ ad, A = some ad ∧ ad.block < w.heap.size ∧ w.cell? (ad.add k) = some (.int .i64 zs[k]) :=
  h k zs[k] (List.getElem?_eq_getElem hk)
theorem Ns.below (h : Ns w A zs) (hb : Below w.heap.size w w') : Ns w' A zs := fun j c hj => by
  obtain ⟨ad, e, hlt, hc⟩ := h j c hj
  exact ⟨ad, e, Nat.lt_of_lt_of_le hlt hb.size, (hb.cell (by rw [addr_block]; exact hlt)).trans hc⟩
theorem Ns.drewN (h : Ns w A zs) (n : Nat) : Ns (w.drewN n) A zs := h
end
/-- bytes that were just laid in a block of their own -/
theorem Bs.lit (w : World) (l : List UInt8) (cs : Array Value) (t : TypeId) (fr : Nat × Nat) (h : cs = (bvs l).toArray) : Bs (w.alloc (.cells cs t fr)) (some ⟨w.heap.size, 0, none⟩) l := fun j c hj => by
  refine ⟨_, rfl, by simp, ?_⟩
  have e : (w.alloc (.cells cs t fr)).heap[w.heap.size]? = some (.cells cs t fr) := heap_alloc_new w _
  have e2 : (⟨w.heap.size, 0, none⟩ : Addr).add j = ⟨w.heap.size, j, none⟩ := by unfold Addr.add; split <;> simp_all
  rw [e2, cell_of_row _ _ _ _ _ _ e, h]
  simpa using bvs_get l j c hj
theorem below_drewN {B : Nat} {a w : World} (h : Below B a w) (n : Nat) : Below B a (w.drewN n) := ⟨h.os, h.tape, h.output, h.size, h.block⟩
theorem below_refl_drewN (B : Nat) (w : World) (n : Nat) : Below B w (w.drewN n) := below_drewN (Below.refl _ _) n
theorem below_then {w w1 w2 : World} (h1 : Below w.heap.size w w1) (h2 : Below w1.heap.size w1 w2) : Below w.heap.size w w2 := h1.trans (h2.mono h1.size)
theorem below_alloc (w : World) (o : Obj) : Below w.heap.size w (w.alloc o) := (Below.refl _ _).alloc (Nat.le_refl _) o
/-- new memory whose owner is known: the shape of a row's value -/
theorem own_shape {w : World} {base : Nat} {e : TypeId} {size : Nat} {v : Value} {n : Nat} {xs : List Value} (h : w.ownsRow base e size v n xs) : ∃ A c, v = .slice A n c ∧ n ≤ c := by
  rcases h.2 with ⟨rfl, rfl⟩ | ⟨g, cap, cur, rfl, _, _, hn, _⟩
  · exact ⟨none, 0, rfl, Nat.le_refl _⟩
  · exact ⟨_, cap, rfl, hn⟩

section
variable {P : Program} (w : World)
theorem run_append_nothing (base : Nat) (t ty e : TypeId) (i : TypeInfo) (size : Nat) (ht : P.underlying t = some (.slice e)) (hi : P.info? e = some i)
    (v : Value) (n : Nat) (xs : List Value) (hown : w.ownsRow base e size v n xs) (c : Nat) : (Builtin.append_ #[t, t] ty #[v, .slice none 0 c]).run P w = .ok v w := by
  rcases hown.2 with ⟨rfl, rfl⟩ | ⟨g, cap, cur, rfl, _, _, hnc, _⟩
  · simp [Builtin.append_, run_underlying ht, sizeOf, typeInfo, hi, Builtin.lenOf, Builtin.firstCells]
  · simp [Builtin.append_, run_underlying ht, sizeOf, typeInfo, hi, Builtin.lenOf, Builtin.firstCells, hnc, storeCells]
/-- bytes appended to a row of the call's own, from wherever -/
theorem run_append_bs (base : Nat) (t ty e : TypeId) (i : TypeInfo) (z : Value) (ht : P.underlying t = some (.slice e)) (hi : P.info? e = some i) (hz : i.zero = some z)
    (hsize : i.size = 1) (hby : i.bytes = 1) (hzs : z.cells.size = 1)
    (v : Value) (xs : List Value) (hown : w.ownsRow base e 1 v xs.length xs)
    (A : Option Addr) (c : Nat) (l : List UInt8) (hr : Bs w A l)
    (hbytes : xs.length + l.length ≤ 140737488355328) (hbase : base ≤ w.heap.size) :
    ∃ v' w', (Builtin.append_ #[t, t] ty #[v, .slice A l.length c]).run P w = .ok v' w' ∧ w'.ownsRow base e 1 v' (xs.length + l.length) (xs ++ bvs l) ∧ w.grownBy w' v.ownBlock ∧
      (v'.ownBlock = v.ownBlock ∨ v'.ownBlock = some w.heap.size) := by
  cases A with
  | none =>
    have hl : l = [] := by
      cases l with
      | nil => rfl
      | cons a l => obtain ⟨ad, h, _⟩ := hr 0 a rfl; cases h
    subst hl
    exact ⟨v, w, run_append_nothing w base t ty e i 1 ht hi v _ xs hown c, by simpa [bvs] using hown, ⟨rfl, rfl, rfl, Nat.le_refl _, fun _ _ _ => rfl⟩, .inl rfl⟩
  | some ad =>
    have hcells : ∀ j u, (bvs l)[j]? = some u → w.cell? (ad.add j) = some u := by
      intro j u hu
      obtain ⟨b, hb, rfl⟩ := bvs_inv hu
      obtain ⟨ad', h, _, hc⟩ := hr j b hb
      injection h with h
      subst h
      exact hc
    obtain ⟨v', w', hrun, h2, h3, _, h5⟩ := run_append_own_at (P := P) w base t ty e i z 1 1 ht hi hz hsize hby hzs (by decide) v _ xs hown ad l.length c (bvs l) (by rw [bvs_length]; omega) hcells (bvs_one l) (by unfold maxLen; omega) (by omega) hbase
    exact ⟨v', w', hrun, h2, h3, h5⟩
theorem wp_append_bs {o : Oper} {a : Act} {K : Act → World → Prop} {Q : Exit → Act → World → Prop} (s x : Operand) (t : TypeId)
    (ho : o.op = .call { callee := .builtin .append, args := #[s, x], argTypes := #[t, t] })
    (base : Nat) (e : TypeId) (i : TypeInfo) (z : Value) (ht : P.underlying t = some (.slice e)) (hi : P.info? e = some i) (hz : i.zero = some z)
    (hsize : i.size = 1) (hby : i.bytes = 1) (hzs : z.cells.size = 1)
    (v : Value) (xs : List Value) (hs : a.eval s = v) (hown : w.ownsRow base e 1 v xs.length xs)
    (A : Option Addr) (c n : Nat) (l : List UInt8) (hn : n = l.length) (hx : a.eval x = .slice A n c) (hr : Bs w A l)
    (hbytes : xs.length + l.length ≤ 140737488355328) (hbase : base ≤ w.heap.size)
    (h : ∀ v' w', w'.ownsRow base e 1 v' (xs.length + l.length) (xs ++ bvs l) → w.grownBy w' v.ownBlock → (v'.ownBlock = v.ownBlock ∨ v'.ownBlock = some w.heap.size) → K (a.put o.dst v') w') : o.wp P a w K Q := by
  subst hn
  obtain ⟨v', w', hrun, h2, h3, h4⟩ := run_append_bs (P := P) w base t o.type e i z ht hi hz hsize hby hzs v xs hown A c l hr hbytes hbase
  unfold Oper.wp execOp
  simp only [ho, resolve, invoke, builtin, Sem.run_bind, Sem.run_pure, Result.andThen_ok, List.map_toArray, List.map_cons, List.map_nil, hs, hx, hrun]
  exact h v' w' h2 h3 h4
theorem wpList_append_bs {ops : Array Oper} {rest : List Oper} {o : Oper} {a : Act} {Q : Exit → Act → World → Prop} (hgd : o.guard = none) (s x : Operand) (t : TypeId)
    (ho : o.op = .call { callee := .builtin .append, args := #[s, x], argTypes := #[t, t] })
    (base : Nat) (e : TypeId) (i : TypeInfo) (z : Value) (ht : P.underlying t = some (.slice e)) (hi : P.info? e = some i) (hz : i.zero = some z)
    (hsize : i.size = 1) (hby : i.bytes = 1) (hzs : z.cells.size = 1)
    (v : Value) (xs : List Value) (hs : a.eval s = v) (hown : w.ownsRow base e 1 v xs.length xs)
    (A : Option Addr) (c n : Nat) (l : List UInt8) (hn : n = l.length) (hx : a.eval x = .slice A n c) (hr : Bs w A l)
    (hbytes : xs.length + l.length ≤ 140737488355328) (hbase : base ≤ w.heap.size)
    (h : ∀ v' w', w'.ownsRow base e 1 v' (xs.length + l.length) (xs ++ bvs l) → w.grownBy w' v.ownBlock → (v'.ownBlock = v.ownBlock ∨ v'.ownBlock = some w.heap.size) → wpList P ops Q rest (a.put o.dst v') w') : wpList P ops Q (o :: rest) a w :=
  wpList_plain hgd fun _ hK => wp_append_bs w s x t ho base e i z ht hi hz hsize hby hzs v xs hs hown A c n l hn hx hr hbytes hbase fun v' w' h2 h3 h4 => hK _ _ (h v' w' h2 h3 h4)
end

end Go.Proofs.YtckihiiimomgfaaDoor

namespace Go.Proofs.YtckihiiimomgfaaDoor
open Go.RowKit

theorem info_u8 : (Tryd.prog.info? 5).map (fun i => (i.zero, i.size, i.bytes)) = some (some (.int .u8 0), 1, 1) := by kernel_rfl

theorem ret_bool {a b : Bool} (h : a = b) : Ending.returned (.bool a) = .returned (.bool b) := by rw [h]
theorem ret_int' {k : IntKind} {a b : Int} (h : a = b) : Ending.returned (.int k a) = .returned (.int k b) := by rw [h]

set_option maxHeartbeats 400000 in
theorem cut_any (A : Option Addr) (n c k : Nat) (w : World) (hc : n ≤ c) (_hm : c ≤ 9223372036854775807) (_hk : k ≤ 65536) :
    Calls Tryd.prog 14 #[.slice A n c, .int .i64 k] w fun e w' => e = .returned (.slice A (min n k) c) ∧ w = w' := by
  go_enter Tryd.func14, Tryd.ntmps14
  by_cases h : k < n
  · go_wp2
    go_ret
    exact ⟨by rw [Nat.min_eq_right (by omega)]; rfl, rfl⟩
  · go_wp2
    go_ret
    exact ⟨by rw [Nat.min_eq_left (by omega)]; rfl, rfl⟩
theorem cut_bs (A : Option Addr) (c k : Nat) (l : List UInt8) (w : World) (hc : l.length ≤ c) (hm : c ≤ maxLen) (hk : k ≤ 65536) :
    Calls Tryd.prog 14 #[.slice A l.length c, .int .i64 k] w fun e w' => e = .returned (.slice A (l.take k).length c) ∧ w = w' := by
  unfold maxLen at hm
  refine (cut_any A l.length c k w hc (by omega) hk).mono ?_
  rintro e w' ⟨rfl, rfl⟩
  exact ⟨by rw [List.length_take, Nat.min_comm], rfl⟩

set_option maxHeartbeats 400000 in
theorem within_any (x lo hi : Int) (w : World) (h : lo ≤ hi) :
    Calls Tryd.prog 10 #[.int .i64 x, .int .i64 lo, .int .i64 hi] w fun e w' => e = .returned (.int .i64 (max lo (min x hi))) ∧ w = w' := by
  go_enter Tryd.func10, Tryd.ntmps10
  by_cases h1 : x < lo
  · go_wp2
    go_ret
    exact ⟨ret_int' (by show lo = _; omega), rfl⟩
  · by_cases h2 : hi < x
    · go_wp2
      go_ret
      exact ⟨ret_int' (by show hi = _; omega), rfl⟩
    · go_wp2
      go_ret
      exact ⟨ret_int' (by show x = _; omega), rfl⟩

set_option maxHeartbeats 400000 in
/-- bytes in memory of their own -/
theorem copy_any (A : Option Addr) (c : Nat) (l : List UInt8) (w : World) (hl : l.length ≤ 65536) (hr : Bs w A l) :
    Calls Tryd.prog 13 #[.slice A l.length c] w fun e w' => ∃ v, e = .returned v ∧ w'.ownsRow w.heap.size 5 1 v l.length (bvs l) ∧ Below w.heap.size w w' := by
  obtain ⟨i0, hi0, hz0, hz1, hz2⟩ := info_parts info_u8
  go_enter Tryd.func13, Tryd.ntmps13
  go_wp2_with (at_builtin; refine wpList_append_bs _ rfl _ _ 29 rfl w.heap.size 5 i0 (.int .u8 0) Tryd.underlying29 hi0 hz0 hz1 hz2 rfl (.slice none 0 0) [] rfl (World.ownsRow_nil _ _ _ _) A c l.length l rfl rfl hr (by simp; omega) (Nat.le_refl _) ?_; intro v1 w1 hown1 hg1 _)
  go_ret
  exact ⟨v1, rfl, by simpa using hown1, (Below.refl _ _).grown hg1 (Nat.le_refl _) (by simp [Value.ownBlock])⟩

def sameB (l m : List UInt8) : Bool := decide (l = m)
theorem sameB_true {l m : List UInt8} (h : sameB l m = true) : l = m := of_decide_eq_true h
theorem sameB_self (l : List UInt8) : sameB l l = true := decide_eq_true rfl
def SameRel (l m : List UInt8) (w : World) (i : Value) (wr : World) : Prop := ∃ k : Nat, k ≤ l.length ∧ i = .int .i64 k ∧ l.take k = m.take k ∧ ∃ n, wr = w.drewN n
set_option maxHeartbeats 400000 in
/-- whether two rows of bytes are the same -/
theorem same_any (A B : Option Addr) (c d : Nat) (l m : List UInt8) (w : World) (hl : l.length ≤ 9223372036854775806) (hm : m.length ≤ 9223372036854775806) (ha : Bs w A l) (hb : Bs w B m) :
    Calls Tryd.prog 20 #[.slice A l.length c, .slice B m.length d] w fun e w' => e = .returned (.bool (sameB l m)) ∧ ∃ n, w' = w.drewN n := by
  by_cases hlen : l.length = m.length
  · have hne : ((l.length : Int) != (m.length : Int)) = false := by simp [hlen]
    have hll := Lib.hid hlen
    clear hlen
    go_enter Tryd.func20, Tryd.ntmps20
    go_wp2
    go_loopw [5] (fun i wr => SameRel l m w i wr) (fun i _ => l.length - (intOf i).toNat)
    case atStart => exact ⟨0, Nat.zero_le _, rfl, by simp, 0, rfl⟩
    case round =>
      obtain ⟨k, hk, rfl, hpre, n, rfl⟩ := hrel
      have HP := Lib.hid hpre
      clear hpre
      by_cases hlt : k < l.length
      · obtain ⟨ad, rfl, _, hca⟩ := ha.at_ hlt
        have hltm : k < m.length := by have := hll.out; omega
        obtain ⟨bd, rfl, _, hcb⟩ := hb.at_ hltm
        have HA := Lib.hid ha
        have HB := Lib.hid hb
        clear ha hb
        generalize hx : l[k] = x at hca
        generalize hy : m[k] = y at hcb
        have HX := Lib.hid hx
        have HY := Lib.hid hy
        clear hx hy
        by_cases hxy : x = y
        · have hq : (((x.toNat : Nat) : Int) != ((y.toNat : Nat) : Int)) = false := by simp [hxy]
          have HQ := Lib.hid hxy
          clear hxy
          go_wp2
          go_quiet (fail)
          go_wp2
          go_roundw
          case rel =>
            refine ⟨k + 1, by omega, by go_num, ?_, _, rfl⟩
            have e := HP.out
            rw [List.take_succ_eq_append_getElem hlt, List.take_succ_eq_append_getElem hltm, e, HX.out, HY.out, HQ.out]
          case measure => simp [intOf]; omega
        · have hq : (((x.toNat : Nat) : Int) != ((y.toNat : Nat) : Int)) = true := by
            rw [bne_iff_ne]
            intro h
            exact hxy (UInt8.toNat_inj.1 (by omega))
          have HQ := Lib.hid hxy
          clear hxy
          go_wp2
          go_quiet (fail)
          go_wp2
          go_ret
          refine ⟨ret_bool (b := sameB l m) ?_, _, World.drewN_drewN _ _ _⟩
          show false = sameB l m
          unfold sameB
          symm
          refine decide_eq_false fun h => HQ.out ?_
          subst h
          rw [← HX.out, ← HY.out]
      · go_wp2
        go_ret
        refine ⟨ret_bool (b := sameB l m) ?_, _, rfl⟩
        show true = sameB l m
        unfold sameB
        symm
        refine decide_eq_true ?_
        have e := HP.out
        have e2 := hll.out
        rwa [List.take_of_length_le (by omega), List.take_of_length_le (by omega)] at e
  · have hne : ((l.length : Int) != (m.length : Int)) = true := by rw [bne_iff_ne]; omega
    have hll := Lib.hid hlen
    clear hlen
    go_enter Tryd.func20, Tryd.ntmps20
    go_wp2
    go_ret
    refine ⟨ret_bool (b := sameB l m) ?_, 0, rfl⟩
    show false = sameB l m
    unfold sameB
    symm
    exact decide_eq_false fun h => hll.out (by rw [h])
theorem same_bel (A B : Option Addr) (c d : Nat) (l m : List UInt8) (w : World) (hl : l.length ≤ 9223372036854775806) (hm : m.length ≤ 9223372036854775806) (ha : Bs w A l) (hb : Bs w B m) :
    Calls Tryd.prog 20 #[.slice A l.length c, .slice B m.length d] w fun e w' => e = .returned (.bool (sameB l m)) ∧ Below w.heap.size w w' :=
  (same_any A B c d l m w hl hm ha hb).mono fun _ _ ⟨he, n, hw⟩ => ⟨he, by rw [hw]; exact below_refl_drewN _ _ _⟩
end Go.Proofs.YtckihiiimomgfaaDoor

namespace Go.Proofs.YtckihiiimomgfaaDoor
open Go.RowKit

theorem cell_lt' {w : World} {a : Addr} {v : Value} (h : w.cell? a = some v) : a.block < w.heap.size := by
  rcases Nat.lt_or_ge a.block w.heap.size with h1 | h1
  · exact h1
  · simp [World.cell?, Array.getElem?_eq_none h1] at h
theorem bcell {W w1 : World} (hb : Below W.heap.size W w1) : (∀ b o, b < W.heap.size → w1.cell? ⟨b, o, none⟩ = W.cell? ⟨b, o, none⟩) ∧ (∀ b o, b < W.heap.size → w1.frozen? ⟨b, o, none⟩ = W.frozen? ⟨b, o, none⟩) :=
  ⟨fun b o h => hb.cell (p := ⟨b, o, none⟩) h, fun b o h => hb.frozen (p := ⟨b, o, none⟩) h⟩
theorem only_of_below {a w : World} (h : Below a.heap.size a w) (row : Option Nat) : a.grownBy w row := ⟨h.os, h.tape, h.output, h.size, fun i hi _ => h.block i hi⟩
theorem box_cell {w w1 : World} {cs : Array Value} {t : TypeId} {B : Nat} (hb : Below B (w.alloc (.cells cs t)) w1) (hB : w.heap.size < B) (j : Nat) : w1.cell? ⟨w.heap.size, j, none⟩ = cs[j]? := by
  rw [hb.cell (p := ⟨w.heap.size, j, none⟩) hB]
  exact cell_of_row _ _ _ _ _ _ (heap_alloc_new w (.cells cs t))
theorem box_free {w w1 : World} {cs : Array Value} {t : TypeId} {B : Nat} (hb : Below B (w.alloc (.cells cs t)) w1) (hB : w.heap.size < B) (j : Nat) : w1.frozen? ⟨w.heap.size, j, none⟩ = false := by
  rw [hb.frozen (p := ⟨w.heap.size, j, none⟩) hB]
  have e : (w.alloc (.cells cs t)).heap[w.heap.size]? = some (.cells cs t (0, 0)) := heap_alloc_new w _
  unfold World.frozen?
  simp only [e]
  simp
theorem own_below {w w' : World} {base : Nat} {e : TypeId} {size : Nat} {v : Value} {n : Nat} {xs : List Value} (h : w.ownsRow base e size v n xs) (hb : Below w.heap.size w w') : w'.ownsRow base e size v n xs :=
  h.kept (only_of_below hb none) (by cases hv : v.ownBlock <;> simp)
theorem own_base {w : World} {base base' : Nat} {e : TypeId} {size : Nat} {v : Value} {n : Nat} {xs : List Value} (h : w.ownsRow base e size v n xs) (hb : base' ≤ base) : w.ownsRow base' e size v n xs := by
  obtain ⟨h1, h2⟩ := h
  refine ⟨h1, ?_⟩
  rcases h2 with h2 | ⟨g, cap, cur, a, b, c⟩
  · exact .inl h2
  · exact .inr ⟨g, cap, cur, a, Nat.le_trans hb b, c⟩
theorem addr_lit (ad : Addr) (k j : Nat) (hk : 0 < k) : (⟨ad.block, ad.off + k, none⟩ : Addr).add j = ad.add (k + j) := by
  unfold Addr.add
  by_cases hj : j = 0
  · subst hj; simp; omega
  · simp [hj, Nat.add_assoc]
theorem Bs.sub {w : World} {ad : Addr} {l : List UInt8} (h : Bs w (some ad) l) (k n : Nat) (hk : 0 < k) : Bs w (some ⟨ad.block, ad.off + k, none⟩) ((l.drop k).take n) := fun j c hj => by
  have hjn : j < n := by
    rcases Nat.lt_or_ge j n with h1 | h1
    · exact h1
    · rw [List.getElem?_eq_none (by simp; omega)] at hj; cases hj
  rw [List.getElem?_take_of_lt hjn, List.getElem?_drop] at hj
  obtain ⟨ad', e, hb, hc⟩ := h _ c hj
  injection e with e
  subst e
  exact ⟨_, rfl, hb, by rw [addr_lit _ _ _ hk]; exact hc⟩
theorem fold_push (l : List UInt8) (s : ByteArray) : ((l.map fun c => (c.toNat : Int)).foldl (fun (r : ByteArray) (n : Int) => r.push (UInt8.ofNat n.toNat)) s) = ⟨(s.data.toList ++ l).toArray⟩ := by
  induction l generalizing s with
  | nil => simp
  | cons c l ih =>
    simp only [List.map_cons, List.foldl_cons]
    rw [ih]
    congr 1
    simp [ByteArray.push]
/-- a struct of five cells lies in block g -/
structure PartAt (w : World) (g : Nat) (a b i t : Int) (v : Value) : Prop where
  c0 : w.cell? ⟨g, 0, none⟩ = some (.int .i64 a)
  c1 : w.cell? ⟨g, 1, none⟩ = some (.int .i64 b)
  c2 : w.cell? ⟨g, 2, none⟩ = some (.int .i64 i)
  c3 : w.cell? ⟨g, 3, none⟩ = some (.int .i64 t)
  c4 : w.cell? ⟨g, 4, none⟩ = some v
theorem PartAt.of_block {w : World} {g : Nat} {a b i t : Int} {v : Value} {T : TypeId} {fr : Nat × Nat} (h : w.heap[g]? = some (.cells #[.int .i64 a, .int .i64 b, .int .i64 i, .int .i64 t, v] T fr)) : PartAt w g a b i t v :=
  ⟨cell_of_row _ _ _ _ _ _ h, cell_of_row _ _ _ _ _ _ h, cell_of_row _ _ _ _ _ _ h, cell_of_row _ _ _ _ _ _ h, cell_of_row _ _ _ _ _ _ h⟩
theorem PartAt.below {w w' : World} {g : Nat} {a b i t : Int} {v : Value} (h : PartAt w g a b i t v) (hb : Below w.heap.size w w') : PartAt w' g a b i t v :=
  have hl := cell_lt' h.c0
  ⟨(hb.cell (p := ⟨g, 0, none⟩) hl).trans h.c0, (hb.cell (p := ⟨g, 1, none⟩) hl).trans h.c1, (hb.cell (p := ⟨g, 2, none⟩) hl).trans h.c2, (hb.cell (p := ⟨g, 3, none⟩) hl).trans h.c3, (hb.cell (p := ⟨g, 4, none⟩) hl).trans h.c4⟩
theorem PartAt.grown {w w' : World} {g : Nat} {a b i t : Int} {v : Value} {row : Option Nat} (h : PartAt w g a b i t v) (hg : w.grownBy w' row) (hne : some g ≠ row) : PartAt w' g a b i t v :=
  ⟨hg.cell h.c0 hne, hg.cell h.c1 hne, hg.cell h.c2 hne, hg.cell h.c3 hne, hg.cell h.c4 hne⟩
theorem own_far {w w' : World} {base : Nat} {e : TypeId} {size : Nat} {v : Value} {n : Nat} {xs : List Value} {row : Option Nat} (h : w.ownsRow base e size v n xs) (hg : w.grownBy w' row) (hne : ∀ g, row = some g → g < base) : w'.ownsRow base e size v n xs :=
  h.kept hg (by
    cases hv : v.ownBlock with
    | none => exact .inl rfl
    | some k =>
      right
      rintro rfl
      have := (h.lt k hv).1
      have := hne k rfl
      omega)
theorem set_block {w : World} {g : Nat} {cs : Array Value} {T : TypeId} {fr : Nat × Nat} (h : w.heap[g]? = some (.cells cs T fr)) (i : Nat) (u : Value) : (w.setCell ⟨g, i, none⟩ u).heap[g]? = some (.cells (cs.setIfInBounds i u) T fr) := by
  simp [World.setCell, Array.getElem?_modify, h]
theorem grown_set {a w : World} {g : Nat} (h : a.grownBy w (some g)) (i : Nat) (u : Value) : a.grownBy (w.setCell ⟨g, i, none⟩ u) (some g) :=
  ⟨h.os, h.tape, h.output, by simpa [World.setCell] using h.size, fun k hk hne => (Below.heap_setCell w ⟨g, i, none⟩ u k (by rintro rfl; exact hne rfl)).trans (h.block k hk hne)⟩
/-- a part is boxed behind its data -/
theorem box_behind {W0 w0 w1 : World} {B : Nat} {T : TypeId} {a b i t : Int} {v : Value} {n : Nat} {xs : List Value} (hb0 : Below B W0 w0) (hs : B ≤ w0.heap.size) (hb1 : Below w0.heap.size w0 w1) (hown : w1.ownsRow w0.heap.size 5 1 v n xs) :
    PartAt (w1.alloc (.cells #[.int .i64 a, .int .i64 b, .int .i64 i, .int .i64 t, v] T)) w1.heap.size a b i t v ∧ (w1.alloc (.cells #[.int .i64 a, .int .i64 b, .int .i64 i, .int .i64 t, v] T)).ownsRow B 5 1 v n xs ∧
      Below B W0 (w1.alloc (.cells #[.int .i64 a, .int .i64 b, .int .i64 i, .int .i64 t, v] T)) :=
  ⟨.of_block (heap_alloc_new w1 _), own_base (hown.alloc _) hs, (hb0.trans (hb1.mono hs)).alloc (Nat.le_trans hs hb1.size) _⟩
/-- a part is boxed ahead of its data -/
theorem box_ahead {W0 w0 w1 : World} {B : Nat} {T : TypeId} {z0 z1 z2 z3 z4 : Value} {a b i t : Int} {v : Value} {n : Nat} {xs : List Value} (hb0 : Below B W0 w0) (hs : B ≤ w0.heap.size) (hb1 : Below (w0.alloc (.cells #[z0, z1, z2, z3, z4] T)).heap.size (w0.alloc (.cells #[z0, z1, z2, z3, z4] T)) w1)
    (hown : w1.ownsRow (w0.alloc (.cells #[z0, z1, z2, z3, z4] T)).heap.size 5 1 v n xs) (u : World)
    (hu : u = ((((w1.setCell ⟨w0.heap.size, 0, none⟩ (.int .i64 a)).setCell ⟨w0.heap.size, 1, none⟩ (.int .i64 b)).setCell ⟨w0.heap.size, 2, none⟩ (.int .i64 i)).setCell ⟨w0.heap.size, 3, none⟩ (.int .i64 t)).setCell ⟨w0.heap.size, 4, none⟩ v) :
    PartAt u w0.heap.size a b i t v ∧ u.ownsRow B 5 1 v n xs ∧ Below B W0 u := by
  subst hu
  have hblk : w1.heap[w0.heap.size]? = some (.cells #[z0, z1, z2, z3, z4] T (0, 0)) := (hb1.block w0.heap.size (by simp)).trans (heap_alloc_new w0 _)
  have h5 := set_block (set_block (set_block (set_block (set_block hblk 0 (.int .i64 a)) 1 (.int .i64 b)) 2 (.int .i64 i)) 3 (.int .i64 t)) 4 v
  have hg : w1.grownBy (((((w1.setCell ⟨w0.heap.size, 0, none⟩ (.int .i64 a)).setCell ⟨w0.heap.size, 1, none⟩ (.int .i64 b)).setCell ⟨w0.heap.size, 2, none⟩ (.int .i64 i)).setCell ⟨w0.heap.size, 3, none⟩ (.int .i64 t)).setCell ⟨w0.heap.size, 4, none⟩ v) (some w0.heap.size) :=
    grown_set (grown_set (grown_set (grown_set (grown_set ⟨rfl, rfl, rfl, Nat.le_refl _, fun _ _ _ => rfl⟩ 0 _) 1 _) 2 _) 3 _) 4 _
  have hs1 : B ≤ w1.heap.size := by have := hb1.size; simp at this; omega
  refine ⟨.of_block h5, own_base (hown.kept hg ?_) (by simp; omega), ((hb0.alloc hs _).trans (hb1.mono (by simp; omega))).grown hg hs1 (fun k hk => by injection hk with hk; omega)⟩
  cases hv : v.ownBlock with
  | none => exact .inl rfl
  | some g =>
    right
    have := (hown.lt g hv).1
    simp at this
    intro e
    injection e with e
    omega
section
variable {P : Program}
/-- bytes as a text -/
theorem run_convert_bs (w : World) (src dst e : TypeId) (hs : P.underlying src = some (.slice e)) (he : P.underlying e = some (.int .u8)) (hd : P.underlying dst = some .string)
    (A : Option Addr) (c n : Nat) (l : List UInt8) (hn : n = l.length) (hr : Bs w A l) : (convert src dst (.slice A n c)).run P w = .ok (.string ⟨l.toArray⟩) w := by
  subst hn
  rw [run_convert_bytes_string w src dst e _ _ c hs he hd]
  cases A with
  | none =>
    obtain rfl : l = [] := by
      cases l with
      | nil => rfl
      | cons a l => obtain ⟨ad, h, _⟩ := hr 0 a rfl; cases h
    rfl
  | some ad =>
    have hl : (loadCells ad l.length).run P w = .ok (((l.map fun c => (c.toNat : Int))).map (Value.int .u8)).toArray w := by
      have := run_loadCells_list (P := P) w ad (bvs l) (fun j v hj => by
        obtain ⟨cc, hcc, rfl⟩ := bvs_inv hj
        obtain ⟨ad', e', _, hcell⟩ := hr j cc hcc
        injection e' with e'
        subst e'
        exact hcell)
      rw [bvs_length] at this
      rw [this]
      simp [bvs]
    rw [run_bytesToString w ad l.length c _ hl, fold_push]
    rfl
end
theorem list_beq (l m : List UInt8) : (l == m) = sameB l m := by
  unfold sameB
  rw [Bool.eq_iff_iff, decide_eq_true_iff, beq_iff_eq]
set_option maxHeartbeats 400000 in
theorem equal_any (A B : Option Addr) (c d : Nat) (l m : List UInt8) (w : World) (ha : Bs w A l) (hb : Bs w B m) :
    Calls Tryd.prog 104 #[.slice A l.length c, .slice B m.length d] w fun e w' => e = .returned (.bool (sameB l m)) ∧ w = w' := by
  have h1 := run_convert_bs (P := Tryd.prog) w 29 9 5 Tryd.underlying29 Tryd.underlying5 Tryd.underlying9 A c _ l rfl ha
  have h2 := run_convert_bs (P := Tryd.prog) w 29 9 5 Tryd.underlying29 Tryd.underlying5 Tryd.underlying9 B d _ m rfl hb
  clear ha hb
  have HB := Lib.hid (list_beq l m)
  go_enter Tryd.func104, Tryd.ntmps104
  go_wp2_with fail
  go_ret
  exact ⟨ret_bool (by have := HB.out; simpa using this), rfl⟩
theorem equal_at (A B : Option Addr) (c d n m : Nat) (l k : List UInt8) (w : World) (hn : l.length = n) (hm : k.length = m) (ha : Bs w A l) (hb : Bs w B k) :
    Calls Tryd.prog 104 #[.slice A n c, .slice B m d] w fun e w' => e = .returned (.bool (sameB l k)) ∧ w = w' := by
  subst hn hm
  exact equal_any A B c d l k w ha hb
theorem same_at (A B : Option Addr) (c d n m : Nat) (l k : List UInt8) (w : World) (hn : l.length = n) (hm : k.length = m) (hl : n ≤ 65536) (hk : m ≤ 65536) (ha : Bs w A l) (hb : Bs w B k) :
    Calls Tryd.prog 20 #[.slice A n c, .slice B m d] w fun e w' => e = .returned (.bool (sameB l k)) ∧ Below w.heap.size w w' := by
  subst hn hm
  exact same_bel A B c d l k w (by omega) (by omega) ha hb
end Go.Proofs.YtckihiiimomgfaaDoor

namespace Go.Proofs.YtckihiiimomgfaaDoor
open Go.RowKit

/-- w' is w, but for the blocks of F and for new ones -/
structure Kept (F : Nat → Prop) (w w' : World) : Prop where
  os : w'.os = w.os
  tape : w'.tape = w.tape
  output : w'.output = w.output
  size : w.heap.size ≤ w'.heap.size
  block : ∀ k, k < w.heap.size → ¬ F k → w'.heap[k]? = w.heap[k]?
section
variable {F G : Nat → Prop} {a w w' : World}
theorem Kept.refl (F : Nat → Prop) (w : World) : Kept F w w := ⟨rfl, rfl, rfl, Nat.le_refl _, fun _ _ _ => rfl⟩
theorem Kept.drew (h : Kept F a w) : Kept F a w.drew := ⟨h.os, h.tape, h.output, h.size, h.block⟩
theorem Kept.mono (h : Kept F a w) (hs : ∀ k, k < a.heap.size → F k → G k) : Kept G a w := ⟨h.os, h.tape, h.output, h.size, fun k hk hn => h.block k hk (fun hf => hn (hs k hk hf))⟩
theorem Kept.trans (h : Kept F a w) (h' : Kept G w w') (hs : ∀ k, G k → F k ∨ a.heap.size ≤ k) : Kept F a w' :=
  ⟨h'.os.trans h.os, h'.tape.trans h.tape, h'.output.trans h.output, Nat.le_trans h.size h'.size, fun k hk hn =>
    (h'.block k (Nat.lt_of_lt_of_le hk h.size) (fun hg => (hs k hg).elim hn (fun hle => by omega))).trans (h.block k hk hn)⟩
theorem Kept.of_below (h : Below w.heap.size w w') : Kept F w w' := ⟨h.os, h.tape, h.output, h.size, fun k hk _ => h.block k hk⟩
theorem Kept.of_grown {row : Option Nat} (h : w.grownBy w' row) (hr : ∀ g, row = some g → F g) : Kept F w w' := ⟨h.os, h.tape, h.output, h.size, fun k hk hn => h.block k hk (fun e => hn (hr k e.symm))⟩
theorem Kept.then_below (h : Kept F a w) (hb : Below w.heap.size w w') : Kept F a w' := h.trans (Kept.of_below (F := fun _ => False) hb) (fun _ hk => hk.elim)
theorem Kept.alloc (h : Kept F a w) (o : Obj) : Kept F a (w.alloc o) := h.then_below (below_alloc _ _)
theorem Kept.setCell (h : Kept F a w) {p : Addr} (hp : F p.block ∨ a.heap.size ≤ p.block) (u : Value) : Kept F a (w.setCell p u) :=
  ⟨h.os, h.tape, h.output, by simpa [World.setCell] using h.size, fun k hk hn => (Below.heap_setCell w p u k (by
    rintro rfl
    rcases hp with hp | hp
    · exact hn hp
    · omega)).trans (h.block k hk hn)⟩
theorem Kept.grown {row : Option Nat} (h : Kept F a w) (hg : w.grownBy w' row) (hr : ∀ g, row = some g → F g ∨ a.heap.size ≤ g) : Kept F a w' :=
  h.trans (Kept.of_grown (F := fun k => row = some k) hg (fun _ e => e)) hr
theorem Kept.below {B : Nat} (h : Kept F a w) (hF : ∀ k, k < a.heap.size → F k → B ≤ k) (hB : B ≤ a.heap.size) : Below B a w := ⟨h.os, h.tape, h.output, h.size, fun k hk => h.block k (by omega) (fun hf => by have := hF k (by omega) hf; omega)⟩
theorem Kept.cell (h : Kept F a w) {p : Addr} (hl : p.block < a.heap.size) (hp : ¬ F p.block) : w.cell? p = a.cell? p := World.cell?_of_block (h.block p.block hl hp)
theorem Kept.bs {A : Option Addr} {l : List UInt8} (h : Kept F a w) (hb : Bs a A l) (hn : ∀ ad, A = some ad → l ≠ [] → ¬ F ad.block) : Bs w A l := fun j c hj => by
  obtain ⟨ad, e, hlt, hc⟩ := hb j c hj
  exact ⟨ad, e, Nat.lt_of_lt_of_le hlt h.size, by rw [h.cell (by rw [addr_block]; exact hlt) (by rw [addr_block]; exact hn ad e (by rintro rfl; simp at hj))]; exact hc⟩
theorem Kept.own {base : Nat} {e : TypeId} {size : Nat} {v : Value} {n : Nat} {xs : List Value} (h : Kept F a w) (ho : a.ownsRow base e size v n xs) (hn : ∀ k, v.ownBlock = some k → ¬ F k) : w.ownsRow base e size v n xs := by
  obtain ⟨h1, h2⟩ := ho
  refine ⟨h1, ?_⟩
  rcases h2 with h2 | ⟨g, cap, cur, rfl, hb, hg, rest⟩
  · exact .inl h2
  · refine .inr ⟨g, cap, cur, rfl, hb, ?_, rest⟩
    have hlt : g < a.heap.size := by
      rcases Nat.lt_or_ge g a.heap.size with h1 | h1
      · exact h1
      · rw [Array.getElem?_eq_none h1] at hg; cases hg
    exact (h.block g hlt (hn g rfl)).trans hg
theorem Kept.heap (h : Kept F a w) {k : Nat} {o : Obj} (ho : a.heap[k]? = some o) (hn : ¬ F k) : w.heap[k]? = some o := by
  have hlt : k < a.heap.size := by
    rcases Nat.lt_or_ge k a.heap.size with h1 | h1
    · exact h1
    · rw [Array.getElem?_eq_none h1] at ho; cases ho
  exact (h.block k hlt hn).trans ho
end
theorem heap_lt {w : World} {k : Nat} {o : Obj} (h : w.heap[k]? = some o) : k < w.heap.size := by
  rcases Nat.lt_or_ge k w.heap.size with h1 | h1
  · exact h1
  · rw [Array.getElem?_eq_none h1] at h; cases h
theorem block_cell {w : World} {g i : Nat} {cs : Array Value} {T : TypeId} {fr : Nat × Nat} (h : w.heap[g]? = some (.cells cs T fr)) : w.cell? ⟨g, i, none⟩ = cs[i]? := cell_of_row _ _ _ _ _ _ h
theorem block_free {w : World} {g i : Nat} {cs : Array Value} {T : TypeId} (h : w.heap[g]? = some (.cells cs T (0, 0))) : w.frozen? ⟨g, i, none⟩ = false := by
  unfold World.frozen?
  simp only [h]
  simp
theorem own_capm {w : World} {base : Nat} {e : TypeId} {A : Option Addr} {n c : Nat} {xs : List Value} (h : w.ownsRow base e 1 (.slice A n c) n xs) : c ≤ maxLen := by
  rcases h.2 with ⟨h1, h2⟩ | ⟨g, cap, cur, hv, _, _, _, hm, _⟩
  · injection h1 with _ _ h; omega
  · injection hv with _ _ h; omega
/-- an owned row of bytes never lies in a block of another element type -/
theorem own_ne {w : World} {base g : Nat} {e T : TypeId} {size n : Nat} {v : Value} {xs : List Value} {cs : Array Value} {fr : Nat × Nat} (ho : w.ownsRow base e size v n xs) (h : w.heap[g]? = some (.cells cs T fr)) (hne : e ≠ T) : v.ownBlock ≠ some g := by
  rcases ho.2 with ⟨rfl, _⟩ | ⟨g', cap, cur, rfl, _, hg, _⟩
  · simp [Value.ownBlock]
  · intro he
    have e1 : g' = g := by simpa [Value.ownBlock] using he
    subst e1
    rw [hg] at h
    injection h with h
    injection h with _ h
    exact hne h
end Go.Proofs.YtckihiiimomgfaaDoor

namespace Go.Proofs.YtckihiiimomgfaaDoor
open Go.RowKit
/-- block g, of type T, holds the bytes l -/
def Row8 (w : World) (g : Nat) (T : TypeId) (l : List UInt8) : Prop := w.heap[g]? = some (.cells (bvs l).toArray T (0, 0))
theorem Row8.cell {w : World} {g : Nat} {T : TypeId} {l : List UInt8} (h : Row8 w g T l) (i : Nat) (c : UInt8) (hc : l[i]? = some c) : w.cell? ⟨g, i, none⟩ = some (.int .u8 (c.toNat : Int)) := by
  rw [block_cell h]
  simpa using bvs_get l i c hc
theorem Row8.free {w : World} {g : Nat} {T : TypeId} {l : List UInt8} (h : Row8 w g T l) (i : Nat) : w.frozen? ⟨g, i, none⟩ = false := block_free h
theorem Row8.lt {w : World} {g : Nat} {T : TypeId} {l : List UInt8} (h : Row8 w g T l) : g < w.heap.size := heap_lt h
theorem Row8.set {w : World} {g : Nat} {T : TypeId} {l : List UInt8} (h : Row8 w g T l) (i : Nat) (e : Int) (c : UInt8) (he : e = (c.toNat : Int)) : Row8 (w.setCell ⟨g, i, none⟩ (.int .u8 e)) g T (l.set i c) := by
  subst he
  have := set_block h i (.int .u8 (c.toNat : Int))
  have e : (bvs l).toArray.setIfInBounds i (.int .u8 (c.toNat : Int)) = (bvs (l.set i c)).toArray := by simp [bvs, List.map_set]
  rw [e] at this
  exact this
theorem Row8.far {w : World} {g g' : Nat} {T : TypeId} {l : List UInt8} (h : Row8 w g T l) (hne : g ≠ g') (k : Nat) (u : Value) : Row8 (w.setCell ⟨g', k, none⟩ u) g T l :=
  ((Kept.refl (fun x => x = g') w).setCell (p := ⟨g', k, none⟩) (.inl rfl) u).heap h hne
theorem Row8.keep {w w' : World} {g : Nat} {T : TypeId} {l : List UInt8} {F : Nat → Prop} (h : Row8 w g T l) (hk : Kept F w w') (hn : ¬ F g) : Row8 w' g T l := hk.heap h hn
theorem Row8.below {w w' : World} {g : Nat} {T : TypeId} {l : List UInt8} (h : Row8 w g T l) (hb : Below w.heap.size w w') : Row8 w' g T l := (hb.block g (heap_lt h)).trans h
theorem Row8.bs {w : World} {g : Nat} {T : TypeId} {l : List UInt8} (h : Row8 w g T l) : Bs w (some ⟨g, 0, none⟩) l := fun j c hj => by
  refine ⟨_, rfl, h.lt, ?_⟩
  rw [Addr.add_lit, Nat.zero_add]
  exact h.cell j c hj
theorem Row8.sub {w : World} {g : Nat} {T : TypeId} {l : List UInt8} (h : Row8 w g T l) (off n : Nat) : Bs w (some ⟨g, off, none⟩) ((l.drop off).take n) := fun j c hj => by
  refine ⟨_, rfl, h.lt, ?_⟩
  rw [Addr.add_lit]
  have hjn : j < n := by
    rcases Nat.lt_or_ge j n with h1 | h1
    · exact h1
    · rw [List.getElem?_eq_none (by simp; omega)] at hj; cases hj
  rw [List.getElem?_take_of_lt hjn, List.getElem?_drop] at hj
  exact h.cell _ c hj
theorem Row8.there {w : World} {g : Nat} {T : TypeId} {l : List UInt8} (h : Row8 w g T l) : w.there g 0 l.length := fun j hj => by
  rw [Nat.zero_add, h.cell j l[j] (List.getElem?_eq_getElem hj)]
  exact ⟨rfl, h.free _⟩
theorem Row8.own {w : World} {g : Nat} {l : List UInt8} (h : Row8 w g 5 l) (base n : Nat) (hb : base ≤ g) (hn : l.length = n) (hm : n ≤ maxLen) : w.ownsRow base 5 1 (.slice (some ⟨g, 0, none⟩) n n) n (bvs l) :=
  ⟨by rw [bvs_length]; omega, .inr ⟨g, n, _, rfl, hb, h, Nat.le_refl _, hm, by simp [bvs_length, hn], by
    rw [Nat.mul_one]
    exact List.take_of_length_le (by rw [bvs_length]; omega)⟩⟩
theorem setCells_shape (g : Nat) (T : TypeId) (fr : Nat × Nat) : ∀ (vs : List Value) (o : Nat) (w : World) (cs : Array Value), w.heap[g]? = some (.cells cs T fr) → ∃ cs', (w.setCells g o vs).heap[g]? = some (.cells cs' T fr) ∧ cs'.size = cs.size
  | [], _, _, cs, h => ⟨cs, h, rfl⟩
  | v :: r, o, w, cs, h => by
    obtain ⟨cs', h1, h2⟩ := setCells_shape g T fr r (o + 1) _ _ (set_block h o v)
    exact ⟨cs', h1, by simpa using h2⟩
theorem Row8.store {w : World} {g : Nat} {T : TypeId} {l m : List UInt8} (h : Row8 w g T l) (hlen : m.length = l.length) : Row8 (w.setCells g 0 (bvs m)) g T m := by
  obtain ⟨cs', h1, h2⟩ := setCells_shape g T (0, 0) (bvs m) 0 w _ h
  have ht : w.there g 0 (bvs m).length := by
    rw [bvs_length, hlen]; exact h.there
  have hrg := World.rangeAt_setCells_same w g 0 (bvs m) ht
  have e : cs' = (bvs m).toArray := by
    apply Array.ext
    · rw [h2]; simp [bvs_length, hlen]
    · intro j hj1 hj2
      have hj : j < (bvs m).length := by simpa using hj2
      have := hrg j _ (List.getElem?_eq_getElem hj)
      rw [Nat.zero_add, block_cell h1, Array.getElem?_eq_getElem hj1] at this
      injection this with this
  rw [e] at h1
  exact h1
theorem setCells_keeps (g : Nat) : ∀ (vs : List Value) (o : Nat) (a w : World) (F : Nat → Prop), Kept F a w → (F g ∨ a.heap.size ≤ g) → Kept F a (w.setCells g o vs)
  | [], _, _, _, _, h, _ => h
  | v :: r, o, a, _, F, h, hg => setCells_keeps g r (o + 1) a _ F (h.setCell (p := ⟨g, o, none⟩) hg v) hg
theorem setCells_sz (g : Nat) : ∀ (vs : List Value) (o : Nat) (w : World), (w.setCells g o vs).heap.size = w.heap.size
  | [], _, _ => rfl
  | v :: r, o, w => (setCells_sz g r (o + 1) (w.setCell ⟨g, o, none⟩ v)).trans (by simp)
theorem bvs_inj {l m : List UInt8} (h : bvs l = bvs m) : l = m := by
  induction l generalizing m with
  | nil => cases m with
    | nil => rfl
    | cons _ _ => simp [bvs] at h
  | cons a l ih => cases m with
    | nil => simp [bvs] at h
    | cons b m =>
      simp only [bvs, List.map_cons, List.cons.injEq] at h
      obtain ⟨h1, h2⟩ := h
      have e : a = b := by
        injection h1 with _ h1
        exact UInt8.toNat_inj.1 (by omega)
      rw [e, ih h2]
section
variable {P : Program}
/-- one cell is stored -/
theorem wpList_store_cell {ops : Array Oper} {rest : List Oper} {op : Oper} {a : Act} {w : World} {Q : Exit → Act → World → Prop} (hgd : op.guard = none) (ty : TypeId) (x y : Operand) (ho : op.op = .store ty x y)
    (g i : Nat) (v : Value) (hx : a.eval x = .pointer (some ⟨g, i, none⟩)) (hy : a.eval y = v) (h1 : v.oneCell' = true) (hc : (w.cell? ⟨g, i, none⟩).isSome = true) (hf : w.frozen? ⟨g, i, none⟩ = false)
    (hi : (P.info? ty).map (·.size) = some 1) (h : wpList P ops Q rest (a.put op.dst undef) (w.setCell ⟨g, i, none⟩ v)) : wpList P ops Q (op :: rest) a w := by
  have hrun : (storeVar ty ⟨g, i, none⟩ v).run P w = .ok () (w.setCell ⟨g, i, none⟩ v) := by
    have := run_storeCells_cells (P := P) g i [v] 0 w (fun j hj => by
      obtain rfl : j = 0 := by simp at hj; exact hj
      simpa using hc) (fun j hj => by
      obtain rfl : j = 0 := by simp at hj; exact hj
      simpa using hf) (fun u hu => by simp at hu; subst hu; exact h1)
    have hcv : v.cells = #[v] := by cases v <;> first | rfl | cases h1
    cases hq : P.info? ty with
    | none => simp [hq] at hi
    | some i0 =>
      have hs : i0.size = 1 := by simpa [hq] using hi
      simp only [Nat.add_zero] at this
      simp [storeVar, sizeOf, typeInfo, hq, hcv, hs, this]
      rfl
  refine wpList_plain hgd fun K hK => ?_
  unfold Oper.wp execOp
  simp only [ho, hx, hy, Instr.storeAt, Instr.sureAddr, Sem.run_bind, Sem.run_pure, Result.andThen_ok, hrun]
  exact hK _ _ h
end
theorem info_u8s : (Tryd.prog.info? 5).map (·.size) = some 1 := by kernel_rfl
/-- a byte is stored in a known block: a fresh name for the world behind it -/
theorem wpList_store_byte {ops : Array Oper} {rest : List Oper} {op : Oper} {a : Act} {w : World} {Q : Exit → Act → World → Prop} (hgd : op.guard = none) (x y : Operand) (ho : op.op = .store 5 x y)
    (g i : Nat) (T : TypeId) (l : List UInt8) (e : Int) (c : UInt8) (hx : a.eval x = .pointer (some ⟨g, i, none⟩)) (hy : a.eval y = .int .u8 e) (he : e = (c.toNat : Int)) (hr : Row8 w g T l) (hi : i < l.length)
    (h : ∀ w', Row8 w' g T (l.set i c) → Kept (fun k => k = g) w w' → w'.heap.size = w.heap.size → wpList Tryd.prog ops Q rest (a.put op.dst undef) w') : wpList Tryd.prog ops Q (op :: rest) a w := by
  refine wpList_store_cell hgd 5 x y ho g i _ hx hy rfl ?_ (hr.free i) info_u8s ?_
  · rw [hr.cell i _ (List.getElem?_eq_getElem hi)]; rfl
  · exact h _ (hr.set i e c he) ((Kept.refl (fun k => k = g) w).setCell (p := ⟨g, i, none⟩) (.inl rfl) _) (by simp)
end Go.Proofs.YtckihiiimomgfaaDoor

namespace Go.Proofs.YtckihiiimomgfaaDoor
open Go.RowKit
section
variable {P : Program}
theorem wp_push {o : Oper} {a : Act} {K : Act → World → Prop} {Q : Exit → Act → World → Prop} {w : World} {g : Nat} {T : TypeId} (s x : Operand) (t : TypeId)
    (ho : o.op = .call { callee := .builtin .append, args := #[s, x], argTypes := #[t, t] })
    (base : Nat) (e : TypeId) (i : TypeInfo) (z : Value) (size bytes : Nat) (ht : P.underlying t = some (.slice e)) (hi : P.info? e = some i) (hz : i.zero = some z)
    (hsize : i.size = size) (hby : i.bytes = bytes) (hzs : z.cells.size = size) (hsz : 0 < size)
    (v : Value) (n : Nat) (xs : List Value) (hs : a.eval s = v) (hown : w.ownsRow base e size v n xs) (news : List Value) (hx : a.eval x = .slice (some ⟨g, 0, none⟩) 1 1)
    (hblk : w.heap[g]? = some (.cells news.toArray T (0, 0))) (hl : news.length = size) (h1 : ∀ u ∈ news, u.oneCell' = true) (h63 : n + 1 ≤ maxLen) (hbytes : (n + 1) * bytes ≤ 140737488355328) (hbase : base ≤ w.heap.size)
    (h : ∀ v' w', w'.ownsRow base e size v' (n + 1) (xs ++ news) → w.grownBy w' v.ownBlock → (v'.ownBlock = v.ownBlock ∨ v'.ownBlock = some w.heap.size) → K (a.put o.dst v') w') : o.wp P a w K Q := by
  obtain ⟨v', w', hr, h2, h3, h4, h5⟩ := run_append_own_at (P := P) w base t o.type e i z size bytes ht hi hz hsize hby hzs hsz v n xs hown ⟨g, 0, none⟩ 1 1 news (by omega) (fun j u hj => by
    rw [Addr.add_lit, Nat.zero_add, block_cell hblk]
    simpa using hj) h1 h63 hbytes hbase
  unfold Oper.wp execOp
  simp only [ho, resolve, invoke, builtin, Sem.run_bind, Sem.run_pure, Result.andThen_ok, List.map_toArray, List.map_cons, List.map_nil, hs, hx, hr]
  exact h v' w' h2 h3 h5
theorem wp_push_new {o : Oper} {a : Act} {K : Act → World → Prop} {Q : Exit → Act → World → Prop} {w0 w : World} {cs : Array Value} {T : TypeId} (hw : w = w0.alloc (.cells cs T) ∨ w = (w0.alloc (.cells cs T)).drew) (s x : Operand) (t : TypeId)
    (ho : o.op = .call { callee := .builtin .append, args := #[s, x], argTypes := #[t, t] })
    (base : Nat) (e : TypeId) (i : TypeInfo) (z : Value) (size bytes : Nat) (ht : P.underlying t = some (.slice e)) (hi : P.info? e = some i) (hz : i.zero = some z)
    (hsize : i.size = size) (hby : i.bytes = bytes) (hzs : z.cells.size = size) (hsz : 0 < size)
    (v : Value) (n : Nat) (xs : List Value) (hs : a.eval s = v) (hown : w0.ownsRow base e size v n xs) (news : List Value) (hx : a.eval x = .slice (some ⟨w0.heap.size, 0, none⟩) 1 1)
    (hcs : cs = news.toArray) (hl : news.length = size) (h1 : ∀ u ∈ news, u.oneCell' = true) (h63 : n + 1 ≤ maxLen) (hbytes : (n + 1) * bytes ≤ 140737488355328) (hbase : base ≤ w0.heap.size)
    (h : ∀ v' w', w'.ownsRow base e size v' (n + 1) (xs ++ news) → Kept (fun k => v.ownBlock = some k) w0 w' → (∀ g, v'.ownBlock = some g → v.ownBlock = some g ∨ w0.heap.size ≤ g) → K (a.put o.dst v') w') : o.wp P a w K Q := by
  subst hcs
  have hb : (w0.alloc (.cells news.toArray T)).heap[w0.heap.size]? = some (.cells news.toArray T (0, 0)) := heap_alloc_new w0 _
  have hsz0 : (w0.alloc (.cells news.toArray T)).heap.size = w0.heap.size + 1 := by simp
  have key : ∀ v' w', w'.ownsRow base e size v' (n + 1) (xs ++ news) → (w0.alloc (.cells news.toArray T)).grownBy w' v.ownBlock → (v'.ownBlock = v.ownBlock ∨ v'.ownBlock = some (w0.alloc (.cells news.toArray T)).heap.size) → K (a.put o.dst v') w' := by
    intro v' w' hown' hg hat
    refine h v' w' hown' ((Kept.refl (fun k => v.ownBlock = some k) w0).alloc _ |>.grown hg (fun g hg => .inl hg)) (fun g hg => ?_)
    rcases hat with hat | hat
    · rw [hat] at hg; exact .inl hg
    · rw [hat] at hg; injection hg with hg; right; omega
  rcases hw with rfl | rfl
  · exact wp_push s x t ho base e i z size bytes ht hi hz hsize hby hzs hsz v n xs hs (hown.alloc _) news hx hb hl h1 h63 hbytes (by omega) key
  · exact wp_push (w := (w0.alloc (.cells news.toArray T)).drew) s x t ho base e i z size bytes ht hi hz hsize hby hzs hsz v n xs hs (hown.alloc _).drew news hx hb hl h1 h63 hbytes (by show _ ≤ (w0.alloc _).heap.size; omega) (fun v' w' a b c => key v' w' a ⟨b.os, b.tape, b.output, b.size, b.block⟩ c)
theorem wpList_push {ops : Array Oper} {rest : List Oper} {o : Oper} {a : Act} {Q : Exit → Act → World → Prop} {w0 : World} {cs : Array Value} {T : TypeId} (hgd : o.guard = none) (s x : Operand) (t : TypeId)
    (ho : o.op = .call { callee := .builtin .append, args := #[s, x], argTypes := #[t, t] })
    (base : Nat) (e : TypeId) (i : TypeInfo) (z : Value) (size bytes : Nat) (ht : P.underlying t = some (.slice e)) (hi : P.info? e = some i) (hz : i.zero = some z)
    (hsize : i.size = size) (hby : i.bytes = bytes) (hzs : z.cells.size = size) (hsz : 0 < size)
    (v : Value) (n : Nat) (xs : List Value) (hs : a.eval s = v) (hown : w0.ownsRow base e size v n xs) (news : List Value) (hx : a.eval x = .slice (some ⟨w0.heap.size, 0, none⟩) 1 1)
    (hcs : cs = news.toArray) (hl : news.length = size) (h1 : ∀ u ∈ news, u.oneCell' = true) (h63 : n + 1 ≤ maxLen) (hbytes : (n + 1) * bytes ≤ 140737488355328) (hbase : base ≤ w0.heap.size)
    (h : ∀ v' w', w'.ownsRow base e size v' (n + 1) (xs ++ news) → Kept (fun k => v.ownBlock = some k) w0 w' → (∀ g, v'.ownBlock = some g → v.ownBlock = some g ∨ w0.heap.size ≤ g) → wpList P ops Q rest (a.put o.dst v') w') :
    wpList P ops Q (o :: rest) a (w0.alloc (.cells cs T)) :=
  wpList_plain hgd fun _ hK => wp_push_new (.inl rfl) s x t ho base e i z size bytes ht hi hz hsize hby hzs hsz v n xs hs hown news hx hcs hl h1 h63 hbytes hbase fun v' w' a b c => hK _ _ (h v' w' a b c)
end
/-- v owns the bytes l in a block from base on -/
def Own8 (w : World) (base : Nat) (v : Value) (l : List UInt8) : Prop := w.ownsRow base 5 1 v l.length (bvs l)
theorem Own8.nil (w : World) (base : Nat) : Own8 w base (.slice none 0 0) [] := World.ownsRow_nil _ _ _ _
theorem Own8.keep {w w' : World} {base : Nat} {v : Value} {l : List UInt8} {F : Nat → Prop} (h : Own8 w base v l) (hk : Kept F w w') (hn : ∀ k, v.ownBlock = some k → ¬ F k) : Own8 w' base v l := hk.own h hn
theorem Own8.below {w w' : World} {base : Nat} {v : Value} {l : List UInt8} (h : Own8 w base v l) (hb : Below w.heap.size w w') : Own8 w' base v l := own_below h hb
theorem Own8.shape {w : World} {base : Nat} {v : Value} {l : List UInt8} (h : Own8 w base v l) : ∃ A c, v = .slice A l.length c ∧ l.length ≤ c ∧ c ≤ maxLen := by
  obtain ⟨A, c, rfl, hc⟩ := own_shape h
  exact ⟨A, c, rfl, hc, own_capm h⟩
theorem Own8.shape' {w : World} {base : Nat} {v : Value} {l : List UInt8} (h : Own8 w base v l) : ∃ A n c, v = .slice A n c ∧ l.length = n ∧ n ≤ c ∧ c ≤ maxLen := by
  obtain ⟨A, c, h1, h2, h3⟩ := h.shape
  exact ⟨A, _, c, h1, rfl, h2, h3⟩
theorem Own8.bs {w : World} {base n c : Nat} {A : Option Addr} {l : List UInt8} (h : Own8 w base (.slice A n c) l) : Bs w A l := by
  obtain ⟨A', c', e, _⟩ := own_shape h
  injection e with e1 e2 e3
  subst e1 e2 e3
  exact Bs.of_own h
theorem Own8.base {w : World} {base b : Nat} {v : Value} {l : List UInt8} (h : Own8 w base v l) (hb : b ≤ base) : Own8 w b v l := own_base h hb
theorem wpList_push8 {ops : Array Oper} {rest : List Oper} {o : Oper} {a : Act} {Q : Exit → Act → World → Prop} {w0 : World} {cs : Array Value} {T : TypeId} (hgd : o.guard = none) (s x : Operand)
    (ho : o.op = .call { callee := .builtin .append, args := #[s, x], argTypes := #[29, 29] }) (base : Nat) (v : Value) (l : List UInt8) (hs : a.eval s = v) (hown : Own8 w0 base v l)
    (hx : a.eval x = .slice (some ⟨w0.heap.size, 0, none⟩) 1 1) (e : Int) (c : UInt8) (hcs : cs = #[.int .u8 e]) (he : e = (c.toNat : Int)) (hlen : l.length ≤ 1000000) (hbase : base ≤ w0.heap.size)
    (h : ∀ v' w', Own8 w' base v' (l ++ [c]) → Kept (fun k => v.ownBlock = some k) w0 w' → (∀ g, v'.ownBlock = some g → v.ownBlock = some g ∨ w0.heap.size ≤ g) → wpList Tryd.prog ops Q rest (a.put o.dst v') w') :
    wpList Tryd.prog ops Q (o :: rest) a (w0.alloc (.cells cs T)) := by
  obtain ⟨i0, hi0, hz0, hz1, hz2⟩ := info_parts info_u8
  subst he
  refine wpList_push hgd s x _ ho base 5 i0 (.int .u8 0) 1 1 Tryd.underlying29 hi0 hz0 hz1 hz2 rfl (by decide) v l.length (bvs l) hs hown [.int .u8 (c.toNat : Int)] hx (by rw [hcs]) rfl (by simp [Value.oneCell']) (by unfold maxLen; omega) (by omega) hbase ?_
  intro v' w' h1 h2 h3
  refine h v' w' ?_ h2 h3
  unfold Own8
  rw [bvs_append, List.length_append]
  exact h1
end Go.Proofs.YtckihiiimomgfaaDoor

namespace Go.Proofs.YtckihiiimomgfaaDoor
open Go.RowKit
/-- block g, of type T, holds the values vs -/
def RowV (w : World) (g : Nat) (T : TypeId) (vs : List Value) : Prop := w.heap[g]? = some (.cells vs.toArray T (0, 0))
theorem RowV.lt {w : World} {g : Nat} {T : TypeId} {vs : List Value} (h : RowV w g T vs) : g < w.heap.size := heap_lt h
theorem RowV.cell {w : World} {g : Nat} {T : TypeId} {vs : List Value} (h : RowV w g T vs) (i : Nat) : w.cell? ⟨g, i, none⟩ = vs[i]? := by rw [block_cell h]; simp
theorem RowV.free {w : World} {g : Nat} {T : TypeId} {vs : List Value} (h : RowV w g T vs) (i : Nat) : w.frozen? ⟨g, i, none⟩ = false := block_free h
theorem RowV.keep {w w' : World} {g : Nat} {T : TypeId} {vs : List Value} {F : Nat → Prop} (h : RowV w g T vs) (hk : Kept F w w') (hn : ¬ F g) : RowV w' g T vs := hk.heap h hn
theorem RowV.below {w w' : World} {g : Nat} {T : TypeId} {vs : List Value} (h : RowV w g T vs) (hb : Below w.heap.size w w') : RowV w' g T vs := (hb.block g (heap_lt h)).trans h
theorem RowV.range {w : World} {g : Nat} {T : TypeId} {vs : List Value} (h : RowV w g T vs) (o n : Nat) : w.rangeAt g o ((vs.drop o).take n) := fun j v hj => by
  have hjn : j < n := by
    rcases Nat.lt_or_ge j n with h1 | h1
    · exact h1
    · rw [List.getElem?_eq_none (by simp; omega)] at hj; cases hj
  rw [List.getElem?_take_of_lt hjn, List.getElem?_drop] at hj
  rw [h.cell]; exact hj
theorem RowV.there {w : World} {g : Nat} {T : TypeId} {vs : List Value} (h : RowV w g T vs) (o n : Nat) (hn : o + n ≤ vs.length) : w.there g o n := fun j hj => by
  rw [h.cell, List.getElem?_eq_getElem (by omega)]
  exact ⟨rfl, h.free _⟩
/-- a piece of a list is another -/
def spliceV (vs : List Value) (o : Nat) (us : List Value) : List Value := vs.take o ++ us ++ vs.drop (o + us.length)
theorem spliceV_length (vs : List Value) (o : Nat) (us : List Value) (h : o + us.length ≤ vs.length) : (spliceV vs o us).length = vs.length := by
  simp [spliceV]; omega
theorem spliceV_get (vs : List Value) (o : Nat) (us : List Value) (h : o + us.length ≤ vs.length) (j : Nat) : (spliceV vs o us)[j]? = if o ≤ j ∧ j < o + us.length then us[j - o]? else vs[j]? := by
  unfold spliceV
  rw [List.append_assoc]
  by_cases h1 : j < o
  · rw [List.getElem?_append_left (by simp; omega), List.getElem?_take_of_lt h1, if_neg (by omega)]
  · rw [List.getElem?_append_right (by simp; omega), List.length_take, Nat.min_eq_left (by omega)]
    by_cases h2 : j < o + us.length
    · rw [List.getElem?_append_left (by omega), if_pos ⟨by omega, h2⟩]
    · rw [List.getElem?_append_right (by omega), List.getElem?_drop, if_neg (by omega), show o + us.length + (j - o - us.length) = j by omega]
theorem setCells_arr (g : Nat) (T : TypeId) (fr : Nat × Nat) : ∀ (us : List Value) (o : Nat) (w : World) (cs : Array Value), w.heap[g]? = some (.cells cs T fr) → o + us.length ≤ cs.size →
    ∃ cs', (w.setCells g o us).heap[g]? = some (.cells cs' T fr) ∧ cs'.size = cs.size ∧ ∀ j, cs'[j]? = if o ≤ j ∧ j < o + us.length then us[j - o]? else cs[j]?
  | [], o, w, cs, h, _ => ⟨cs, h, rfl, fun j => by rw [if_neg (by simp)]⟩
  | v :: r, o, w, cs, h, hl => by
    simp at hl
    obtain ⟨cs', h1, h2, h3⟩ := setCells_arr g T fr r (o + 1) _ _ (set_block h o v) (by simp; omega)
    refine ⟨cs', h1, by simpa using h2, fun j => ?_⟩
    rw [h3 j, Array.getElem?_setIfInBounds]
    by_cases hj : o + 1 ≤ j ∧ j < o + 1 + r.length
    · rw [if_pos hj, if_pos (by simp; omega)]
      obtain ⟨k, rfl⟩ : ∃ k, j = o + 1 + k := ⟨j - (o + 1), by omega⟩
      rw [show o + 1 + k - (o + 1) = k by omega, show o + 1 + k - o = k + 1 by omega]
      rfl
    · rw [if_neg hj]
      by_cases e : o = j
      · subst e
        rw [if_pos rfl, if_pos (by omega), if_pos (by simp)]
        simp
      · rw [if_neg e, if_neg (by simp; omega)]
theorem RowV.store {w : World} {g : Nat} {T : TypeId} {vs : List Value} (h : RowV w g T vs) (o : Nat) (us : List Value) (hl : o + us.length ≤ vs.length) : RowV (w.setCells g o us) g T (spliceV vs o us) := by
  obtain ⟨cs', h1, h2, h3⟩ := setCells_arr g T (0, 0) us o w _ h (by simpa using hl)
  have e : cs' = (spliceV vs o us).toArray := by
    apply Array.ext_getElem?
    intro j
    rw [h3 j, List.getElem?_toArray, List.getElem?_toArray, spliceV_get vs o us hl]
  rw [e] at h1
  exact h1
theorem setCells_keep (g : Nat) : ∀ (us : List Value) (o : Nat) (w : World), Kept (fun k => k = g) w (w.setCells g o us)
  | [], _, w => Kept.refl _ w
  | v :: r, o, w => ((Kept.refl (fun k => k = g) w).setCell (p := ⟨g, o, none⟩) (.inl rfl) v).trans (setCells_keep g r (o + 1) (w.setCell ⟨g, o, none⟩ v)) (fun _ hk => .inl hk)
/-- sectors, laid one behind the other -/
def flat (ss : List (List UInt8)) : List Value := ss.flatMap bvs
theorem secs_length {ss : List (List UInt8)} (h : ∀ s ∈ ss, s.length = 64) : (flat ss).length = 64 * ss.length := by
  induction ss with
  | nil => rfl
  | cons s r ih =>
    have h1 := h s (by simp)
    have h2 := ih (fun x hx => h x (by simp [hx]))
    unfold flat at h2 ⊢
    rw [List.flatMap_cons, List.length_append, bvs_length, h1, h2, List.length_cons]
    omega
theorem flat_cons (s : List UInt8) (r : List (List UInt8)) : flat (s :: r) = bvs s ++ flat r := rfl
theorem flat_drop {ss : List (List UInt8)} (h : ∀ s ∈ ss, s.length = 64) (i : Nat) : (flat ss).drop (64 * i) = flat (ss.drop i) := by
  induction i generalizing ss with
  | zero => simp
  | succ i ih =>
    cases ss with
    | nil => simp [flat]
    | cons s r =>
      have h1 := h s (by simp)
      rw [flat_cons, List.drop_append, List.drop_of_length_le (by rw [bvs_length]; omega), List.nil_append, bvs_length, h1, show 64 * (i + 1) - 64 = 64 * i by omega, ih (fun x hx => h x (by simp [hx]))]
      rfl
theorem flat_take {ss : List (List UInt8)} (h : ∀ s ∈ ss, s.length = 64) (i : Nat) : (flat ss).take (64 * i) = flat (ss.take i) := by
  induction i generalizing ss with
  | zero => simp [flat]
  | succ i ih =>
    cases ss with
    | nil => simp [flat]
    | cons s r =>
      have h1 := h s (by simp)
      rw [flat_cons, List.take_append, List.take_of_length_le (by rw [bvs_length]; omega), bvs_length, h1, show 64 * (i + 1) - 64 = 64 * i by omega, ih (fun x hx => h x (by simp [hx]))]
      rfl
theorem flat_at {ss : List (List UInt8)} (h : ∀ s ∈ ss, s.length = 64) {i : Nat} {s : List UInt8} (hi : ss[i]? = some s) : ((flat ss).drop (64 * i)).take 64 = bvs s := by
  obtain ⟨hlt, e⟩ := List.getElem?_eq_some_iff.1 hi
  have h1 := h s (List.mem_of_getElem? hi)
  rw [flat_drop h, List.drop_eq_getElem_cons hlt, e, flat_cons, List.take_append, List.take_of_length_le (by rw [bvs_length]; omega), bvs_length, h1]
  simp
theorem flat_set {ss : List (List UInt8)} (h : ∀ s ∈ ss, s.length = 64) {i : Nat} (hi : i < ss.length) {s : List UInt8} (hs : s.length = 64) : spliceV (flat ss) (64 * i) (bvs s) = flat (ss.set i s) := by
  unfold spliceV
  rw [flat_take h, bvs_length, hs, show 64 * i + 64 = 64 * (i + 1) by omega, flat_drop h]
  have e : ss.set i s = ss.take i ++ s :: ss.drop (i + 1) := by rw [List.set_eq_take_append_cons_drop, if_pos hi]
  rw [e]
  unfold flat
  rw [List.flatMap_append, List.flatMap_cons, List.append_assoc]
/-- a sector's first bytes are others -/
theorem flat_part {ss : List (List UInt8)} (h : ∀ s ∈ ss, s.length = 64) {i : Nat} {s : List UInt8} (hi : ss[i]? = some s) (b : List UInt8) (m : Nat) (hb : b.length = 64) (hm : m ≤ 64) :
    spliceV (flat ss) (64 * i) (bvs (b.take m)) = flat (ss.set i (b.take m ++ s.drop m)) := by
  obtain ⟨hlt, e⟩ := List.getElem?_eq_some_iff.1 hi
  have hs := h s (List.mem_of_getElem? hi)
  rw [← flat_set h hlt (s := b.take m ++ s.drop m) (by simp; omega)]
  have hl : 64 * i + 64 ≤ (flat ss).length := by rw [secs_length h]; omega
  refine List.ext_getElem? fun j => ?_
  rw [spliceV_get _ _ _ (by rw [bvs_length]; simp; omega), spliceV_get _ _ _ (by rw [bvs_length]; simp; omega)]
  simp only [bvs_length, List.length_append, List.length_take, List.length_drop, hb, hs]
  have hc := flat_at h hi
  by_cases h1 : 64 * i ≤ j ∧ j < 64 * i + m
  · rw [if_pos (by omega), if_pos (by omega), bvs_append, List.getElem?_append_left (by rw [bvs_length]; simp; omega)]
  · rw [if_neg (by omega)]
    by_cases h2 : 64 * i ≤ j ∧ j < 64 * i + 64
    · rw [if_pos (by omega), bvs_append, List.getElem?_append_right (by rw [bvs_length]; simp; omega), bvs_length, List.length_take, Nat.min_eq_left (by omega)]
      have e2 : (List.take 64 (List.drop (64 * i) (flat ss)))[j - 64 * i]? = (bvs s)[j - 64 * i]? := by rw [hc]
      rw [List.getElem?_take_of_lt (by omega), List.getElem?_drop, show 64 * i + (j - 64 * i) = j by omega] at e2
      rw [e2]
      unfold bvs
      rw [List.getElem?_map, List.getElem?_map, List.getElem?_drop, show m + (j - 64 * i - m) = j - 64 * i by omega]
    · rw [if_neg (by omega)]
section
variable {P : Program}
/-- a whole row is stored over one that was just made: a fresh name for the world behind it -/
theorem wpList_store_new {ops : Array Oper} {rest : List Oper} {op : Oper} {a : Act} {w w0 : World} {cs : Array Value} {T : TypeId} {Q : Exit → Act → World → Prop} (hgd : op.guard = none) (T' : TypeId) (x y : Operand) (ho : op.op = .store T' x y)
    (hw : w = w0.alloc (.cells cs T)) (us : List Value) (hx : a.eval x = .pointer (some ⟨w0.heap.size, 0, none⟩)) (hy : a.eval y = .agg us.toArray) (hcs : cs.size = us.length) (hi : (P.info? T').map (·.size) = some us.length) (h1 : ∀ u ∈ us, u.oneCell' = true)
    (h : ∀ w', RowV w' w0.heap.size T us → Below w0.heap.size w0 w' → w'.heap.size = w0.heap.size + 1 → wpList P ops Q rest (a.put op.dst undef) w') : wpList P ops Q (op :: rest) a w := by
  subst hw
  have hr : RowV (w0.alloc (.cells cs T)) w0.heap.size T cs.toList := by
    have := heap_alloc_new w0 (.cells cs T)
    unfold RowV
    rw [Array.toArray_toList]
    exact this
  have hcl : cs.toList.length = us.length := by simpa using hcs
  refine wpList_store_mid hgd T' x y ho w0.heap.size 0 us.toArray hx hy ?_ (by simpa using hi) (all_oneCell_toArray h1) ?_
  · rw [List.size_toArray]; exact hr.there 0 us.length (by omega)
  · have h2 := hr.store 0 us (by omega)
    have e : spliceV cs.toList 0 us = us := by
      unfold spliceV
      rw [List.take_zero, List.nil_append, Nat.zero_add, List.drop_of_length_le (by omega), List.append_nil]
    rw [e] at h2
    refine h _ h2 ((below_alloc w0 _).trans ((setCells_keep w0.heap.size us 0 _).below (B := w0.heap.size) (fun k _ hk => by omega) (by simp))) (by rw [setCells_sz]; simp)
end
end Go.Proofs.YtckihiiimomgfaaDoor

namespace Go.Proofs.YtckihiiimomgfaaDoor
open Go.RowKit Go.ChangeMaps
def lookL (k : Int) : List (Int × Value) → Option Value
  | [] => none
  | (a, v) :: r => if k = a then some v else lookL k r
def putL (k : Int) (v : Value) : List (Int × Value) → List (Int × Value)
  | [] => [(k, v)]
  | (a, u) :: r => if k = a then (a, v) :: r else (a, u) :: putL k v r
theorem lookL_putL (k j : Int) (v : Value) : ∀ l, lookL j (putL k v l) = if j = k then some v else lookL j l
  | [] => by simp [lookL, putL]
  | (a, u) :: r => by
    have ih := lookL_putL k j v r
    unfold putL
    by_cases h : k = a
    · subst h
      simp only [if_true, lookL]
      split <;> rfl
    · simp only [h, if_false, lookL, ih]
      by_cases h1 : j = a
      · subst h1
        simp [Ne.symm h]
      · simp [h1]
def ents (l : List (Int × Value)) : List (Value × Value) := l.map fun p => (Value.int .i64 p.1, p.2)
/-- block g is a map that holds l -/
def MapIs (w : World) (g : Nat) (l : List (Int × Value)) : Prop := ∃ es c, w.heap[g]? = some (.map es c) ∧ es.toList.map (fun e => (e.key, e.val)) = ents l
theorem MapIs.lt {w : World} {g : Nat} {l : List (Int × Value)} (h : MapIs w g l) : g < w.heap.size := by obtain ⟨es, c, h, _⟩ := h; exact heap_lt h
theorem MapIs.kept {w w' : World} {F : Nat → Prop} {g : Nat} {l : List (Int × Value)} (h : MapIs w g l) (hk : Kept F w w') (hn : ¬ F g) : MapIs w' g l := by
  obtain ⟨es, c, h, h2⟩ := h
  exact ⟨es, c, hk.heap h hn, h2⟩
theorem MapIs.below {w w' : World} {g : Nat} {l : List (Int × Value)} (h : MapIs w g l) (hk : Below w.heap.size w w') : MapIs w' g l := h.kept (Kept.of_below (F := fun _ => False) hk) (fun h => h)
theorem MapIs.made (w : World) : MapIs (w.alloc (.map #[] 0)) w.heap.size [] := ⟨#[], 0, heap_alloc_new w _, rfl⟩
theorem findNow_ents (k : Int) : ∀ (l : List (Int × Value)) (es : List MapEntry) (i : Nat), es.map (fun e => (e.key, e.val)) = ents l →
    (lookL k l = none ∧ Instr.findNow (.int .i64) (.int .i64 k) es i = some none ∧ ∀ v, putL k v l = l ++ [(k, v)]) ∨
    (∃ j v e, lookL k l = some v ∧ es[j]? = some e ∧ e.key = .int .i64 k ∧ Instr.findNow (.int .i64) (.int .i64 k) es i = some (some (i + j, v)) ∧
      ∀ v', (es.modify j fun e => { e with key := .int .i64 k, val := v' }).map (fun e => (e.key, e.val)) = ents (putL k v' l))
  | [], es, i, h => by
    have : es = [] := by simpa [ents] using h
    subst this
    exact .inl ⟨rfl, rfl, fun _ => rfl⟩
  | (a, u) :: r, [], i, h => by simp [ents] at h
  | (a, u) :: r, e :: es, i, h => by
    simp only [ents, List.map_cons, List.cons.injEq, Prod.mk.injEq] at h
    obtain ⟨⟨h1, h2⟩, h3⟩ := h
    by_cases hk : k = a
    · subst hk
      refine .inr ⟨0, u, e, by simp [lookL], rfl, h1, ?_, fun v' => ?_⟩
      · simp [Instr.findNow, Instr.sameNow, h1, h2]
      · simp [List.modify_cons, ents, putL, h3]
    · have hf : Instr.findNow (.int .i64) (.int .i64 k) (e :: es) i = Instr.findNow (.int .i64) (.int .i64 k) es (i + 1) := by
        have hb : (k == a) = false := by simpa using hk
        simp [Instr.findNow, Instr.sameNow, h1, hb]
      rcases findNow_ents k r es (i + 1) h3 with ⟨g1, g2, g3⟩ | ⟨j, v, e', g1, g2, g3, g4, g5⟩
      · exact .inl ⟨by simp [lookL, hk, g1], by rw [hf, g2], fun v => by simp [putL, hk, g3]⟩
      · refine .inr ⟨j + 1, v, e', by simp [lookL, hk, g1], by simpa using g2, g3, by rw [hf, g4]; congr 3; omega, fun v' => ?_⟩
        have := g5 v'
        simp [ents, putL, hk, h1, h2] at this ⊢
        exact this
section
variable {P : Program}
theorem isKey_i64 (k : Int) : MapKept.IsKey (.int .i64) (.int .i64 k) := by simp [MapKept.IsKey]
theorem run_look_some {w : World} {g : Nat} {l : List (Int × Value)} {t kt et : TypeId} (ht : P.underlying t = some (.map kt et)) (hk : P.underlying kt = some (.int .i64)) (h : MapIs w g l) {k : Int} {v : Value} (hl : lookL k l = some v) :
    (Instr.lookup t (.map (some g)) (.int .i64 k) true).run P w = .ok (.tuple #[v, .bool true]) w := by
  obtain ⟨es, c, hb, he⟩ := h
  rcases findNow_ents k l es.toList 0 he with ⟨g1, _⟩ | ⟨j, v', e', g1, g2, g3, g4, g5⟩
  · rw [hl] at g1; cases g1
  · rw [hl] at g1
    injection g1 with g1
    subst g1
    simp [Instr.lookup, run_underlying ht, MapKept.run_getObj_map hb, MapKept.run_checkKey hk (isKey_i64 k), MapKept.run_findKey hk g4, Result.andThen]
theorem run_look_none {w : World} {g : Nat} {l : List (Int × Value)} {t kt et : TypeId} {z : Value} (ht : P.underlying t = some (.map kt et)) (hk : P.underlying kt = some (.int .i64)) (h : MapIs w g l) {k : Int} (hl : lookL k l = none) (hz : (zeroValue et).run P w = .ok z w) :
    (Instr.lookup t (.map (some g)) (.int .i64 k) true).run P w = .ok (.tuple #[z, .bool false]) w := by
  obtain ⟨es, c, hb, he⟩ := h
  rcases findNow_ents k l es.toList 0 he with ⟨g1, g2, _⟩ | ⟨j, v', e', g1, g2, g3, g4, g5⟩
  · simp [Instr.lookup, run_underlying ht, MapKept.run_getObj_map hb, MapKept.run_checkKey hk (isKey_i64 k), MapKept.run_findKey hk g2, hz, Result.andThen]
  · rw [hl] at g1; cases g1
theorem kept_setBlock {w : World} {g : Nat} {es : Array MapEntry} {c : Nat} (hb : w.heap[g]? = some (.map es c)) (o : Obj) : Kept (fun k => k = g) w (setBlock w g o) :=
  ⟨rfl, rfl, rfl, by simp [setBlock], fun k _ hne => heap_setBlock_other hb o hne⟩
theorem run_put {w : World} {g : Nat} {l : List (Int × Value)} {t kt et : TypeId} (ht : P.underlying t = some (.map kt et)) (hk : P.underlying kt = some (.int .i64)) (h : MapIs w g l) (k : Int) (v : Value) :
    ∃ w', (Instr.mapUpdate t (.map (some g)) (.int .i64 k) v).run P w = .ok () w' ∧ MapIs w' g (putL k v l) ∧ Kept (fun x => x = g) w w' ∧ w'.heap.size = w.heap.size := by
  obtain ⟨es, c, hb, he⟩ := h
  rcases findNow_ents k l es.toList 0 he with ⟨g1, g2, g3⟩ | ⟨j, v', e', g1, g2, g3, g4, g5⟩
  · refine ⟨setBlock w g (.map (es.push { key := .int .i64 k, val := v, born := c }) (c + 1)), ?_, ⟨_, _, heap_setBlock_same hb _, ?_⟩, kept_setBlock hb _, by simp [setBlock]⟩
    · simp [Instr.mapUpdate, run_underlying ht, MapKept.run_getObj_map hb, MapKept.run_checkKey hk (isKey_i64 k), MapKept.run_findKey hk g2, MapKept.run_setObj_map _ hb, Result.andThen, setBlock]
    · rw [g3]
      simp [ents] at he ⊢
      exact he
  · have g2' : es[j]? = some e' := by simpa using g2
    have g4' : Instr.findNow (.int .i64) (.int .i64 k) es.toList 0 = some (some (j, v')) := by simpa using g4
    refine ⟨setBlock w g (.map (es.modify j fun e => { e with key := .int .i64 k, val := v }) c), ?_, ⟨_, _, heap_setBlock_same hb _, ?_⟩, kept_setBlock hb _, by simp [setBlock]⟩
    · simp [Instr.mapUpdate, run_underlying ht, MapKept.run_getObj_map hb, MapKept.run_checkKey hk (isKey_i64 k), MapKept.run_findKey hk g4', g2', g3, MapKept.run_keyThatStays (isKey_i64 k), MapKept.run_setObj_map _ hb, Result.andThen, setBlock]
    · rw [← g5 v]
      simp [Array.toList_modify]
theorem run_clear {w : World} {g : Nat} {l : List (Int × Value)} {t kt et ty : TypeId} (ht : P.underlying t = some (.map kt et)) (h : MapIs w g l) :
    ∃ w', (Builtin.clear_ #[t] ty #[.map (some g)]).run P w = .ok (.tuple #[]) w' ∧ MapIs w' g [] ∧ Kept (fun x => x = g) w w' ∧ w'.heap.size = w.heap.size := by
  obtain ⟨es, c, hb, he⟩ := h
  refine ⟨setBlock w g (.map #[] c), ?_, ⟨_, _, heap_setBlock_same hb _, rfl⟩, kept_setBlock hb _, by simp [setBlock]⟩
  simp [Builtin.clear_, run_underlying ht, MapKept.run_getObj_map hb, MapKept.run_setObj_map _ hb, Result.andThen, setBlock]
theorem wpList_put {ops : Array Oper} {rest : List Oper} {o : Oper} {a : Act} {w : World} {Q : Exit → Act → World → Prop}
    (hg : o.guard = none) (m x y : Operand) (t : TypeId) (hop : o.op = Op.mapUpdate t m x y) (kt et : TypeId) (ht : P.underlying t = some (.map kt et)) (hk : P.underlying kt = some (.int .i64))
    (g : Nat) (l : List (Int × Value)) (k : Int) (v : Value) (hm : a.eval m = .map (some g)) (hx : a.eval x = .int .i64 k) (hv : a.eval y = v) (h : MapIs w g l)
    (hK : ∀ w', MapIs w' g (putL k v l) → Kept (fun x => x = g) w w' → w'.heap.size = w.heap.size → wpList P ops Q rest (a.put o.dst undef) w') : wpList P ops Q (o :: rest) a w := by
  refine wpList_plain hg fun K' hK' => ?_
  obtain ⟨w', hrun, r1, r2, r3⟩ := run_put ht hk h k v
  unfold Oper.wp
  simp [execOp, hop, hm, hx, hv, hrun, Result.andThen]
  exact hK' _ _ (hK w' r1 r2 r3)
theorem wpList_clear {ops : Array Oper} {rest : List Oper} {o : Oper} {a : Act} {w : World} {Q : Exit → Act → World → Prop}
    (hg : o.guard = none) (m : Operand) (t : TypeId) (hop : o.op = .call { callee := .builtin .clear, args := #[m], argTypes := #[t] }) (kt et : TypeId) (ht : P.underlying t = some (.map kt et))
    (g : Nat) (l : List (Int × Value)) (hm : a.eval m = .map (some g)) (h : MapIs w g l)
    (hK : ∀ w', MapIs w' g [] → Kept (fun x => x = g) w w' → w'.heap.size = w.heap.size → wpList P ops Q rest (a.put o.dst (.tuple #[])) w') : wpList P ops Q (o :: rest) a w := by
  refine wpList_plain hg fun K' hK' => ?_
  obtain ⟨w', hrun, r1, r2, r3⟩ := run_clear (ty := o.type) ht h
  unfold Oper.wp execOp
  simp only [hop, resolve, invoke, builtin, Sem.run_bind, Sem.run_pure, Result.andThen_ok, List.map_toArray, List.map_cons, List.map_nil, hm, hrun]
  exact hK' _ _ (hK w' r1 r2 r3)
end
end Go.Proofs.YtckihiiimomgfaaDoor

namespace Go.Proofs.YtckihiiimomgfaaDoor
open Go.RowKit
section
variable {P : Program} (w : World)
theorem zeroCells_u8 (m : Nat) : Builtin.zeroCells (Value.int .u8 0).cells m = (List.replicate m (Value.int .u8 0)).toArray := by
  apply Array.ext'
  apply List.ext_getElem
  · simp [Builtin.zeroCells, Value.cells]
  · intro j h1 h2
    simp [Builtin.zeroCells, Value.cells, Nat.mod_one]
theorem append_zeros_eq (t k u ty e : TypeId) (i : TypeInfo) (ht : P.underlying t = some (.slice e)) (hk : P.underlying k = some (.int .i64)) (hu : P.underlying u = some .string) (hi : P.info? e = some i) (hz : i.zero = some (.int .u8 0))
    (hsize : i.size = 1) (hby : i.bytes = 1) (A : Option Addr) (n c m : Nat) (hm : n + m ≤ 1000000) (hnc : n ≤ c) :
    (Builtin.append_ #[t, k] ty #[.slice A n c, .int .i64 (m : Int)]).run P w = (Builtin.append_ #[t, u] ty #[.slice A n c, .string ⟨(List.replicate m 0).toArray⟩]).run P w := by
  have hw : IntKind.i64.wrap (m : Int) = (m : Int) := by rw [IntKind.wrap_i64]; omega
  have h0 : ¬ ((m : Int) < 0) := by omega
  have h48 : ¬ (281474976710656 < (m : Int)) := by omega
  have hsz : (⟨(List.replicate m (0 : UInt8)).toArray⟩ : ByteArray).size = m := by show (List.replicate m (0 : UInt8)).toArray.size = m; simp
  have hcells : Builtin.zeroCells (Value.int .u8 0).cells m = (Array.map (fun b => Value.int .u8 (b.toNat : Int)) (⟨(List.replicate m (0 : UInt8)).toArray⟩ : ByteArray).data).extract 0 m := by
    rw [zeroCells_u8]
    apply Array.ext'
    simp
  have hbig : ¬ (9223372036854775807 < ((n : Int) + (m : Int))) := by omega
  generalize (⟨(List.replicate m (0 : UInt8)).toArray⟩ : ByteArray) = s at *
  by_cases hm0 : m = 0
  · subst hm0
    clear hcells
    have hw0 : IntKind.i64.wrap 0 = 0 := by decide
    simp [Builtin.append_, run_underlying ht, run_underlying hk, run_underlying hu, sizeOf, typeInfo, hi, hsize, Builtin.lenOf, Builtin.firstCells, asInt, asIntOf, hsz, hnc, hw0]
  · by_cases hroom : n + m ≤ c
    · simp [Builtin.append_, run_underlying ht, run_underlying hk, run_underlying hu, sizeOf, typeInfo, hi, hby, hsize, hz, zeroValue, Builtin.lenOf, Builtin.firstCells, asInt, asIntOf, hw, h0, h48, hsz, hm0, hcells, hroom]
    · have hcap : ¬ (281474976710656 < Builtin.nextslicecap (n + m) c) := by
        have := growslice_fits (need := n + m) (old := c) (bytes := 1) (by omega) (by omega)
        omega
      simp [Builtin.append_, run_underlying ht, run_underlying hk, run_underlying hu, sizeOf, typeInfo, hi, hby, hsize, hz, zeroValue, Builtin.lenOf, Builtin.firstCells, asInt, asIntOf, hw, h0, h48, hsz, hbig, hm0, hcells, hroom, hcap]
theorem strCells_zeros (m : Nat) : Lib.strCells ⟨(List.replicate m (0 : UInt8)).toArray⟩ = bvs (List.replicate m 0) := by
  simp [Lib.strCells, bvs]
theorem run_append_zeros (base : Nat) (t k u ty e : TypeId) (i : TypeInfo) (ht : P.underlying t = some (.slice e)) (hk : P.underlying k = some (.int .i64)) (hu : P.underlying u = some .string) (hi : P.info? e = some i) (hz : i.zero = some (.int .u8 0))
    (hsize : i.size = 1) (hby : i.bytes = 1) (v : Value) (n : Nat) (xs : List Value) (hown : w.ownsRow base e 1 v n xs) (m : Nat) (hm : n + m ≤ 1000000) (hbase : base ≤ w.heap.size) :
    ∃ v' w', (Builtin.append_ #[t, k] ty #[v, .int .i64 (m : Int)]).run P w = .ok v' w' ∧ w'.ownsRow base e 1 v' (n + m) (xs ++ bvs (List.replicate m 0)) ∧ w.grownBy w' v.ownBlock := by
  obtain ⟨A, c, rfl, hc⟩ := own_shape hown
  have hsz : (⟨(List.replicate m (0 : UInt8)).toArray⟩ : ByteArray).size = m := by show (List.replicate m (0 : UInt8)).toArray.size = m; simp
  obtain ⟨v', w', h1, h2, h3, _⟩ := Lib.run_append_own_string (P := P) w base t u ty e i ht hu hi hz hsize hby _ n xs hown ⟨(List.replicate m (0 : UInt8)).toArray⟩ (by rw [hsz]; unfold maxLen; omega) (by rw [hsz]; omega) hbase
  rw [hsz, strCells_zeros] at h2
  exact ⟨v', w', (append_zeros_eq w t k u ty e i ht hk hu hi hz hsize hby A n c m hm hc).trans h1, h2, h3⟩
theorem wp_append_zeros {o : Oper} {a : Act} {K : Act → World → Prop} {Q : Exit → Act → World → Prop} (s x : Operand) (t k u : TypeId)
    (ho : o.op = .call { callee := .builtin .append, args := #[s, x], argTypes := #[t, k] })
    (base : Nat) (e : TypeId) (i : TypeInfo) (ht : P.underlying t = some (.slice e)) (hk : P.underlying k = some (.int .i64)) (hu : P.underlying u = some .string) (hi : P.info? e = some i) (hz : i.zero = some (.int .u8 0))
    (hsize : i.size = 1) (hby : i.bytes = 1) (v : Value) (n : Nat) (xs : List Value) (hs : a.eval s = v) (hown : w.ownsRow base e 1 v n xs) (m : Nat) (hx : a.eval x = .int .i64 (m : Int)) (hm : n + m ≤ 1000000) (hbase : base ≤ w.heap.size)
    (h : ∀ v' w', w'.ownsRow base e 1 v' (n + m) (xs ++ bvs (List.replicate m 0)) → w.grownBy w' v.ownBlock → K (a.put o.dst v') w') : o.wp P a w K Q := by
  obtain ⟨v', w', hrun, h2, h3⟩ := run_append_zeros (P := P) w base t k u o.type e i ht hk hu hi hz hsize hby v n xs hown m hm hbase
  unfold Oper.wp execOp
  simp only [ho, resolve, invoke, builtin, Sem.run_bind, Sem.run_pure, Result.andThen_ok, List.map_toArray, List.map_cons, List.map_nil, hs, hx, hrun]
  exact h v' w' h2 h3
theorem wpList_append_zeros {ops : Array Oper} {rest : List Oper} {o : Oper} {a : Act} {Q : Exit → Act → World → Prop} (hgd : o.guard = none) (s x : Operand) (t k u : TypeId)
    (ho : o.op = .call { callee := .builtin .append, args := #[s, x], argTypes := #[t, k] })
    (base : Nat) (e : TypeId) (i : TypeInfo) (ht : P.underlying t = some (.slice e)) (hk : P.underlying k = some (.int .i64)) (hu : P.underlying u = some .string) (hi : P.info? e = some i) (hz : i.zero = some (.int .u8 0))
    (hsize : i.size = 1) (hby : i.bytes = 1) (v : Value) (n : Nat) (xs : List Value) (hs : a.eval s = v) (hown : w.ownsRow base e 1 v n xs) (m : Nat) (hx : a.eval x = .int .i64 (m : Int)) (hm : n + m ≤ 1000000) (hbase : base ≤ w.heap.size)
    (h : ∀ v' w', w'.ownsRow base e 1 v' (n + m) (xs ++ bvs (List.replicate m 0)) → w.grownBy w' v.ownBlock → wpList P ops Q rest (a.put o.dst v') w') : wpList P ops Q (o :: rest) a w :=
  wpList_plain hgd fun _ hK => wp_append_zeros w s x t k u ho base e i ht hk hu hi hz hsize hby v n xs hs hown m hx hm hbase fun v' w' h2 h3 => hK _ _ (h v' w' h2 h3)
/-- bytes that are made -/
theorem made_u8 (m : Nat) : madeCells (Value.int .u8 0).cells m = (bvs (List.replicate m 0)).toArray := by
  apply Array.ext'
  apply List.ext_getElem
  · simp [madeCells, bvs]
  · intro j h1 h2
    simp [madeCells, Value.cells, bvs, Nat.mod_one]
end
end Go.Proofs.YtckihiiimomgfaaDoor

namespace Go.Proofs.YtckihiiimomgfaaDoor
open Go.RowKit
set_option maxHeartbeats 400000 in
theorem clone_any (A : Option Addr) (c : Nat) (l : List UInt8) (w : World) (hl : l.length ≤ 140737488355328) (hr : Bs w A l) :
    Calls Tryd.prog 64 #[.slice A l.length c] w fun e w' => ∃ v, e = .returned v ∧ w'.ownsRow w.heap.size 5 1 v l.length (bvs l) ∧ Below w.heap.size w w' := by
  obtain ⟨i0, hi0, hz0, hz1, hz2⟩ := info_parts info_u8
  have heq := fun W n c => Lib.run_eql_slice_nil (P := Tryd.prog) W 29 5 A n c 0 0 Tryd.underlying29
  cases A with
  | none =>
    obtain rfl : l = [] := by
      cases l with
      | nil => rfl
      | cons a l => obtain ⟨ad, h, _⟩ := hr 0 a rfl; cases h
    go_enter Tryd.func64, Tryd.ntmps64
    go_wp2
    go_ret
    exact ⟨_, rfl, World.ownsRow_nil _ _ _ _, Below.refl _ _⟩
  | some ad =>
    go_enter Tryd.func64, Tryd.ntmps64
    go_wp2_with (at_builtin; refine wpList_append_bs _ rfl _ _ 29 rfl w.heap.size 5 i0 (.int .u8 0) Tryd.underlying29 hi0 hz0 hz1 hz2 rfl (.slice (some ⟨w.heap.size, 0, none⟩) 0 0) [] rfl ?_ (some ad) c l.length l rfl rfl (hr.alloc _) ?_ ?_ ?_)
    · exact ⟨rfl, .inr ⟨w.heap.size, 0, #[], rfl, Nat.le_refl _, heap_alloc_new w _, Nat.le_refl _, Nat.zero_le _, rfl, rfl⟩⟩
    · simpa using hl
    · simp
    · intro v1 w1 hown1 hg1 _
      go_wp2
      go_ret
      refine ⟨v1, rfl, by simpa using hown1, ((Below.refl _ _).alloc (Nat.le_refl _) _).grown hg1 (by simp) ?_⟩
      intro k hk
      simp [Value.ownBlock] at hk
      omega
end Go.Proofs.YtckihiiimomgfaaDoor
