/- The contracts of the document's parts as sectors: Lay. -/
import Derived.Test.YtckihiiimomgfaaDoorStampRef
namespace Go.Proofs.YtckihiiimomgfaaDoor
open Go.RowKit
set_option maxRecDepth 100000
/-- the document's Lay: the boxed part, and the bytes that are being made -/
structure RLay (w wk : World) (box : Array Value) (v : Value) (l : List UInt8) : Prop where
  own : wk.ownsRow (w.heap.size + 1) 5 1 v l.length (bvs l)
  bel : Below (w.heap.size + 1) (w.alloc (.cells box 114)) wk
theorem RLay.size {w wk : World} {box : Array Value} {v : Value} {l : List UInt8} (h : RLay w wk box v l) : w.heap.size + 1 ≤ wk.heap.size := by have := h.bel.size; simpa using this
theorem RLay.call {w wk wl : World} {box : Array Value} {v : Value} {l : List UInt8} (h : RLay w wk box v l) (hb : Below wk.heap.size wk wl) : RLay w wl box v l :=
  ⟨own_below h.own hb, h.bel.trans (hb.mono h.size)⟩
theorem RLay.app {w wk wl : World} {box : Array Value} {v v' : Value} {l m : List UInt8} (h : RLay w wk box v l) (ho : wl.ownsRow (w.heap.size + 1) 5 1 v' ((bvs l).length + m.length) (bvs l ++ bvs m)) (hg : wk.grownBy wl v.ownBlock) : RLay w wl box v' (l ++ m) :=
  ⟨by rw [← bvs_append, bvs_length] at ho; rw [List.length_append]; exact ho, h.bel.grown hg h.size (fun g hg => (h.own.lt g hg).1)⟩
theorem RLay.cell {w wk : World} {box : Array Value} {v : Value} {l : List UInt8} (h : RLay w wk box v l) (j : Nat) : wk.cell? ⟨w.heap.size, j, none⟩ = box[j]? := box_cell h.bel (by omega) j
theorem RLay.own' {w wk : World} {box : Array Value} {v : Value} {l : List UInt8} (h : RLay w wk box v l) : wk.ownsRow (w.heap.size + 1) 5 1 v (bvs l).length (bvs l) := by rw [bvs_length]; exact h.own
theorem RLay.below {w wk : World} {box : Array Value} {v : Value} {l : List UInt8} (h : RLay w wk box v l) : Below w.heap.size w wk := (below_alloc w _).trans (h.bel.mono (by omega))
theorem RLay.alloc {w wk : World} {box : Array Value} {v : Value} {l : List UInt8} (h : RLay w wk box v l) (o : Obj) : RLay w (wk.alloc o) box v l := h.call (below_alloc _ _)
/-- another row of the call's own is appended to -/
theorem RLay.far {w wk wl : World} {box : Array Value} {v : Value} {l : List UInt8} {row : Option Nat} (h : RLay w wk box v l) (hg : wk.grownBy wl row) (hr : ∀ g, row = some g → w.heap.size + 1 ≤ g) (hne : ∀ g, v.ownBlock = some g → row ≠ some g) : RLay w wl box v l :=
  ⟨h.own.kept hg (by cases hv : v.ownBlock with
    | none => exact .inl rfl
    | some g => exact .inr (fun e => hne g hv e.symm)), h.bel.grown hg h.size hr⟩

def sliceLen : Value → Nat
  | .slice _ n _ => n
  | _ => 0
def RLayRel (w : World) (box : Array Value) (l : List UInt8) (o : Value) (wr : World) : Prop := ∃ k : Nat, k ≤ 56 - l.length ∧ RLay w wr box o (l ++ List.replicate k 0)
set_option maxHeartbeats 400000 in
theorem refLay_bad (p : StampMath.Part) (A : Option Addr) (c : Nat) (w : World) (hp : ¬ StampMath.right p) :
    Calls Tryd.prog 59 #[.agg #[.int .i64 p.epoch, .int .i64 p.seq, .int .i64 p.index, .int .i64 p.total, .slice A p.data.length c]] w fun e w' =>
      e = .returned (.tuple #[.slice none 0 0, .int .i64 2]) ∧ Below w.heap.size w w' := by
  have hrt : rightN p.epoch p.seq p.index p.total p.data.length = false := by rw [rightN_eq]; exact decide_eq_false hp
  obtain ⟨a, b, i, t, da⟩ := p
  simp only at *
  have HRT := Lib.hid hrt
  clear hrt hp
  go_enter Tryd.func59, Tryd.ntmps59
  go_wp2_with fail
  refine (refIs_any a b i t A da.length c _).mono ?_
  rintro e w1 ⟨rfl, hb1⟩
  rw [HRT.out]
  have hb01 : Below w.heap.size w w1 := below_then (below_alloc w _) hb1
  clear hb1
  go_wp2_with fail
  go_ret2
  exact ⟨rfl, hb01⟩
set_option maxHeartbeats 2000000 in
theorem refLay_ok (p : StampMath.Part) (A : Option Addr) (c : Nat) (w : World) (hp : StampMath.right p) (hr : Bs w A p.data) :
    Calls Tryd.prog 59 #[.agg #[.int .i64 p.epoch, .int .i64 p.seq, .int .i64 p.index, .int .i64 p.total, .slice A p.data.length c]] w fun e w' =>
      ∃ v, e = .returned (.tuple #[v, .int .i64 0]) ∧ w'.ownsRow w.heap.size 5 1 v 64 (bvs (StampMath.lay p)) ∧ Below w.heap.size w w' := by
  obtain ⟨i0, hi0, hz0, hz1, hz2⟩ := info_parts info_u8
  have hrt : rightN p.epoch p.seq p.index p.total p.data.length = true := by rw [rightN_eq]; exact decide_eq_true hp
  obtain ⟨h1, h2, h3, h4, h5, h6, h7, h8, h9⟩ := hp
  obtain ⟨ep, sq, ix, tot, da⟩ := p
  simp only at *
  obtain ⟨a, rfl⟩ := Int.eq_ofNat_of_zero_le h1
  obtain ⟨b, rfl⟩ := Int.eq_ofNat_of_zero_le h3
  obtain ⟨t, rfl⟩ := Int.eq_ofNat_of_zero_le (show 0 ≤ tot by omega)
  obtain ⟨i, rfl⟩ := Int.eq_ofNat_of_zero_le h7
  have HRT := Lib.hid hrt
  clear hrt
  go_enter Tryd.func59, Tryd.ntmps59
  go_wp2_with fail
  refine (refIs_any (a : Int) (b : Int) (i : Int) (t : Int) A da.length c _).mono ?_
  rintro e w0 ⟨rfl, hb0⟩
  rw [HRT.out]
  have hI0 : RLay w w0 #[.int .i64 (a : Int), .int .i64 (b : Int), .int .i64 (i : Int), .int .i64 (t : Int), .slice A da.length c] (.slice none 0 0) [] := ⟨World.ownsRow_nil _ _ _ _, by simpa using hb0⟩
  have HI0 := Lib.hid hI0
  clear hI0 hb0
  have k0 : w0.cell? ⟨w.heap.size, 0, none⟩ = some (.int .i64 (a : Int)) := HI0.out.cell 0
  go_wp2_with fail
  clear k0
  refine (refNumber_any a 4 w0 (by decide) (by omega)).mono ?_
  rintro e w1 ⟨v1, rfl, hown, hb⟩
  have hI : RLay w w1 #[.int .i64 (a : Int), .int .i64 (b : Int), .int .i64 (i : Int), .int .i64 (t : Int), .slice A da.length c] v1 (StampMath.be 4 a) :=
    ⟨by rw [StampMath.be_length]; exact own_base hown HI0.out.size, (HI0.out.call hb).bel⟩
  obtain ⟨L1, hL⟩ : ∃ L, StampMath.be 4 a = L := ⟨_, rfl⟩
  rw [hL] at hI
  have hll : L1.length = 4 := by rw [← hL]; exact StampMath.be_length 4 a
  have HI1 := Lib.hid hI
  have HL1 := Lib.hid hL
  have HN1 := Lib.hid hll
  clear hI hL hll hown hb HI0

  have k : w1.cell? ⟨w.heap.size, 1, none⟩ = some (.int .i64 (b : Int)) := HI1.out.cell 1
  go_wp2_with fail
  clear k
  refine (refNumber_any b 4 w1 (by decide) (by omega)).mono ?_
  rintro e y1 ⟨x1, rfl, hown, hb⟩
  obtain ⟨X1, d1, rfl, _⟩ := own_shape hown
  have hs1 := Bs.of_own hown
  have HJ1 := Lib.hid (HI1.out.call hb)
  clear hown hb
  go_wp2_with (at_builtin; refine wpList_append_bs _ rfl _ _ 29 rfl (w.heap.size + 1) 5 i0 (.int .u8 0) Tryd.underlying29 hi0 hz0 hz1 hz2 rfl v1 (bvs L1) rfl HJ1.out.own' X1 d1 4 (StampMath.be 4 b) (StampMath.be_length 4 b).symm rfl hs1 ?c1 HJ1.out.size ?_)
  case c1 => rw [bvs_length, HN1.out]; (try simp [StampMath.be_length]); try omega
  intro v2 w2 hown hg _
  have hI := HJ1.out.app hown hg
  clear hown hg HJ1 HI1
  obtain ⟨L2, hL⟩ : ∃ L, L1 ++ StampMath.be 4 b = L := ⟨_, rfl⟩
  rw [hL] at hI
  have hll : L2.length = 8 := by rw [← hL]; rw [List.length_append, HN1.out, StampMath.be_length]
  have HI2 := Lib.hid hI
  have HL2 := Lib.hid hL
  have HN2 := Lib.hid hll
  clear hI hL hll
  have k : w2.cell? ⟨w.heap.size, 2, none⟩ = some (.int .i64 (i : Int)) := HI2.out.cell 2
  go_wp2_with fail
  clear k
  refine (refNumber_any i 2 w2 (by decide) (by omega)).mono ?_
  rintro e y2 ⟨x2, rfl, hown, hb⟩
  obtain ⟨X2, d2, rfl, _⟩ := own_shape hown
  have hs2 := Bs.of_own hown
  have HJ2 := Lib.hid (HI2.out.call hb)
  clear hown hb
  go_wp2_with (at_builtin; refine wpList_append_bs _ rfl _ _ 29 rfl (w.heap.size + 1) 5 i0 (.int .u8 0) Tryd.underlying29 hi0 hz0 hz1 hz2 rfl v2 (bvs L2) rfl HJ2.out.own' X2 d2 2 (StampMath.be 2 i) (StampMath.be_length 2 i).symm rfl hs2 ?c2 HJ2.out.size ?_)
  case c2 => rw [bvs_length, HN2.out]; (try simp [StampMath.be_length]); try omega
  intro v3 w3 hown hg _
  have hI := HJ2.out.app hown hg
  clear hown hg HJ2 HI2
  obtain ⟨L3, hL⟩ : ∃ L, L2 ++ StampMath.be 2 i = L := ⟨_, rfl⟩
  rw [hL] at hI
  have hll : L3.length = 10 := by rw [← hL]; rw [List.length_append, HN2.out, StampMath.be_length]
  have HI3 := Lib.hid hI
  have HL3 := Lib.hid hL
  have HN3 := Lib.hid hll
  clear hI hL hll
  have k : w3.cell? ⟨w.heap.size, 3, none⟩ = some (.int .i64 (t : Int)) := HI3.out.cell 3
  go_wp2_with fail
  clear k
  refine (refNumber_any t 2 w3 (by decide) (by omega)).mono ?_
  rintro e y3 ⟨x3, rfl, hown, hb⟩
  obtain ⟨X3, d3, rfl, _⟩ := own_shape hown
  have hs3 := Bs.of_own hown
  have HJ3 := Lib.hid (HI3.out.call hb)
  clear hown hb
  go_wp2_with (at_builtin; refine wpList_append_bs _ rfl _ _ 29 rfl (w.heap.size + 1) 5 i0 (.int .u8 0) Tryd.underlying29 hi0 hz0 hz1 hz2 rfl v3 (bvs L3) rfl HJ3.out.own' X3 d3 2 (StampMath.be 2 t) (StampMath.be_length 2 t).symm rfl hs3 ?c3 HJ3.out.size ?_)
  case c3 => rw [bvs_length, HN3.out]; (try simp [StampMath.be_length]); try omega
  intro v4 w4 hown hg _
  have hI := HJ3.out.app hown hg
  clear hown hg HJ3 HI3
  obtain ⟨L4, hL⟩ : ∃ L, L3 ++ StampMath.be 2 t = L := ⟨_, rfl⟩
  rw [hL] at hI
  have hll : L4.length = 12 := by rw [← hL]; rw [List.length_append, HN3.out, StampMath.be_length]
  have HI4 := Lib.hid hI
  have HL4 := Lib.hid hL
  have HN4 := Lib.hid hll
  clear hI hL hll
  have k : w4.cell? ⟨w.heap.size, 4, none⟩ = some (.slice A da.length c) := HI4.out.cell 4
  go_wp2_with fail
  clear k
  refine (refNumber_any da.length 2 w4 (by decide) (by omega)).mono ?_
  rintro e y4 ⟨x4, rfl, hown, hb⟩
  obtain ⟨X4, d4, rfl, _⟩ := own_shape hown
  have hs4 := Bs.of_own hown
  have HJ4 := Lib.hid (HI4.out.call hb)
  clear hown hb
  go_wp2_with (at_builtin; refine wpList_append_bs _ rfl _ _ 29 rfl (w.heap.size + 1) 5 i0 (.int .u8 0) Tryd.underlying29 hi0 hz0 hz1 hz2 rfl v4 (bvs L4) rfl HJ4.out.own' X4 d4 2 (StampMath.be 2 da.length) (StampMath.be_length 2 da.length).symm rfl hs4 ?c4 HJ4.out.size ?_)
  case c4 => rw [bvs_length, HN4.out]; (try simp [StampMath.be_length]); try omega
  intro v5 w5 hown hg _
  have hI := HJ4.out.app hown hg
  clear hown hg HJ4 HI4
  obtain ⟨L5, hL⟩ : ∃ L, L4 ++ StampMath.be 2 da.length = L := ⟨_, rfl⟩
  rw [hL] at hI
  have hll : L5.length = 14 := by rw [← hL]; rw [List.length_append, HN4.out, StampMath.be_length]
  have HI5 := Lib.hid hI
  have HL5 := Lib.hid hL
  have HN5 := Lib.hid hll
  clear hI hL hll
  obtain ⟨O5, o5, rfl, _⟩ := own_shape HI5.out.own
  have hs5 := Bs.of_own HI5.out.own
  go_wp2_with fail
  refine (copy_any O5 o5 L5 w5 (by have := HN5.out; omega) hs5).mono ?_
  rintro e z5 ⟨va, rfl, hown, hb⟩
  have HJ5 := Lib.hid (HI5.out.call hb)
  have hown' : z5.ownsRow w5.heap.size 5 1 va (bvs L5).length (bvs L5) := by rw [bvs_length]; exact hown
  have HA := Lib.hid hown'
  have hz5 := hb.size
  have hrz : Bs z5 A da := by have := hr.below HJ5.out.below; exact this
  have hlt5 : ∀ g, (Value.slice O5 L5.length o5).ownBlock = some g → g < w5.heap.size := fun g hg => (HI5.out.own.lt g hg).2
  have HLT := Lib.hid hlt5
  clear hown hown' hb hs5 hlt5
  have k : z5.cell? ⟨w.heap.size, 4, none⟩ = some (.slice A da.length c) := HJ5.out.cell 4
  go_wp2_with (at_builtin; refine wpList_append_bs _ rfl _ _ 29 rfl w5.heap.size 5 i0 (.int .u8 0) Tryd.underlying29 hi0 hz0 hz1 hz2 rfl va (bvs L5) rfl HA.out A c da.length da rfl rfl hrz ?call hz5 ?_)
  case call => rw [bvs_length, HN5.out]; omega
  clear k
  intro vb q5 hown hg _
  have hrow : ∀ g, va.ownBlock = some g → w5.heap.size ≤ g := fun g hg => (HA.out.lt g hg).1
  have HK5 := Lib.hid (HJ5.out.far hg (fun g hg => by have := hrow g hg; have := HI5.out.size; omega) (fun g hg he => by have := hrow g he; have := HLT.out g hg; omega))
  have hown2 : q5.ownsRow w5.heap.size 5 1 vb (L5 ++ da).length (bvs (L5 ++ da)) := by rw [List.length_append, bvs_append]; rw [bvs_length] at hown; exact hown
  obtain ⟨M, hM⟩ : ∃ M, L5 ++ da = M := ⟨_, rfl⟩
  rw [hM] at hown2
  have hml : M.length = 14 + da.length := by rw [← hM, List.length_append, HN5.out]
  have HM := Lib.hid hM
  have HML := Lib.hid hml
  obtain ⟨M1, m1, rfl, _⟩ := own_shape hown2
  have hsM := Bs.of_own hown2
  clear hown hown2 hg hM hml HA HJ5 HI5 hrow HLT hz5 hrz
  go_wp2_with fail
  refine (refAdd_any 0 M1 m1 M q5 (by decide) (by have := HML.out; omega) hsM).mono ?_
  rintro e w' ⟨rfl, rfl⟩
  have hcl := CrcMath.add_lt M (s := 0) (by decide)
  obtain ⟨cr, hcr⟩ : ∃ x, CrcMath.add 0 M = x := ⟨_, rfl⟩
  rw [hcr] at hcl ⊢
  have HCR := Lib.hid hcr
  clear hcr hsM
  go_wp2_with fail
  refine (refNumber_any cr 4 q5 (by decide) (by omega)).mono ?_
  rintro e p5 ⟨x5, rfl, hown, hb⟩
  obtain ⟨X5, d5, rfl, _⟩ := own_shape hown
  have hs5 := Bs.of_own hown
  have HJ5 := Lib.hid (HK5.out.call hb)
  have HI5 := HK5
  clear hown hb HK5
  go_wp2_with (at_builtin; refine wpList_append_bs _ rfl _ _ 29 rfl (w.heap.size + 1) 5 i0 (.int .u8 0) Tryd.underlying29 hi0 hz0 hz1 hz2 rfl (.slice O5 L5.length o5) (bvs L5) rfl HJ5.out.own' X5 d5 4 (StampMath.be 4 cr) (StampMath.be_length 4 cr).symm rfl hs5 ?c5 HJ5.out.size ?_)
  case c5 => rw [bvs_length, HN5.out]; (try simp [StampMath.be_length]); try omega
  intro v6 w6 hown hg _
  have hI := HJ5.out.app hown hg
  clear hown hg HJ5 HI5
  obtain ⟨L6, hL⟩ : ∃ L, L5 ++ StampMath.be 4 cr = L := ⟨_, rfl⟩
  rw [hL] at hI
  have hll : L6.length = 18 := by rw [← hL]; rw [List.length_append, HN5.out, StampMath.be_length]
  have HI6 := Lib.hid hI
  have HL6 := Lib.hid hL
  have HN6 := Lib.hid hll
  clear hI hL hll
  have k : w6.cell? ⟨w.heap.size, 4, none⟩ = some (.slice A da.length c) := HI6.out.cell 4
  have HJ6 := HI6
  have hs6 : Bs w6 A da := hr.below HI6.out.below
  go_wp2_with (at_builtin; refine wpList_append_bs _ rfl _ _ 29 rfl (w.heap.size + 1) 5 i0 (.int .u8 0) Tryd.underlying29 hi0 hz0 hz1 hz2 rfl v6 (bvs L6) rfl HJ6.out.own' A c da.length (da) rfl rfl hs6 ?c6 HJ6.out.size ?_)
  case c6 => rw [bvs_length, HN6.out]; (try simp [StampMath.be_length]); try omega
  intro v7 w7 hown hg _
  have hI := HJ6.out.app hown hg
  clear hown hg HJ6 HI6
  clear k
  obtain ⟨L7, hL⟩ : ∃ L, L6 ++ da = L := ⟨_, rfl⟩
  rw [hL] at hI
  have hll : L7.length = 18 + da.length := by rw [← hL]; rw [List.length_append, HN6.out]
  have HI7 := Lib.hid hI
  have HL7 := Lib.hid hL
  have HN7 := Lib.hid hll
  clear hI hL hll
  go_wp2_with fail
  have HI7x := HI7
  have HL1x := HL1
  clear HL1 HI7
  go_loopw [4] (fun o wr => RLayRel w #[.int .i64 (a : Int), .int .i64 (b : Int), .int .i64 (i : Int), .int .i64 (t : Int), .slice A da.length c] L7 o wr) (fun o _ => 56 - sliceLen o)
  case atStart => exact ⟨0, Nat.zero_le _, by simpa using HI7x.out⟩
  case round =>
    obtain ⟨k, hk, hI⟩ := hrel
    clear HI7x
    obtain ⟨Lk, hLk⟩ : ∃ L, L7 ++ List.replicate k 0 = L := ⟨_, rfl⟩
    rw [hLk] at hI
    have hll : Lk.length = 18 + da.length + k := by rw [← hLk, List.length_append, HN7.out, List.length_replicate]
    obtain ⟨Ok, ok, rfl, _⟩ := own_shape hI.own
    have HIk := Lib.hid hI
    have HLk := Lib.hid hLk
    have hle : Lk.length ≤ 56 := by rw [hll]; have := HN7.out; omega
    have HNk := Lib.hid hll
    clear hI hLk hll
    by_cases hlt : Lk.length < 56
    · have HJk := Lib.hid (HIk.out.alloc (.cells #[.int .u8 0] 5))
      go_wp2_with (at_builtin; refine wpList_append_bs _ rfl _ _ 29 rfl (w.heap.size + 1) 5 i0 (.int .u8 0) Tryd.underlying29 hi0 hz0 hz1 hz2 rfl (.slice Ok Lk.length ok) (bvs Lk) rfl HJk.out.own' (some ⟨wr.heap.size, 0, none⟩) 1 1 [0] rfl rfl (Bs.lit wr [0] _ _ _ rfl) ?cl HJk.out.size ?_)
      case cl => rw [bvs_length]; simp; omega
      intro vk wk hown hg _
      have hI := HJk.out.app hown hg
      have HI := Lib.hid hI
      clear hown hg HJk hI HIk
      go_wp2_with fail
      have hsl : sliceLen vk = Lk.length + 1 := by
        obtain ⟨Q, q, e, _⟩ := own_shape HI.out.own
        rw [e]; simp [sliceLen]
      go_roundw
      case rel =>
        refine ⟨k + 1, by have := HNk.out; have := HN7.out; omega, ?_⟩
        have := HI.out
        rw [← HLk.out, List.append_assoc, show List.replicate k (0 : UInt8) ++ [0] = List.replicate (k + 1) 0 from (List.replicate_succ' ).symm] at this
        exact this
      case measure => rw [hsl]; simp [sliceLen]; omega
    · have hk56 : k = 38 - da.length := by have := HNk.out; omega
      have HK := Lib.hid hk56
      clear hk56
      have k0 : wr.cell? ⟨w.heap.size, 0, none⟩ = some (.int .i64 (a : Int)) := HIk.out.cell 0
      go_wp2_with fail
      clear k0
      refine (refNumber_any a 4 wr (by decide) (by omega)).mono ?_
      rintro e y8 ⟨x8, rfl, hown, hb⟩
      obtain ⟨X8, d8, rfl, _⟩ := own_shape hown
      have hs8 := Bs.of_own hown
      have HJ8 := Lib.hid (HIk.out.call hb)
      clear hown hb HIk
      go_wp2_with (at_builtin; refine wpList_append_bs _ rfl _ _ 29 rfl (w.heap.size + 1) 5 i0 (.int .u8 0) Tryd.underlying29 hi0 hz0 hz1 hz2 rfl (.slice Ok Lk.length ok) (bvs Lk) rfl HJ8.out.own' X8 d8 4 (StampMath.be 4 a) (StampMath.be_length 4 a).symm rfl hs8 ?c8 HJ8.out.size ?_)
      case c8 => rw [bvs_length, StampMath.be_length]; omega
      intro v9 w9 hown hg _
      have hI := HJ8.out.app hown hg
      obtain ⟨L9, hL⟩ : ∃ L, Lk ++ StampMath.be 4 a = L := ⟨_, rfl⟩
      rw [hL] at hI
      have hll : L9.length ≤ 60 := by rw [← hL, List.length_append, StampMath.be_length]; omega
      have HI9 := Lib.hid hI
      have HL9 := Lib.hid hL
      clear hI hL hown hg HJ8 hs8
      have k1 : w9.cell? ⟨w.heap.size, 1, none⟩ = some (.int .i64 (b : Int)) := HI9.out.cell 1
      go_wp2_with fail
      clear k1
      refine (refNumber_any b 4 w9 (by decide) (by omega)).mono ?_
      rintro e y9 ⟨x9, rfl, hown, hb⟩
      obtain ⟨X9, d9, rfl, _⟩ := own_shape hown
      have hs9 := Bs.of_own hown
      have HJ9 := Lib.hid (HI9.out.call hb)
      clear hown hb HI9
      go_wp2_with (at_builtin; refine wpList_append_bs _ rfl _ _ 29 rfl (w.heap.size + 1) 5 i0 (.int .u8 0) Tryd.underlying29 hi0 hz0 hz1 hz2 rfl v9 (bvs L9) rfl HJ9.out.own' X9 d9 4 (StampMath.be 4 b) (StampMath.be_length 4 b).symm rfl hs9 ?c9 HJ9.out.size ?_)
      case c9 => rw [bvs_length, StampMath.be_length]; omega
      intro v10 w10 hown hg _
      have hI := HJ9.out.app hown hg
      have HI := Lib.hid hI
      clear hown hg HJ9 hs9 hI
      go_wp2_with fail
      go_ret2
      have hfin : L9 ++ StampMath.be 4 b = StampMath.lay ⟨(a : Int), (b : Int), (i : Int), (t : Int), da⟩ := by
        have hh : L5 = StampMath.headOf ⟨(a : Int), (b : Int), (i : Int), (t : Int), da⟩ := by
          rw [← HL5.out, ← HL4.out, ← HL3.out, ← HL2.out, ← HL1x.out]; rfl
        rw [← HL9.out, ← HLk.out, ← HL7.out, ← HL6.out, ← HCR.out, ← HM.out, hh, HK.out]
        unfold StampMath.lay StampMath.stampOf
        simp
      have hlen : (L9 ++ StampMath.be 4 b).length = 64 := by rw [hfin]; exact StampMath.lay_length _ h9
      have hI := HI.out
      refine ⟨v10, rfl, ?_, hI.below⟩
      have ho := own_base hI.own (Nat.le_succ w.heap.size)
      rw [hlen, hfin] at ho
      exact ho
end Go.Proofs.YtckihiiimomgfaaDoor
