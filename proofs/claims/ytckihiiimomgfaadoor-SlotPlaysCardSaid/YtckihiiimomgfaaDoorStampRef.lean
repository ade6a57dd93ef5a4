/- The contracts of the document's parts as sectors: Is, number, value, Same. -/
import Derived.Test.YtckihiiimomgfaaDoorGStamp
import Derived.Test.YtckihiiimomgfaaDoorGMem
namespace Go.Proofs.YtckihiiimomgfaaDoor
open Go.RowKit
set_option maxRecDepth 100000
set_option maxHeartbeats 2000000 in
theorem refIs_any (a b i t : Int) (A : Option Addr) (n c : Nat) (w : World) :
    Calls Tryd.prog 86 #[.agg #[.int .i64 a, .int .i64 b, .int .i64 i, .int .i64 t, .slice A n c]] w fun e w' => e = .returned (.bool (rightN a b i t n)) ∧ Below w.heap.size w w' := by
  by_cases h1 : 0 ≤ a
  · by_cases h2 : a ≤ 4294967295
    · by_cases h3 : 0 ≤ b
      · by_cases h4 : b ≤ 4294967295
        · by_cases h5 : 1 ≤ t
          · by_cases h6 : t ≤ 65535
            · by_cases h7 : 0 ≤ i
              · by_cases h8 : i < t
                · by_cases h9 : n ≤ 38
                  · have hr : rightN a b i t n = true := decide_eq_true ⟨h1, h2, h3, h4, h5, h6, h7, h8, h9⟩
                    have HR := Lib.hid hr
                    clear hr
                    go_enter Tryd.func86, Tryd.ntmps86
                    go_wp2
                    go_ret
                    exact ⟨ret_bool (by rw [HR.out]; simp; omega), below_alloc _ _⟩
                  · have hr : rightN a b i t n = false := decide_eq_false (by omega)
                    have HR := Lib.hid hr
                    clear hr
                    go_enter Tryd.func86, Tryd.ntmps86
                    go_wp2
                    go_ret
                    exact ⟨ret_bool (by rw [HR.out]; simp; omega), below_alloc _ _⟩
                · have hr : rightN a b i t n = false := decide_eq_false (by omega)
                  have HR := Lib.hid hr
                  clear hr
                  go_enter Tryd.func86, Tryd.ntmps86
                  go_wp2
                  go_ret
                  exact ⟨ret_bool HR.out.symm, below_alloc _ _⟩
              · have hr : rightN a b i t n = false := decide_eq_false (by omega)
                have HR := Lib.hid hr
                clear hr
                go_enter Tryd.func86, Tryd.ntmps86
                go_wp2
                go_ret
                exact ⟨ret_bool HR.out.symm, below_alloc _ _⟩
            · have hr : rightN a b i t n = false := decide_eq_false (by omega)
              have HR := Lib.hid hr
              clear hr
              go_enter Tryd.func86, Tryd.ntmps86
              go_wp2
              go_ret
              exact ⟨ret_bool HR.out.symm, below_alloc _ _⟩
          · have hr : rightN a b i t n = false := decide_eq_false (by omega)
            have HR := Lib.hid hr
            clear hr
            go_enter Tryd.func86, Tryd.ntmps86
            go_wp2
            go_ret
            exact ⟨ret_bool HR.out.symm, below_alloc _ _⟩
        · have hr : rightN a b i t n = false := decide_eq_false (by omega)
          have HR := Lib.hid hr
          clear hr
          go_enter Tryd.func86, Tryd.ntmps86
          go_wp2
          go_ret
          exact ⟨ret_bool HR.out.symm, below_alloc _ _⟩
      · have hr : rightN a b i t n = false := decide_eq_false (by omega)
        have HR := Lib.hid hr
        clear hr
        go_enter Tryd.func86, Tryd.ntmps86
        go_wp2
        go_ret
        exact ⟨ret_bool HR.out.symm, below_alloc _ _⟩
    · have hr : rightN a b i t n = false := decide_eq_false (by omega)
      have HR := Lib.hid hr
      clear hr
      go_enter Tryd.func86, Tryd.ntmps86
      go_wp2
      go_ret
      exact ⟨ret_bool HR.out.symm, below_alloc _ _⟩
  · have hr : rightN a b i t n = false := decide_eq_false (by omega)
    have HR := Lib.hid hr
    clear hr
    go_enter Tryd.func86, Tryd.ntmps86
    go_wp2
    go_ret
    exact ⟨ret_bool HR.out.symm, below_alloc _ _⟩
def ValRel (l : List UInt8) (x i : Value) : Prop := ∃ k : Nat, k ≤ l.length ∧ i = .int .i64 (k : Nat) ∧ x = .int .i64 (StampMath.ofBe (l.take k) : Nat)
set_option maxHeartbeats 400000 in
theorem refValue_any (A : Option Addr) (c : Nat) (l : List UInt8) (w : World) (hl : l.length ≤ 4) (hr : Bs w A l) :
    Calls Tryd.prog 100 #[.slice A l.length c] w fun e w' => e = .returned (.int .i64 (StampMath.ofBe l : Nat)) ∧ w = w' := by
  go_enter Tryd.func100, Tryd.ntmps100
  go_wp2_with fail
  go_loop [3, 4] (fun x i => ValRel l x i) (fun _ i => l.length - (intOf i).toNat)
  case atStart => exact ⟨0, Nat.zero_le _, rfl, rfl⟩
  case round =>
    obtain ⟨k, hk, rfl, rfl⟩ := hrel
    by_cases hlt : k < l.length
    · have hx : StampMath.ofBe (l.take k) < 16777216 := by
        have h1 := StampMath.ofBe_lt (l.take k)
        have h2 : (l.take k).length ≤ 3 := by rw [List.length_take]; omega
        have h3 : 256 ^ (l.take k).length ≤ 256 ^ 3 := Nat.pow_le_pow_right (by decide) h2
        omega
      generalize hX : StampMath.ofBe (l.take k) = x at hx
      have HX := Lib.hid hX
      clear hX
      obtain ⟨ad, rfl, _, hca⟩ := hr.at_ hlt
      have HR := Lib.hid hr
      clear hr
      generalize hC : l[k] = b at hca
      have HC := Lib.hid hC
      clear hC
      have hb := b.toNat_lt
      go_wp2_with fail
      go_round
      case rel =>
        refine ⟨k + 1, by omega, by go_num, ?_⟩
        rw [List.take_succ_eq_append_getElem hlt, StampMath.ofBe_snoc, HX.out, HC.out]
        go_num
      case measure => simp [intOf]; omega
    · go_wp2_with fail
      go_ret
      exact ⟨ret_int' (by rw [List.take_of_length_le (by omega)]), rfl⟩
def NumRel (x n : Nat) (w : World) (o i : Value) (wr : World) : Prop :=
  ∃ j : Nat, j ≤ n ∧ i = .int .i64 ((j : Int) - 1) ∧ wr.ownsRow w.heap.size 5 1 o (n - j) (bvs ((StampMath.be n x).take (n - j))) ∧ Below w.heap.size w wr
theorem num_byte (x m : Nat) : (#[.int .u8 ((x : Int) / 2 ^ (8 * m) % 256)] : Array Value) = (bvs [UInt8.ofNat (x / 256 ^ m)]).toArray := by
  have e0 : (256 : Nat) ^ m = 2 ^ (8 * m) := by rw [Nat.pow_mul]
  have e : (x : Int) / 2 ^ (8 * m) % 256 = ((x / 2 ^ (8 * m) % 256 : Nat) : Int) := by simp
  simp only [bvs, List.map_cons, List.map_nil, UInt8.toNat_ofNat', e, e0]
set_option maxHeartbeats 400000 in
theorem refNumber_any (x n : Nat) (w : World) (hn : n ≤ 4) (_hx : x ≤ 4294967295) :
    Calls Tryd.prog 87 #[.int .i64 (x : Nat), .int .i64 (n : Nat)] w fun e w' => ∃ v, e = .returned v ∧ w'.ownsRow w.heap.size 5 1 v n (bvs (StampMath.be n x)) ∧ Below w.heap.size w w' := by
  obtain ⟨i0, hi0, hz0, hz1, hz2⟩ := info_parts info_u8
  go_enter Tryd.func87, Tryd.ntmps87
  go_wp2_with fail
  go_loopw [5, 6] (fun o i wr => NumRel x n w o i wr) (fun _ i _ => (intOf i + 1).toNat)
  case atStart => exact ⟨n, Nat.le_refl _, by go_num, by rw [Nat.sub_self]; exact World.ownsRow_nil _ _ _ _, Below.refl _ _⟩
  case round =>
    obtain ⟨j, hj, rfl, hown, hbr⟩ := hrel
    by_cases hlt : 0 < j
    · obtain ⟨m, rfl⟩ : ∃ m, j = m + 1 := ⟨j - 1, by omega⟩
      have e1 : ((m + 1 : Nat) : Int) - 1 = (m : Int) := by omega
      rw [e1]
      clear e1
      have hlen : (bvs ((StampMath.be n x).take (n - (m + 1)))).length = n - (m + 1) := by rw [bvs_length, List.length_take, StampMath.be_length]; omega
      have hown' : wr.ownsRow w.heap.size 5 1 u5 (bvs ((StampMath.be n x).take (n - (m + 1)))).length (bvs ((StampMath.be n x).take (n - (m + 1)))) := by rw [hlen]; exact hown
      obtain ⟨xs, hxs⟩ : ∃ xs, bvs ((StampMath.be n x).take (n - (m + 1))) = xs := ⟨_, rfl⟩
      rw [hxs] at hown' hlen
      have HO := Lib.hid hown'
      have HX := Lib.hid hxs
      have HL := Lib.hid hlen
      clear hown hown' hlen hxs
      go_wp2_with (at_builtin; refine wpList_append_bs _ rfl _ _ 29 rfl w.heap.size 5 i0 (.int .u8 0) Tryd.underlying29 hi0 hz0 hz1 hz2 rfl u5 xs rfl (HO.out.alloc _) (some ⟨wr.heap.size, 0, none⟩) 1 1 [UInt8.ofNat (x / 256 ^ m)] rfl rfl ?c1 ?c2 ?c3 ?_)
      case c1 => exact Bs.lit wr _ _ _ _ (num_byte x m)
      case c2 => have := HL.out; simp; omega
      case c3 => have := hbr.size; simp; omega
      intro v1 w1 hown1 hg1 _
      have hbr1 : Below w.heap.size w w1 := (hbr.alloc (by have := hbr.size; omega) _).grown hg1 (by have := hbr.size; simp; omega) (fun g hg => ((HO.out.alloc (.cells #[] 0)).lt g hg).1)
      have HO1 := Lib.hid hown1
      clear hown1 hg1
      go_wp2_with fail
      go_roundw
      case rel =>
        refine ⟨m, by omega, by go_num, ?_, hbr1⟩
        have h := HO1.out
        have hb := be_get n x (n - (m + 1)) (by omega)
        have e2 : n - 1 - (n - (m + 1)) = m := by omega
        rw [e2] at hb
        obtain ⟨hlt', hb⟩ := List.getElem?_eq_some_iff.1 hb
        have e3 : n - m = n - (m + 1) + 1 := by omega
        rw [e3, List.take_succ_eq_append_getElem hlt', hb, bvs_append, HX.out]
        have hl := HL.out
        rw [hl] at h
        exact h
      case measure => simp [intOf]
    · go_wp2_with fail
      go_ret
      obtain rfl : j = 0 := by omega
      refine ⟨_, rfl, ?_, hbr⟩
      rw [Nat.sub_zero, List.take_of_length_le (by rw [StampMath.be_length]; omega)] at hown
      exact hown
end Go.Proofs.YtckihiiimomgfaaDoor
