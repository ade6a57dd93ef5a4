/- The contracts of numbers as bytes: the program's Put and the document's. -/
import Derived.Test.YtmaemlmbhldmkaaDoorFoot
import Derived.Test.YtmaemlmbhldmkaaDoorWireMath
namespace Go.Proofs.YtmaemlmbhldmkaaDoor
open Go.RowKit
theorem wire_or (x : Nat) : bits .or .u8 ((x : Int) % 256) 128 = ((x % 128 + 128 : Nat) : Int) := by
  have h : ∀ n : Nat, n < 256 → bits .or .u8 (n : Int) 128 = ((n % 128 + 128 : Nat) : Int) := by decide +kernel
  have e : (x : Int) % 256 = ((x % 256 : Nat) : Int) := by omega
  rw [e, h _ (Nat.mod_lt _ (by decide))]
  congr 1
  omega
theorem byte_lit (n : Nat) (h : n < 256) : (#[.int .u8 (n : Int)] : Array Value) = (bvs [UInt8.ofNat n]).toArray := by
  simp only [bvs, List.map_cons, List.map_nil, UInt8.toNat_ofNat', Nat.mod_eq_of_lt h]
def PutLoop (x : Nat) (w : World) (y o : Value) (wr : World) : Prop :=
  ∃ (z : Nat) (l : List UInt8), z ≤ x ∧ y = .int .u64 (z : Nat) ∧ WireMath.put x = l ++ WireMath.put z ∧ wr.ownsRow w.heap.size 5 1 o l.length (bvs l) ∧ Below w.heap.size w wr
set_option maxRecDepth 100000 in
set_option maxHeartbeats 400000 in
theorem wirePut_any (x : Nat) (w : World) (hx : x < 18446744073709551616) :
    Calls Tryd.prog 31 #[.int .u64 (x : Nat)] w fun e w' => ∃ v, e = .returned v ∧ w'.ownsRow w.heap.size 5 1 v (WireMath.put x).length (bvs (WireMath.put x)) ∧ Below w.heap.size w w' := by
  obtain ⟨i0, hi0, hz0, hz1, hz2⟩ := info_parts info_u8
  have hpl := WireMath.put_le 9 x (by omega)
  have HX := Lib.hid hx
  clear hx
  go_enter Tryd.func31, Tryd.ntmps31
  go_wp2_with fail
  go_loopw [0, 3] (fun y o wr => PutLoop x w y o wr) (fun y _ _ => (intOf y).toNat)
  case atStart => exact ⟨x, [], Nat.le_refl _, rfl, by simp, World.ownsRow_nil _ _ _ _, Below.refl _ _⟩
  case round =>
    obtain ⟨z, l, hz, rfl, hput, hown, hbr⟩ := hrel
    have hll : l.length ≤ 10 := by
      have := congrArg List.length hput
      rw [List.length_append] at this
      omega
    have HP := Lib.hid hput
    have hown' : wr.ownsRow w.heap.size 5 1 u3 (bvs l).length (bvs l) := by rw [bvs_length]; exact hown
    have HO := Lib.hid hown'
    clear hput hown hown'
    have hs := hbr.size
    by_cases hlt : 128 ≤ z
    · have hor := wire_or z
      have hmod : z % 128 + 128 < 256 := by omega
      obtain ⟨q, hq⟩ : ∃ q, z % 128 + 128 = q := ⟨_, rfl⟩
      rw [hq] at hor hmod
      have HQ := Lib.hid hq
      clear hq
      go_wp2_with (at_builtin; refine wpList_append_bs _ rfl _ _ 31 rfl w.heap.size 5 i0 (.int .u8 0) Tryd.underlying31 hi0 hz0 hz1 hz2 rfl u3 (bvs l) rfl (HO.out.alloc _) (some ⟨wr.heap.size, 0, none⟩) 1 1 [UInt8.ofNat q] rfl rfl ?c1 ?c2 ?c3 ?_)
      case c1 => exact Bs.lit wr _ _ _ _ (byte_lit q hmod)
      case c2 => rw [bvs_length]; simp; omega
      case c3 => simp; omega
      intro v1 w1 hown1 hg1 _
      have hbr1 : Below w.heap.size w w1 := (hbr.alloc (by omega) _).grown hg1 (by simp; omega) (fun g hg => ((HO.out.alloc (.cells #[] 0)).lt g hg).1)
      have HO1 := Lib.hid hown1
      clear hown1 hg1 hor
      go_wp2_with fail
      go_roundw
      case rel =>
        refine ⟨z / 128, l ++ [UInt8.ofNat q], by omega, by go_num, ?_, ?_, hbr1⟩
        · rw [HP.out, WireMath.put_big (by omega), ← HQ.out]
          simp
        · have h := HO1.out
          rw [bvs_append, List.length_append]
          rw [bvs_length] at h
          exact h
      case measure => simp [intOf]; omega
    · have hzz : z % 256 = z := by omega
      go_wp2_with (at_builtin; refine wpList_append_bs _ rfl _ _ 31 rfl w.heap.size 5 i0 (.int .u8 0) Tryd.underlying31 hi0 hz0 hz1 hz2 rfl u3 (bvs l) rfl (HO.out.alloc _) (some ⟨wr.heap.size, 0, none⟩) 1 1 [UInt8.ofNat z] rfl rfl ?d1 ?d2 ?d3 ?_)
      case d1 => exact Bs.lit wr _ _ _ _ (byte_lit z (by omega))
      case d2 => rw [bvs_length]; simp; omega
      case d3 => simp; omega
      intro v1 w1 hown1 hg1 _
      have hbr1 : Below w.heap.size w w1 := (hbr.alloc (by omega) _).grown hg1 (by simp; omega) (fun g hg => ((HO.out.alloc (.cells #[] 0)).lt g hg).1)
      have HO1 := Lib.hid hown1
      clear hown1 hg1
      go_wp2_with fail
      go_ret
      refine ⟨v1, rfl, ?_, hbr1⟩
      have h := HO1.out
      rw [HP.out, WireMath.put_small (by omega), bvs_append, List.length_append]
      rw [bvs_length] at h
      exact h
theorem ref_add (x : Nat) : (128 + (x : Int) % 128) % 256 = ((x % 128 + 128 : Nat) : Int) := by omega
set_option maxRecDepth 100000 in
set_option maxHeartbeats 400000 in
theorem refPut_ind (k : Nat) : ∀ (x : Nat) (w : World), x < 128 ^ (k + 1) → x < 18446744073709551616 →
    Calls Tryd.prog 22 #[.int .u64 (x : Nat)] w fun e w' => ∃ v, e = .returned v ∧ w'.ownsRow w.heap.size 5 1 v (WireMath.put x).length (bvs (WireMath.put x)) ∧ Below w.heap.size w w' := by
  have hsmall : ∀ (x : Nat) (w : World), x < 128 → Calls Tryd.prog 22 #[.int .u64 (x : Nat)] w fun e w' => ∃ v, e = .returned v ∧ w'.ownsRow w.heap.size 5 1 v (WireMath.put x).length (bvs (WireMath.put x)) ∧ Below w.heap.size w w' := by
    intro x w hx
    have hb := byte_lit x (by omega)
    have HB := Lib.hid hb
    have HP := Lib.hid (WireMath.put_small hx)
    clear hb
    go_enter Tryd.func22, Tryd.ntmps22
    go_wp2_with fail
    go_ret
    refine ⟨_, rfl, ?_, below_alloc _ _⟩
    rw [HP.out]
    rw [HB.out]
    exact World.ownsRow_lit (size := 1) (e := 5) w (bvs [UInt8.ofNat x]).toArray 1 (Nat.le_refl _) (by unfold maxLen; omega) (by simp [bvs])
  induction k with
  | zero => intro x w hx _; exact hsmall x w (by simpa using hx)
  | succ k ih =>
    intro x w hk hx
    by_cases h128 : x < 128
    · exact hsmall x w h128
    · have hpl := WireMath.put_le (k + 1) x hk
      have hp10 := WireMath.put_le 9 x (by omega)
      have hadd := ref_add x
      have hq256 : x % 128 + 128 < 256 := by omega
      have hpb := WireMath.put_big h128
      obtain ⟨q, hq⟩ : ∃ q, x % 128 + 128 = q := ⟨_, rfl⟩
      rw [hq] at hadd hq256 hpb
      have hih := ih (x / 128) (w.alloc (.cells (bvs [UInt8.ofNat q]).toArray 5)) (by rw [Nat.pow_succ] at hk; omega) (by omega)
      have hlit := byte_lit q hq256
      have hown0 := World.ownsRow_lit (size := 1) (e := 5) w (bvs [UInt8.ofNat q]).toArray 1 (Nat.le_refl w.heap.size) (by unfold maxLen; omega) (by simp [bvs])
      have hown1 : (w.alloc (.cells (bvs [UInt8.ofNat q]).toArray 5)).ownsRow w.heap.size 5 1 (.slice (some ⟨w.heap.size, 0, none⟩) 1 1) (bvs [UInt8.ofNat q]).length (bvs [UInt8.ofNat q]) := hown0
      have hcell : 128 + (x : Int) % 128 = (q : Int) := by omega
      have hdiv : IntKind.u64.wrap ((x : Int) / 128) = ((x / 128 : Nat) : Int) := by rw [IntKind.wrap_u64]; omega
      have HC := Lib.hid hcell
      have HD := Lib.hid hdiv
      clear hcell hdiv
      rw [← hlit] at hih hown1
      have HI := Lib.hid hih
      have HO := Lib.hid hown1
      have HPB := Lib.hid hpb
      clear hih hown0 hown1 ih hq hpb hlit hadd hk hx hsmall
      obtain ⟨i0, hi0, hz0, hz1, hz2⟩ := info_parts info_u8
      go_enter Tryd.func22, Tryd.ntmps22
      go_wp2_with fail
      rw [HD.out, HC.out]
      refine HI.out.mono ?_
      rintro e w1 ⟨v1, rfl, hown, hb⟩
      obtain ⟨A1, c1, rfl, _⟩ := own_shape hown
      have hs1 := Bs.of_own hown
      have HO1 := Lib.hid (own_below HO.out hb)
      have hbw := below_then (below_alloc w _) hb
      have hl1 : (WireMath.put (x / 128)).length ≤ 10 := by
        have := congrArg List.length HPB.out
        rw [List.length_cons] at this
        omega
      obtain ⟨L, hL⟩ : ∃ L, WireMath.put (x / 128) = L := ⟨_, rfl⟩
      rw [hL] at hs1 hl1 HPB ⊢
      have hz := hbw.size
      clear hown hb HO hL HI
      go_wp2_with (at_builtin; refine wpList_append_bs _ rfl _ _ 31 rfl w.heap.size 5 i0 (.int .u8 0) Tryd.underlying31 hi0 hz0 hz1 hz2 rfl (.slice (some ⟨w.heap.size, 0, none⟩) 1 1) (bvs [UInt8.ofNat q]) rfl HO1.out A1 c1 L.length L rfl rfl hs1 ?e2 hz ?_)
      case e2 => rw [bvs_length]; simp; omega
      intro v2 w2 hown2 hg2 _
      have HO2 := Lib.hid hown2
      have hb2 : Below w.heap.size w w2 := hbw.grown hg2 hz (fun g hg => (HO1.out.lt g hg).1)
      clear hown2 hg2
      go_wp2_with fail
      go_ret
      refine ⟨v2, rfl, ?_, hb2⟩
      have h := HO2.out
      rw [HPB.out]
      rw [bvs_length] at h
      have e : UInt8.ofNat q :: L = [UInt8.ofNat q] ++ L := rfl
      rw [e, bvs_append, List.length_append]
      exact h
theorem refPut_any (x : Nat) (w : World) (hx : x < 18446744073709551616) :
    Calls Tryd.prog 22 #[.int .u64 (x : Nat)] w fun e w' => ∃ v, e = .returned v ∧ w'.ownsRow w.heap.size 5 1 v (WireMath.put x).length (bvs (WireMath.put x)) ∧ Below w.heap.size w w' :=
  refPut_ind 9 x w (by omega) hx
end Go.Proofs.YtmaemlmbhldmkaaDoor
