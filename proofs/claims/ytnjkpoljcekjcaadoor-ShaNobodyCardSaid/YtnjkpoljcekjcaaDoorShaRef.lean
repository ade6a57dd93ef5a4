/- The contracts of the document's sum: its padding. -/
import Derived.Test.YtnjkpoljcekjcaaDoorShaNext
import Derived.Test.YtnjkpoljcekjcaaDoorPush
import Derived.Deep.DeepCutAuto
namespace Go.Proofs.YtnjkpoljcekjcaaDoor
open Go.RowKit
theorem own8_first {w : World} {base : Nat} {v : Value} {l : List UInt8} (h : w.ownsRow base 5 1 v (([] : List Value).length + l.length) ([] ++ bvs l)) : Own8 w base v l := by
  simp only [List.length_nil, Nat.zero_add, List.nil_append] at h
  exact h
def vlen : Value → Nat
  | .slice _ n _ => n
  | _ => 0
def PadZ (l : List UInt8) (w : World) (o : Value) (wr : World) : Prop :=
  ∃ k : Nat, k ≤ (119 - l.length % 64) % 64 ∧ Own8 wr w.heap.size o (l ++ (128 :: List.replicate k 0)) ∧ Below w.heap.size w wr
def padTop (k : Nat) : Nat := 72057594037927936 / 256 ^ k
theorem padTop_succ (k : Nat) : padTop k / 256 = padTop (k + 1) := by
  unfold padTop
  rw [Nat.div_div_eq_div_mul, ← Nat.pow_succ]
theorem padTop_is (k : Nat) (h : k < 8) : padTop k = 2 ^ (56 - 8 * k) := by
  have : ∀ k, k < 8 → padTop k = 2 ^ (56 - 8 * k) := by decide
  exact this k h
def PadN (n : Nat) (L : List UInt8) (w : World) (o t i : Value) (wr : World) : Prop :=
  ∃ k : Nat, k ≤ 8 ∧ i = .int .i64 (k : Nat) ∧ (∃ T : Nat, t = .int .u64 (T : Int) ∧ padTop k = T) ∧ Own8 wr w.heap.size o (L ++ (List.range k).map fun i => UInt8.ofNat (n * 8 / 2 ^ (56 - 8 * i))) ∧ Below w.heap.size w wr
set_option maxRecDepth 100000 in
set_option maxHeartbeats 1000000 in
theorem refPad_any (A : Option Addr) (n c : Nat) (l : List UInt8) (w : World) (hn : l.length = n) (hl : n ≤ 100000) (hr : Bs w A l) :
    Calls Tryd.prog 30 #[.slice A n c] w fun e w' => ∃ v, e = .returned v ∧ Own8 w' w.heap.size v (l ++ ShaMath.pad n) ∧ Below w.heap.size w w' := by
  obtain ⟨i0, hi0, hz0, hz1, hz2⟩ := info_parts info_u8
  have HN := Lib.hid hn
  clear hn
  go_enter Tryd.func30, Tryd.ntmps30
  go_wp2_with (first
    | (at_builtin; refine wpList_append_bs _ rfl (.tmp 7) (.tmp 8) 22 rfl w.heap.size 5 i0 (.int .u8 0) Tryd.underlying22 hi0 hz0 hz1 hz2 rfl (.slice none 0 0) [] rfl (World.ownsRow_nil _ _ _ _) A c n l HN.out.symm rfl hr (by simp; have := HN.out; omega) (Nat.le_refl _) ?_; intro v1 w1 hown1 hg1 _; have hb1 : Below w.heap.size w w1 := (Below.refl _ _).grown hg1 (Nat.le_refl _) (by simp [Value.ownBlock]); have ho1 : Own8 w1 w.heap.size v1 l := own8_first hown1; have HB1 := Lib.hid hb1; have HO1 := Lib.hid ho1; clear hown1 hg1 hb1 ho1)
    | (at_builtin; refine wpList_push8 rfl (.tmp 10) (.tmp 11) rfl w.heap.size _ l rfl HO1.out rfl _ 128 rfl rfl (by have := HN.out; omega) HB1.out.size ?_; intro v2 w2 ho2 hk2 _; have hb2 : Below w.heap.size w w2 := HB1.out.trans (hk2.below (B := w.heap.size) (fun k _ hk => (HO1.out.lt k hk).1) HB1.out.size); have HO2 := Lib.hid ho2; have HB2 := Lib.hid hb2; clear ho2 hk2 hb2))
  clear HO1 HB1 hr
  go_loopw [3] (fun o wr => PadZ l w o wr) (fun o _ => n + 65 - vlen o)
  case atStart => exact ⟨0, Nat.zero_le _, HO2.out, HB2.out⟩
  case round =>
    clear HO2 HB2
    obtain ⟨k, hk, ho, hb⟩ := hrel
    obtain ⟨A1, m, c1, rfl, hm, hc1, hcm⟩ := ho.shape'
    have hlen : (l ++ (128 :: List.replicate k 0)).length = n + 1 + k := by have := HN.out; simp; omega
    rw [HN.out] at hk
    rw [hm] at hlen
    have hsz := hb.size
    have HM := Lib.hid hm
    have HO := Lib.hid ho
    have HB := Lib.hid hb
    by_cases hlt : k < (119 - n % 64) % 64
    · have hne : ((m : Int) % 64 != 56) = true := by rw [bne_iff_ne]; omega
      have hmn : m = n + 1 + k := hlen
      have HMN := Lib.hid hmn
      clear hm ho hb hlen hmn
      go_wp2_with (at_builtin; refine wpList_push8 rfl (.tmp 17) (.tmp 18) rfl w.heap.size _ (l ++ (128 :: List.replicate k 0)) rfl HO.out rfl _ 0 rfl rfl (by have := HM.out; have := HMN.out; omega) hsz ?_; intro v3 w3 ho3 hk3 _; have hb3 : Below w.heap.size w w3 := HB.out.trans (hk3.below (B := w.heap.size) (fun k _ hk => (HO.out.lt k hk).1) hsz); obtain ⟨A3, m3, c3, rfl, hm3, _, _⟩ := ho3.shape'; have HM3 := Lib.hid hm3; clear hm3; have HO3 := Lib.hid ho3; have HB3 := Lib.hid hb3; clear ho3 hk3 hb3)
      go_roundw
      case rel =>
        refine ⟨k + 1, by rw [HN.out]; omega, ?_, HB3.out⟩
        have := HO3.out
        rw [List.append_assoc, List.cons_append, ← List.replicate_succ'] at this
        exact this
      case measure => simp [vlen]; have h1 := HM3.out; have := HN.out; have := HMN.out; simp at h1; omega
    · have hne : ((m : Int) % 64 != 56) = false := by
        have : (m : Int) % 64 = 56 := by omega
        rw [this]; rfl
      have hkz : k = (119 - n % 64) % 64 := by omega
      have HKZ := Lib.hid hkz
      clear hm ho hb hlen hkz hlt
      go_wp2_with fail
      obtain ⟨L, hL⟩ : ∃ L, l ++ (128 :: List.replicate ((119 - n % 64) % 64) 0) = L := ⟨_, rfl⟩
      have hLl : L.length ≤ 100100 := by rw [← hL]; have := HN.out; simp; omega
      have ho2 : Own8 wr w.heap.size (.slice A1 m c1) L := by rw [← hL, ← HKZ.out]; exact HO.out
      have HO2 := Lib.hid ho2
      have HLE := Lib.hid hL
      obtain ⟨wo, hwo⟩ : ∃ x : World, x = wr := ⟨_, rfl⟩
      rw [← hwo] at HO2 HB ⊢
      clear hwo ho2 hL HO HM HKZ hc1 hcm hne
      go_loopw [3, 5, 6] (fun o t i wr => PadN n L w o t i wr) (fun _ _ i _ => 8 - (intOf i).toNat)
      case atStart => exact ⟨0, Nat.zero_le _, rfl, ⟨_, rfl, rfl⟩, by simpa using HO2.out, HB.out⟩
      case round =>
        clear HO2 HB
        obtain ⟨k, hk, rfl, ⟨T, rfl, hT⟩, ho, hb⟩ := hrel
        obtain ⟨A2, m2, c2, rfl, hm2, hc2, hcm2⟩ := ho.shape'
        have hsz2 := hb.size
        have HO := Lib.hid ho
        have HB := Lib.hid hb
        have HM2 := Lib.hid hm2
        by_cases hlt : k < 8
        · have htop := padTop_is k hlt
          have hsucc := padTop_succ k
          have hpos : 0 < padTop k := by rw [htop]; exact Nat.pow_pos (by decide)
          have hTb : padTop k ≤ 72057594037927936 := Nat.div_le_self _ _
          rw [hT] at htop hsucc hpos hTb
          have HT := Lib.hid htop
          have HS := Lib.hid hsucc
          have hT0 : (T : Int) ≠ 0 := by omega
          have hTp : (0 : Int) < (T : Int) := by omega
          have hml : (L ++ (List.range k).map fun i => UInt8.ofNat (n * 8 / 2 ^ (56 - 8 * i))).length ≤ 1000000 := by simp; omega
          have HML := Lib.hid hml
          clear hT htop hsucc ho hb hm2 hml
          go_wp2_with (at_builtin; refine wpList_push8 rfl (.tmp 28) (.tmp 33) rfl w.heap.size _ (L ++ (List.range k).map fun i => UInt8.ofNat (n * 8 / 2 ^ (56 - 8 * i))) rfl HO.out rfl _ (UInt8.ofNat (n * 8 / T)) rfl ?_ HML.out hsz2 ?_; (rw [UInt8.toNat_ofNat', show ((n : Int) * 8 / (T : Int)) = ((n * 8 / T : Nat) : Int) by simp]; omega); intro v3 w3 ho3 hk3 _; have hb3 : Below w.heap.size w w3 := HB.out.trans (hk3.below (B := w.heap.size) (fun k _ hk => (HO.out.lt k hk).1) hsz2); obtain ⟨A3, m3, c3, rfl, hm3, _, _⟩ := ho3.shape'; have HO3 := Lib.hid ho3; have HB3 := Lib.hid hb3; clear ho3 hk3 hb3 hm3)
          go_roundw
          case rel =>
            refine ⟨k + 1, by omega, by go_num, ⟨T / 256, by go_num, HS.out.symm⟩, ?_, HB3.out⟩
            · have := HO3.out
              rw [HT.out, List.append_assoc] at this
              rw [List.range_succ, List.map_append]
              exact this
          case measure => simp [intOf]; omega
        · obtain rfl : k = 8 := by omega
          clear ho hb hm2 hT
          go_wp2_with fail
          go_ret
          refine ⟨_, rfl, ?_, HB.out⟩
          have := HO.out
          rw [← HLE.out, List.append_assoc] at this
          exact this
end Go.Proofs.YtnjkpoljcekjcaaDoor
