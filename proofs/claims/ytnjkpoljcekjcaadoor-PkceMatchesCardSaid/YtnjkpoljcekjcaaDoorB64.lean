/- The contracts of bytes as text: the program's Encode. -/
import Derived.Test.YtnjkpoljcekjcaaDoorBuilder
import Derived.Test.YtnjkpoljcekjcaaDoorB64Math
namespace Go.Proofs.YtnjkpoljcekjcaaDoor
open Go.RowKit
theorem enc_or (h b : Nat) (hb : b < 256) : bits .or .u64 (IntKind.u64.wrap ((h : Int) * 256)) (b : Int) = (((h * 256 + b) % 18446744073709551616 : Nat) : Int) := by
  have e : IntKind.u64.wrap ((h : Int) * 256) = ((h * 256 % 18446744073709551616 : Nat) : Int) := by rw [IntKind.wrap_u64]; omega
  rw [e, u64_or_nat _ _ (Nat.mod_lt _ (by decide)) (by omega), nat_join 8 _ _ (by omega) (by omega)]
  congr 1
  omega
theorem enc_shr (h m : Nat) (hh : h < 18446744073709551616) : bits .and .u64 ((h : Int) / 2 ^ m) 63 = ((h / 2 ^ m % 64 : Nat) : Int) := by
  have e : (h : Int) / 2 ^ m = ((h / 2 ^ m : Nat) : Int) := by simp
  rw [e, ← nat_mask6]
  exact u64_and_nat _ 63 (Nat.lt_of_le_of_lt (Nat.div_le_self _ _) hh) (by decide)
theorem enc_shl (h n : Nat) (_hn : n < 6) : bits .and .u64 (IntKind.u64.wrap ((h : Int) * 2 ^ (6 - n))) 63 = ((h * 2 ^ (6 - n) % 64 : Nat) : Int) := by
  have e : IntKind.u64.wrap ((h : Int) * 2 ^ (6 - n)) = ((h * 2 ^ (6 - n) % 18446744073709551616 : Nat) : Int) := by rw [IntKind.wrap_u64]; simp
  have e2 : h * 2 ^ (6 - n) % 64 = (h * 2 ^ (6 - n) % 18446744073709551616) &&& 63 := by rw [nat_mask6]; omega
  rw [e, e2]
  exact u64_and_nat _ 63 (Nat.mod_lt _ (by decide)) (by decide)
theorem estep_lt (l : List UInt8) (s : Nat × Nat × List UInt8) (hs : s.1 < 18446744073709551616) : (l.foldl B64Math.estep s).1 < 18446744073709551616 := by
  induction l generalizing s with
  | nil => exact hs
  | cons c l ih => exact ih _ (Nat.mod_lt _ (by decide))
theorem estep_len (l : List UInt8) (s : Nat × Nat × List UInt8) : (l.foldl B64Math.estep s).2.2.length ≤ s.2.2.length + 2 * l.length := by
  induction l generalizing s with
  | nil => simp
  | cons c l ih =>
    have := ih (B64Math.estep s c)
    have e : (B64Math.estep s c).2.2.length ≤ s.2.2.length + 2 := by
      simp only [B64Math.estep, List.length_append, B64Math.emit]
      split <;> (try split) <;> simp
    simp only [List.foldl_cons, List.length_cons]
    omega
def lettersB : ByteArray := ⟨#[65, 66, 67, 68, 69, 70, 71, 72, 73, 74, 75, 76, 77, 78, 79, 80, 81, 82, 83, 84, 85, 86, 87, 88, 89, 90, 97, 98, 99, 100, 101, 102, 103, 104, 105, 106, 107, 108, 109, 110, 111, 112, 113, 114, 115, 116, 117, 118, 119, 120, 121, 122, 48, 49, 50, 51, 52, 53, 54, 55, 56, 57, 45, 95]⟩
theorem letters_size : lettersB.size = 64 := by decide
theorem letters_get (q : Nat) (h : q < lettersB.size) : lettersB[q] = B64Math.L q := by
  have e : lettersB.data = B64Math.letters.toArray := rfl
  show lettersB.data[q] = _
  have hq : q < B64Math.letters.length := by simpa [letters_size, B64Math.letters] using h
  unfold B64Math.L
  rw [List.getD_eq_getElem?_getD, List.getElem?_eq_getElem hq]
  simp only [e, List.getElem_toArray, Option.getD_some]
theorem letters_lit (q : Nat) (h : q < 64) : ({ data := #[65, 66, 67, 68, 69, 70, 71, 72, 73, 74, 75, 76, 77, 78, 79, 80, 81, 82, 83, 84, 85, 86, 87, 88, 89, 90, 97, 98, 99, 100, 101, 102, 103, 104, 105, 106, 107, 108, 109, 110, 111, 112, 113, 114, 115, 116, 117, 118, 119, 120, 121, 122, 48, 49, 50, 51, 52, 53, 54, 55, 56, 57, 45, 95] } : ByteArray)[q]'(by rw [show ({ data := #[65, 66, 67, 68, 69, 70, 71, 72, 73, 74, 75, 76, 77, 78, 79, 80, 81, 82, 83, 84, 85, 86, 87, 88, 89, 90, 97, 98, 99, 100, 101, 102, 103, 104, 105, 106, 107, 108, 109, 110, 111, 112, 113, 114, 115, 116, 117, 118, 119, 120, 121, 122, 48, 49, 50, 51, 52, 53, 54, 55, 56, 57, 45, 95] } : ByteArray).size = 64 from letters_size]; exact h) = B64Math.L q := letters_get q (by rw [letters_size]; exact h)
def emits (h : Nat) : Nat → Nat → List UInt8
  | 0, _ => []
  | f + 1, m => if m < 6 then [] else B64Math.L (h / 2 ^ (m - 6) % 64) :: emits h f (m - 6)
theorem emits_end (h N : Nat) (hN : N = 8 ∨ N = 10 ∨ N = 12) : emits h 2 N = B64Math.emit h N := by
  rcases hN with rfl | rfl | rfl <;> simp [emits, B64Math.emit]
def EncRel (l : List UInt8) (w : World) (h n i : Value) (wr : World) : Prop :=
  ∃ k : Nat, k ≤ l.length ∧ i = .int .i64 (k : Nat) ∧ h = .int .u64 ((l.take k).foldl B64Math.estep (0, 0, [])).1 ∧ n = .int .i64 ((l.take k).foldl B64Math.estep (0, 0, [])).2.1 ∧
    Lib.IsBuilder 73 5 w.heap.size w.heap.size (bvs ((l.take k).foldl B64Math.estep (0, 0, [])).2.2) wr ∧ Below w.heap.size w wr
def EncIn (h N : Nat) (o : List UInt8) (w : World) (n : Value) (wr : World) : Prop :=
  ∃ (f m : Nat) (em : List UInt8), m < 6 * (f + 1) ∧ m ≤ N ∧ n = .int .i64 (m : Nat) ∧ em ++ emits h f m = emits h 2 N ∧ m % 6 = N % 6 ∧ em.length ≤ 2 ∧
    Lib.IsBuilder 73 5 w.heap.size w.heap.size (bvs (o ++ em)) wr ∧ Below w.heap.size w wr
set_option maxHeartbeats 1000000 in
theorem encode_any (A : Option Addr) (c : Nat) (l : List UInt8) (w : World) (hl : l.length ≤ 65536) (hr : Bs w A l) :
    Calls Tryd.prog 39 #[.slice A l.length c] w fun e w' => e = .returned (.string ⟨(B64Math.enc l).toArray⟩) ∧ Below w.heap.size w w' := by
  go_enter Tryd.func39, Tryd.ntmps39
  go_wp2_with fail
  go_loopw [4, 5, 10] (fun h n i wr => EncRel l w h n i wr) (fun _ _ i _ => l.length - (intOf i).toNat)
  case atStart => exact ⟨0, Nat.zero_le _, rfl, rfl, rfl, Lib.fresh_isBuilder _ _ _, (Below.refl _ _).alloc (Nat.le_refl _) _⟩
  case round =>
    obtain ⟨k, hk, rfl, rfl, rfl, hbld, hbr⟩ := hrel
    have hn := B64Math.estep_n (l.take k) 0 []
    have hol := estep_len (l.take k) (0, 0, [])
    have hlh := estep_lt (l.take k) (0, 0, []) (by decide)
    simp only [List.length_nil, Nat.zero_add] at hol
    have htk : (l.take k).length ≤ k := List.length_take_le _ _
    generalize hS : (l.take k).foldl B64Math.estep (0, 0, []) = st at *
    obtain ⟨h, n, o⟩ := st
    simp only at *
    have hn6 : n < 6 := by rw [hn]; exact Nat.mod_lt _ (by decide)
    have HS := Lib.hid hS
    have HLH := Lib.hid hlh
    clear hlh
    have HN := Lib.hid hn
    have HB := Lib.hid hbld
    clear hS hn hbld
    by_cases hlt : k < l.length
    · obtain ⟨ad, rfl, hadl, hca⟩ := hr.at_ hlt
      have hca' := (hbr.cell (p := ad.add k) (by rw [addr_block]; exact hadl)).trans hca
      have HR := Lib.hid hr
      clear hr hca
      generalize hC : l[k] = b at hca'
      have HC := Lib.hid hC
      clear hC
      have hb := b.toNat_lt
      have hor := enc_or h b.toNat hb
      have hh' : (h * 256 + b.toNat) % 18446744073709551616 < 18446744073709551616 := Nat.mod_lt _ (by decide)
      generalize hH : (h * 256 + b.toNat) % 18446744073709551616 = h' at hor hh'
      have HH := Lib.hid hH
      have HH' := Lib.hid hh'
      clear hH hh'
      go_wp2_with fail
      clear hor
      go_loopw [5] (fun n' wr => EncIn h' (n + 8) o w n' wr) (fun n' _ => (intOf n').toNat)
      case atStart => exact ⟨2, n + 8, [], by omega, Nat.le_refl _, by go_num, by simp, rfl, by simp, by simpa using HB.out, hbr⟩
      case round =>
        clear HB hbr hca'
        obtain ⟨f, m, em, hm, hmN, rfl, hem, hmod, hel, hbld, hbr⟩ := hrel
        have HE := Lib.hid hem
        have HM := Lib.hid hmod
        clear hem hmod
        by_cases h6 : 6 ≤ m
        · have hidx := enc_shr h' (m - 6) HH'.out
          have hq : h' / 2 ^ (m - 6) % 64 < 64 := Nat.mod_lt _ (by decide)
          generalize hQ : h' / 2 ^ (m - 6) % 64 = q at hidx hq
          have HQ := Lib.hid hQ
          clear hQ
          go_wp2_with fail
          rw [letters_lit q hq]
          refine (writeByte_any w.heap.size w.heap.size (o ++ em) (B64Math.L q) wr hbld (by simp; omega) (by have := hbr.size; omega)).mono ?_
          rintro e w1 ⟨rfl, hbld1, hb1⟩
          go_wp2_with fail
          obtain ⟨f, rfl⟩ : ∃ f', f = f' + 1 := ⟨f - 1, by omega⟩
          have hem' : em.length ≤ 1 := by
            have he := congrArg List.length HE.out
            have h1 : (emits h' 2 (n + 8)).length ≤ 2 := by simp only [emits]; split <;> simp; split <;> simp
            have h2 : 1 ≤ (emits h' (f + 1) m).length := by simp only [emits]; rw [if_neg (by omega)]; simp
            rw [List.length_append] at he
            omega
          go_roundw
          case rel =>
            refine ⟨f, m - 6, em ++ [B64Math.L q], by omega, by omega, by go_num, ?_, ?_, by simp; omega, by rw [← List.append_assoc]; exact hbld1, hbr.trans hb1⟩
            · have he := HE.out
              simp only [emits] at he ⊢
              rw [if_neg (by omega), HQ.out] at he
              rw [List.append_assoc, List.singleton_append]
              exact he
            · have := HM.out; omega
          case measure => simp [intOf]; omega
        · go_wp2_with fail
          go_roundw
          case rel =>
            have hN : n + 8 = 8 ∨ n + 8 = 10 ∨ n + 8 = 12 := by have := HN.out; omega
            have he := HE.out
            have hz : emits h' f m = [] := by cases f <;> simp [emits]; omega
            rw [hz, List.append_nil, emits_end _ _ hN] at he
            have est : (l.take (k + 1)).foldl B64Math.estep (0, 0, []) = (h', m, o ++ em) := by
              rw [List.take_succ_eq_append_getElem hlt, List.foldl_append, HS.out, HC.out]
              simp only [List.foldl_cons, List.foldl_nil, B64Math.estep, HH.out, he]
              have := HM.out
              congr 2
              omega
            exact ⟨k + 1, by omega, by go_num, by rw [est], by rw [est], by rw [est]; exact hbld, hbr⟩
          case measure => simp [intOf]; omega
    · have hfin := B64Math.estep_fold 0 [] l
      have hkl : l.take k = l := List.take_of_length_le (by omega)
      have hst := HS.out
      rw [hkl] at hst
      rw [hst] at hfin
      have HF := Lib.hid hfin
      clear hfin hkl hst
      by_cases hn0 : n = 0
      · subst hn0
        go_wp2_with fail
        refine (builderString_any w.heap.size w.heap.size o wr HB.out (by have := hbr.size; omega)).mono ?_
        rintro e w2 ⟨rfl, hb2⟩
        go_wp2_with fail
        go_ret
        refine ⟨?_, hbr.trans hb2⟩
        have := HF.out
        simp [B64Math.efin] at this
        rw [this]
        rfl
      · have hpos : 0 < n := by omega
        have hsh := enc_shl h n hn6
        have hq : h * 2 ^ (6 - n) % 64 < 64 := Nat.mod_lt _ (by decide)
        generalize hQ : h * 2 ^ (6 - n) % 64 = q at hsh hq
        have HQ := Lib.hid hQ
        have H0 := Lib.hid hn0
        clear hQ hn0
        go_wp2_with fail
        rw [letters_lit q hq]
        refine (writeByte_any w.heap.size w.heap.size o (B64Math.L q) wr HB.out (by omega) (by have := hbr.size; omega)).mono ?_
        rintro e w1 ⟨rfl, hbld1, hb1⟩
        go_wp2_with fail
        refine (builderString_any w.heap.size w.heap.size (o ++ [B64Math.L q]) w1 hbld1 (by have := hbr.size; have := hb1.size; omega)).mono ?_
        rintro e w2 ⟨rfl, hb2⟩
        go_wp2_with fail
        go_ret
        refine ⟨?_, (hbr.trans hb1).trans hb2⟩
        have := HF.out
        simp only [B64Math.efin, List.nil_append] at this
        rw [if_neg H0.out, HQ.out] at this
        rw [this]
        rfl
end Go.Proofs.YtnjkpoljcekjcaaDoor
