/- The contracts of bytes as text: the document's Encode, by threes. -/
import Derived.Test.YtnjkpoljcekjcaaDoorB64
import Derived.IntWalk
namespace Go.Proofs.YtnjkpoljcekjcaaDoor
open Go.RowKit
def lenOfV : Value → Nat | .slice _ n _ => n | .string s => s.size | _ => 0
theorem letters_cut (q : Nat) (h : q < 64) : lettersB.extract q (q + 1) = ⟨#[B64Math.L q]⟩ := by
  have : ∀ q, q < 64 → lettersB.extract q (q + 1) = ⟨#[B64Math.L q]⟩ := by decide +kernel
  exact this q h
set_option maxHeartbeats 400000 in
theorem letter_any (q : Nat) (w : World) (hq : q < 64) : Calls Tryd.prog 43 #[.int .i64 (q : Nat)] w fun e w' => e = .returned (.string ⟨#[B64Math.L q]⟩) ∧ w = w' := by
  have hc := letters_cut q hq
  have HC := Lib.hid hc
  clear hc
  go_enter Tryd.func43, Tryd.ntmps43
  go_wp2
  go_ret
  exact ⟨congrArg (fun s => Ending.returned (.string s)) HC.out, rfl⟩
theorem letter_int (z : Int) (q : Nat) (w : World) (hz : z = (q : Int)) (hq : q < 64) : Calls Tryd.prog 43 #[.int .i64 z] w fun e w' => e = .returned (.string ⟨#[B64Math.L q]⟩) ∧ w = w' := by
  subst hz; exact letter_any q w hq
theorem str_snoc (o : List UInt8) (c : UInt8) : (⟨o.toArray⟩ : ByteArray) ++ ⟨#[c]⟩ = ⟨(o ++ [c]).toArray⟩ := by
  apply ByteArray.ext
  rw [ByteArray.data_append]
  simp
def REncRel (l : List UInt8) (w : World) (b s : Value) (wr : World) : Prop :=
  ∃ (k : Nat) (o : List UInt8) (A : Option Addr) (c n : Nat), k ≤ l.length ∧ b = .slice A (l.drop k).length c ∧ (l.drop k).length ≤ c ∧ s = .string ⟨o.toArray⟩ ∧ o ++ B64Math.enc (l.drop k) = B64Math.enc l ∧ Bs w A (l.drop k) ∧ wr = w.drewN n
set_option maxHeartbeats 1000000 in
theorem refEncode_any (A : Option Addr) (c : Nat) (l : List UInt8) (w : World) (hl : l.length ≤ 65536) (hlc : l.length ≤ c) (hr : Bs w A l) :
    Calls Tryd.prog 35 #[.slice A l.length c] w fun e w' => e = .returned (.string ⟨(B64Math.enc l).toArray⟩) ∧ ∃ n, w' = w.drewN n := by
  go_enter Tryd.func35, Tryd.ntmps35
  go_wp2_with fail
  go_loopw [0, 3] (fun b s wr => REncRel l w b s wr) (fun b _ _ => lenOfV b)
  case atStart => exact ⟨0, [], A, c, 0, Nat.zero_le _, by simp, by simpa using hlc, rfl, by simp, by simpa using hr, rfl⟩
  case round =>
    obtain ⟨k, o, A', c', n, hk, rfl, hc', rfl, heq, hr', rfl⟩ := hrel
    have hdl : (l.drop k).length = l.length - k := List.length_drop
    generalize hR : l.drop k = r at *
    have HR := Lib.hid hR
    have HE := Lib.hid heq
    have HD := Lib.hid hdl
    have hrl : r.length ≤ 65536 := by omega
    have hol : o.length ≤ 100000 := by
      have h1 := congrArg List.length heq
      rw [List.length_append, B64Math.enc_length l] at h1
      omega
    clear hR heq hdl
    by_cases h3 : 3 ≤ r.length
    · obtain ⟨x, y, z, r', hxr⟩ : ∃ x y z r', r = x :: y :: z :: r' := by
        match r, h3 with
        | x :: y :: z :: r', _ => exact ⟨x, y, z, r', rfl⟩
      have hx := x.toNat_lt; have hy := y.toNat_lt; have hz := z.toNat_lt
      obtain ⟨ad, rfl, _, c0⟩ := hr' 0 x (by rw [hxr]; rfl)
      obtain ⟨ad1, e1, _, c1⟩ := hr' 1 y (by rw [hxr]; rfl)
      obtain ⟨ad2, e2, _, c2⟩ := hr' 2 z (by rw [hxr]; rfl)
      injection e1 with e1; injection e2 with e2; subst e1; subst e2
      have c0' : w.cell? ad = some (.int .u8 (x.toNat : Int)) := c0
      have c1' : w.cell? ⟨ad.block, ad.off + 1, none⟩ = some (.int .u8 (y.toNat : Int)) := c1
      have c2' : w.cell? ⟨ad.block, ad.off + 2, none⟩ = some (.int .u8 (z.toNat : Int)) := c2
      clear c0 c1 c2
      have HB := Lib.hid hr'
      have HX := Lib.hid hxr
      clear hr' hxr
      have i0 : (0 : Int) < (r.length : Int) := by omega
      have i1 : (1 : Int) < (r.length : Int) := by omega
      have i2 : (2 : Int) < (r.length : Int) := by omega
      have j0 : 0 < r.length := by omega
      have j1 : 1 < r.length := by omega
      have j2 : 2 < r.length := by omega
      have wx : IntKind.i64.wrap (x.toNat : Int) = (x.toNat : Int) := IntWalk.i64_in _ (by omega)
      have wy : IntKind.i64.wrap (y.toNat : Int) = (y.toNat : Int) := IntWalk.i64_in _ (by omega)
      have wz : IntKind.i64.wrap (z.toNat : Int) = (z.toNat : Int) := IntWalk.i64_in _ (by omega)
      have wx2 : IntKind.i64.wrap ((x.toNat : Int) * 65536) = (x.toNat : Int) * 65536 := IntWalk.i64_in _ (by omega)
      have wy2 : IntKind.i64.wrap ((y.toNat : Int) * 256) = (y.toNat : Int) * 256 := IntWalk.i64_in _ (by omega)
      have ws1 : IntKind.i64.wrap ((x.toNat : Int) * 65536 + (y.toNat : Int) * 256) = (x.toNat : Int) * 65536 + (y.toNat : Int) * 256 := IntWalk.i64_in _ (by omega)
      have ws2 : IntKind.i64.wrap ((x.toNat : Int) * 65536 + (y.toNat : Int) * 256 + (z.toNat : Int)) = (x.toNat : Int) * 65536 + (y.toNat : Int) * 256 + (z.toNat : Int) := IntWalk.i64_in _ (by omega)
      go_wp2_with fail
      go_quiet (fail)
      clear wx wy wz wx2 wy2 ws1 ws2
      obtain ⟨X, hX⟩ : ∃ X : Nat, (x.toNat : Int) * 65536 + (y.toNat : Int) * 256 + (z.toNat : Int) = (X : Int) ∧ X = x.toNat * 65536 + y.toNat * 256 + z.toNat := ⟨_, by omega, rfl⟩
      have hXl : X < 16777216 := by omega
      rw [hX.1]
      have HXe := Lib.hid hX.2
      clear hX
      go_wp2_with fail
      refine (letter_int _ (X / 262144) _ (by omega) (by omega)).mono ?_
      rintro e w' ⟨rfl, rfl⟩
      go_wp2_with fail
      refine (letter_int _ (X / 4096 % 64) _ (by omega) (by omega)).mono ?_
      rintro e w' ⟨rfl, rfl⟩
      go_wp2_with fail
      refine (letter_int _ (X / 64 % 64) _ (by omega) (by omega)).mono ?_
      rintro e w' ⟨rfl, rfl⟩
      go_wp2_with fail
      refine (letter_int _ (X % 64) _ (by omega) (by omega)).mono ?_
      rintro e w' ⟨rfl, rfl⟩
      have hdrop := Lib.hid (HB.out.drop (k := 3) hc')
      go_wp2_with fail
      go_roundw
      case rel =>
        have hl3 : k + 3 ≤ l.length := by have := HD.out; omega
        have hd3 : l.drop (k + 3) = r.drop 3 := by rw [← HR.out, List.drop_drop]
        have e1 : r.length - 3 = (l.drop (k + 3)).length := by rw [hd3, List.length_drop]
        refine ⟨k + 3, o ++ [B64Math.L (X / 262144), B64Math.L (X / 4096 % 64), B64Math.L (X / 64 % 64), B64Math.L (X % 64)], _, c' - 3, n + nq, hl3, by rw [e1], by rw [← e1]; omega, ?_, ?_, by rw [hd3]; exact hdrop.out, rfl⟩
        · rw [str_snoc, str_snoc, str_snoc, str_snoc]
          simp
        · have he := HE.out
          rw [HX.out] at he
          rw [hd3, HX.out, List.append_assoc, ← he, HXe.out]
          rfl
      case measure => simp [lenOfV]; omega
    · by_cases h0 : r = []
      · have hz : r.length = 0 := by rw [h0]; rfl
        have q1 : ((r.length : Int) == 1) = false := by rw [hz]; rfl
        have q2 : ((r.length : Int) == 2) = false := by rw [hz]; rfl
        have H0 := Lib.hid h0
        clear h0 hz
        go_wp2_with fail
        go_ret
        refine ⟨?_, n, rfl⟩
        have he := HE.out
        rw [H0.out] at he
        simp [B64Math.enc] at he
        rw [he]
        rfl
      · by_cases h1 : r.length = 1
        · obtain ⟨x, hxr⟩ : ∃ x, r = [x] := by
            match r, h1 with
            | [x], _ => exact ⟨x, rfl⟩
          have hx := x.toNat_lt
          obtain ⟨ad, rfl, _, c0⟩ := hr' 0 x (by rw [hxr]; rfl)
          have c0' : w.cell? ad = some (.int .u8 (x.toNat : Int)) := c0
          have q1 : ((r.length : Int) == 1) = true := by rw [h1]; rfl
          have q2 : ((r.length : Int) == 2) = false := by rw [h1]; rfl
          have j0 : 0 < r.length := by omega
          have HX := Lib.hid hxr
          clear hr' hxr c0 h1 h0
          go_wp2_with fail
          refine (letter_int _ (x.toNat * 16 / 64) _ (by omega) (by omega)).mono ?_
          rintro e w' ⟨rfl, rfl⟩
          go_wp2_with fail
          refine (letter_int _ (x.toNat * 16 % 64) _ (by omega) (by omega)).mono ?_
          rintro e w' ⟨rfl, rfl⟩
          go_wp2_with fail
          go_ret
          refine ⟨?_, n, rfl⟩
          have he := HE.out
          rw [HX.out] at he
          rw [← he]
          refine congrArg (fun s => Ending.returned (.string s)) ?_
          rw [str_snoc, str_snoc]
          simp [B64Math.enc]
        · have h2 : r.length = 2 := by
            have : r.length ≠ 0 := fun h => h0 (List.eq_nil_of_length_eq_zero h)
            omega
          obtain ⟨x, y, hxr⟩ : ∃ x y, r = [x, y] := by
            match r, h2 with
            | [x, y], _ => exact ⟨x, y, rfl⟩
          have hx := x.toNat_lt; have hy := y.toNat_lt
          obtain ⟨ad, rfl, _, c0⟩ := hr' 0 x (by rw [hxr]; rfl)
          obtain ⟨ad1, e1, _, c1⟩ := hr' 1 y (by rw [hxr]; rfl)
          injection e1 with e1; subst e1
          have c0' : w.cell? ad = some (.int .u8 (x.toNat : Int)) := c0
          have c1' : w.cell? ⟨ad.block, ad.off + 1, none⟩ = some (.int .u8 (y.toNat : Int)) := c1
          have q1 : ((r.length : Int) == 1) = false := by rw [h2]; rfl
          have q2 : ((r.length : Int) == 2) = true := by rw [h2]; rfl
          have j0 : 0 < r.length := by omega
          have j1 : 1 < r.length := by omega
          have i1 : (1 : Int) < (r.length : Int) := by omega
          have HX := Lib.hid hxr
          clear hr' hxr c0 c1 h0 h1 h2
          have wx : IntKind.i64.wrap (x.toNat : Int) = (x.toNat : Int) := IntWalk.i64_in _ (by omega)
          have wy : IntKind.i64.wrap (y.toNat : Int) = (y.toNat : Int) := IntWalk.i64_in _ (by omega)
          have wx2 : IntKind.i64.wrap ((x.toNat : Int) * 1024) = (x.toNat : Int) * 1024 := IntWalk.i64_in _ (by omega)
          have wy2 : IntKind.i64.wrap ((y.toNat : Int) * 4) = (y.toNat : Int) * 4 := IntWalk.i64_in _ (by omega)
          have ws1 : IntKind.i64.wrap ((x.toNat : Int) * 1024 + (y.toNat : Int) * 4) = (x.toNat : Int) * 1024 + (y.toNat : Int) * 4 := IntWalk.i64_in _ (by omega)
          go_wp2_with fail
          go_quiet (fail)
          clear wx wy wx2 wy2 ws1
          obtain ⟨X, hX⟩ : ∃ X : Nat, (x.toNat : Int) * 1024 + (y.toNat : Int) * 4 = (X : Int) ∧ X = x.toNat * 1024 + y.toNat * 4 := ⟨_, by omega, rfl⟩
          have hXl : X < 262144 := by omega
          rw [hX.1]
          have HXe := Lib.hid hX.2
          clear hX
          go_wp2_with fail
          refine (letter_int _ (X / 4096) _ (by omega) (by omega)).mono ?_
          rintro e w' ⟨rfl, rfl⟩
          go_wp2_with fail
          refine (letter_int _ (X / 64 % 64) _ (by omega) (by omega)).mono ?_
          rintro e w' ⟨rfl, rfl⟩
          go_wp2_with fail
          refine (letter_int _ (X % 64) _ (by omega) (by omega)).mono ?_
          rintro e w' ⟨rfl, rfl⟩
          go_wp2_with fail
          go_ret
          refine ⟨?_, n + nq, rfl⟩
          have he := HE.out
          rw [HX.out] at he
          rw [← he]
          refine congrArg (fun s => Ending.returned (.string s)) ?_
          rw [str_snoc, str_snoc, str_snoc]
          simp [B64Math.enc, HXe.out]
end Go.Proofs.YtnjkpoljcekjcaaDoor
