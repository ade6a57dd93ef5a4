/- Verifiers and challenges: plain functions; the contracts of the program's and of the document's. -/
import Derived.Test.YtnjkpoljcekjcaaDoorShaOf
import Derived.Test.YtnjkpoljcekjcaaDoorShaTie
import Derived.Test.YtnjkpoljcekjcaaDoorB64RefDec
import Derived.Test.YtnjkpoljcekjcaaDoorB64Bits
import Derived.Test.YtnjkpoljcekjcaaDoorRowV
import Derived.Lib.ConvBytes
namespace Go.Proofs.YtnjkpoljcekjcaaDoor
open Go.RowKit
def isV (c : UInt8) : Bool := (97 ≤ c.toNat && c.toNat ≤ 122) || (65 ≤ c.toNat && c.toNat ≤ 90) || (48 ≤ c.toNat && c.toNat ≤ 57) || c.toNat == 45 || c.toNat == 46 || c.toNat == 95 || c.toNat == 126
def verB (l : List UInt8) : Bool := l.all isV && (decide (43 ≤ l.length) && decide (l.length ≤ 128))
def chal (l : List UInt8) : List UInt8 := B64Math.enc (ShaMath.sha l)
def isC (l : List UInt8) : Bool := match B64Math.dec l with
  | none => false
  | some m => decide (m.length = 32)
theorem chal_length (l : List UInt8) : (chal l).length = 43 := by
  unfold chal
  rw [B64Math.enc_length, ShaMath.sha_length]
theorem isC_chal (l : List UInt8) : isC (chal l) = true := by
  unfold isC chal
  rw [B64Math.dec_enc]
  simp [ShaMath.sha_length]
def plainB : ByteArray := ⟨#[65, 66, 67, 68, 69, 70, 71, 72, 73, 74, 75, 76, 77, 78, 79, 80, 81, 82, 83, 84, 85, 86, 87, 88, 89, 90, 97, 98, 99, 100, 101, 102, 103, 104, 105, 106, 107, 108, 109, 110, 111, 112, 113, 114, 115, 116, 117, 118, 119, 120, 121, 122, 48, 49, 50, 51, 52, 53, 54, 55, 56, 57, 45, 46, 95, 126]⟩
def plainI (c : UInt8) : Int := if isV c then Lib.indexByte plainB.data.toList c else -1
theorem plainI_is (c : UInt8) : Lib.indexByte plainB.data.toList c = plainI c ∧ (isV c = true → 0 ≤ plainI c) := by
  have h : ∀ n, n < 256 → Lib.indexByte plainB.data.toList (UInt8.ofNat n) = plainI (UInt8.ofNat n) ∧ (isV (UInt8.ofNat n) = true → 0 ≤ plainI (UInt8.ofNat n)) := by decide +kernel
  have := h c.toNat c.toNat_lt
  rwa [UInt8.ofNat_toNat] at this
theorem indexPlain_yes (x : UInt8) (h : isV x = true) (w : World) : Calls Tryd.prog 36 #[.string plainB, .int .u8 (x.toNat : Int)] w fun e w' => ∃ z : Int, e = .returned (.int .i64 z) ∧ 0 ≤ z ∧ w = w' := by
  refine (Tryd.strings_IndexByte plainB (x.toNat : Int) w).mono ?_
  rintro e w' ⟨rfl, hw⟩
  have e1 : (x.toNat : Int).toNat.toUInt8 = x := by rw [Int.toNat_natCast]; exact UInt8.ofNat_toNat
  obtain ⟨p1, p2⟩ := plainI_is x
  rw [e1, p1]
  exact ⟨_, rfl, p2 h, hw.symm⟩
theorem indexPlain_no (x : UInt8) (h : isV x = false) (w : World) : Calls Tryd.prog 36 #[.string plainB, .int .u8 (x.toNat : Int)] w fun e w' => e = .returned (.int .i64 (-1)) ∧ w = w' := by
  refine (Tryd.strings_IndexByte plainB (x.toNat : Int) w).mono ?_
  rintro e w' ⟨rfl, hw⟩
  have e1 : (x.toNat : Int).toNat.toUInt8 = x := by rw [Int.toNat_natCast]; exact UInt8.ofNat_toNat
  obtain ⟨p1, _⟩ := plainI_is x
  have e2 : plainI x = -1 := by unfold plainI; rw [h]; rfl
  rw [e1, p1, e2]
  exact ⟨rfl, hw.symm⟩
theorem all_take (l : List UInt8) (k : Nat) (hk : k < l.length) : (l.take (k + 1)).all isV = ((l.take k).all isV && isV l[k]) := by
  rw [List.take_succ_eq_append_getElem hk, List.all_append]
  simp
theorem all_no (l : List UInt8) (k : Nat) (hk : k < l.length) (h : isV l[k] = false) : l.all isV = false := by
  rw [List.all_eq_false]
  exact ⟨l[k], List.getElem_mem _, by rw [h]; simp⟩
def VerRel (l : List UInt8) (w : World) (i : Value) (wr : World) : Prop := ∃ k : Nat, k ≤ l.length ∧ i = .int .i64 (k : Nat) ∧ (l.take k).all isV = true ∧ w = wr
set_option maxHeartbeats 1000000 in
theorem ver_any (l : List UInt8) (w : World) (hl : l.length ≤ 65536) : Calls Tryd.prog 26 #[.string ⟨l.toArray⟩] w fun e w' => e = .returned (.bool (verB l)) ∧ w = w' := by
  have hsz : ({ data := l.toArray } : ByteArray).size = l.length := str_size l
  obtain ⟨n, hn⟩ : ∃ n, l.length = n := ⟨_, rfl⟩
  rw [hn] at hsz hl
  have HN := Lib.hid hn
  clear hn
  go_enter Tryd.func26, Tryd.ntmps26
  go_wp2_with fail
  go_loopw [6] (fun i wr => VerRel l w i wr) (fun i _ => n - (intOf i).toNat)
  case atStart => exact ⟨0, Nat.zero_le _, rfl, by simp, rfl⟩
  case round =>
    obtain ⟨k, hk, rfl, hall, rfl⟩ := hrel
    rw [HN.out] at hk
    have HA := Lib.hid hall
    clear hall
    by_cases hlt : k < n
    · have hkl : k < l.length := by rw [HN.out]; exact hlt
      cases hv : isV l[k] with
      | true =>
        have HV := Lib.hid hv
        clear hv
        go_wp2_with fail
        rw [str_get l k hkl]
        refine (indexPlain_yes l[k] HV.out w).mono ?_
        rintro e w' ⟨z, rfl, hz, rfl⟩
        go_wp2_with fail
        go_roundw
        case rel => exact ⟨k + 1, by rw [HN.out]; omega, by go_num, by rw [all_take l k hkl, HA.out, HV.out]; rfl, rfl⟩
        case measure => simp [intOf]; omega
      | false =>
        have HV := Lib.hid hv
        clear hv
        go_wp2_with fail
        rw [str_get l k hkl]
        refine (indexPlain_no l[k] HV.out w).mono ?_
        rintro e w' ⟨rfl, rfl⟩
        go_wp2_with fail
        go_ret
        refine ⟨ret_bool (b := verB l) ?_, rfl⟩
        show false = _
        unfold verB
        rw [all_no l k hkl HV.out]; rfl
    · have hall : l.all isV = true := by
        have := HA.out
        rwa [List.take_of_length_le (by rw [HN.out]; omega)] at this
      have hfin : verB l = (decide (43 ≤ n) && decide (n ≤ 128)) := by unfold verB; rw [hall, HN.out]; rfl
      have HF := Lib.hid hfin
      clear hall hfin
      by_cases h1 : 43 ≤ n
      · have d1 : decide ((43 : Int) ≤ (n : Int)) = true := by simp; omega
        by_cases h2 : n ≤ 128
        · have d2 : decide ((n : Int) ≤ 128) = true := by simp; omega
          go_wp2_with fail
          all_goals
            go_ret
            refine ⟨ret_bool (b := verB l) ?_, rfl⟩
            rw [HF.out]
            simp only [h1, h2, decide_true, Bool.and_true]
        · have d2 : decide ((n : Int) ≤ 128) = false := by simp; omega
          go_wp2_with fail
          all_goals
            go_ret
            refine ⟨ret_bool (b := verB l) ?_, rfl⟩
            rw [HF.out]
            simp only [h1, h2, decide_true, decide_false, Bool.and_false]
      · have d1 : decide ((43 : Int) ≤ (n : Int)) = false := by simp; omega
        go_wp2_with fail
        all_goals
          go_ret
          refine ⟨ret_bool (b := verB l) ?_, rfl⟩
          rw [HF.out]
          simp only [h1, decide_false, Bool.false_and]
end Go.Proofs.YtnjkpoljcekjcaaDoor
