/- The plain laws of a revision as text: its bytes with their sum behind; there and back. No program in sight. -/
import Derived.Test.YtmaemlmbhldmkaaDoorCrcMath
import Derived.Test.YtmaemlmbhldmkaaDoorWireMath
import Derived.Test.YtmaemlmbhldmkaaDoorB64Math
namespace Go.Proofs.YtmaemlmbhldmkaaDoor.ZookieMath

def crc4 (s : Nat) : List UInt8 := [UInt8.ofNat (s / 16777216), UInt8.ofNat (s / 65536), UInt8.ofNat (s / 256), UInt8.ofNat s]
/-- a revision's bytes, with their sum behind -/
def sealed (x : Nat) : List UInt8 := WireMath.put x ++ crc4 (CrcMath.add 0 (WireMath.put x))
def text (x : Nat) : List UInt8 := B64Math.enc (sealed x)
/-- a text's revision, an error's number -/
def back (s : List UInt8) : Nat × Nat := match B64Math.dec s with
  | none => (0, 4)
  | some b => if (WireMath.get b).2.2 = 0 ∧ (WireMath.get b).1 ≤ 4611686018427387903 ∧ text (WireMath.get b).1 = s then ((WireMath.get b).1, 0) else (0, 4)

theorem sealed_length (x : Nat) : (sealed x).length = (WireMath.put x).length + 4 := by simp [sealed, crc4]
theorem sealed_le (x : Nat) (hx : x < 18446744073709551616) : (sealed x).length ≤ 14 := by
  have := WireMath.put_le 9 x (by omega)
  rw [sealed_length]
  omega
theorem get_sealed (x : Nat) (hx : x < 18446744073709551616) : WireMath.get (sealed x) = (x, (WireMath.put x).length, 0) := WireMath.get_put x _ hx
theorem dec_text (x : Nat) : B64Math.dec (text x) = some (sealed x) := B64Math.dec_enc _
theorem text_inj {x y : Nat} (hx : x < 18446744073709551616) (hy : y < 18446744073709551616) (h : text x = text y) : x = y := by
  have h1 := dec_text x
  rw [h, dec_text y] at h1
  injection h1 with h1
  have h2 := get_sealed x hx
  rw [← h1, get_sealed y hy] at h2
  exact (congrArg Prod.fst h2).symm
theorem back_text (x : Nat) (hx : x < 18446744073709551616) : back (text x) = if x ≤ 4611686018427387903 then (x, 0) else (0, 4) := by
  unfold back
  rw [dec_text]
  simp only [get_sealed x hx]
  by_cases h : x ≤ 4611686018427387903
  · rw [if_pos ⟨trivial, h, trivial⟩, if_pos h]
  · rw [if_neg (fun hh => h hh.2.1), if_neg h]
theorem text_iff {s b : List UInt8} (x : Nat) (h : B64Math.dec s = some b) : text x = s ↔ sealed x = b := by
  constructor
  · intro e
    have := dec_text x
    rw [e, h] at this
    injection this with this
    exact this.symm
  · intro e
    unfold text
    rw [e]
    exact B64Math.enc_dec s b h
theorem back_some {s : List UInt8} (h : (back s).2 = 0) : text (back s).1 = s ∧ (back s).1 ≤ 4611686018427387903 := by
  unfold back at h ⊢
  cases hd : B64Math.dec s with
  | none => rw [hd] at h; cases h
  | some b =>
    rw [hd] at h
    simp only at h ⊢
    split at h
    · rename_i hc
      rw [if_pos hc]
      exact ⟨hc.2.2, hc.2.1⟩
    · cases h
/-- the document's way tells the same -/
theorem back_ref {s b : List UInt8} (h : B64Math.dec s = some b) :
    back s = if 5 ≤ b.length ∧ (WireMath.get b).2.2 = 0 ∧ (WireMath.get b).2.1 + 4 = b.length ∧ (WireMath.get b).1 ≤ 4611686018427387903 ∧ sealed (WireMath.get b).1 = b then ((WireMath.get b).1, 0) else (0, 4) := by
  unfold back
  rw [h]
  simp only
  rcases hg : WireMath.get b with ⟨x, n, f⟩
  simp only
  simp only [text_iff x h]
  by_cases hc : f = 0 ∧ x ≤ 4611686018427387903 ∧ sealed x = b
  · rw [if_pos hc, if_pos]
    obtain ⟨rfl, hx, rfl⟩ := hc
    have hl := sealed_length x
    have hp := WireMath.put_pos x
    have h2 := get_sealed x (by omega)
    rw [hg] at h2
    injection h2 with _ h2
    injection h2 with h2 _
    exact ⟨by omega, rfl, by omega, hx, rfl⟩
  · rw [if_neg hc, if_neg (fun hh => hc ⟨hh.2.1, hh.2.2.2.1, hh.2.2.2.2⟩)]

/-- the value of sevens, the least first -/
def sev : List UInt8 → Nat
  | [] => 0
  | c :: r => c.toNat % 128 + 128 * sev r
theorem sev_append (a b : List UInt8) : sev (a ++ b) = sev a + 2 ^ (7 * a.length) * sev b := by
  induction a with
  | nil => simp [sev]
  | cons c r ih =>
    simp only [List.cons_append, sev, ih, List.length_cons]
    rw [WireMath.pow7, Nat.mul_add, Nat.mul_assoc]
    omega
theorem sev_lt (a : List UInt8) : sev a < 2 ^ (7 * a.length) := by
  induction a with
  | nil => decide
  | cons c r ih =>
    simp only [sev, List.length_cons]
    rw [WireMath.pow7]
    have := Nat.mod_lt c.toNat (show 128 > 0 by decide)
    omega
theorem sev_take (l : List UInt8) (k : Nat) (hk : k < l.length) : sev (l.take (k + 1)) = sev (l.take k) + l[k].toNat % 128 * 2 ^ (7 * k) := by
  rw [List.take_succ_eq_append_getElem hk, sev_append, List.length_take, Nat.min_eq_left (by omega)]
  simp only [sev]
  rw [Nat.mul_comm]
  simp
theorem sev_drop (l : List UInt8) (k : Nat) (hk : k < l.length) : sev (l.drop k) = l[k].toNat % 128 + 128 * sev (l.drop (k + 1)) := by
  rw [List.drop_eq_getElem_cons hk, sev]
/-- the last of ten is 0 or 1: nothing is lost -/
theorem sev_fits (l : List UInt8) (k : Nat) (hl : l.length ≤ 10) (h9 : ∀ h : 9 < l.length, l[9].toNat ≤ 1) : sev (l.drop k) < 18446744073709551616 := by
  by_cases h : 9 < l.length
  · by_cases hk : k ≤ 9
    · have e : l.drop k = (l.take 9).drop k ++ [l[9]] := by
        have e1 : l = l.take 9 ++ [l[9]] := by
          have := List.take_succ_eq_append_getElem h
          rw [← this, List.take_of_length_le (by omega)]
        conv => lhs; rw [e1]
        rw [List.drop_append_of_le_length (by rw [List.length_take]; omega)]
      rw [e, sev_append]
      have h1 := sev_lt ((l.take 9).drop k)
      rw [List.length_drop, List.length_take, Nat.min_eq_left (by omega)] at h1 ⊢
      have h2 : sev [l[9]] ≤ 1 := by
        simp only [sev]
        have := h9 h
        omega
      have h3 : 2 ^ (7 * (9 - k)) ≤ 2 ^ 63 := Nat.pow_le_pow_right (by decide) (by omega)
      have h4 := Nat.mul_le_mul_left (2 ^ (7 * (9 - k))) h2
      omega
    · rw [List.drop_of_length_le (by omega)]; decide
  · have h1 := sev_lt (l.drop k)
    have h2 : 2 ^ (7 * (l.drop k).length) ≤ 2 ^ 63 := Nat.pow_le_pow_right (by decide) (by rw [List.length_drop]; omega)
    omega
end Go.Proofs.YtmaemlmbhldmkaaDoor.ZookieMath
