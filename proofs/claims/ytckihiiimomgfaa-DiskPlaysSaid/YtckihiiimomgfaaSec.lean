/- Bytes as a sector; a disk written with it. -/
import Derived.Test.YtckihiiimomgfaaDisk7
namespace Go.Proofs.Ytckihiiimomgfaa
open Go.RowKit DiskMath
def secOf (l : List UInt8) : List UInt8 := l.take 64 ++ List.replicate (64 - l.length) 0
theorem secOf_length (l : List UInt8) : (secOf l).length = 64 := by simp [secOf]; omega
def SecRel (w : World) (l : List UInt8) (o : Value) (wr : World) : Prop := ∃ k : Nat, k ≤ 64 - l.length ∧ Own8 wr w.heap.size o (l ++ List.replicate k 0) ∧ Below w.heap.size w wr
def vlen : Value → Nat
  | .slice _ n _ => n
  | _ => 0
set_option maxHeartbeats 400000 in
theorem refSector_any (A : Option Addr) (c : Nat) (l : List UInt8) (w : World) (hc : l.length ≤ c) (hm : c ≤ maxLen) (hr : Bs w A l) :
    Calls Try.prog 12 #[.slice A l.length c] w fun e w' => ∃ v, e = .returned v ∧ Own8 w' w.heap.size v (secOf l) ∧ Below w.heap.size w w' := by
  have hcut := cut_bs A c 64 l w hc hm (by decide)
  obtain ⟨m, hmm⟩ : ∃ m, l.take 64 = m := ⟨_, rfl⟩
  have hrm : Bs w A m := by rw [← hmm]; exact hr.take 64
  have hml : m.length ≤ 64 := by rw [← hmm]; exact List.length_take_le _ _
  have hsec : secOf l = m ++ List.replicate (64 - m.length) 0 := by
    unfold secOf
    rw [hmm]
    congr 2
    rw [← hmm, List.length_take]; omega
  rw [hmm] at hcut
  have HS := Lib.hid hsec
  have HC := Lib.hid hcut
  have HR := Lib.hid hrm
  clear hcut hmm hrm hsec hr
  go_enter Try.func12, Try.ntmps12
  go_wp2_with fail
  refine HC.out.mono ?_
  rintro e w' ⟨rfl, rfl⟩
  go_wp2_with fail
  refine (copy_any A c m w (by omega) HR.out).mono ?_
  rintro e w1 ⟨v1, rfl, ho1, hb1⟩
  have HO1 := Lib.hid (show Own8 w1 w.heap.size v1 m from ho1)
  have HB1 := Lib.hid hb1
  clear ho1 hb1
  go_wp2_with fail
  go_loopw [3] (fun o wr => SecRel w m o wr) (fun o _ => 64 - vlen o)
  case atStart => exact ⟨0, Nat.zero_le _, by simpa using HO1.out, HB1.out⟩
  case round =>
    obtain ⟨k, hk, ho, hb⟩ := hrel
    obtain ⟨A3, n3, c3, rfl, hn3, hc3, hcm3⟩ := ho.shape'
    have hn3' : n3 = m.length + k := by rw [← hn3]; simp
    have HO := Lib.hid ho
    have HB := Lib.hid hb
    have hsz := hb.size
    clear ho hb hn3
    by_cases hlt : n3 < 64
    · have hl3 : (m ++ List.replicate k (0 : UInt8)).length ≤ 1000000 := by simp; omega
      go_wp2_with (at_builtin; refine wpList_push8 rfl (.tmp 10) (.tmp 11) rfl w.heap.size (.slice A3 n3 c3) (m ++ List.replicate k 0) rfl HO.out rfl 0 0 rfl rfl hl3 hsz ?_; intro v' w4 ho4 hk4 hv4; have HO4 := Lib.hid ho4; have HK4 := Lib.hid hk4; clear ho4 hk4 hv4)
      obtain ⟨A4, n4, c4, rfl, hn4, _, _⟩ := HO4.out.shape'
      have hn4' : n4 = n3 + 1 := by rw [← hn4]; simp; omega
      go_roundw
      case rel =>
        refine ⟨k + 1, by omega, ?_, HB.out.trans (HK4.out.below (B := w.heap.size) (fun g _ hg => (HO.out.lt g hg).1) hsz)⟩
        rw [List.replicate_succ', ← List.append_assoc]
        exact HO4.out
      case measure => simp [vlen]; omega
    · obtain rfl : k = 64 - m.length := by omega
      go_wp2_with fail
      go_ret
      exact ⟨_, rfl, by rw [HS.out]; exact HO.out, HB.out⟩
/-- a sector of one's own is written -/
theorem diskWrite_own (w : World) (F : Nat → Prop) (p base : Nat) (d : Dk) (i : Nat) (v : Value) (b : List UInt8) (h : DiskAt w F p d) (hi : i < d.fast.length) (hl : b.length = 64) (ho : Own8 w base v b) (hF : ∀ g, v.ownBlock = some g → ¬ F g) (hf : d.waits.length < 100000) :
    Calls Try.prog 13 #[.pointer (some ⟨p, 0, none⟩), .int .i64 (i : Int), v] w fun e w' => e = .returned (.int .i64 ((write d i b).2 : Nat)) ∧ DiskAt w' (fun k => F k ∨ w.heap.size ≤ k) p (write d i b).1 ∧ Kept F w w' := by
  obtain ⟨A, c, rfl, hc, _⟩ := ho.shape
  obtain ⟨ad, rfl, _, _⟩ := ho.bs.at_ (k := 0) (by omega)
  obtain ⟨g, rfl⟩ : ∃ g, ad = ⟨g, 0, none⟩ := by
    rcases ho.2 with ⟨e, _⟩ | ⟨g, cap, cur, e, _⟩
    · injection e with e; cases e
    · injection e with e; injection e with e; exact ⟨g, e⟩
  have := diskWrite_yes w F p d i g 0 c b h hi hl (by omega) ho.bs (hF g rfl) hf
  rw [hl]
  exact this
end Go.Proofs.Ytckihiiimomgfaa
