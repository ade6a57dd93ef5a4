/- The contracts of a reader: number, Err, fail, U, N, Bytes, End. -/
import Derived.Test.YtmaemlmbhldmkaaDoorWire
import Derived.Test.YtmaemlmbhldmkaaDoorClone
import Derived.Lib.ConvBytes
namespace Go.Proofs.YtmaemlmbhldmkaaDoor
open Go.RowKit
theorem ret_int3 {a b c : Int} {k l m : IntKind} {a' b' c' : Int} (h1 : a = a') (h2 : b = b') (h3 : c = c') : Ending.returned (.tuple #[.int k a, .int l b, .int m c]) = .returned (.tuple #[.int k a', .int l b', .int m c']) := by rw [h1, h2, h3]
def NumLoop (l : List UInt8) (x i : Value) : Prop :=
  ∃ (k y : Nat), k ≤ l.length ∧ k ≤ 10 ∧ i = .int .i64 (k : Nat) ∧ x = .int .u64 (y : Nat) ∧ y < 2 ^ (7 * k) ∧ WireMath.getF k y (l.drop k) = WireMath.get l
def numRet (l : List UInt8) : Ending := .returned (.tuple #[.int .u64 ((WireMath.get l).1 : Nat), .int .i64 ((WireMath.get l).2.1 : Nat), .int .i64 ((WireMath.get l).2.2 : Nat)])
theorem num_or (y c k : Nat) (hy : y < 2 ^ (7 * k)) (hk : k ≤ 9) (hc : c * 2 ^ (7 * k) < 18446744073709551616) : bits .or .u64 (y : Int) ((c * 2 ^ (7 * k) : Nat) : Int) = ((y + c * 2 ^ (7 * k) : Nat) : Int) := by
  have hp : 2 ^ (7 * k) ≤ 2 ^ 63 := Nat.pow_le_pow_right (by decide) (by omega)
  rw [u64_or_nat _ _ (by omega) hc, Nat.or_comm, nat_join (7 * k) _ _ (by simp) hy, Nat.add_comm]
theorem num_step (y c k : Nat) (hy : y < 2 ^ (7 * k)) (hk : k ≤ 9) (hc : c < 128) (h9 : k = 9 → c ≤ 1) :
    bits .or .u64 (y : Int) (IntKind.u64.wrap ((c : Int) * 2 ^ (7 * k))) = ((y + c * 2 ^ (7 * k) : Nat) : Int) ∧ (k ≤ 8 → y + c * 2 ^ (7 * k) < 2 ^ (7 * (k + 1))) := by
  have hlt : c * 2 ^ (7 * k) < 18446744073709551616 := by
    by_cases h : k = 9
    · subst h
      have := Nat.mul_le_mul_right (2 ^ (7 * 9)) (h9 rfl)
      simp at this
      omega
    · have hp : 2 ^ (7 * k) ≤ 2 ^ 56 := Nat.pow_le_pow_right (by decide) (by omega)
      have := Nat.mul_le_mul (show c ≤ 127 by omega) hp
      simp at this
      omega
  have e : IntKind.u64.wrap ((c : Int) * 2 ^ (7 * k)) = ((c * 2 ^ (7 * k) : Nat) : Int) := by
    have e2 : (c : Int) * 2 ^ (7 * k) = ((c * 2 ^ (7 * k) : Nat) : Int) := by simp
    rw [e2, IntKind.wrap_u64]
    generalize c * 2 ^ (7 * k) = q at *
    omega
  refine ⟨by rw [e]; exact num_or y c k hy hk hlt, fun _ => ?_⟩
  rw [WireMath.pow7]
  have := Nat.mul_le_mul_right (2 ^ (7 * k)) (show c ≤ 127 by omega)
  omega
set_option maxRecDepth 100000 in
set_option maxHeartbeats 1000000 in
theorem wireNumber_any (A : Option Addr) (c : Nat) (l : List UInt8) (w : World) (_hl : l.length ≤ 1000000) (hr : Bs w A l) :
    Calls Tryd.prog 26 #[.slice A l.length c] w fun e w' => e = numRet l ∧ w = w' := by
  go_enter Tryd.func26, Tryd.ntmps26
  go_wp2_with fail
  go_loop [5, 10] (fun x i => NumLoop l x i) (fun _ i => l.length - (intOf i).toNat)
  case atStart => exact ⟨0, 0, Nat.zero_le _, by decide, rfl, rfl, by decide, rfl⟩
  case round =>
    obtain ⟨k, y, hk, hk10, rfl, rfl, hy, hget⟩ := hrel
    by_cases hlt : k < l.length
    · rw [List.drop_eq_getElem_cons hlt] at hget
      simp only [WireMath.getF] at hget
      obtain ⟨ad, rfl, _, hca⟩ := hr.at_ hlt
      have HR := Lib.hid hr
      clear hr
      obtain ⟨b, hb⟩ : ∃ b, l[k] = b := ⟨_, rfl⟩
      rw [hb] at hca hget
      have hb256 := b.toNat_lt
      obtain ⟨n, hn⟩ : ∃ n, b.toNat = n := ⟨_, rfl⟩
      rw [hn] at hca hget hb256
      clear hb hn
      by_cases h1 : k = 10 ∨ k = 9 ∧ 1 < n
      · rw [if_pos h1] at hget
        have HG := Lib.hid hget
        have HY := Lib.hid hy
        clear hget hy
        have hcs : (((k : Nat) : Int) == 10) = true ∨ ((((k : Nat) : Int) == 10) = false ∧ (((k : Nat) : Int) == 9) = true ∧ decide (1 < (n : Int)) = true) := by
          rcases h1 with rfl | ⟨rfl, h⟩
          · exact .inl rfl
          · exact .inr ⟨rfl, rfl, by simp; omega⟩
        clear h1
        rcases hcs with e1 | ⟨e1, e2, e3⟩
        all_goals
          go_wp2_with fail
          go_ret3
          exact ⟨by unfold numRet; rw [← HG.out]; rfl, rfl⟩
      · rw [if_neg h1] at hget
        have e10 : (((k : Nat) : Int) == 10) = false := by rw [beq_eq_false_iff_ne]; omega
        have e9 : ((((k : Nat) : Int) == 9) = false) ∨ ((((k : Nat) : Int) == 9) = true ∧ decide (1 < (n : Int)) = false) := by
          by_cases h : k = 9
          · subst h
            exact .inr ⟨rfl, by simp; omega⟩
          · exact .inl (by rw [beq_eq_false_iff_ne]; omega)
        by_cases h128 : 128 ≤ n
        · rw [if_pos h128] at hget
          have hk8 : k ≤ 8 := by omega
          have e9' : (((k : Nat) : Int) == 9) = false := by rw [beq_eq_false_iff_ne]; omega
          have HG := Lib.hid hget
          have HY := Lib.hid hy
          clear hget hy e9
          go_wp2_with fail
          go_round
          case rel =>
            obtain ⟨e1, e2⟩ := num_step y (n - 128) k HY.out (by omega) (by omega) (by omega)
            have e3 : (n : Int) - 128 = ((n - 128 : Nat) : Int) := by omega
            rw [e3, e1]
            exact ⟨k + 1, y + (n - 128) * 2 ^ (7 * k), by omega, by omega, by go_num, rfl, e2 (by omega), HG.out⟩
          case measure => simp [intOf]; omega
        · rw [if_neg h128] at hget
          have HY := Lib.hid hy
          clear hy
          have hnl : k ≤ 9 ∧ (k = 9 → n ≤ 1) := by omega
          by_cases h0 : n = 0 ∧ 0 < k
          · rw [if_pos h0] at hget
            have HG := Lib.hid hget
            clear hget
            have z1 : (((n : Nat) : Int) == 0) = true := by rw [h0.1]; rfl
            have z2 : 0 < k := h0.2
            clear h0
            rcases e9 with e9 | ⟨e9, e9'⟩
            all_goals
              go_wp2_with fail
              go_ret3
              exact ⟨by unfold numRet; rw [← HG.out]; rfl, rfl⟩
          · rw [if_neg h0] at hget
            have HG := Lib.hid hget
            clear hget
            have hz : ((((n : Nat) : Int) == 0) = false) ∨ ((((n : Nat) : Int) == 0) = true ∧ k ≤ 0) := by
              by_cases h : n = 0
              · exact .inr ⟨by rw [h]; rfl, by omega⟩
              · exact .inl (by rw [beq_eq_false_iff_ne]; omega)
            clear h0
            obtain ⟨q1, _⟩ := num_step y n k HY.out hnl.1 (by omega) hnl.2
            have HQ := Lib.hid q1
            clear q1
            rcases e9 with e9 | ⟨e9, e9'⟩
            all_goals
              rcases hz with hz | ⟨hz, hk0⟩
              all_goals
                first
                  | exact absurd (beq_iff_eq.1 e9) (by omega)
                  | (go_wp2_with fail
                     go_ret3
                     exact ⟨by unfold numRet; rw [← HG.out]; exact ret_int3 HQ.out (by go_num) rfl, rfl⟩)
    · rw [List.drop_of_length_le (by omega)] at hget
      have HG := Lib.hid hget
      have HY := Lib.hid hy
      clear hget hy
      go_wp2_with fail
      go_ret3
      exact ⟨by unfold numRet; rw [← HG.out]; rfl, rfl⟩
/-- a reader lies in block g: the bytes that are left, the first error -/
structure RdAt (w : World) (g : Nat) (A : Option Addr) (c : Nat) (l : List UInt8) (e : Nat) : Prop where
  blk : w.heap[g]? = some (.cells #[.slice A l.length c, .int .i64 (e : Int), .bool true] 54 (0, 0))
  hc : l.length ≤ c
  hm : c ≤ maxLen
  bs : Bs w A l
  ne : ∀ ad, A = some ad → l ≠ [] → ad.block ≠ g
theorem RdAt.below {w w' : World} {g : Nat} {A : Option Addr} {c : Nat} {l : List UInt8} {e : Nat} (h : RdAt w g A c l e) (hb : Below w.heap.size w w') : RdAt w' g A c l e :=
  ⟨(hb.block g (heap_lt h.blk)).trans h.blk, h.hc, h.hm, h.bs.below hb, h.ne⟩
/-- a reader behind a call: only its own block has turned -/
def RdTo (w : World) (g : Nat) (l : List UInt8) (e : Nat) (w' : World) : Prop := w.grownBy w' (some g) ∧ ∃ A c, RdAt w' g A c l e
theorem RdTo.refl {w : World} {g : Nat} {A : Option Addr} {c : Nat} {l : List UInt8} {e : Nat} (h : RdAt w g A c l e) : RdTo w g l e w := ⟨⟨rfl, rfl, rfl, Nat.le_refl _, fun _ _ _ => rfl⟩, A, c, h⟩
theorem grown_then {a b c : World} {row : Option Nat} (h : a.grownBy b row) (h' : b.grownBy c row) : a.grownBy c row :=
  ⟨h'.os.trans h.os, h'.tape.trans h.tape, h'.output.trans h.output, Nat.le_trans h.size h'.size, fun k hk hn => (h'.block k (Nat.lt_of_lt_of_le hk h.size) hn).trans (h.block k hk hn)⟩
theorem RdTo.of {w w1 w2 : World} {g : Nat} {l : List UInt8} {e : Nat} (h : w.grownBy w1 (some g)) (h' : RdTo w1 g l e w2) : RdTo w g l e w2 := ⟨grown_then h h'.1, h'.2⟩
theorem rd_err_spell {e : Nat} (h : e ≠ 0) : (((e : Nat) : Int) != 0) = true := by rw [bne_iff_ne]; omega
set_option maxHeartbeats 400000 in
theorem rdErr_any (g : Nat) (A : Option Addr) (c : Nat) (l : List UInt8) (e : Nat) (w : World) (h : RdAt w g A c l e) :
    Calls Tryd.prog 15 #[.pointer (some ⟨g, 0, none⟩)] w fun en w' => en = .returned (.int .i64 (e : Int)) ∧ w = w' := by
  have k1 : w.cell? ⟨g, 1, none⟩ = some (.int .i64 (e : Int)) := block_cell h.blk
  have k2 : w.cell? ⟨g, 2, none⟩ = some (.bool true) := block_cell h.blk
  clear h
  go_enter Tryd.func15, Tryd.ntmps15
  go_wp2_with fail
  go_ret
  exact ⟨rfl, rfl⟩
/-- two cells of a reader are written -/
theorem rd_write {w : World} {g : Nat} {A : Option Addr} {c : Nat} {l : List UInt8} {e : Nat} (h : RdAt w g A c l e) (A' : Option Addr) (c' : Nat) (l' : List UInt8) (hc : l'.length ≤ c') (hm : c' ≤ maxLen) (hb : Bs w A' l') (hne : ∀ ad, A' = some ad → l' ≠ [] → ad.block ≠ g) :
    RdTo w g l' e (w.setCell ⟨g, 0, none⟩ (.slice A' l'.length c')) := by
  have hk : w.grownBy (w.setCell ⟨g, 0, none⟩ (.slice A' l'.length c')) (some g) := grown_set ⟨rfl, rfl, rfl, Nat.le_refl _, fun _ _ _ => rfl⟩ 0 _
  refine ⟨hk, A', c', ⟨?_, hc, hm, ?_, hne⟩⟩
  · have := set_block h.blk 0 (.slice A' l'.length c')
    simpa using this
  · exact (Kept.of_grown (F := fun k => k = g) hk (fun k e => by injection e with e; exact e.symm)).bs hb hne
theorem rd_drop_ne {w : World} {g : Nat} {A : Option Addr} {c : Nat} {l : List UInt8} {e : Nat} (h : RdAt w g A c l e) (n : Nat) {ad : Addr} (hA : (if c = n then A else A.map (·.add n)) = some ad) (hl : l ≠ []) : ad.block ≠ g := by
  split at hA
  · exact h.ne ad hA hl
  · cases A with
    | none => cases hA
    | some a =>
      simp at hA
      subst hA
      rw [addr_block]
      exact h.ne a rfl hl
set_option maxHeartbeats 400000 in
theorem rdFail_any (g : Nat) (A : Option Addr) (c : Nat) (l : List UInt8) (f : Nat) (w : World) (h : RdAt w g A c l 0) :
    Calls Tryd.prog 27 #[.pointer (some ⟨g, 0, none⟩), .int .i64 (f : Int)] w fun en w' => en = .returned (.tuple #[]) ∧ RdTo w g [] f w' := by
  have k0 : w.cell? ⟨g, 0, none⟩ = some (.slice A l.length c) := block_cell h.blk
  have k1 : w.cell? ⟨g, 1, none⟩ = some (.int .i64 0) := block_cell h.blk
  have f0 : w.frozen? ⟨g, 0, none⟩ = false := block_free h.blk
  have f1 : w.frozen? ⟨g, 1, none⟩ = false := block_free h.blk
  have HW := Lib.hid h
  clear h
  go_enter Tryd.func27, Tryd.ntmps27
  go_wp2_with fail
  go_end0
  refine ⟨rfl, grown_set (grown_set ⟨rfl, rfl, rfl, Nat.le_refl _, fun _ _ _ => rfl⟩ 1 _) 0 _, none, 0, ⟨?_, Nat.le_refl _, Nat.zero_le _, Bs.nil _ _, fun _ e => by cases e⟩⟩
  have := set_block (set_block HW.out.blk 1 (.int .i64 (f : Int))) 0 (.slice none 0 0)
  simpa using this
/-- what U reads, and what is left -/
def rdU (l : List UInt8) (e : Nat) : Nat × List UInt8 × Nat :=
  if e ≠ 0 then (0, l, e) else if (WireMath.get l).2.2 = 0 then ((WireMath.get l).1, l.drop (WireMath.get l).2.1, 0) else (0, [], (WireMath.get l).2.2)
set_option maxHeartbeats 400000 in
theorem rdU_err (g : Nat) (A : Option Addr) (c : Nat) (l : List UInt8) (e : Nat) (w : World) (h : RdAt w g A c l e) (he : e ≠ 0) :
    Calls Tryd.prog 14 #[.pointer (some ⟨g, 0, none⟩)] w fun en w' => en = .returned (.int .u64 0) ∧ w = w' := by
  have HE := Lib.hid (rdErr_any g A c l e w h)
  have he' := rd_err_spell he
  have HX := Lib.hid he'
  clear h he he'
  go_enter Tryd.func14, Tryd.ntmps14
  go_wp2_with fail
  refine HE.out.mono ?_
  rintro en w' ⟨rfl, rfl⟩
  have he' := HX.out
  go_wp2_with fail
  go_ret
  exact ⟨rfl, rfl⟩
set_option maxHeartbeats 400000 in
theorem rdU_bad (g : Nat) (A : Option Addr) (c : Nat) (l : List UInt8) (x n f : Nat) (w : World) (h : RdAt w g A c l 0) (hl : l.length ≤ 1000000) (hg : WireMath.get l = (x, n, f)) (hf : f ≠ 0) :
    Calls Tryd.prog 14 #[.pointer (some ⟨g, 0, none⟩)] w fun en w' => en = .returned (.int .u64 0) ∧ RdTo w g [] f w' := by
  have HE := Lib.hid (rdErr_any g A c l 0 w h)
  have hnum := wireNumber_any A c l w hl h.bs
  unfold numRet at hnum
  rw [hg] at hnum
  have HN := Lib.hid hnum
  have HF := Lib.hid (rdFail_any g A c l f w h)
  have k0 : w.cell? ⟨g, 0, none⟩ = some (.slice A l.length c) := block_cell h.blk
  have hf' := rd_err_spell hf
  have HX := Lib.hid hf'
  clear h hg hf hnum hf'
  go_enter Tryd.func14, Tryd.ntmps14
  go_wp2_with fail
  refine HE.out.mono ?_
  rintro en w' ⟨rfl, rfl⟩
  go_wp2_with fail
  refine HN.out.mono ?_
  rintro en w' ⟨rfl, rfl⟩
  have hf' := HX.out
  go_wp2_with fail
  refine HF.out.mono ?_
  rintro en w1 ⟨rfl, hto⟩
  go_wp2_with fail
  go_ret
  exact ⟨rfl, hto⟩
set_option maxHeartbeats 400000 in
theorem rdU_ok (g : Nat) (A : Option Addr) (c : Nat) (l : List UInt8) (x n : Nat) (w : World) (h : RdAt w g A c l 0) (hl : l.length ≤ 1000000) (hg : WireMath.get l = (x, n, 0)) :
    Calls Tryd.prog 14 #[.pointer (some ⟨g, 0, none⟩)] w fun en w' => en = .returned (.int .u64 (x : Nat)) ∧ RdTo w g (l.drop n) 0 w' := by
  have HE := Lib.hid (rdErr_any g A c l 0 w h)
  have hnum := wireNumber_any A c l w hl h.bs
  unfold numRet at hnum
  rw [hg] at hnum
  have HN := Lib.hid hnum
  have k0 : w.cell? ⟨g, 0, none⟩ = some (.slice A l.length c) := block_cell h.blk
  have f0 : w.frozen? ⟨g, 0, none⟩ = false := block_free h.blk
  obtain ⟨_, hn, hnp, _, _⟩ := WireMath.get_one hg
  have hcm := h.hc
  have hmm := h.hm
  unfold maxLen at hmm
  have HW := Lib.hid h
  have HD := Lib.hid (rd_write h _ (c - n) (l.drop n) (by simp; omega) (by unfold maxLen; omega) (h.bs.drop (k := n) h.hc) (fun ad e hne => rd_drop_ne h n e (by rintro rfl; simp at hne)))
  clear h hg hnum
  go_enter Tryd.func14, Tryd.ntmps14
  go_wp2_with fail
  refine HE.out.mono ?_
  rintro en w' ⟨rfl, rfl⟩
  go_wp2_with fail
  refine HN.out.mono ?_
  rintro en w' ⟨rfl, rfl⟩
  by_cases hcn : c = n
  · have hd := HD.out
    rw [List.length_drop, if_pos hcn] at hd
    have HD' := Lib.hid hd
    clear hd HD
    subst hcn
    have hln : l.length = c := by omega
    have HLN := Lib.hid hln
    clear hln
    go_wp2_with fail
    go_ret
    have hd := HD'.out
    rw [HLN.out, Nat.sub_self] at hd
    refine ⟨rfl, ?_⟩
    simpa [HLN.out] using hd
  · have hd := HD.out
    rw [List.length_drop, if_neg hcn] at hd
    have HD' := Lib.hid hd
    clear hd HD
    go_wp2_with fail
    go_ret
    exact ⟨rfl, HD'.out⟩
theorem rdU_any (g : Nat) (A : Option Addr) (c : Nat) (l : List UInt8) (e : Nat) (w : World) (h : RdAt w g A c l e) (hl : l.length ≤ 1000000) :
    Calls Tryd.prog 14 #[.pointer (some ⟨g, 0, none⟩)] w fun en w' => en = .returned (.int .u64 ((rdU l e).1 : Nat)) ∧ RdTo w g (rdU l e).2.1 (rdU l e).2.2 w' := by
  unfold rdU
  by_cases he : e = 0
  · subst he
    rw [if_neg (by decide)]
    rcases hg : WireMath.get l with ⟨x, n, f⟩
    simp only
    by_cases hf : f = 0
    · subst hf
      rw [if_pos rfl]
      exact rdU_ok g A c l x n w h hl hg
    · rw [if_neg hf]
      exact rdU_bad g A c l x n f w h hl hg hf
  · rw [if_pos he]
    refine (rdU_err g A c l e w h he).mono ?_
    rintro en w' ⟨rfl, rfl⟩
    exact ⟨rfl, RdTo.refl h⟩
end Go.Proofs.YtmaemlmbhldmkaaDoor
