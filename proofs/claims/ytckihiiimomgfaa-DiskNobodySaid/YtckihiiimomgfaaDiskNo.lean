/- A disk that no call made: what its calls answer; the walk of DiskNobody. -/
import Derived.Test.YtckihiiimomgfaaDiskLaws
namespace Go.Proofs.Ytckihiiimomgfaa
open Go.RowKit DiskMath
/-- no disk, or a plain one -/
def NoDisk (w : World) (v : Value) : Prop := v = .pointer none ∨ ∃ g, v = .pointer (some ⟨g, 0, none⟩) ∧ w.cell? ⟨g, 0, none⟩ = some (.slice none 0 0)
theorem NoDisk.below {w w' : World} {v : Value} (h : NoDisk w v) (hb : Below w.heap.size w w') : NoDisk w' v := by
  rcases h with h | ⟨g, h, hc⟩
  · exact .inl h
  · exact .inr ⟨g, h, (hb.cell (p := ⟨g, 0, none⟩) (cell_lt' hc)).trans hc⟩
theorem noLen_any (w : World) (v : Value) (h : NoDisk w v) : Calls Try.prog 29 #[v] w fun e w' => e = .returned (.int .i64 0) ∧ w = w' := by
  rcases h with rfl | ⟨g, rfl, hc⟩
  all_goals
    go_enter Try.func29, Try.ntmps29
    go_wp2_with fail
    go_ret
    exact ⟨rfl, rfl⟩
theorem noOk_any (w : World) (v : Value) (h : NoDisk w v) : Calls Try.prog 31 #[v] w fun e w' => e = .returned (.bool false) ∧ w = w' := by
  have HH := Lib.hid h
  clear h
  go_enter Try.func31, Try.ntmps31
  go_wp2_with fail
  refine (noLen_any w v HH.out).mono ?_
  rintro e w' ⟨rfl, rfl⟩
  go_wp2_with fail
  go_ret
  exact ⟨rfl, rfl⟩
theorem noWaits_any (w : World) (v : Value) (h : NoDisk w v) : Calls Try.prog 18 #[v] w fun e w' => e = .returned (.int .i64 0) ∧ w = w' := by
  have HH := Lib.hid h
  clear h
  go_enter Try.func18, Try.ntmps18
  go_wp2_with fail
  refine (noOk_any w v HH.out).mono ?_
  rintro e w' ⟨rfl, rfl⟩
  go_wp2_with fail
  go_ret
  exact ⟨rfl, rfl⟩
theorem noPower_any (w : World) (v : Value) (h : NoDisk w v) : Calls Try.prog 19 #[v] w fun e w' => e = .returned (.bool false) ∧ w = w' := by
  have HH := Lib.hid h
  clear h
  go_enter Try.func19, Try.ntmps19
  go_wp2_with fail
  refine (noOk_any w v HH.out).mono ?_
  rintro e w' ⟨rfl, rfl⟩
  go_wp2_with fail
  go_ret
  exact ⟨rfl, rfl⟩
theorem noArm_any (w : World) (v : Value) (x : Int) (h : NoDisk w v) : Calls Try.prog 26 #[v, .int .i64 x] w fun e w' => e = .returned (.int .i64 1) ∧ w = w' := by
  have HH := Lib.hid h
  clear h
  go_enter Try.func26, Try.ntmps26
  go_wp2_with fail
  refine (noOk_any w v HH.out).mono ?_
  rintro e w' ⟨rfl, rfl⟩
  go_wp2_with fail
  go_ret
  exact ⟨rfl, rfl⟩
theorem noFlush_any (w : World) (v : Value) (h : NoDisk w v) : Calls Try.prog 10 #[v] w fun e w' => e = .returned (.int .i64 1) ∧ w = w' := by
  have HH := Lib.hid h
  clear h
  go_enter Try.func10, Try.ntmps10
  go_wp2_with fail
  refine (noOk_any w v HH.out).mono ?_
  rintro e w' ⟨rfl, rfl⟩
  go_wp2_with fail
  go_ret
  exact ⟨rfl, rfl⟩
theorem noWrite_any (w : World) (v : Value) (x : Int) (A : Option Addr) (n c : Nat) (h : NoDisk w v) : Calls Try.prog 13 #[v, .int .i64 x, .slice A n c] w fun e w' => e = .returned (.int .i64 1) ∧ w = w' := by
  have HH := Lib.hid h
  clear h
  go_enter Try.func13, Try.ntmps13
  go_wp2_with fail
  refine (noOk_any w v HH.out).mono ?_
  rintro e w' ⟨rfl, rfl⟩
  go_wp2_with fail
  go_ret
  exact ⟨rfl, rfl⟩
theorem noRead_any (w : World) (v : Value) (x : Int) (h : NoDisk w v) : Calls Try.prog 11 #[v, .int .i64 x] w fun e w' => e = .returned (.tuple #[.slice none 0 0, .int .i64 1]) ∧ w = w' := by
  have HH := Lib.hid h
  clear h
  go_enter Try.func11, Try.ntmps11
  go_wp2_with fail
  refine (noOk_any w v HH.out).mono ?_
  rintro e w' ⟨rfl, rfl⟩
  go_wp2_with fail
  go_ret2
  exact ⟨rfl, rfl⟩
theorem noCrash_any (w : World) (v : Value) (A : Option Addr) (n c : Nat) (h : NoDisk w v) : Calls Try.prog 14 #[v, .slice A n c] w fun e w' => e = .returned (.tuple #[]) ∧ w = w' := by
  have HH := Lib.hid h
  clear h
  go_enter Try.func14, Try.ntmps14
  go_wp2_with fail
  refine (noOk_any w v HH.out).mono ?_
  rintro e w' ⟨rfl, rfl⟩
  go_wp2_with fail
  exact ⟨rfl, _, results_none rfl _ _ _, rfl, rfl⟩
def NbRel (W : World) (i : Value) (wr : World) : Prop := ∃ k : Nat, i = .int .i64 (k : Int) ∧ k ≤ 2 ∧ Below W.heap.size W wr
set_option maxHeartbeats 2000000 in
theorem diskNobody_walk (x : Int) (A : Option Addr) (c : Nat) (b : List UInt8) (w : World) (hc : b.length ≤ c) (hm : c ≤ maxLen) :
    Calls Try.prog 7 #[.int .i64 x, .slice A b.length c] w fun e w' => e = .returned (.bool true) ∧ Below w.heap.size w w' := by
  have HCUT := Lib.hid (cut_bs A c 64 b w hc hm (by decide))
  obtain ⟨n, hn⟩ : ∃ n, (b.take 64).length = n := ⟨_, rfl⟩
  rw [hn] at HCUT
  clear hc hm hn
  go_enter Try.func7, Try.ntmps7
  go_wp2_with fail
  refine HCUT.out.mono ?_
  rintro e w' ⟨rfl, rfl⟩
  clear HCUT
  go_wp2_with fail
  go_loopw [5] (fun i wr => NbRel w i wr) (fun i _ => 2 - (intOf i).toNat)
  case atStart => exact ⟨0, rfl, by decide, Below.refl _ _⟩
  case round =>
    obtain ⟨k, rfl, hk, hb⟩ := hrel
    obtain ⟨wo, rfl⟩ : ∃ wo : World, wo = wr := ⟨_, rfl⟩
    have HB := Lib.hid hb
    clear hb
    by_cases hlt : k < 2
    · by_cases h1 : k = 1
      · have e1 : ((k : Int) == 1) = true := by subst h1; rfl
        have hn : NoDisk ((wo.alloc (.cells #[.slice none 0 0, .map none, .slice none 0 0, .int .i64 0, .bool false] 64)).alloc (.cells #[.int .i64 1] 3)) (.pointer (some ⟨wo.heap.size, 0, none⟩)) :=
          .inr ⟨_, rfl, box_cell (below_alloc _ _) (by simp) 0⟩
        have HN := Lib.hid hn
        clear hn h1
        go_wp2_with fail
        refine (noCrash_any _ (.pointer (some ⟨wo.heap.size, 0, none⟩)) _ _ _ HN.out).mono ?_
        rintro e w' ⟨rfl, rfl⟩
        go_wp2_with fail
        refine (noRead_any _ (.pointer (some ⟨wo.heap.size, 0, none⟩)) _ HN.out).mono ?_
        rintro e w' ⟨rfl, rfl⟩
        go_wp2_with fail
        refine (noWrite_any _ (.pointer (some ⟨wo.heap.size, 0, none⟩)) _ _ _ _ HN.out).mono ?_
        rintro e w' ⟨rfl, rfl⟩
        go_wp2_with fail
        refine (noFlush_any _ (.pointer (some ⟨wo.heap.size, 0, none⟩)) HN.out).mono ?_
        rintro e w' ⟨rfl, rfl⟩
        go_wp2_with fail
        refine (noArm_any _ (.pointer (some ⟨wo.heap.size, 0, none⟩)) _ HN.out).mono ?_
        rintro e w' ⟨rfl, rfl⟩
        go_wp2_with fail
        refine (noLen_any _ (.pointer (some ⟨wo.heap.size, 0, none⟩)) HN.out).mono ?_
        rintro e w' ⟨rfl, rfl⟩
        go_wp2_with fail
        refine (noWaits_any _ (.pointer (some ⟨wo.heap.size, 0, none⟩)) HN.out).mono ?_
        rintro e w' ⟨rfl, rfl⟩
        go_wp2_with fail
        refine (noPower_any _ (.pointer (some ⟨wo.heap.size, 0, none⟩)) HN.out).mono ?_
        rintro e w' ⟨rfl, rfl⟩
        go_wp2_with fail
        go_roundw
        case rel => exact ⟨k + 1, by go_num, by omega, (HB.out.alloc HB.out.size _).alloc (by have := HB.out.size; simp; omega) _⟩
        case measure => simp [intOf]; omega
      · have e1 : ((k : Int) == 1) = false := by rw [beq_eq_false_iff_ne]; omega
        clear h1
        go_wp2_with fail
        refine (noCrash_any _ (.pointer none) _ _ _ (.inl rfl)).mono ?_
        rintro e w' ⟨rfl, rfl⟩
        go_wp2_with fail
        refine (noRead_any _ (.pointer none) _ (.inl rfl)).mono ?_
        rintro e w' ⟨rfl, rfl⟩
        go_wp2_with fail
        refine (noWrite_any _ (.pointer none) _ _ _ _ (.inl rfl)).mono ?_
        rintro e w' ⟨rfl, rfl⟩
        go_wp2_with fail
        refine (noFlush_any _ (.pointer none) (.inl rfl)).mono ?_
        rintro e w' ⟨rfl, rfl⟩
        go_wp2_with fail
        refine (noArm_any _ (.pointer none) _ (.inl rfl)).mono ?_
        rintro e w' ⟨rfl, rfl⟩
        go_wp2_with fail
        refine (noLen_any _ (.pointer none) (.inl rfl)).mono ?_
        rintro e w' ⟨rfl, rfl⟩
        go_wp2_with fail
        refine (noWaits_any _ (.pointer none) (.inl rfl)).mono ?_
        rintro e w' ⟨rfl, rfl⟩
        go_wp2_with fail
        refine (noPower_any _ (.pointer none) (.inl rfl)).mono ?_
        rintro e w' ⟨rfl, rfl⟩
        go_wp2_with fail
        go_roundw
        case rel => exact ⟨k + 1, by go_num, by omega, HB.out.alloc HB.out.size _⟩
        case measure => simp [intOf]; omega
    · go_wp2_with fail
      refine (diskLives_any _).mono ?_
      rintro e w11 ⟨rfl, hb11⟩
      have HB11 := Lib.hid (HB.out.trans (hb11.mono HB.out.size))
      clear hb11
      go_wp2_with fail
      go_ret
      exact ⟨rfl, HB11.out⟩
end Go.Proofs.Ytckihiiimomgfaa
