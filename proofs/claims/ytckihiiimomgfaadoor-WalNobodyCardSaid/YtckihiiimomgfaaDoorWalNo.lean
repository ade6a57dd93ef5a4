/- A log that no call made, a disk that is none: what is answered; the walk of WalNobody. -/
import Derived.Test.YtckihiiimomgfaaDoorWalLaws
namespace Go.Proofs.YtckihiiimomgfaaDoor
open Go.RowKit DiskMath
/-- no log, or a plain one -/
def NoLog (w : World) (v : Value) : Prop := v = .pointer none ∨ ∃ g, v = .pointer (some ⟨g, 0, none⟩) ∧ w.cell? ⟨g, 0, none⟩ = some (.pointer none)
theorem nwOk_any (w : World) (v : Value) (h : NoLog w v) : Calls Tryd.prog 66 #[v] w fun e w' => e = .returned (.bool false) ∧ w = w' := by
  rcases h with rfl | ⟨g, rfl, hc⟩
  all_goals
    go_enter Tryd.func66, Tryd.ntmps66
    go_wp2_with fail
    go_ret
    exact ⟨rfl, rfl⟩
theorem nwAt_any (w : World) (v : Value) (h : NoLog w v) : Calls Tryd.prog 35 #[v] w fun e w' => e = .returned (.int .i64 0) ∧ w = w' := by
  have HH := Lib.hid h
  clear h
  go_enter Tryd.func35, Tryd.ntmps35
  go_wp2_with fail
  refine (nwOk_any w v HH.out).mono ?_
  rintro e w' ⟨rfl, rfl⟩
  go_wp2_with fail
  go_ret
  exact ⟨rfl, rfl⟩
theorem nwNext_any (w : World) (v : Value) (h : NoLog w v) : Calls Tryd.prog 36 #[v] w fun e w' => e = .returned (.int .i64 0) ∧ w = w' := by
  have HH := Lib.hid h
  clear h
  go_enter Tryd.func36, Tryd.ntmps36
  go_wp2_with fail
  refine (nwOk_any w v HH.out).mono ?_
  rintro e w' ⟨rfl, rfl⟩
  go_wp2_with fail
  go_ret
  exact ⟨rfl, rfl⟩
theorem nwRoom_any (w : World) (v : Value) (h : NoLog w v) : Calls Tryd.prog 34 #[v] w fun e w' => e = .returned (.int .i64 0) ∧ w = w' := by
  have HH := Lib.hid h
  clear h
  go_enter Tryd.func34, Tryd.ntmps34
  go_wp2_with fail
  refine (nwOk_any w v HH.out).mono ?_
  rintro e w' ⟨rfl, rfl⟩
  go_wp2_with fail
  go_ret
  exact ⟨rfl, rfl⟩
theorem nwRestart_any (w : World) (v : Value) (h : NoLog w v) : Calls Tryd.prog 38 #[v] w fun e w' => e = .returned (.int .i64 0) ∧ w = w' := by
  have HH := Lib.hid h
  clear h
  go_enter Tryd.func38, Tryd.ntmps38
  go_wp2_with fail
  refine (nwOk_any w v HH.out).mono ?_
  rintro e w' ⟨rfl, rfl⟩
  go_wp2_with fail
  go_ret
  exact ⟨rfl, rfl⟩
theorem nwAppend_any (w : World) (v : Value) (A : Option Addr) (n c : Nat) (h : NoLog w v) : Calls Tryd.prog 33 #[v, .slice A n c] w fun e w' => e = .returned (.int .i64 1) ∧ w = w' := by
  have HH := Lib.hid h
  clear h
  go_enter Tryd.func33, Tryd.ntmps33
  go_wp2_with fail
  refine (nwOk_any w v HH.out).mono ?_
  rintro e w' ⟨rfl, rfl⟩
  go_wp2_with fail
  go_ret
  exact ⟨rfl, rfl⟩
theorem ndLen_any (w : World) : Calls Tryd.prog 69 #[.pointer none] w fun e w' => e = .returned (.int .i64 0) ∧ w = w' := by
  go_enter Tryd.func69, Tryd.ntmps69
  go_wp2_with fail
  go_ret
  exact ⟨rfl, rfl⟩
theorem ndRight_any (w : World) (a b : Int) : Calls Tryd.prog 53 #[.pointer none, .int .i64 a, .int .i64 b] w fun e w' => e = .returned (.int .i64 1) ∧ w = w' := by
  go_enter Tryd.func53, Tryd.ntmps53
  go_wp2_with fail
  refine (ndLen_any w).mono ?_
  rintro e w' ⟨rfl, rfl⟩
  go_wp2_with fail
  go_ret
  exact ⟨rfl, rfl⟩
theorem ndNewest_any (w : World) (a b : Int) : Calls Tryd.prog 19 #[.pointer none, .int .i64 a, .int .i64 b] w fun e w' => e = .returned (.tuple #[.int .i64 (-1), .int .i64 1]) ∧ w = w' := by
  go_enter Tryd.func19, Tryd.ntmps19
  go_wp2_with fail
  refine (ndRight_any w a b).mono ?_
  rintro e w' ⟨rfl, rfl⟩
  go_wp2_with fail
  go_ret2
  exact ⟨rfl, rfl⟩
theorem ndOpen_any (w : World) (a b c d : Int) : Calls Tryd.prog 32 #[.pointer none, .int .i64 a, .int .i64 b, .int .i64 c, .int .i64 d] w fun e w' => e = .returned (.tuple #[.pointer none, .slice none 0 0, .int .i64 1]) ∧ w = w' := by
  go_enter Tryd.func32, Tryd.ntmps32
  go_wp2_with fail
  refine (ndRight_any w a b).mono ?_
  rintro e w' ⟨rfl, rfl⟩
  go_wp2_with fail
  go_ret3
  exact ⟨rfl, rfl⟩
def NbRel (W : World) (i : Value) (wr : World) : Prop := ∃ k : Nat, k ≤ 2 ∧ i = .int .i64 (k : Int) ∧ Below W.heap.size W wr
set_option maxHeartbeats 1000000 in
theorem walNobody_walk (A : Option Addr) (c : Nat) (b : List UInt8) (x y : Int) (w : World) (hc : b.length ≤ c) (hm : c ≤ maxLen) (ht : Halves w) :
    Calls Tryd.prog 6 #[.slice A b.length c, .int .i64 x, .int .i64 y] w fun e w' => e = .returned (.bool true) ∧ Below w.heap.size w w' := by
  have hcut := cut_bs A c 40 b w hc hm (by decide)
  obtain ⟨m, hm'⟩ : ∃ m, b.length = m := ⟨_, rfl⟩
  obtain ⟨m4, hm4⟩ : ∃ m4, (b.take 40).length = m4 := ⟨_, rfl⟩
  rw [hm', hm4] at hcut
  rw [hm']
  have HCUT := Lib.hid hcut
  have HT := Lib.hid ht
  clear hcut hm' hm4 ht hm hc
  go_enter Tryd.func6, Tryd.ntmps6
  go_wp2_with fail
  refine HCUT.out.mono ?_
  rintro e w' ⟨rfl, rfl⟩
  go_wp2_with fail
  go_loopw [7] (fun i wr => NbRel w i wr) (fun i _ => 2 - (intOf i).toNat)
  case atStart => exact ⟨0, by decide, rfl, Below.refl _ _⟩
  case round =>
    obtain ⟨k, hk, rfl, hb⟩ := hrel
    obtain ⟨wo, rfl⟩ : ∃ wo : World, wo = wr := ⟨_, rfl⟩
    have HB := Lib.hid hb
    clear hb
    by_cases hlt : k < 2
    · by_cases h1 : k = 1
      · have e1 : ((k : Int) == 1) = true := by subst h1; rfl
        clear h1
        have hnl : NoLog (wo.alloc (.cells #[.pointer none, .int .i64 0, .int .i64 0, .int .i64 0, .int .i64 0, .int .i64 0, .int .i64 0] 73)) (.pointer (some ⟨wo.heap.size, 0, none⟩)) := .inr ⟨_, rfl, box_cell (Below.refl (wo.heap.size + 1) _) (by omega) 0⟩
        have HNL := Lib.hid hnl
        clear hnl
        go_wp2_with fail
        refine (nwAppend_any _ _ A m4 c HNL.out).mono ?_
        rintro e w' ⟨rfl, rfl⟩
        go_wp2_with fail
        refine (nwAt_any _ _ HNL.out).mono ?_
        rintro e w' ⟨rfl, rfl⟩
        go_wp2_with fail
        refine (nwNext_any _ _ HNL.out).mono ?_
        rintro e w' ⟨rfl, rfl⟩
        go_wp2_with fail
        refine (nwRoom_any _ _ HNL.out).mono ?_
        rintro e w' ⟨rfl, rfl⟩
        go_wp2_with fail
        refine (nwRestart_any _ _ HNL.out).mono ?_
        rintro e w' ⟨rfl, rfl⟩
        go_wp2_with fail
        go_roundw
        case rel => exact ⟨k + 1, by omega, by go_num, HB.out.alloc HB.out.size _⟩
        case measure => simp [intOf]; omega
      · have e1 : ((k : Int) == 1) = false := by rw [beq_eq_false_iff_ne]; omega
        clear h1
        have HNL := Lib.hid (show NoLog wo (.pointer none) from .inl rfl)
        go_wp2_with fail
        refine (nwAppend_any _ _ A m4 c HNL.out).mono ?_
        rintro e w' ⟨rfl, rfl⟩
        go_wp2_with fail
        refine (nwAt_any _ _ HNL.out).mono ?_
        rintro e w' ⟨rfl, rfl⟩
        go_wp2_with fail
        refine (nwNext_any _ _ HNL.out).mono ?_
        rintro e w' ⟨rfl, rfl⟩
        go_wp2_with fail
        refine (nwRoom_any _ _ HNL.out).mono ?_
        rintro e w' ⟨rfl, rfl⟩
        go_wp2_with fail
        refine (nwRestart_any _ _ HNL.out).mono ?_
        rintro e w' ⟨rfl, rfl⟩
        go_wp2_with fail
        go_roundw
        case rel => exact ⟨k + 1, by omega, by go_num, HB.out⟩
        case measure => simp [intOf]; omega
    · go_wp2_with fail
      refine (ndNewest_any _ x y).mono ?_
      rintro e w' ⟨rfl, rfl⟩
      go_wp2_with fail
      refine (ndOpen_any _ x y 0 0).mono ?_
      rintro e w' ⟨rfl, rfl⟩
      go_wp2_with fail
      refine (walLives_any _ (HT.out.below HB.out)).mono ?_
      rintro e w6 ⟨rfl, hb6⟩
      have HB6 := Lib.hid (below_then HB.out hb6)
      clear hb6
      go_wp2_with fail
      go_ret
      exact ⟨rfl, HB6.out⟩
end Go.Proofs.YtckihiiimomgfaaDoor
