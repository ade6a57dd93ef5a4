/- The contracts of a reader, of a writer that no call made; the walk of the law on them. -/
import Derived.Test.YtmaemlmbhldmkaaWireLaws
namespace Go.Proofs.Ytmaemlmbhldmkaa
open Go.RowKit
/-- a reader that no call made: nil, or all noughts -/
def Nobody (w : World) (q : Value) : Prop := q = .pointer none ∨ ∃ g, q = .pointer (some ⟨g, 0, none⟩) ∧ w.heap[g]? = some (.cells #[.slice none 0 0, .int .i64 0, .bool false] 50 (0, 0))
set_option maxHeartbeats 400000 in
theorem nbErr (w : World) (q : Value) (h : Nobody w q) : Calls Try.prog 27 #[q] w fun e w' => e = .returned (.int .i64 1) ∧ w = w' := by
  rcases h with rfl | ⟨g, rfl, hb⟩
  · go_enter Try.func27, Try.ntmps27
    go_wp2_with fail
    go_ret
    exact ⟨rfl, rfl⟩
  · have k2 : w.cell? ⟨g, 2, none⟩ = some (.bool false) := block_cell hb
    clear hb
    go_enter Try.func27, Try.ntmps27
    go_wp2_with fail
    go_ret
    exact ⟨rfl, rfl⟩
theorem Nobody.shape {w : World} {q : Value} (h : Nobody w q) : ∃ p, q = .pointer p := by
  rcases h with rfl | ⟨g, rfl, _⟩ <;> exact ⟨_, rfl⟩

set_option maxHeartbeats 400000 in
theorem nbU (w : World) (q : Value) (h : Nobody w q) : Calls Try.prog 20 #[q] w fun e w' => e = .returned (.int .u64 0) ∧ w = w' := by
  have H := Lib.hid h
  obtain ⟨p, rfl⟩ := h.shape
  clear h
  go_enter Try.func20, Try.ntmps20
  go_wp2_with fail
  refine (nbErr w _ H.out).mono ?_
  rintro e w' ⟨rfl, rfl⟩
  go_wp2_with fail
  go_ret
  exact ⟨rfl, rfl⟩
set_option maxHeartbeats 400000 in
theorem nbN (w : World) (q : Value) (m : Int) (h : Nobody w q) : Calls Try.prog 26 #[q, .int .i64 m] w fun e w' => e = .returned (.int .i64 0) ∧ w = w' := by
  have H := Lib.hid h
  obtain ⟨p, rfl⟩ := h.shape
  clear h
  go_enter Try.func26, Try.ntmps26
  go_wp2_with fail
  refine (nbU w _ H.out).mono ?_
  rintro e w' ⟨rfl, rfl⟩
  go_wp2_with fail
  refine (nbErr w _ H.out).mono ?_
  rintro e w' ⟨rfl, rfl⟩
  go_wp2_with fail
  go_ret
  exact ⟨rfl, rfl⟩
set_option maxHeartbeats 400000 in
theorem nbBytes (w : World) (q : Value) (h : Nobody w q) : Calls Try.prog 23 #[q] w fun e w' => e = .returned (.slice none 0 0) ∧ w = w' := by
  have H := Lib.hid h
  obtain ⟨p, rfl⟩ := h.shape
  clear h
  go_enter Try.func23, Try.ntmps23
  go_wp2_with fail
  refine (nbN w _ _ H.out).mono ?_
  rintro e w' ⟨rfl, rfl⟩
  go_wp2_with fail
  refine (nbErr w _ H.out).mono ?_
  rintro e w' ⟨rfl, rfl⟩
  go_wp2_with fail
  go_ret
  exact ⟨rfl, rfl⟩
set_option maxHeartbeats 400000 in
theorem nbEnd (w : World) (q : Value) (h : Nobody w q) : Calls Try.prog 21 #[q] w fun e w' => e = .returned (.int .i64 1) ∧ w = w' := by
  have H := Lib.hid h
  obtain ⟨p, rfl⟩ := h.shape
  clear h
  go_enter Try.func21, Try.ntmps21
  go_wp2_with fail
  refine (nbErr w _ H.out).mono ?_
  rintro e w' ⟨rfl, rfl⟩
  go_wp2_with fail
  go_ret
  exact ⟨rfl, rfl⟩
set_option maxHeartbeats 400000 in
theorem nbLeft (w : World) (q : Value) (h : Nobody w q) : Calls Try.prog 28 #[q] w fun e w' => e = .returned (.int .i64 0) ∧ w = w' := by
  have H := Lib.hid h
  obtain ⟨p, rfl⟩ := h.shape
  clear h
  go_enter Try.func28, Try.ntmps28
  go_wp2_with fail
  refine (nbErr w _ H.out).mono ?_
  rintro e w' ⟨rfl, rfl⟩
  go_wp2_with fail
  go_ret
  exact ⟨rfl, rfl⟩
set_option maxHeartbeats 400000 in
theorem nbBool (w : World) (q : Value) (h : Nobody w q) : Calls Try.prog 25 #[q] w fun e w' => e = .returned (.bool false) ∧ w = w' := by
  have H := Lib.hid h
  obtain ⟨p, rfl⟩ := h.shape
  clear h
  go_enter Try.func25, Try.ntmps25
  go_wp2_with fail
  refine (nbU w _ H.out).mono ?_
  rintro e w' ⟨rfl, rfl⟩
  go_wp2_with fail
  refine (nbErr w _ H.out).mono ?_
  rintro e w' ⟨rfl, rfl⟩
  go_wp2_with fail
  go_ret
  exact ⟨rfl, rfl⟩
set_option maxHeartbeats 400000 in
theorem nbText (w : World) (q : Value) (h : Nobody w q) : Calls Try.prog 24 #[q] w fun e w' => e = .returned (.string ⟨#[]⟩) ∧ w = w' := by
  have H := Lib.hid h
  obtain ⟨p, rfl⟩ := h.shape
  have hcv := run_convert_bs (P := Try.prog) w 25 9 5 Try.underlying25 Try.underlying5 Try.underlying9 none 0 0 [] rfl (Bs.nil _ _)
  clear h
  go_enter Try.func24, Try.ntmps24
  go_wp2_with fail
  refine (nbBytes w _ H.out).mono ?_
  rintro e w' ⟨rfl, rfl⟩
  go_wp2_with fail
  go_ret
  exact ⟨rfl, rfl⟩
set_option maxHeartbeats 400000 in
theorem nwU (w : World) (x : Int) : Calls Try.prog 10 #[.pointer none, .int .u64 x] w fun e w' => e = .returned (.pointer none) ∧ w = w' := by
  go_enter Try.func10, Try.ntmps10
  go_wp2_with fail
  go_ret
  exact ⟨rfl, rfl⟩
set_option maxHeartbeats 400000 in
theorem nwBytes (w : World) (B : Option Addr) (n c : Nat) : Calls Try.prog 12 #[.pointer none, .slice B n c] w fun e w' => e = .returned (.pointer none) ∧ w = w' := by
  go_enter Try.func12, Try.ntmps12
  go_wp2_with fail
  go_ret
  exact ⟨rfl, rfl⟩
set_option maxHeartbeats 400000 in
theorem nwDone (w : World) : Calls Try.prog 16 #[.pointer none] w fun e w' => e = .returned (.slice none 0 0) ∧ w = w' := by
  go_enter Try.func16, Try.ntmps16
  go_wp2_with fail
  go_ret
  exact ⟨rfl, rfl⟩
set_option maxHeartbeats 400000 in
theorem nwBool (w : World) (b : Bool) : Calls Try.prog 15 #[.pointer none, .bool b] w fun e w' => e = .returned (.pointer none) ∧ w = w' := by
  cases b
  all_goals
    go_enter Try.func15, Try.ntmps15
    go_wp2_with fail
    refine (nwU w _).mono ?_
    rintro e w' ⟨rfl, rfl⟩
    go_wp2_with fail
    go_ret
    exact ⟨rfl, rfl⟩
set_option maxHeartbeats 400000 in
theorem nwText (w : World) (s : ByteArray) : Calls Try.prog 14 #[.pointer none, .string s] w fun e w' => e = .returned (.pointer none) ∧ Below w.heap.size w w' := by
  have hcv := Lib.run_convert_string_bytes (P := Try.prog) w 9 25 5 s Try.underlying9 Try.underlying25 Try.underlying5
  have hb1 := bytesWorld_below w s
  obtain ⟨w1, hw1⟩ : ∃ w1, Lib.bytesWorld w 5 s = w1 := ⟨_, rfl⟩
  rw [hw1] at hcv hb1
  obtain ⟨cc, hcc⟩ : ∃ cc, grownCap w s.size 0 5 = cc := ⟨_, rfl⟩
  rw [hcc] at hcv
  clear hw1 hcc
  go_enter Try.func14, Try.ntmps14
  go_wp2_with fail
  clear hcv
  refine (nwBytes w1 _ _ _).mono ?_
  rintro e w' ⟨rfl, rfl⟩
  go_wp2_with fail
  go_ret
  exact ⟨rfl, hb1⟩
set_option maxHeartbeats 2000000 in
set_option maxRecDepth 100000 in
theorem wireNobody_walk (x : Nat) (A : Option Addr) (c : Nat) (l : List UInt8) (m : Int) (w : World) (hx : x < 18446744073709551616) (hc : l.length ≤ c) (hm : c ≤ maxLen) (_hr : Bs w A l) :
    Calls Try.prog 6 #[.int .u64 (x : Nat), .slice A l.length c, .int .i64 m] w fun e w' => e = .returned (.bool true) ∧ Below w.heap.size w w' := by
  have HX := Lib.hid hx
  clear hx
  go_enter Try.func6, Try.ntmps6
  go_wp2_with fail
  refine (cut_bs A c 20 l w hc hm (by decide)).mono ?_
  rintro e w' ⟨rfl, rfl⟩
  generalize l.take 20 = b at *
  clear hc hm _hr
  go_wp2_with fail
  refine (nwU w _).mono ?_
  rintro e w' ⟨rfl, rfl⟩
  go_wp2_with fail
  refine (nwBytes w _ _ _).mono ?_
  rintro e w' ⟨rfl, rfl⟩
  go_wp2_with fail
  refine (nwText w _).mono ?_
  rintro e w1 ⟨rfl, hb1⟩
  go_wp2_with fail
  refine (nwBool w1 true).mono ?_
  rintro e w' ⟨rfl, rfl⟩
  go_wp2_with fail
  refine (nwDone w1).mono ?_
  rintro e w' ⟨rfl, rfl⟩
  go_wp2_with fail
  have hz : WrAt ((w1.alloc (.cells #[.slice none 0 0] 48)).alloc (.cells #[.slice none 0 0, .int .i64 0, .bool false] 50)) w1.heap.size w1.heap.size (.slice none 0 0) [] :=
    (⟨heap_alloc_new w1 _, World.ownsRow_nil _ _ _ _⟩ : WrAt (w1.alloc (.cells #[.slice none 0 0] 48)) w1.heap.size w1.heap.size (.slice none 0 0) []).below (below_alloc _ _)
  have hn : Nobody ((w1.alloc (.cells #[.slice none 0 0] 48)).alloc (.cells #[.slice none 0 0, .int .i64 0, .bool false] 50)) (.pointer (some ⟨w1.heap.size + 1, 0, none⟩)) := by
    refine .inr ⟨w1.heap.size + 1, rfl, ?_⟩
    have := heap_alloc_new (w1.alloc (.cells #[.slice none 0 0] 48)) (.cells #[.slice none 0 0, .int .i64 0, .bool false] 50)
    simpa using this
  have hb2 : Below w.heap.size w ((w1.alloc (.cells #[.slice none 0 0] 48)).alloc (.cells #[.slice none 0 0, .int .i64 0, .bool false] 50)) := below_then hb1 (below_then (below_alloc _ _) (below_alloc _ _))
  have hs2 : w1.heap.size + 2 ≤ ((w1.alloc (.cells #[.slice none 0 0] 48)).alloc (.cells #[.slice none 0 0, .int .i64 0, .bool false] 50)).heap.size := by simp
  obtain ⟨w2, hw2⟩ : ∃ w2, (w1.alloc (.cells #[.slice none 0 0] 48)).alloc (.cells #[.slice none 0 0, .int .i64 0, .bool false] 50) = w2 := ⟨_, rfl⟩
  rw [hw2] at hz hn hb2 hs2 ⊢
  have HZ := Lib.hid hz
  have HN := Lib.hid hn
  have HB2 := Lib.hid hb2
  have hs1 := hb1.size
  clear hz hn hb2 hw2 hb1
  refine (nbU w2 _ (.inl rfl)).mono ?_
  rintro e w' ⟨rfl, rfl⟩
  go_wp2_with fail
  refine (nbU w2 _ HN.out).mono ?_
  rintro e w' ⟨rfl, rfl⟩
  go_wp2_with fail
  refine (nbN w2 _ _ (.inl rfl)).mono ?_
  rintro e w' ⟨rfl, rfl⟩
  go_wp2_with fail
  refine (nbN w2 _ _ HN.out).mono ?_
  rintro e w' ⟨rfl, rfl⟩
  go_wp2_with fail
  refine (nbBytes w2 _ (.inl rfl)).mono ?_
  rintro e w' ⟨rfl, rfl⟩
  go_wp2_with fail
  refine (nbBytes w2 _ HN.out).mono ?_
  rintro e w' ⟨rfl, rfl⟩
  go_wp2_with fail
  refine (nbText w2 _ (.inl rfl)).mono ?_
  rintro e w' ⟨rfl, rfl⟩
  go_wp2_with fail
  refine (nbText w2 _ HN.out).mono ?_
  rintro e w' ⟨rfl, rfl⟩
  go_wp2_with fail
  refine (nbBool w2 _ (.inl rfl)).mono ?_
  rintro e w' ⟨rfl, rfl⟩
  go_wp2_with fail
  refine (nbBool w2 _ HN.out).mono ?_
  rintro e w' ⟨rfl, rfl⟩
  have hU := wrU_any w1.heap.size w1.heap.size x (.slice none 0 0) [] w2 HZ.out HX.out (by decide) (by omega)
  rw [List.nil_append] at hU
  have HU := Lib.hid hU
  clear hU
  go_wp2_with fail
  refine HU.out.mono ?_
  rintro e w3 ⟨rfl, v3, hz3, hk3, _⟩
  have hput := WireMath.put_le 9 x (by have := HX.out; omega)
  have hb3 : Below w.heap.size w w3 := HB2.out.trans (hk3.below (fun k hk hf => by
    rcases hf with hf | hf
    · omega
    · cases hf) HB2.out.size)
  have hn3 : Nobody w3 (.pointer (some ⟨w1.heap.size + 1, 0, none⟩)) := by
    rcases HN.out with h | ⟨g, h, hh⟩
    · cases h
    · refine .inr ⟨g, h, hk3.heap hh (fun hf => ?_)⟩
      rcases hf with hf | hf
      · injection h with h
        injection h with h
        injection h with h
        omega
      · cases hf
  have HD := Lib.hid (wrDone_any w1.heap.size w1.heap.size v3 (WireMath.put x) w3 hz3 (by omega))
  have HB3 := Lib.hid hb3
  have HN3 := Lib.hid hn3
  clear hz3 hk3 hb3 hn3 HU HN HZ HB2
  go_wp2_with fail
  refine HD.out.mono ?_
  rintro e w4 ⟨u4, rfl, ho4, hb4⟩
  obtain ⟨A4, c4, rfl, _⟩ := own_shape ho4
  have HB4 := Lib.hid (below_then HB3.out hb4)
  have HN4 := Lib.hid (show Nobody w4 (.pointer (some ⟨w1.heap.size + 1, 0, none⟩)) from by
    rcases HN3.out with h | ⟨g, h, hh⟩
    · cases h
    · exact .inr ⟨g, h, (hb4.block g (heap_lt hh)).trans hh⟩)
  have HO4 := Lib.hid ho4
  clear ho4 hb4 HB3 HN3 HD
  go_wp2_with fail
  refine (refPut_any x w4 HX.out).mono ?_
  rintro e w5 ⟨u5, rfl, ho5, hb5⟩
  obtain ⟨A5, c5, rfl, _⟩ := own_shape ho5
  have HB5 := Lib.hid (below_then HB4.out hb5)
  have HN5 := Lib.hid (show Nobody w5 (.pointer (some ⟨w1.heap.size + 1, 0, none⟩)) from by
    rcases HN4.out with h | ⟨g, h, hh⟩
    · cases h
    · exact .inr ⟨g, h, (hb5.block g (heap_lt hh)).trans hh⟩)
  have HS := Lib.hid (same_bel A4 A5 c4 c5 (WireMath.put x) (WireMath.put x) w5 (by omega) (by omega) (Bs.of_own (own_below HO4.out hb5)) (Bs.of_own ho5))
  clear ho5 hb5 HB4 HN4 HO4
  obtain ⟨L, hL⟩ : ∃ L, WireMath.put x = L := ⟨_, rfl⟩
  rw [hL] at HS ⊢
  clear hL hput
  go_wp2_with fail
  refine HS.out.mono ?_
  rintro e w6 ⟨rfl, hb6⟩
  rw [sameB_self]
  have HB6 := Lib.hid (below_then HB5.out hb6)
  have HN6 := Lib.hid (show Nobody w6 (.pointer (some ⟨w1.heap.size + 1, 0, none⟩)) from by
    rcases HN5.out with h | ⟨g, h, hh⟩
    · cases h
    · exact .inr ⟨g, h, (hb6.block g (heap_lt hh)).trans hh⟩)
  clear hb6 HB5 HN5 HS
  go_wp2_with fail
  refine (nbErr w6 _ (.inl rfl)).mono ?_
  rintro e w' ⟨rfl, rfl⟩
  go_wp2_with fail
  refine (nbEnd w6 _ HN6.out).mono ?_
  rintro e w' ⟨rfl, rfl⟩
  go_wp2_with fail
  refine (nbLeft w6 _ (.inl rfl)).mono ?_
  rintro e w' ⟨rfl, rfl⟩
  go_wp2_with fail
  refine (nbLeft w6 _ HN6.out).mono ?_
  rintro e w' ⟨rfl, rfl⟩
  go_wp2_with fail
  refine (wireLives_any w6).mono ?_
  rintro e w7 ⟨rfl, hb7⟩
  go_wp2_with fail
  go_ret
  exact ⟨rfl, below_then HB6.out hb7⟩
end Go.Proofs.Ytmaemlmbhldmkaa
