/- The walks of the laws on bytes as text: each returns true and turns nothing that was there. -/
import Derived.Test.YtnjkpoljcekjcaaB64Ref
import Derived.Test.YtnjkpoljcekjcaaB64Dec
import Derived.Lib.SlBytesConst
namespace Go.Proofs.Ytnjkpoljcekjcaa
open Go.RowKit
def foobar : List UInt8 := [102, 111, 111, 98, 97, 114]
def zg : List UInt8 := [90, 103]
set_option maxHeartbeats 400000 in
theorem b64Lives_any (w : World) : Calls Try.prog 11 #[] w fun e w' => e = .returned (.bool true) ∧ Below w.heap.size w w' := by
  have kc := fun (w : World) (C : Array Value) (n c : Nat) => Lib.run_convert_bytes_const (P := Try.prog) w 22 5 C n c Try.underlying22 Try.underlying5
  go_enter Try.func11, Try.ntmps11
  go_wp2_with fail
  refine (encode_any _ 6 foobar _ (by decide) (Bs.lit w foobar _ _ _ rfl)).mono ?_
  rintro e w1 ⟨rfl, hb1⟩
  have e0 : B64Math.enc foobar = [90, 109, 57, 118, 89, 109, 70, 121] := by decide +kernel
  rw [e0]
  clear e0
  have hb01 := below_then (below_alloc w _) hb1
  clear hb1
  go_wp2_with fail
  refine (is_any zg w1 (by decide)).mono ?_
  rintro e w2 ⟨rfl, hb2⟩
  have e1 : isB zg = true := by decide +kernel
  rw [e1]
  clear e1
  go_wp2_with fail
  go_ret
  exact ⟨rfl, below_then hb01 hb2⟩

theorem decode_some (l m : List UInt8) (w : World) (hl : l.length ≤ 65536) (h : B64Math.dec l = some m) :
    Calls Try.prog 13 #[.string ⟨l.toArray⟩] w fun e w' => ∃ A c, e = .returned (.tuple #[.slice A m.length c, .int .i64 0]) ∧ m.length ≤ c ∧ Bs w' A m ∧ Below w.heap.size w w' := by
  refine (decode_any l w hl).mono ?_
  rintro e w1 ⟨hb1, hp⟩
  rw [h] at hp
  simp only at hp
  obtain ⟨v, rfl, hown⟩ := hp
  obtain ⟨A1, c1, rfl, hc⟩ := own_shape hown
  exact ⟨A1, c1, rfl, hc, Bs.of_own hown, hb1⟩
theorem decode_none (l : List UInt8) (w : World) (hl : l.length ≤ 65536) (h : B64Math.dec l = none) :
    Calls Try.prog 13 #[.string ⟨l.toArray⟩] w fun e w' => e = .returned (.tuple #[.slice none 0 0, .int .i64 4]) ∧ Below w.heap.size w w' := by
  refine (decode_any l w hl).mono ?_
  rintro e w1 ⟨hb1, hp⟩
  rw [h] at hp
  simp only at hp
  exact ⟨hp, hb1⟩

set_option maxHeartbeats 400000 in
theorem b64Encodes_walk (A : Option Addr) (c : Nat) (l : List UInt8) (w : World) (hc : l.length ≤ c) (hm : c ≤ maxLen) (hr : Bs w A l) :
    Calls Try.prog 3 #[.slice A l.length c] w fun e w' => e = .returned (.bool true) ∧ Below w.heap.size w w' := by
  go_enter Try.func3, Try.ntmps3
  go_wp2_with fail
  refine (cut_bs A c 200 l w hc hm (by decide)).mono ?_
  rintro e w' ⟨rfl, rfl⟩
  have hrb := hr.take 200
  have hbl : (l.take 200).length ≤ 200 := List.length_take_le _ _
  have hbc : (l.take 200).length ≤ c := by rw [List.length_take]; omega
  generalize l.take 200 = b at *
  clear hr hc hm
  go_wp2_with fail
  refine (copy_any A c b w (by omega) hrb).mono ?_
  rintro e w1 ⟨v, rfl, hown, hb1⟩
  obtain ⟨A1, c1, rfl, _⟩ := own_shape hown
  have hr1 := Bs.of_own hown
  have hrb1 := hrb.below hb1
  clear hown hrb
  go_wp2_with fail
  refine (encode_any A1 c1 b w1 (by omega) hr1).mono ?_
  rintro e w2 ⟨rfl, hb2⟩
  have hr2 := hr1.below hb2
  have hrb2 := hrb1.below hb2
  clear hr1 hrb1
  go_wp2_with fail
  refine (refEncode_any A c b w2 (by omega) hbc hrb2).mono ?_
  rintro e w' ⟨rfl, n, hw'⟩
  have hb3 : Below w2.heap.size w2 w' := by rw [hw']; exact below_refl_drewN _ _ _
  clear hw'
  go_wp2_with fail
  refine (same_bel A1 A c1 c b b w' (by omega) (by omega) (hr2.below hb3) (hrb2.below hb3)).mono ?_
  rintro e w4 ⟨rfl, hb4⟩
  rw [sameB_self]
  go_wp2_with fail
  refine (b64Lives_any w4).mono ?_
  rintro e w5 ⟨rfl, hb5⟩
  go_wp2_with fail
  go_ret
  exact ⟨rfl, below_then (below_then (below_then (below_then hb1 hb2) hb3) hb4) hb5⟩
end Go.Proofs.Ytnjkpoljcekjcaa
