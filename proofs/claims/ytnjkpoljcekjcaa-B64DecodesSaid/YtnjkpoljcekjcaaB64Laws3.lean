/- The walk of the law on texts as bytes: it returns true and turns nothing that was there. -/
import Derived.Test.YtnjkpoljcekjcaaB64Laws2
import Derived.Test.YtnjkpoljcekjcaaB64RefDec
namespace Go.Proofs.Ytnjkpoljcekjcaa
open Go.RowKit
theorem refDecode_some (l m : List UInt8) (w : World) (hl : l.length ≤ 65536) (h : B64Math.dec l = some m) :
    Calls Try.prog 14 #[.string ⟨l.toArray⟩] w fun e w' => ∃ A c, e = .returned (.tuple #[.slice A m.length c, .int .i64 0]) ∧ m.length ≤ c ∧ Bs w' A m ∧ Below w.heap.size w w' := by
  refine (refDecode_any l w hl).mono ?_
  rintro e w1 ⟨hb1, hp⟩
  rw [h] at hp
  simp only at hp
  obtain ⟨v, rfl, hown⟩ := hp
  obtain ⟨A1, c1, rfl, hc⟩ := own_shape hown
  exact ⟨A1, c1, rfl, hc, Bs.of_own hown, hb1⟩
theorem refDecode_none (l : List UInt8) (w : World) (hl : l.length ≤ 65536) (h : B64Math.dec l = none) :
    Calls Try.prog 14 #[.string ⟨l.toArray⟩] w fun e w' => e = .returned (.tuple #[.slice none 0 0, .int .i64 4]) ∧ Below w.heap.size w w' := by
  refine (refDecode_any l w hl).mono ?_
  rintro e w1 ⟨hb1, hp⟩
  rw [h] at hp
  simp only at hp
  exact ⟨hp, hb1⟩
set_option maxHeartbeats 1000000 in
theorem b64Decodes_walk (s : ByteArray) (w : World) (hs : s.size ≤ maxLen) :
    Calls Try.prog 4 #[.string s] w fun e w' => e = .returned (.bool true) ∧ Below w.heap.size w w' := by
  go_enter Try.func4, Try.ntmps4
  go_wp2_with fail
  refine (short_any s 200 w hs (by decide)).mono ?_
  rintro e w' ⟨rfl, rfl⟩
  have htl := strlen_take s 200
  generalize s.data.toList.take 200 = t at *
  clear hs
  cases hdt : B64Math.dec t with
  | none =>
    have hib : isB t = false := by unfold isB; rw [hdt]; rfl
    have HDT := Lib.hid hdt
    have HIB := Lib.hid hib
    clear hdt hib
    go_wp2_with fail
    refine (decode_none t w (by omega) HDT.out).mono ?_
    rintro e w1 ⟨rfl, hb1⟩
    go_wp2_with fail
    refine (refDecode_none t w1 (by omega) HDT.out).mono ?_
    rintro e w2 ⟨rfl, hb2⟩
    go_wp2_with fail
    refine (same_bel none none 0 0 [] [] w2 (by decide) (by decide) (Bs.nil _ _) (Bs.nil _ _)).mono ?_
    rintro e w3 ⟨rfl, hb3⟩
    rw [sameB_self]
    go_wp2_with fail
    refine (is_any t w3 (by omega)).mono ?_
    rintro e w4 ⟨rfl, hb4⟩
    rw [HIB.out]
    go_wp2_with fail
    refine (b64Lives_any w4).mono ?_
    rintro e w5 ⟨rfl, hb5⟩
    go_wp2_with fail
    go_ret
    exact ⟨rfl, below_then (below_then (below_then (below_then hb1 hb2) hb3) hb4) hb5⟩
  | some m =>
    have hib : isB t = true := by unfold isB; rw [hdt]; rfl
    have hml : m.length ≤ 400 := by
      have h1 := B64Math.enc_length m
      rw [B64Math.enc_dec t m hdt] at h1
      omega
    have HDT := Lib.hid hdt
    have HIB := Lib.hid hib
    clear hdt hib
    go_wp2_with fail
    refine (decode_some t m w (by omega) HDT.out).mono ?_
    rintro e w1 ⟨A1, c1, rfl, hc1, hr1, hb1⟩
    go_wp2_with fail
    refine (refDecode_some t m w1 (by omega) HDT.out).mono ?_
    rintro e w2 ⟨A2, c2, rfl, hc2, hr2, hb2⟩
    have hr12 := hr1.below hb2
    clear hr1
    go_wp2_with fail
    refine (same_bel A1 A2 c1 c2 m m w2 (by omega) (by omega) hr12 hr2).mono ?_
    rintro e w3 ⟨rfl, hb3⟩
    rw [sameB_self]
    go_wp2_with fail
    refine (is_any t w3 (by omega)).mono ?_
    rintro e w4 ⟨rfl, hb4⟩
    rw [HIB.out]
    go_wp2_with fail
    refine (b64Lives_any w4).mono ?_
    rintro e w5 ⟨rfl, hb5⟩
    go_wp2_with fail
    go_ret
    exact ⟨rfl, below_then (below_then (below_then (below_then hb1 hb2) hb3) hb4) hb5⟩
end Go.Proofs.Ytnjkpoljcekjcaa
