/- The walk of the law that bytes and texts come back: it returns true and turns nothing that was there. -/
import Derived.Test.YtnjkpoljcekjcaaB64Laws
namespace Go.Proofs.Ytnjkpoljcekjcaa
open Go.RowKit
theorem strlen_take (s : ByteArray) (k : Nat) : (s.data.toList.take k).length ≤ k := List.length_take_le _ _
set_option maxHeartbeats 1000000 in
theorem b64Back_walk (A : Option Addr) (c : Nat) (l : List UInt8) (s : ByteArray) (w : World) (hc : l.length ≤ c) (hm : c ≤ maxLen) (hr : Bs w A l) (hs : s.size ≤ maxLen) :
    Calls Try.prog 5 #[.slice A l.length c, .string s] w fun e w' => e = .returned (.bool true) ∧ Below w.heap.size w w' := by
  go_enter Try.func5, Try.ntmps5
  go_wp2_with fail
  refine (cut_bs A c 300 l w hc hm (by decide)).mono ?_
  rintro e w' ⟨rfl, rfl⟩
  have hrb := hr.take 300
  have hbl : (l.take 300).length ≤ 300 := List.length_take_le _ _
  generalize l.take 300 = b at *
  clear hr hc hm
  go_wp2_with fail
  refine (short_any s 200 w hs (by decide)).mono ?_
  rintro e w' ⟨rfl, rfl⟩
  have htl := strlen_take s 200
  generalize s.data.toList.take 200 = t at *
  clear hs
  go_wp2_with fail
  refine (encode_any A c b w (by omega) hrb).mono ?_
  rintro e w1 ⟨rfl, hb1⟩
  have hrb1 := hrb.below hb1
  clear hrb
  have hel := B64Math.enc_length b
  have HEL := Lib.hid hel
  have hdb := B64Math.dec_enc b
  have HDB := Lib.hid hdb
  generalize hE : B64Math.enc b = eb at *
  have HE := Lib.hid hE
  have hebl : eb.length ≤ 402 := by omega
  clear hel hdb hE
  go_wp2_with fail
  refine (decode_some eb b w1 (by omega) HDB.out).mono ?_
  rintro e w2 ⟨A2, c2, rfl, hc2, hr2, hb2⟩
  have hrb2 := hrb1.below hb2
  clear hrb1
  have hb02 := below_then hb1 hb2
  clear hb1 hb2
  cases hdt : B64Math.dec t with
  | none =>
    have HDT := Lib.hid hdt
    clear hdt
    go_wp2_with fail
    refine (decode_none t w2 (by omega) HDT.out).mono ?_
    rintro e w3 ⟨rfl, hb3⟩
    have hr3 := hr2.below hb3
    have hrb3 := hrb2.below hb3
    have hb03 := below_then hb02 hb3
    clear hr2 hrb2 hb02 hb3
    go_wp2_with fail
    refine (same_bel A A2 c c2 b b w3 (by omega) (by omega) hrb3 hr3).mono ?_
    rintro e w4 ⟨rfl, hb4⟩
    rw [sameB_self]
    have hrb4 := hrb3.below hb4
    have hb04 := below_then hb03 hb4
    clear hr3 hrb3 hb03 hb4
    go_wp2_with fail
    refine (encode_any A c b w4 (by omega) hrb4).mono ?_
    rintro e w5 ⟨rfl, hb5⟩
    have hb05 := below_then hb04 hb5
    clear hb04 hb5
    rw [HE.out]
    have hq : ((eb.length : Int) == (4 * (b.length : Int) + 2) / 3) = true := by
      have := HEL.out
      rw [beq_iff_eq]; omega
    go_wp2_with fail
    refine (b64Lives_any w5).mono ?_
    rintro e w6 ⟨rfl, hb6⟩
    go_wp2_with fail
    go_ret
    exact ⟨rfl, below_then hb05 hb6⟩
  | some m =>
    have hem := B64Math.enc_dec t m hdt
    have hml : m.length ≤ 400 := by
      have := B64Math.enc_length m
      rw [hem] at this
      omega
    have HDT := Lib.hid hdt
    have HEM := Lib.hid hem
    clear hdt hem
    go_wp2_with fail
    refine (decode_some t m w2 (by omega) HDT.out).mono ?_
    rintro e w3 ⟨A3, c3, rfl, hc3, hr3m, hb3⟩
    have hr3 := hr2.below hb3
    have hrb3 := hrb2.below hb3
    have hb03 := below_then hb02 hb3
    clear hr2 hrb2 hb02 hb3
    go_wp2_with fail
    refine (same_bel A A2 c c2 b b w3 (by omega) (by omega) hrb3 hr3).mono ?_
    rintro e w4 ⟨rfl, hb4⟩
    rw [sameB_self]
    have hrb4 := hrb3.below hb4
    have hr4m := hr3m.below hb4
    have hb04 := below_then hb03 hb4
    clear hr3 hrb3 hb03 hb4 hr3m
    go_wp2_with fail
    refine (encode_any A3 c3 m w4 (by omega) hr4m).mono ?_
    rintro e w5 ⟨rfl, hb5⟩
    rw [HEM.out]
    have hrb5 := hrb4.below hb5
    have hb05 := below_then hb04 hb5
    clear hrb4 hb04 hb5 hr4m
    go_wp2_with fail
    refine (encode_any A c b w5 (by omega) hrb5).mono ?_
    rintro e w6 ⟨rfl, hb6⟩
    have hb06 := below_then hb05 hb6
    clear hb05 hb6
    rw [HE.out]
    have hq : ((eb.length : Int) == (4 * (b.length : Int) + 2) / 3) = true := by
      have := HEL.out
      rw [beq_iff_eq]; omega
    go_wp2_with fail
    refine (b64Lives_any w6).mono ?_
    rintro e w7 ⟨rfl, hb7⟩
    go_wp2_with fail
    go_ret
    exact ⟨rfl, below_then hb06 hb7⟩
end Go.Proofs.Ytnjkpoljcekjcaa
