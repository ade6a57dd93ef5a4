/- The contracts of a revision as text: sealed, Encode, the document's Get and Bytes. -/
import Derived.Test.YtmaemlmbhldmkaaDoorZookieMath
import Derived.Test.YtmaemlmbhldmkaaDoorCrc
import Derived.Test.YtmaemlmbhldmkaaDoorB64RefDec
import Derived.Test.YtmaemlmbhldmkaaDoorWireR2
namespace Go.Proofs.YtmaemlmbhldmkaaDoor
open Go.RowKit
theorem crc4_lit (s : Nat) (a b c d : Int) (ha : a = (s : Int) / 16777216 % 256) (hb : b = (s : Int) / 65536 % 256) (hc : c = (s : Int) / 256 % 256) (hd : d = (s : Int) % 256) :
    (#[.int .u8 a, .int .u8 b, .int .u8 c, .int .u8 d] : Array Value) = (bvs (ZookieMath.crc4 s)).toArray := by
  subst ha hb hc hd
  simp only [bvs, ZookieMath.crc4, List.map_cons, List.map_nil, UInt8.toNat_ofNat']
  have h : ∀ n : Nat, ((n % 2 ^ 8 : Nat) : Int) = (n : Int) % 256 := by intro n; omega
  rw [h, h, h, h]
  rfl
set_option maxHeartbeats 400000 in
theorem sealed_any (x : Nat) (w : World) (hx : x < 18446744073709551616) (ht : Halves w) :
    Calls Tryd.prog 20 #[.int .u64 (x : Nat)] w fun e w' => ∃ v, e = .returned v ∧ w'.ownsRow w.heap.size 5 1 v (ZookieMath.sealed x).length (bvs (ZookieMath.sealed x)) ∧ Below w.heap.size w w' := by
  obtain ⟨i0, hi0, hz0, hz1, hz2⟩ := info_parts info_u8
  have hpl := WireMath.put_le 9 x (by omega)
  have hse : ZookieMath.sealed x = WireMath.put x ++ ZookieMath.crc4 (CrcMath.add 0 (WireMath.put x)) := rfl
  go_enter Tryd.func20, Tryd.ntmps20
  go_wp2_with fail
  refine (wirePut_any x w hx).mono ?_
  rintro e w1 ⟨v, rfl, hown, hb1⟩
  obtain ⟨A, c, rfl, _⟩ := own_shape hown
  obtain ⟨p, hp⟩ : ∃ p, WireMath.put x = p := ⟨_, rfl⟩
  rw [hp] at hown hpl hse ⊢
  have hr := Bs.of_own hown
  have hown' : w1.ownsRow w.heap.size 5 1 (.slice A p.length c) (bvs p).length (bvs p) := by rw [bvs_length]; exact hown
  have HO := Lib.hid hown'
  have HS := Lib.hid hse
  have hs := hb1.size
  clear hown hown' hse hp
  go_wp2_with fail
  refine (crcSum_any A c p w1 (by omega) (ht.below hb1) hr).mono ?_
  rintro e w' ⟨rfl, rfl⟩
  have hlt := CrcMath.add_lt p (show 0 < 4294967296 by decide)
  obtain ⟨s, hsum⟩ : ∃ s, CrcMath.add 0 p = s := ⟨_, rfl⟩
  rw [hsum] at hlt HS ⊢
  clear hsum
  go_wp2_with (at_builtin; refine wpList_append_bs _ rfl _ _ 31 rfl w.heap.size 5 i0 (.int .u8 0) Tryd.underlying31 hi0 hz0 hz1 hz2 rfl (.slice A p.length c) (bvs p) rfl (HO.out.alloc _) (some ⟨w1.heap.size, 0, none⟩) 4 4 (ZookieMath.crc4 s) rfl rfl ?c1 ?c2 ?c3 ?_)
  case c1 => exact Bs.lit w1 _ _ _ _ (crc4_lit s _ _ _ _ (by omega) (by omega) (by omega) (by omega))
  case c2 => rw [bvs_length]; simp [ZookieMath.crc4]; omega
  case c3 => simp; omega
  intro v1 w2 hown2 hg2 _
  have hb2 : Below w.heap.size w w2 := (hb1.alloc (by omega) _).grown hg2 (by simp; omega) (fun g hg => ((HO.out.alloc (.cells #[] 0)).lt g hg).1)
  have HO2 := Lib.hid hown2
  clear hown2 hg2
  go_wp2_with fail
  go_ret
  refine ⟨v1, rfl, ?_, hb2⟩
  have h := HO2.out
  rw [HS.out, bvs_append, List.length_append]
  rw [bvs_length] at h
  exact h
set_option maxHeartbeats 400000 in
theorem zEncode_any (x : Nat) (w : World) (hx : x < 18446744073709551616) (ht : Halves w) :
    Calls Tryd.prog 8 #[.int .u64 (x : Nat)] w fun e w' => e = .returned (.string ⟨(ZookieMath.text x).toArray⟩) ∧ Below w.heap.size w w' := by
  have hle := ZookieMath.sealed_le x hx
  have htx : ZookieMath.text x = B64Math.enc (ZookieMath.sealed x) := rfl
  go_enter Tryd.func8, Tryd.ntmps8
  go_wp2_with fail
  refine (sealed_any x w hx ht).mono ?_
  rintro e w1 ⟨v, rfl, hown, hb1⟩
  obtain ⟨A, c, rfl, _⟩ := own_shape hown
  obtain ⟨p, hp⟩ : ∃ p, ZookieMath.sealed x = p := ⟨_, rfl⟩
  rw [hp] at hown hle htx ⊢
  have hr := Bs.of_own hown
  have HT := Lib.hid htx
  clear hown htx hp
  go_wp2_with fail
  refine (encode_any A c p w1 (by omega) hr).mono ?_
  rintro e w2 ⟨rfl, hb2⟩
  go_wp2_with fail
  go_ret
  exact ⟨(congrArg (fun l : List UInt8 => Ending.returned (.string ⟨l.toArray⟩)) HT.out).symm, below_then hb1 hb2⟩
set_option maxHeartbeats 400000 in
theorem refBytes14_any (x : Nat) (w : World) (hx : x < 18446744073709551616) :
    Calls Tryd.prog 10 #[.int .u64 (x : Nat)] w fun e w' => ∃ v, e = .returned v ∧ w'.ownsRow w.heap.size 5 1 v (ZookieMath.sealed x).length (bvs (ZookieMath.sealed x)) ∧ Below w.heap.size w w' := by
  obtain ⟨i0, hi0, hz0, hz1, hz2⟩ := info_parts info_u8
  have hpl := WireMath.put_le 9 x (by omega)
  have hse : ZookieMath.sealed x = WireMath.put x ++ ZookieMath.crc4 (CrcMath.add 0 (WireMath.put x)) := rfl
  go_enter Tryd.func10, Tryd.ntmps10
  go_wp2_with fail
  refine (refPut_any x w hx).mono ?_
  rintro e w1 ⟨v, rfl, hown, hb1⟩
  obtain ⟨A, c, rfl, _⟩ := own_shape hown
  obtain ⟨p, hp⟩ : ∃ p, WireMath.put x = p := ⟨_, rfl⟩
  rw [hp] at hown hpl hse ⊢
  have hr := Bs.of_own hown
  have hown' : w1.ownsRow w.heap.size 5 1 (.slice A p.length c) (bvs p).length (bvs p) := by rw [bvs_length]; exact hown
  have HO := Lib.hid hown'
  have HS := Lib.hid hse
  have hs := hb1.size
  clear hown hown' hse hp
  go_wp2_with fail
  refine (refAdd_any 0 A c p w1 (by decide) (by omega) hr).mono ?_
  rintro e w' ⟨rfl, rfl⟩
  have hlt := CrcMath.add_lt p (show 0 < 4294967296 by decide)
  obtain ⟨s, hsum⟩ : ∃ s, CrcMath.add 0 p = s := ⟨_, rfl⟩
  rw [hsum] at hlt HS ⊢
  clear hsum
  go_wp2_with (at_builtin; refine wpList_append_bs _ rfl _ _ 31 rfl w.heap.size 5 i0 (.int .u8 0) Tryd.underlying31 hi0 hz0 hz1 hz2 rfl (.slice A p.length c) (bvs p) rfl (HO.out.alloc _) (some ⟨w1.heap.size, 0, none⟩) 4 4 (ZookieMath.crc4 s) rfl rfl ?c1 ?c2 ?c3 ?_)
  case c1 => exact Bs.lit w1 _ _ _ _ (crc4_lit s _ _ _ _ (by omega) (by omega) (by omega) (by omega))
  case c2 => rw [bvs_length]; simp [ZookieMath.crc4]; omega
  case c3 => simp; omega
  intro v1 w2 hown2 hg2 _
  have hb2 : Below w.heap.size w w2 := (hb1.alloc (by omega) _).grown hg2 (by simp; omega) (fun g hg => ((HO.out.alloc (.cells #[] 0)).lt g hg).1)
  have HO2 := Lib.hid hown2
  clear hown2 hg2
  go_wp2_with fail
  go_ret
  refine ⟨v1, rfl, ?_, hb2⟩
  have h := HO2.out
  rw [HS.out, bvs_append, List.length_append]
  rw [bvs_length] at h
  exact h
end Go.Proofs.YtmaemlmbhldmkaaDoor
