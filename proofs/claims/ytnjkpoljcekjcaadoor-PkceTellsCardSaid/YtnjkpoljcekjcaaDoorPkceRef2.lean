/- The contract of the document's challenge. -/
import Derived.Test.YtnjkpoljcekjcaaDoorPkceRef
namespace Go.Proofs.YtnjkpoljcekjcaaDoor
open Go.RowKit
def RChal (S : List UInt8) (g : Nat) (w : World) (o i : Value) (wr : World) : Prop :=
  ∃ k : Nat, k ≤ 32 ∧ i = .int .i64 (k : Nat) ∧ Own8 wr w.heap.size o (S.take k) ∧ RowV wr g 25 (bvs S) ∧ (∀ q, o.ownBlock = some q → q ≠ g) ∧ Below w.heap.size w wr
set_option maxRecDepth 100000 in
set_option maxHeartbeats 1000000 in
theorem refChal_any (l : List UInt8) (w : World) (hl : l.length ≤ 200) :
    Calls Tryd.prog 24 #[.string ⟨l.toArray⟩] w fun e w' => e = .returned (.string ⟨(chal l).toArray⟩) ∧ Below w.heap.size w w' := by
  have hcv := Lib.run_convert_string_bytes (P := Tryd.prog) w 9 22 5 ⟨l.toArray⟩ Tryd.underlying9 Tryd.underlying22 Tryd.underlying5
  have hb1 := bytesW_below w ⟨l.toArray⟩
  have hs1 := bytesW_bs w l
  have hsz : (⟨l.toArray⟩ : ByteArray).size = l.length := by show l.toArray.size = l.length; simp
  rw [hsz] at hcv
  obtain ⟨n, hn⟩ : ∃ n, l.length = n := ⟨_, rfl⟩
  rw [hn] at hcv hl
  obtain ⟨w1, hw1⟩ : ∃ w1, Lib.bytesWorld w 5 ⟨l.toArray⟩ = w1 := ⟨_, rfl⟩
  rw [hw1] at hcv hb1 hs1
  obtain ⟨cc, hcc⟩ : ∃ cc, grownCap w n 0 5 = cc := ⟨_, rfl⟩
  rw [hcc] at hcv
  have HB := Lib.hid hb1
  have HS := Lib.hid hs1
  have HN := Lib.hid hn
  clear hw1 hcc hsz hs1 hb1 hn
  go_enter Tryd.func24, Tryd.ntmps24
  go_wp2_with fail
  clear hcv
  refine (refOf_any _ n cc l w1 HN.out (by omega) HS.out).mono ?_
  rintro e w2 ⟨rfl, hb2⟩
  obtain ⟨S0, hS0⟩ : ∃ S0, ShaMath.sha l = S0 := ⟨_, rfl⟩
  have hS0l : S0.length = 32 := by rw [← hS0]; exact ShaMath.sha_length _
  rw [hS0]
  have hi32 : (Tryd.prog.info? 25).map (·.size) = some (bvs S0).length := by rw [bvs_length, hS0l]; exact info_32
  have HB2 := Lib.hid (below_then HB.out hb2)
  have HI := Lib.hid hi32
  have HS0 := Lib.hid hS0
  have HS0L := Lib.hid hS0l
  clear hS0 hS0l hi32 hb2
  go_wp2_with (refine wpList_store_new rfl 25 (.tmp 3) (.tmp 8) rfl rfl (bvs S0) rfl rfl (by rw [bvs_length, HS0L.out]; rfl) HI.out (bvs_one S0) ?_; intro w3 hr3 hb3 hs3; have HR3 := Lib.hid hr3; have HB3 := Lib.hid (below_then HB2.out hb3); have HS3 := Lib.hid hs3; clear hr3 hb3 hs3)
  go_loopw [4, 5] (fun o i wr => RChal S0 w2.heap.size w o i wr) (fun _ i _ => 32 - (intOf i).toNat)
  case atStart => exact ⟨0, Nat.zero_le _, rfl, by simpa using Own8.nil w3 w.heap.size, HR3.out, fun q hq => by simp [Value.ownBlock] at hq, HB3.out⟩
  case round =>
    clear HR3 HB3 HS3
    obtain ⟨k, hk, rfl, ho, hr, hq, hb⟩ := hrel
    obtain ⟨A4, n4, c4, rfl, hn4, hc4, hcm4⟩ := ho.shape'
    have hsz := hb.size
    have hglt := hr.lt
    have HO := Lib.hid ho
    have HR := Lib.hid hr
    have HQ := Lib.hid hq
    have HB' := Lib.hid hb
    have HN4 := Lib.hid hn4
    by_cases hlt : k < 32
    · have hk0 : k < S0.length := by rw [HS0L.out]; exact hlt
      have hcell : wr.cell? ⟨w2.heap.size, k, none⟩ = some (.int .u8 (S0[k].toNat : Int)) := by
        rw [hr.cell]
        exact bvs_get S0 k _ (List.getElem?_eq_getElem hk0)
      have htk : S0.take (k + 1) = S0.take k ++ [S0[k]] := List.take_succ_eq_append_getElem hk0
      generalize S0[k] = c at hcell htk
      have HTK := Lib.hid htk
      have hkl : (k : Int) < 32 := by omega
      clear ho hr hq hb hn4 htk
      go_wp2_with (at_builtin; refine wpList_push8 rfl (.tmp 13) (.tmp 17) rfl w.heap.size _ (S0.take k) rfl HO.out rfl _ c rfl rfl (by rw [List.length_take]; omega) hsz ?_; intro v5 w5 ho5 hk5 hv5; have HO5 := Lib.hid ho5; have HK5 := Lib.hid hk5; have HV5 := Lib.hid hv5; clear ho5 hk5 hv5)
      go_roundw
      case rel =>
        refine ⟨k + 1, by omega, by go_num, by rw [HTK.out]; exact HO5.out, HR.out.keep HK5.out (fun h => HQ.out _ h rfl), fun q hq => ?_, HB'.out.trans (HK5.out.below (B := w.heap.size) (fun q _ hq => (HO.out.lt q hq).1) hsz)⟩
        rcases HV5.out q hq with h | h
        · exact HQ.out q h
        · omega
      case measure => simp [intOf]; omega
    · have hk32 : k = 32 := by omega
      have hS : S0.take k = S0 := List.take_of_length_le (by rw [HS0L.out]; omega)
      have hn32 : n4 = 32 := by rw [← hn4, hS, HS0L.out]
      have hen := refEncode_any A4 c4 S0 wr (by rw [HS0L.out]; decide) (by rw [HS0L.out]; omega) (by have := ho.bs; rw [hS] at this; exact this)
      rw [HS0L.out] at hen
      subst hn32
      have HE := Lib.hid hen
      clear ho hr hq hb hn4 hS hen hk32
      go_wp2_with fail
      refine HE.out.mono ?_
      rintro e w6 ⟨rfl, m, rfl⟩
      go_wp2_with fail
      go_ret
      refine ⟨?_, below_drewN HB'.out m⟩
      unfold chal
      rw [HS0.out]
      rfl
end Go.Proofs.YtnjkpoljcekjcaaDoor
