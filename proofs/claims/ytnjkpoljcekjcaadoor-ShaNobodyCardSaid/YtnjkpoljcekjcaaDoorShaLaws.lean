/- The walks of the statements on sums: ShaSums, ShaPieces. -/
import Derived.Test.YtnjkpoljcekjcaaDoorShaOf
import Derived.Test.YtnjkpoljcekjcaaDoorShaTie
import Derived.Stop.BytesEq
import Derived.Lib.SlBytesConst
namespace Go.Proofs.YtnjkpoljcekjcaaDoor
open Go.RowKit
theorem HashAt.mono {w : World} {F G : Nat → Prop} {p : Nat} {l : List UInt8} (h : HashAt w F p l) (hs : ∀ k, F k → G k) : HashAt w G p l := by
  obtain ⟨s, made, v, h1, h2, h3, h4, h5⟩ := h
  exact ⟨s, made, v, h1, h2, hs _ h3, fun g hg => hs _ (h4 g hg), h5⟩
theorem size_u8 : ∀ w, (sizeOf 5).run Tryd.prog w = .ok 1 w := by
  intro w
  have h : (Tryd.prog.info? 5).map (·.size) = some 1 := by kernel_rfl
  cases hq : Tryd.prog.info? 5 with
  | none => rw [hq] at h; simp at h
  | some i =>
    rw [hq] at h
    simp at h
    simp [sizeOf, typeInfo, hq, h]
theorem eq_sum (x y : List UInt8) (hx : x.length = 32) (hy : y.length = 32) (w : World) : (Op.equalIn 10000 26 (.agg (bvs x).toArray) (.agg (bvs y).toArray)).run Tryd.prog w = .ok (x == y) w :=
  run_equalIn_bytes w 9998 26 5 32 Tryd.underlying26 Tryd.underlying5 size_u8 x y hx hy
theorem eq_sum_self (x : List UInt8) (hx : x.length = 32) (w : World) : (Op.equalIn 10000 26 (.agg (bvs x).toArray) (.agg (bvs x).toArray)).run Tryd.prog w = .ok true w := by
  rw [eq_sum x x hx hx]; simp
theorem guard_sum : Tryd.prog.eqGuardType Tryd.prog.depth 26 = false := by kernel_rfl
theorem sha_abc : (bvs (ShaMath.sha [97, 98, 99])).toArray = #[.int .u8 186, .int .u8 120, .int .u8 22, .int .u8 191, .int .u8 143, .int .u8 1, .int .u8 207, .int .u8 234, .int .u8 65, .int .u8 65, .int .u8 64, .int .u8 222, .int .u8 93, .int .u8 174, .int .u8 34, .int .u8 35, .int .u8 176, .int .u8 3, .int .u8 97, .int .u8 163, .int .u8 150, .int .u8 23, .int .u8 122, .int .u8 156, .int .u8 180, .int .u8 16, .int .u8 255, .int .u8 97, .int .u8 242, .int .u8 0, .int .u8 21, .int .u8 173] := by
  have : ShaMath.sha [97, 98, 99] = [186, 120, 22, 191, 143, 1, 207, 234, 65, 65, 64, 222, 93, 174, 34, 35, 176, 3, 97, 163, 150, 23, 122, 156, 180, 16, 255, 97, 242, 0, 21, 173] := by decide +kernel
  rw [this]
  rfl
set_option maxRecDepth 100000 in
set_option maxHeartbeats 400000 in
theorem shaLives_any (w : World) (hw : Words w) : Calls Tryd.prog 15 #[] w fun e w' => e = .returned (.bool true) ∧ Below w.heap.size w w' := by
  have kc := fun (w : World) (C : Array Value) (n c : Nat) => Lib.run_convert_bytes_const (P := Tryd.prog) w 22 5 C n c Tryd.underlying22 Tryd.underlying5
  go_enter Tryd.func15, Tryd.ntmps15
  go_wp2_with fail
  refine (shaOf_any _ 3 _ [97, 98, 99] _ rfl (by decide) (Bs.lit _ _ _ _ _ rfl) (hw.below (below_alloc _ _))).mono ?_
  rintro e w1 ⟨rfl, hb1⟩
  rw [sha_abc]
  have hix : ∀ w : World, (Instr.index 26 (.agg #[.int .u8 186, .int .u8 120, .int .u8 22, .int .u8 191, .int .u8 143, .int .u8 1, .int .u8 207, .int .u8 234, .int .u8 65, .int .u8 65, .int .u8 64, .int .u8 222, .int .u8 93, .int .u8 174, .int .u8 34, .int .u8 35, .int .u8 176, .int .u8 3, .int .u8 97, .int .u8 163, .int .u8 150, .int .u8 23, .int .u8 122, .int .u8 156, .int .u8 180, .int .u8 16, .int .u8 255, .int .u8 97, .int .u8 242, .int .u8 0, .int .u8 21, .int .u8 173]) (.int .i64 0)).run Tryd.prog w = .ok (.int .u8 186) w := fun _ => by kernel_rfl
  go_wp2_with fail
  go_ret
  exact ⟨rfl, below_then (below_alloc _ _) hb1⟩
set_option maxHeartbeats 400000 in
theorem shaSums_walk (A : Option Addr) (c : Nat) (l : List UInt8) (w : World) (hc : l.length ≤ c) (hm : c ≤ maxLen) (hw : Words w) (hr : Bs w A l) :
    Calls Tryd.prog 3 #[.slice A l.length c] w fun e w' => e = .returned (.bool true) ∧ Below w.heap.size w w' := by
  go_enter Tryd.func3, Tryd.ntmps3
  go_wp2_with fail
  refine (cut_bs A c 300 l w hc hm (by decide)).mono ?_
  rintro e w' ⟨rfl, rfl⟩
  have hrb := hr.take 300
  have hbl : (l.take 300).length ≤ 300 := List.length_take_le _ _
  obtain ⟨b, hb⟩ : ∃ b, l.take 300 = b := ⟨_, rfl⟩
  rw [hb] at hrb hbl ⊢
  obtain ⟨n, hn⟩ : ∃ n, b.length = n := ⟨_, rfl⟩
  have hcopy := copy_any A c b w (by omega) hrb
  rw [hn] at hbl hcopy ⊢
  have HN := Lib.hid hn
  clear hr hc hm hb hn
  go_wp2_with fail
  refine hcopy.mono ?_
  rintro e w1 ⟨v1, rfl, ho1, hb1⟩
  clear hcopy
  obtain ⟨A1, c1, rfl, hc1⟩ := own_shape ho1
  have HS1 := Lib.hid (Bs.of_own ho1)
  have HB1 := Lib.hid hb1
  clear ho1 hb1
  go_wp2_with fail
  refine (shaOf_any A1 n c1 b w1 HN.out (by omega) HS1.out (hw.below HB1.out)).mono ?_
  rintro e w2 ⟨rfl, hb2⟩
  have HB2 := Lib.hid (below_then HB1.out hb2)
  have HS2 := Lib.hid (HS1.out.below hb2)
  clear hb2
  go_wp2_with fail
  refine (refOf_any A n c b w2 HN.out (by omega) (hrb.below HB2.out)).mono ?_
  rintro e w3 ⟨rfl, hb3⟩
  have HB3 := Lib.hid (below_then HB2.out hb3)
  have HS3 := Lib.hid (HS2.out.below hb3)
  clear hb3
  have heq := eq_sum_self (ShaMath.sha b) (ShaMath.sha_length b)
  have hg := guard_sum
  go_wp2_with fail
  have hsame := same_bel A1 A c1 c b b w3 (by have := HN.out; omega) (by have := HN.out; omega) HS3.out (hrb.below HB3.out)
  rw [HN.out] at hsame
  refine hsame.mono ?_
  rintro e w4 ⟨rfl, hb4⟩
  rw [sameB_self]
  have HB4 := Lib.hid (below_then HB3.out hb4)
  clear hb4 hsame
  go_wp2_with fail
  refine (shaLives_any w4 (hw.below HB4.out)).mono ?_
  rintro e w5 ⟨rfl, hb5⟩
  have HB5 := Lib.hid (below_then HB4.out hb5)
  clear hb5
  go_wp2_with fail
  go_ret
  exact ⟨rfl, HB5.out⟩
def PcRel (b : List UInt8) (p : Nat) (w : World) (r i : Value) (wr : World) : Prop :=
  ∃ (j k : Nat) (A' : Option Addr) (c' : Nat), i = .int .i64 (j : Nat) ∧ j ≤ 40 ∧ k ≤ b.length ∧ r = .slice A' (b.drop k).length c' ∧ (b.drop k).length ≤ c' ∧ Bs w A' (b.drop k) ∧ HashAt wr (fun g => w.heap.size ≤ g) p (b.take k) ∧ Below w.heap.size w wr
/-- what a hash's writing gives a caller whose own memory it is -/
theorem write_own (W w : World) (p n c : Nat) (A : Option Addr) (l b : List UInt8) (hb : Below W.heap.size W w) (hh : HashAt w (fun g => W.heap.size ≤ g) p l) (hn : b.length = n) (hr : Bs W A b) (hlen : l.length + n ≤ 1000000) (hw : Words W) :
    Calls Tryd.prog 18 #[.pointer (some ⟨p, 0, none⟩), .slice A n c] w fun e w' => e = .returned (.tuple #[]) ∧ HashAt w' (fun g => W.heap.size ≤ g) p (l ++ b) ∧ Below W.heap.size W w' := by
  subst hn
  refine (write_any w (fun g => W.heap.size ≤ g) p c A l b hh (hr.below hb) hlen (hw.below hb) (by have := hw.1; omega) (fun ad hA hne => by subst hA; have := hr.lt hne; omega)).mono ?_
  rintro e w' ⟨rfl, hk, F', hh', hF'⟩
  exact ⟨rfl, hh'.mono (fun k hk' => by have := hF' k hk'; have := hb.size; omega), hb.trans (hk.below (B := W.heap.size) (fun k _ hk' => hk') hb.size)⟩
theorem sum_own (W w : World) (p : Nat) (l : List UInt8) (hb : Below W.heap.size W w) (hh : HashAt w (fun g => W.heap.size ≤ g) p l) (hlen : l.length ≤ 900000) (hw : Words W) :
    Calls Tryd.prog 19 #[.pointer (some ⟨p, 0, none⟩)] w fun e w' => e = .returned (.agg (bvs (ShaMath.sha l)).toArray) ∧ HashAt w' (fun g => W.heap.size ≤ g) p l ∧ Below W.heap.size W w' :=
  (sum_any w _ p l hh hlen (hw.below hb)).mono fun _ _ ⟨h1, h2⟩ => ⟨h1, hh.below h2, hb.trans (h2.mono hb.size)⟩
set_option maxHeartbeats 1000000 in
theorem shaPieces_walk (A : Option Addr) (c : Nat) (l : List UInt8) (B : Option Addr) (d : Nat) (zs : List Int) (w : World) (hc : l.length ≤ c) (hm : c ≤ maxLen) (_hd : zs.length ≤ d) (hdm : d ≤ maxLen) (hw : Words w) (hr : Bs w A l) (hz : Ns w B zs) :
    Calls Tryd.prog 4 #[.slice A l.length c, .slice B zs.length d] w fun e w' => e = .returned (.bool true) ∧ Below w.heap.size w w' := by
  have hcm : c ≤ 9223372036854775807 := by unfold maxLen at hm; omega
  have hdm' : d ≤ 9223372036854775807 := by unfold maxLen at hdm; omega
  go_enter Tryd.func4, Tryd.ntmps4
  go_wp2_with fail
  refine (cut_bs A c 2000 l w hc hm (by decide)).mono ?_
  rintro e w' ⟨rfl, rfl⟩
  have hrb := hr.take 2000
  have hbl : (l.take 2000).length ≤ 2000 := List.length_take_le _ _
  have hbc : (l.take 2000).length ≤ c := by rw [List.length_take]; omega
  generalize l.take 2000 = b at *
  clear hr hc hm
  go_wp2_with fail
  refine (shaNew_any w).mono ?_
  rintro e w1 ⟨rfl, hh1, hb1⟩
  have HH1 := Lib.hid (hh1.mono (G := fun g => w.heap.size ≤ g) (fun k hk => by omega))
  have HB1 := Lib.hid hb1
  clear hh1 hb1
  have hsum := ShaMath.sha_length b
  have heq := eq_sum_self (ShaMath.sha b) hsum
  have hg := guard_sum
  have HEQ := Lib.hid heq
  have HG := Lib.hid hg
  clear hsum heq hg
  go_wp2_with fail
  go_loopw [6, 7] (fun r i wr => PcRel b w.heap.size w r i wr) (fun _ i _ => 40 - (intOf i).toNat)
  case atStart => exact ⟨0, 0, A, c, rfl, by decide, Nat.zero_le _, by simp, by simpa using hbc, by simpa using hrb, by simpa using HH1.out, HB1.out⟩
  case round =>
    clear HH1 HB1
    obtain ⟨j, k, A', c', rfl, hj, hk, rfl, hc', hr', hh, hbw⟩ := hrel
    have hdl : (b.drop k).length = b.length - k := List.length_drop
    have htl : (b.take k).length ≤ 2000 := by rw [List.length_take]; omega
    have htk : b.take k ++ b.drop k = b := List.take_append_drop k b
    generalize hR : b.drop k = r at *
    have HR := Lib.hid hR
    have HD := Lib.hid hdl
    have HH := Lib.hid hh
    have HB := Lib.hid hbw
    have HTK := Lib.hid htk
    have HRR := Lib.hid hr'
    have hrl : r.length ≤ 2000 := by omega
    clear hR hdl hh hbw htk hr'
    by_cases hgo : j < zs.length ∧ j < 40
    · obtain ⟨hlt, h40⟩ := hgo
      obtain ⟨bd, rfl, _, hcz⟩ := (hz.below HB.out).at_ hlt
      have HZ := Lib.hid hz
      clear hz
      generalize zs[j] = z at hcz
      go_wp2_with fail
      refine (within_any z 0 (r.length : Nat) wr (by omega)).mono ?_
      rintro e w' ⟨rfl, rfl⟩
      obtain ⟨m, hme, hml⟩ : ∃ m : Nat, max 0 (min z ((r.length : Nat) : Int)) = (m : Int) ∧ m ≤ r.length := ⟨(max 0 (min z ((r.length : Nat) : Int))).toNat, by omega, by omega⟩
      rw [hme]
      have HM := Lib.hid hme
      clear hme
      go_wp2_with fail
      refine (write_own w wr w.heap.size m c' A' (b.take k) (r.take m) HB.out HH.out (by rw [List.length_take, Nat.min_eq_left hml]) (HRR.out.take m) (by omega) hw).mono ?_
      rintro e w2 ⟨rfl, hh2, hb2⟩
      have HH2 := Lib.hid hh2
      have HB2 := Lib.hid hb2
      have hdrop := Lib.hid (HRR.out.drop (k := m) hc')
      clear hh2 hb2
      go_wp2_with fail
      go_roundw
      case rel =>
        have e1 : r.length - m = (b.drop (k + m)).length := by rw [← HR.out, List.length_drop, List.length_drop]; omega
        have e2 : b.drop (k + m) = r.drop m := by rw [← HR.out, List.drop_drop]
        have e3 : b.take (k + m) = b.take k ++ r.take m := by rw [← HR.out, List.take_add]
        refine ⟨j + 1, k + m, _, c' - m, by go_num, by omega, by have := HD.out; omega, by rw [e1], by rw [← e1]; omega, by rw [e2]; exact hdrop.out, by rw [e3]; exact HH2.out, HB2.out⟩
      case measure => simp [intOf]; omega
    · have hx : ¬ j < zs.length ∨ (j < zs.length ∧ ¬ j < 40) := by omega
      clear hgo
      rcases hx with hx | ⟨hx, hy⟩
      all_goals
        go_wp2_with fail
        refine (write_own w wr w.heap.size r.length c' A' (b.take k) r HB.out HH.out rfl HRR.out (by omega) hw).mono ?_
        rintro e w2 ⟨rfl, hh2, hb2⟩
        rw [HTK.out] at hh2
        have HH2 := Lib.hid hh2
        have HB2 := Lib.hid hb2
        clear hh2 hb2
        have heq := HEQ.out
        have hg := HG.out
        go_wp2_with fail
        refine (sum_own w w2 w.heap.size b HB2.out HH2.out (by omega) hw).mono ?_
        rintro e w3 ⟨rfl, hh3, hb3⟩
        have HH3 := Lib.hid hh3
        have HB3 := Lib.hid hb3
        clear hh3 hb3
        go_wp2_with fail
        refine (shaOf_any A b.length c b w3 rfl (by omega) (hrb.below HB3.out) (hw.below HB3.out)).mono ?_
        rintro e w4 ⟨rfl, hb4⟩
        have HH4 := Lib.hid (HH3.out.below hb4)
        have HB4 := Lib.hid (below_then HB3.out hb4)
        clear hb4
        go_wp2_with fail
        refine (sum_own w w4 w.heap.size b HB4.out HH4.out (by omega) hw).mono ?_
        rintro e w5 ⟨rfl, hh5, hb5⟩
        have HB5 := Lib.hid hb5
        clear hh5 hb5
        go_wp2_with fail
        refine (shaOf_any A b.length c b w5 rfl (by omega) (hrb.below HB5.out) (hw.below HB5.out)).mono ?_
        rintro e w6 ⟨rfl, hb6⟩
        have HB6 := Lib.hid (below_then HB5.out hb6)
        clear hb6
        go_wp2_with fail
        refine (shaLives_any w6 (hw.below HB6.out)).mono ?_
        rintro e w7 ⟨rfl, hb7⟩
        have HB7 := Lib.hid (below_then HB6.out hb7)
        clear hb7
        go_wp2_with fail
        go_ret
        exact ⟨rfl, HB7.out⟩
end Go.Proofs.YtnjkpoljcekjcaaDoor
