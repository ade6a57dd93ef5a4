/- The contracts of texts as bytes: the program's Decode and Is. -/
import Derived.Test.YtnjkpoljcekjcaaDoorB64
namespace Go.Proofs.YtnjkpoljcekjcaaDoor
open Go.RowKit
theorem index_num (c : UInt8) : Lib.indexByte B64Math.letters c = match B64Math.num c with | some n => (n : Int) | none => -1 := by
  have h : ∀ n, n < 256 → Lib.indexByte B64Math.letters (UInt8.ofNat n) = match B64Math.num (UInt8.ofNat n) with | some n => (n : Int) | none => -1 := by decide +kernel
  have := h c.toNat c.toNat_lt
  rwa [UInt8.ofNat_toNat] at this
theorem dec_or (h x : Nat) (hx : x < 64) : bits .or .u64 (IntKind.u64.wrap ((h : Int) * 64)) (x : Int) = (((h * 64 + x) % 18446744073709551616 : Nat) : Int) := by
  have e : IntKind.u64.wrap ((h : Int) * 64) = ((h * 64 % 18446744073709551616 : Nat) : Int) := by rw [IntKind.wrap_u64]; omega
  rw [e, u64_or_nat _ _ (Nat.mod_lt _ (by decide)) (by omega), nat_join 6 _ _ (by omega) (by omega)]
  congr 1
  omega
theorem dec_mask (h n : Nat) (hn : n < 8) (hh : h < 18446744073709551616) : bits .and .u64 (h : Int) (IntKind.u64.wrap (IntKind.u64.wrap (2 ^ n) - 1)) = ((h % 2 ^ n : Nat) : Int) := by
  have hp : 2 ^ n ≤ 2 ^ 7 := Nat.pow_le_pow_right (by decide) (by omega)
  have h1 : 1 ≤ 2 ^ n := Nat.one_le_two_pow
  have e : IntKind.u64.wrap (IntKind.u64.wrap ((2 : Int) ^ n) - 1) = ((2 ^ n - 1 : Nat) : Int) := by
    have : (2 : Int) ^ n = ((2 ^ n : Nat) : Int) := by simp
    rw [this, IntKind.wrap_u64, IntKind.wrap_u64]
    generalize 2 ^ n = q at *
    omega
  rw [e, u64_and_nat _ _ hh (by omega), Nat.and_two_pow_sub_one_eq_mod]
theorem dstep_lt (l : List Nat) (s : Nat × Nat × List UInt8) (hs : s.1 < 18446744073709551616) : (l.foldl B64Math.dstep s).1 < 18446744073709551616 := by
  induction l generalizing s with
  | nil => exact hs
  | cons c l ih =>
    refine ih _ ?_
    unfold B64Math.dstep
    split <;> exact Nat.mod_lt _ (by decide)
theorem dstep_len (l : List Nat) (s : Nat × Nat × List UInt8) : (l.foldl B64Math.dstep s).2.2.length ≤ s.2.2.length + l.length := by
  induction l generalizing s with
  | nil => simp
  | cons c l ih =>
    have := ih (B64Math.dstep s c)
    have e : (B64Math.dstep s c).2.2.length ≤ s.2.2.length + 1 := by unfold B64Math.dstep; split <;> simp
    simp only [List.foldl_cons, List.length_cons]
    omega
def DecPost (l : List UInt8) (w : World) (e : Ending) (w' : World) : Prop :=
  Below w.heap.size w w' ∧ match B64Math.dec l with
  | none => e = .returned (.tuple #[.slice none 0 0, .int .i64 4])
  | some m => ∃ v, e = .returned (.tuple #[v, .int .i64 0]) ∧ w'.ownsRow w.heap.size 5 1 v m.length (bvs m)
def DecRel (l : List UInt8) (w : World) (o h n i : Value) (wr : World) : Prop :=
  ∃ (k : Nat) (ns : List Nat) , k ≤ l.length ∧ i = .int .i64 (k : Nat) ∧ B64Math.nums (l.take k) = some ns ∧ h = .int .u64 (ns.foldl B64Math.dstep (0, 0, [])).1 ∧ n = .int .i64 (ns.foldl B64Math.dstep (0, 0, [])).2.1 ∧
    wr.ownsRow w.heap.size 5 1 o (ns.foldl B64Math.dstep (0, 0, [])).2.2.length (bvs (ns.foldl B64Math.dstep (0, 0, [])).2.2) ∧ Below w.heap.size w wr
def numI (c : UInt8) : Int := match B64Math.num c with | some n => (n : Int) | none => -1
theorem indexByte_any (x : UInt8) (w : World) : Calls Tryd.prog 36 #[.string lettersB, .int .u8 (x.toNat : Int)] w fun e w' => e = .returned (.int .i64 (numI x)) ∧ w = w' := by
  refine (Tryd.strings_IndexByte lettersB (x.toNat : Int) w).mono ?_
  rintro e w' ⟨rfl, hw⟩
  have e1 : (x.toNat : Int).toNat.toUInt8 = x := by rw [Int.toNat_natCast]; exact UInt8.ofNat_toNat
  have e2 : lettersB.data.toList = B64Math.letters := rfl
  rw [e1, e2, index_num]
  exact ⟨rfl, hw.symm⟩
theorem dec_byte (h m : Nat) : (#[.int .u8 ((h : Int) / 2 ^ m % 256)] : Array Value) = (bvs [UInt8.ofNat (h / 2 ^ m)]).toArray := by
  have e : (h : Int) / 2 ^ m % 256 = ((h / 2 ^ m % 256 : Nat) : Int) := by simp
  simp only [bvs, List.map_cons, List.map_nil, UInt8.toNat_ofNat', e]
theorem str_size (l : List UInt8) : ({ data := l.toArray } : ByteArray).size = l.length := by
  show l.toArray.size = l.length
  simp
theorem str_get (l : List UInt8) (k : Nat) (h : k < l.length) : ({ data := l.toArray } : ByteArray)[k]'(by rw [str_size]; exact h) = l[k] := by
  show l.toArray[k] = l[k]
  simp
set_option maxHeartbeats 1000000 in
theorem decode_any (l : List UInt8) (w : World) (hl : l.length ≤ 65536) : Calls Tryd.prog 37 #[.string ⟨l.toArray⟩] w (DecPost l w) := by
  obtain ⟨i0, hi0, hz0, hz1, hz2⟩ := info_parts info_u8
  go_enter Tryd.func37, Tryd.ntmps37
  go_wp2_with fail
  go_loopw [4, 5, 6, 11] (fun o h n i wr => DecRel l w o h n i wr) (fun _ _ _ i _ => l.length - (intOf i).toNat)
  case atStart => exact ⟨0, [], Nat.zero_le _, rfl, by simp [B64Math.nums], rfl, rfl, World.ownsRow_nil _ _ _ _, Below.refl _ _⟩
  case round =>
    obtain ⟨k, ns, hk, rfl, hns, rfl, rfl, hown, hbr⟩ := hrel
    have hn := B64Math.dstep_n ns 0 []
    have hol := dstep_len ns (0, 0, [])
    have hlh := dstep_lt ns (0, 0, []) (by decide)
    have hnl := (B64Math.nums_lt hns).1
    have htk : (l.take k).length ≤ k := List.length_take_le _ _
    simp only [List.length_nil, Nat.zero_add] at hol
    generalize hS : ns.foldl B64Math.dstep (0, 0, []) = st at *
    obtain ⟨h, n, o⟩ := st
    simp only at *
    have hn8 : n < 8 := by rw [hn]; exact Nat.mod_lt _ (by decide)
    have hn2 : n % 2 = 0 := by rw [hn]; omega
    have HS := Lib.hid hS
    have HLH := Lib.hid hlh
    have HN := Lib.hid hn
    have HNS := Lib.hid hns
    have HNL := Lib.hid hnl
    clear hS hn hlh hns hnl
    by_cases hlt : k < l.length
    · go_wp2_with fail
      rw [str_get l k hlt]
      generalize hC : l[k] = x
      have HC := Lib.hid hC
      clear hC
      refine (indexByte_any x wr).mono ?_
      rintro e w' ⟨rfl, rfl⟩
      cases hnum : B64Math.num x with
      | none =>
        have hneg : numI x = -1 := by unfold numI; rw [hnum]
        rw [hneg]
        have HM := Lib.hid hnum
        clear hneg hnum
        go_wp2_with fail
        go_ret2
        refine ⟨hbr, ?_⟩
        have hdn : B64Math.dec l = none := by
          have hnn : B64Math.nums l = none := by
            rw [← List.take_append_drop k l, B64Math.nums_append, HNS.out, List.drop_eq_getElem_cons hlt, HC.out]
            simp [B64Math.nums, HM.out]
          unfold B64Math.dec
          rw [hnn]; rfl
        rw [hdn]
        rfl
      | some q =>
        have hqq := (B64Math.L_num x q hnum).2
        have hpos : numI x = (q : Int) := by unfold numI; rw [hnum]
        rw [hpos]
        have HM := Lib.hid hnum
        clear hpos hnum
        have hor := dec_or h q hqq
        have hh' : (h * 64 + q) % 18446744073709551616 < 18446744073709551616 := Nat.mod_lt _ (by decide)
        generalize hH : (h * 64 + q) % 18446744073709551616 = h' at hor hh'
        have HH := Lib.hid hH
        have HH' := Lib.hid hh'
        clear hH hh'
        have hns' : B64Math.nums (l.take (k + 1)) = some (ns ++ [q]) := by
          rw [List.take_succ_eq_append_getElem hlt, B64Math.nums_append, HNS.out, HC.out]
          simp [B64Math.nums, HM.out]
        have HNS' := Lib.hid hns'
        clear hns'
        by_cases h2 : 2 ≤ n
        · have hown' : wr.ownsRow w.heap.size 5 1 u4 (bvs o).length (bvs o) := by rw [bvs_length]; exact hown
          have HO := Lib.hid hown'
          have hbl := bvs_length o
          clear hown hown'
          go_wp2_with (at_builtin; refine wpList_append_bs _ rfl _ _ 22 rfl w.heap.size 5 i0 (.int .u8 0) Tryd.underlying22 hi0 hz0 hz1 hz2 rfl u4 (bvs o) rfl (HO.out.alloc _) (some ⟨wr.heap.size, 0, none⟩) 1 1 [UInt8.ofNat (h' / 2 ^ (n - 2))] rfl rfl ?c1 ?c2 ?c3 ?_)
          case c1 => exact Bs.lit wr _ _ _ _ (dec_byte h' (n - 2))
          case c2 => have := HNL.out; simp [hbl]; omega
          case c3 => have := hbr.size; simp; omega
          intro v1 w1 hown1 hg1 _
          have hbr1 : Below w.heap.size w w1 := (hbr.alloc (by have := hbr.size; omega) _).grown hg1 (by have := hbr.size; simp; omega) (fun g hg => ((HO.out.alloc (.cells #[] 0)).lt g hg).1)
          have HO1 := Lib.hid hown1
          clear hown1 hg1 hbl HO
          go_wp2_with fail
          go_roundw
          case rel =>
            have est : (ns ++ [q]).foldl B64Math.dstep (0, 0, []) = (h', n - 2, o ++ [UInt8.ofNat (h' / 2 ^ (n - 2))]) := by
              rw [List.foldl_append, HS.out]
              simp only [List.foldl_cons, List.foldl_nil, B64Math.dstep, HH.out]
              rw [if_neg (by omega)]
            refine ⟨k + 1, ns ++ [q], by omega, by go_num, HNS'.out, by rw [est], by rw [est]; go_num, ?_, hbr1⟩
            rw [est]
            have := HO1.out
            rw [← bvs_append] at this
            simpa using this
          case measure => simp [intOf]; omega
        · go_wp2_with fail
          go_roundw
          case rel =>
            have est : (ns ++ [q]).foldl B64Math.dstep (0, 0, []) = (h', n + 6, o) := by
              rw [List.foldl_append, HS.out]
              simp only [List.foldl_cons, List.foldl_nil, B64Math.dstep, HH.out]
              rw [if_pos (by omega)]
            refine ⟨k + 1, ns ++ [q], by omega, by go_num, HNS'.out, by rw [est], by rw [est]; go_num, ?_, hbr⟩
            rw [est]
            exact hown
          case measure => simp [intOf]; omega
    · have hnl : B64Math.nums l = some ns := by
        have := HNS.out
        rwa [List.take_of_length_le (by omega)] at this
      have hdec : B64Math.dec l = if 6 ≤ n ∨ h % 2 ^ n ≠ 0 then none else some o := by
        unfold B64Math.dec
        rw [hnl]
        have := B64Math.dstep_fold 0 [] ns (B64Math.nums_lt hnl).2.2
        rw [HS.out] at this
        simp only [B64Math.dfin, List.nil_append, Option.map_id'] at this
        rw [Option.bind_some, ← this]
      have HD := Lib.hid hdec
      clear hdec hnl
      by_cases h6 : 6 ≤ n
      · go_wp2_with fail
        go_ret2
        refine ⟨hbr, ?_⟩
        rw [HD.out, if_pos (.inl h6)]
        rfl
      · have hmask := dec_mask h n (by omega) HLH.out
        by_cases hz : h % 2 ^ n = 0
        · have hq : (bits .and .u64 (h : Int) (IntKind.u64.wrap (IntKind.u64.wrap (2 ^ n) - 1)) != 0) = false := by rw [hmask, hz]; rfl
          have HZ := Lib.hid hz
          clear hmask hz
          go_wp2_with fail
          go_ret2
          refine ⟨hbr, ?_⟩
          rw [HD.out, if_neg (fun hh => hh.elim h6 (fun hh => hh HZ.out))]
          exact ⟨u4, rfl, hown⟩
        · have hq : (bits .and .u64 (h : Int) (IntKind.u64.wrap (IntKind.u64.wrap (2 ^ n) - 1)) != 0) = true := by rw [hmask, bne_iff_ne]; omega
          have HZ := Lib.hid hz
          clear hmask hz
          go_wp2_with fail
          go_ret2
          refine ⟨hbr, ?_⟩
          rw [HD.out, if_pos (.inr HZ.out)]
          rfl
theorem short_str (s : ByteArray) (k : Nat) : s.extract 0 k = ⟨(s.data.toList.take k).toArray⟩ := by
  apply ByteArray.ext
  apply Array.toList_inj.1
  simp [ByteArray.data_extract]
set_option maxHeartbeats 400000 in
/-- a text of at most k bytes -/
theorem short_any (s : ByteArray) (k : Nat) (w : World) (_hs : s.size ≤ maxLen) (_hk : k ≤ 65536) :
    Calls Tryd.prog 21 #[.string s, .int .i64 k] w fun e w' => e = .returned (.string ⟨(s.data.toList.take k).toArray⟩) ∧ w = w' := by
  unfold maxLen at _hs
  have hx := short_str s k
  have HX := Lib.hid hx
  clear hx
  go_enter Tryd.func21, Tryd.ntmps21
  by_cases h : k < s.size
  · go_wp2
    go_ret
    exact ⟨congrArg (fun s => Ending.returned (.string s)) HX.out, rfl⟩
  · go_wp2
    go_ret
    refine ⟨congrArg (fun s => Ending.returned (.string s)) ?_, rfl⟩
    have hl : s.data.toList.length ≤ k := by
      have : s.data.toList.length = s.size := by rw [Array.length_toList]; rfl
      omega
    rw [List.take_of_length_le hl]
end Go.Proofs.YtnjkpoljcekjcaaDoor
