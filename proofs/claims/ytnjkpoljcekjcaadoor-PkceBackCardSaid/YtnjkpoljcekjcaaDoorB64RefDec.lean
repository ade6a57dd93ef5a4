/- The contracts of texts as bytes: the document's number and Decode, bit by bit. -/
import Derived.Test.YtnjkpoljcekjcaaDoorB64Ref
import Derived.Test.YtnjkpoljcekjcaaDoorB64Dec
import Derived.Test.YtnjkpoljcekjcaaDoorB64Bits
namespace Go.Proofs.YtnjkpoljcekjcaaDoor
open Go.RowKit
def NumRel (c : UInt8) (i : Value) : Prop := ∃ k : Nat, k ≤ 64 ∧ i = .int .i64 (k : Nat) ∧ ∀ j, j < k → B64Math.L j ≠ c
set_option maxHeartbeats 400000 in
theorem number_any (c : UInt8) (w : World) : Calls Tryd.prog 45 #[.int .u8 (c.toNat : Int)] w fun e w' => e = .returned (.int .i64 (numI c)) ∧ w = w' := by
  go_enter Tryd.func45, Tryd.ntmps45
  go_wp2_with fail
  go_loop [3] (fun i => NumRel c i) (fun i => 64 - (intOf i).toNat)
  case atStart => exact ⟨0, Nat.zero_le _, rfl, fun j hj => absurd hj (by omega)⟩
  case round =>
    obtain ⟨k, hk, rfl, hno⟩ := hrel
    have HN := Lib.hid hno
    clear hno
    by_cases hlt : k < 64
    · go_wp2_with fail
      refine (letter_any k w hlt).mono ?_
      rintro e w' ⟨rfl, rfl⟩
      generalize hX : B64Math.L k = x
      have HX := Lib.hid hX
      clear hX
      by_cases hxc : x = c
      · have hq : ((((({ data := #[x] } : ByteArray)[0]'(show 0 < ({ data := #[x] } : ByteArray).size from Nat.zero_lt_one)).toNat : Nat) : Int) == ((c.toNat : Nat) : Int)) = true := by
          show (((x.toNat : Nat) : Int) == ((c.toNat : Nat) : Int)) = true
          rw [hxc]; simp
        have HQ := Lib.hid hxc
        clear hxc
        go_wp2_with fail
        go_ret
        refine ⟨ret_int' ?_, rfl⟩
        unfold numI
        rw [← HQ.out, ← HX.out, B64Math.num_L k hlt]
      · have hq : ((((({ data := #[x] } : ByteArray)[0]'(show 0 < ({ data := #[x] } : ByteArray).size from Nat.zero_lt_one)).toNat : Nat) : Int) == ((c.toNat : Nat) : Int)) = false := by
          show (((x.toNat : Nat) : Int) == ((c.toNat : Nat) : Int)) = false
          rw [beq_eq_false_iff_ne]
          intro h
          exact hxc (UInt8.toNat_inj.1 (by omega))
        have HQ := Lib.hid hxc
        clear hxc
        go_wp2_with fail
        go_round
        case rel =>
          refine ⟨k + 1, by omega, by go_num, fun j hj => ?_⟩
          by_cases h : j < k
          · exact HN.out j h
          · obtain rfl : j = k := by omega
            rw [HX.out]
            exact HQ.out
        case measure => simp [intOf]; omega
    · go_wp2_with fail
      go_ret
      refine ⟨ret_int' ?_, rfl⟩
      unfold numI
      cases hn : B64Math.num c with
      | none => rfl
      | some n =>
        have := B64Math.L_num c n hn
        exact absurd this.1 (HN.out n (by omega))

theorem info_int : (Tryd.prog.info? 3).map (fun i => (i.zero, i.size, i.bytes)) = some (some (.int .i64 0), 1, 8) := by kernel_rfl
def ivs (l : List Nat) : List Value := l.map fun n : Nat => Value.int .i64 (n : Int)
theorem ivs_length (l : List Nat) : (ivs l).length = l.length := by simp [ivs]
theorem ivs_append (l m : List Nat) : ivs (l ++ m) = ivs l ++ ivs m := by simp [ivs]
def ints (l : List Nat) : List Int := l.map fun n : Nat => (n : Int)
theorem ns_of_own {w : World} {A : Option Addr} {base : Nat} {e : TypeId} {n c : Nat} {l : List Nat} (h : w.ownsRow base e 1 (.slice A n c) n (ivs l)) : Ns w A (ints l) := fun j z hj => by
  have hlen : l.length = n := by have := h.1; rw [ivs_length] at this; omega
  have hlt : j < l.length := by have := (List.getElem?_eq_some_iff.1 hj).1; simpa [ints] using this
  rcases h.2 with ⟨h0, h1⟩ | ⟨g, cap, cur, hv, _, hg, _⟩
  · omega
  · have hA : A = some ⟨g, 0, none⟩ := by injection hv
    subst hA
    refine ⟨_, rfl, (h.lt g rfl).2, h.cells (g := g) rfl j _ ?_⟩
    unfold ints at hj
    rw [List.getElem?_map] at hj
    unfold ivs
    rw [List.getElem?_map]
    cases hq : l[j]? with
    | none => rw [hq] at hj; cases hj
    | some q => rw [hq] at hj; simp at hj; simp [hj]
theorem ns_drop {w : World} {A : Option Addr} {zs : List Int} (h : Ns w A zs) {k cap : Nat} (hc : zs.length ≤ cap) : Ns w (if cap = k then A else A.map (·.add k)) (zs.drop k) := fun j c hj => by
  rw [List.getElem?_drop] at hj
  obtain ⟨ad, rfl, hb, hcell⟩ := h _ c hj
  have hlt : k + j < zs.length := (List.getElem?_eq_some_iff.1 hj).1
  rw [if_neg (by omega)]
  exact ⟨ad.add k, rfl, by rw [addr_block]; exact hb, by rw [addr_add]; exact hcell⟩
def BitsIn (w : World) (x : Nat) (B : List Nat) (bits top k : Value) (wr : World) : Prop :=
  ∃ j T : Nat, j ≤ 6 ∧ k = .int .i64 (j : Nat) ∧ T = 32 / 2 ^ j ∧ top = .int .i64 (T : Nat) ∧ wr.ownsRow w.heap.size 3 1 bits (B.length + j) (ivs (B ++ (B64Math.bits6 x).take j)) ∧ Below w.heap.size w wr
def RDecRel (l : List UInt8) (w : World) (bits i : Value) (wr : World) : Prop :=
  ∃ (k : Nat) (ns : List Nat), k ≤ l.length ∧ i = .int .i64 (k : Nat) ∧ B64Math.nums (l.take k) = some ns ∧ wr.ownsRow w.heap.size 3 1 bits (B64Math.allBits ns).length (ivs (B64Math.allBits ns)) ∧ Below w.heap.size w wr
theorem bits6_get (x j : Nat) (hj : j < 6) : (B64Math.bits6 x).take (j + 1) = (B64Math.bits6 x).take j ++ [x / (32 / 2 ^ j) % 2] := by
  match j, hj with
  | 0, _ => rfl
  | 1, _ => rfl
  | 2, _ => rfl
  | 3, _ => rfl
  | 4, _ => rfl
  | 5, _ => simp [B64Math.bits6]
theorem half_pow (j : Nat) : 32 / 2 ^ j / 2 = 32 / 2 ^ (j + 1) := by rw [Nat.div_div_eq_div_mul, Nat.pow_succ]
theorem T_bounds (j : Nat) (hj : j < 6) : 1 ≤ 32 / 2 ^ j ∧ 32 / 2 ^ j ≤ 32 := by
  match j, hj with
  | 0, _ => decide
  | 1, _ => decide
  | 2, _ => decide
  | 3, _ => decide
  | 4, _ => decide
  | 5, _ => decide
theorem bits_le (ns : List Nat) : ∀ b ∈ B64Math.allBits ns, b ≤ 1 := by
  intro b hb
  unfold B64Math.allBits at hb
  rw [List.mem_flatMap] at hb
  obtain ⟨x, _, hx⟩ := hb
  simp [B64Math.bits6] at hx
  omega
def RDec3 (B : List Nat) (w1 : World) (bits o : Value) (wr : World) : Prop :=
  ∃ (j : Nat) (A : Option Addr) (c : Nat), 8 * j ≤ B.length ∧ bits = .slice A (B.length - 8 * j) c ∧ B.length - 8 * j ≤ c ∧ Ns w1 A (ints (B.drop (8 * j))) ∧
    wr.ownsRow w1.heap.size 5 1 o j (bvs (B64Math.bytes8 j B)) ∧ Below w1.heap.size w1 wr
theorem val_lt (k : Nat) (l : List Nat) (h : ∀ b ∈ l, b ≤ 1) : B64Math.val (l.take k) < 2 ^ k := by
  induction k with
  | zero => simp [B64Math.val]
  | succ k ih =>
    by_cases hk : k < l.length
    · rw [List.take_succ_eq_append_getElem hk]
      have := h l[k] (List.getElem_mem _)
      simp only [B64Math.val, List.foldl_append, List.foldl_cons, List.foldl_nil] at ih ⊢
      rw [Nat.pow_succ]
      omega
    · rw [List.take_of_length_le (by omega)]
      rw [List.take_of_length_le (by omega)] at ih
      rw [Nat.pow_succ]
      omega
def Left0 (R : List Nat) (L : Nat) (kk : Value) : Prop := ∃ k : Nat, k ≤ L ∧ kk = .int .i64 (k : Nat) ∧ ∀ i, i < k → R.getD i 0 = 0
theorem own_mono {w : World} {base base' : Nat} {e : TypeId} {size : Nat} {v : Value} {n : Nat} {xs : List Value} (h : w.ownsRow base e size v n xs) (hb : base' ≤ base) : w.ownsRow base' e size v n xs := by
  refine ⟨h.1, ?_⟩
  rcases h.2 with h2 | ⟨g, cap, cur, hv, hg, r⟩
  · exact .inl h2
  · exact .inr ⟨g, cap, cur, hv, by omega, r⟩
def Val8 (R : List Nat) (cc kk : Value) : Prop := ∃ k v : Nat, k ≤ 8 ∧ kk = .int .i64 (k : Nat) ∧ cc = .int .i64 (v : Nat) ∧ v = B64Math.val (R.take k)
set_option maxHeartbeats 2000000 in
theorem refDecode_any (l : List UInt8) (w : World) (hl : l.length ≤ 65536) : Calls Tryd.prog 38 #[.string ⟨l.toArray⟩] w (DecPost l w) := by
  obtain ⟨i0, hi0, hz0, hz1, hz2⟩ := info_parts info_u8
  obtain ⟨j0, hj0, jz0, jz1, jz2⟩ := info_parts info_int
  go_enter Tryd.func38, Tryd.ntmps38
  go_wp2_with fail
  go_loopw [4, 5] (fun bits i wr => RDecRel l w bits i wr) (fun _ i _ => l.length - (intOf i).toNat)
  case atStart => exact ⟨0, [], Nat.zero_le _, rfl, by simp [B64Math.nums], World.ownsRow_nil w w.heap.size 3 1, Below.refl _ _⟩
  case round =>
    obtain ⟨k, ns, hk, rfl, hns, hown, hbr⟩ := hrel
    have hnl := (B64Math.nums_lt hns).1
    have hbl := B64Math.allBits_length ns
    have htk : (l.take k).length ≤ k := List.length_take_le _ _
    have hns64 := (B64Math.nums_lt hns).2.2
    have HNS := Lib.hid hns
    have HNL := Lib.hid hnl
    have HBL := Lib.hid hbl
    have H64 := Lib.hid hns64
    have hBle : (B64Math.allBits ns).length ≤ 393216 := by omega
    generalize hB : B64Math.allBits ns = B at *
    have HB := Lib.hid hB
    clear hns hnl hbl hns64 hB
    by_cases hlt : k < l.length
    · go_wp2_with fail
      rw [str_get l k hlt]
      generalize hC : l[k] = x
      have HC := Lib.hid hC
      clear hC
      refine (number_any x wr).mono ?_
      rintro e w' ⟨rfl, rfl⟩
      cases hnum : B64Math.num x with
      | none =>
        have hneg : numI x = -1 := by unfold numI; rw [hnum]
        rw [hneg]
        have HM := Lib.hid hnum
        clear hneg hnum
        go_wp2_with fail
        go_ret2
        refine ⟨hbr, ?_⟩
        have hdn : B64Math.dec l = none := by
          have hnn : B64Math.nums l = none := by
            rw [← List.take_append_drop k l, B64Math.nums_append, HNS.out, List.drop_eq_getElem_cons hlt, HC.out]
            simp [B64Math.nums, HM.out]
          unfold B64Math.dec
          rw [hnn]; rfl
        rw [hdn]
        rfl
      | some q =>
        have hqq := (B64Math.L_num x q hnum).2
        have hpos : numI x = (q : Int) := by unfold numI; rw [hnum]
        rw [hpos]
        have HM := Lib.hid hnum
        clear hpos hnum
        have hns' : B64Math.nums (l.take (k + 1)) = some (ns ++ [q]) := by
          rw [List.take_succ_eq_append_getElem hlt, B64Math.nums_append, HNS.out, HC.out]
          simp [B64Math.nums, HM.out]
        have HNS' := Lib.hid hns'
        clear hns'
        have h0q : ¬ (q : Int) < 0 := by omega
        have HO := Lib.hid hown
        clear hown
        go_wp2_with fail
        go_loopw [4, 7, 8] (fun bits top kk wr => BitsIn w q B bits top kk wr) (fun _ _ kk _ => 6 - (intOf kk).toNat)
        case atStart => exact ⟨0, 32, by decide, rfl, rfl, rfl, by simpa using HO.out, hbr⟩
        case round =>
          clear HO hbr
          obtain ⟨j, T, hj, rfl, hT, rfl, hown, hbr⟩ := hrel
          by_cases hj6 : j < 6
          · have hTb := T_bounds j hj6
            rw [← hT] at hTb
            obtain ⟨hT1, hT2⟩ := hTb
            have HT := Lib.hid hT
            clear hT
            have HO := Lib.hid hown
            clear hown
            have hdv : wrap64 ((q : Int) / (T : Int)) = ((q / T : Nat) : Int) := by
              have e : (q : Int) / (T : Int) = ((q / T : Nat) : Int) := by simp
              rw [e]
              have hle : q / T ≤ q := Nat.div_le_self _ _
              generalize q / T = D at hle
              exact IntWalk.wrap64_in _ ⟨by omega, by omega⟩
            have hdl : q / T ≤ 63 := by have : q / T ≤ q := Nat.div_le_self _ _; omega
            generalize hDD : q / T = D at hdv hdl
            have HDD := Lib.hid hDD
            clear hDD
            go_wp2_with (at_builtin; refine wpList_append_own_at _ rfl _ _ 32 rfl w.heap.size 3 j0 (.int .i64 0) 1 8 Tryd.underlying32 hj0 jz0 jz1 jz2 rfl (by decide) _ _ _ rfl (HO.out.alloc _) ⟨wr.heap.size, 0, none⟩ 1 1 [.int .i64 ((D : Int) % 2)] rfl rfl ?c1 ?c2 ?c3 ?c4 ?c5 ?_)
            case c1 =>
              intro j u hj
              match j, hj with
              | 0, hj => simp at hj; subst hj; simp [Addr.add]
            case c2 => intro u hu; simp at hu; subst hu; rfl
            case c3 => unfold maxLen; omega
            case c4 => omega
            case c5 => have := hbr.size; simp; omega
            intro v1 w1 hown1 hg1 _ _
            have hbr1 : Below w.heap.size w w1 := (hbr.alloc (by have := hbr.size; omega) _).grown hg1 (by have := hbr.size; simp; omega) (fun g hg => ((HO.out.alloc (.cells #[] 0)).lt g hg).1)
            have HO1 := Lib.hid hown1
            clear hown1 hg1 HO hbr hdv
            go_wp2_with fail
            go_roundw
            case rel =>
              refine ⟨j + 1, T / 2, by omega, by go_num, ?_, by go_num, ?_, hbr1⟩
              · rw [HT.out, half_pow]
              · have e : (D : Int) % 2 = ((q / (32 / 2 ^ j) % 2 : Nat) : Int) := by rw [← HT.out, HDD.out]; omega
                have := HO1.out
                rw [e] at this
                rw [bits6_get q j hj6, ← List.append_assoc, ivs_append]
                exact this
            case measure => simp [intOf]; omega
          · obtain rfl : j = 6 := by omega
            have HO := Lib.hid hown
            clear hown hT
            go_wp2_with fail
            go_roundw
            case rel =>
              have e : B64Math.allBits (ns ++ [q]) = B ++ B64Math.bits6 q := by rw [B64Math.allBits_append, HB.out]; simp [B64Math.allBits]
              refine ⟨k + 1, ns ++ [q], by omega, by go_num, HNS'.out, ?_, hbr⟩
              rw [e, List.length_append]
              exact HO.out
            case measure => simp [intOf]; omega
    · have hnl : B64Math.nums l = some ns := by
        have := HNS.out
        rwa [List.take_of_length_le (by omega)] at this
      have hdec : B64Math.dec l = B64Math.decB B := by
        unfold B64Math.dec
        rw [hnl, Option.bind_some, B64Math.decN_bits ns H64.out, HB.out]
      have HD := Lib.hid hdec
      clear hdec hnl
      by_cases h6 : 6 ≤ B.length % 8
      · obtain ⟨A1, c1, rfl, hc1⟩ := own_shape hown
        go_wp2_with fail
        go_ret2
        refine ⟨hbr, ?_⟩
        rw [HD.out]
        unfold B64Math.decB
        rw [if_pos h6]
        rfl
      · obtain ⟨A1, c1, rfl, hc1⟩ := own_shape hown
        have hns1 := ns_of_own hown
        clear hown
        go_wp2_with fail
        obtain ⟨wo, hwo⟩ : ∃ wo : World, wo = wr := ⟨_, rfl⟩
        subst hwo
        go_loopw [4, 9] (fun bits o w2 => RDec3 B wo bits o w2) (fun bits _ _ => lenOfV bits)
        case atStart => exact ⟨0, A1, c1, by omega, by simp, by simpa using hc1, by simpa using hns1, World.ownsRow_nil _ _ _ _, Below.refl _ _⟩
        case round =>
          obtain ⟨j, A, c, hj, rfl, hc, hn, hown, hb2⟩ := hrel
          clear hns1
          have hbit := bits_le ns
          rw [HB.out] at hbit
          have hRl : (B.drop (8 * j)).length = B.length - 8 * j := List.length_drop
          have hRb : ∀ b ∈ B.drop (8 * j), b ≤ 1 := fun b hb => hbit b (List.mem_of_mem_drop hb)
          have hLle : B.length - 8 * j ≤ 393216 := by omega
          generalize hL : B.length - 8 * j = L at *
          generalize hR : B.drop (8 * j) = R at *
          have HR := Lib.hid hR
          have HL := Lib.hid hL
          have HRL := Lib.hid hRl
          have HRB := Lib.hid hRb
          have HO := Lib.hid hown
          have HN := Lib.hid hn
          clear hbit hR hL hRl hRb hown hn
          by_cases h8 : 8 ≤ L
          · go_wp2_with fail
            go_loop [10, 11] (fun cc kk => Val8 R cc kk) (fun _ kk => 8 - (intOf kk).toNat)
            case atStart => exact ⟨0, 0, by decide, rfl, rfl, rfl⟩
            case round =>
              obtain ⟨kk, v, hkk, rfl, rfl, hv⟩ := hrel
              have hvl : v < 2 ^ kk := by rw [hv]; exact val_lt _ _ HRB.out
              have hv255 : v ≤ 255 := by
                have : 2 ^ kk ≤ 2 ^ 8 := Nat.pow_le_pow_right (by decide) hkk
                omega
              have HV := Lib.hid hv
              clear hv hvl
              by_cases hk8 : kk < 8
              · have hkl : kk < (ints R).length := by have := HRL.out; simp [ints]; omega
                obtain ⟨ad, rfl, hadl, hcz⟩ := HN.out.at_ hkl
                have hcz' := (hb2.cell (p := ad.add kk) (by rw [addr_block]; exact hadl)).trans hcz
                have hkR : kk < R.length := by have := HRL.out; omega
                have hgi : (ints R)[kk] = ((R[kk] : Nat) : Int) := by simp [ints]
                rw [hgi] at hcz'
                have hb1 := HRB.out R[kk] (List.getElem_mem _)
                clear hcz hgi
                generalize hX : R[kk] = b at hcz' hb1
                have HX := Lib.hid hX
                clear hX
                go_wp2_with fail
                go_round
                case rel =>
                  refine ⟨kk + 1, v * 2 + b, by omega, by go_num, by go_num, ?_⟩
                  rw [HV.out, List.take_succ_eq_append_getElem hkR, HX.out]
                  simp [B64Math.val]
                case measure => simp [intOf]; omega
              · obtain rfl : kk = 8 := by omega
                have hown' : wr.ownsRow wo.heap.size 5 1 u9 (bvs (B64Math.bytes8 j B)).length (bvs (B64Math.bytes8 j B)) := by rw [bvs_length, B64Math.bytes8_length]; exact HO.out
                have HO' := Lib.hid hown'
                have hbl8 : (bvs (B64Math.bytes8 j B)).length = j := by rw [bvs_length, B64Math.bytes8_length]
                have HBL8 := Lib.hid hbl8
                have hdrop := Lib.hid (ns_drop HN.out (k := 8) (cap := c) (by have := HRL.out; simp [ints]; omega))
                clear hown' HO hbl8
                go_wp2_with (at_builtin; refine wpList_append_bs _ rfl _ _ 22 rfl wo.heap.size 5 i0 (.int .u8 0) Tryd.underlying22 hi0 hz0 hz1 hz2 rfl u9 (bvs (B64Math.bytes8 j B)) rfl (HO'.out.alloc _) (some ⟨wr.heap.size, 0, none⟩) 1 1 [UInt8.ofNat v] rfl rfl ?d1 ?d2 ?d3 ?_)
                case d1 => exact Bs.lit wr _ _ _ _ (by simp only [bvs, List.map_cons, List.map_nil, UInt8.toNat_ofNat']; rw [Nat.mod_eq_of_lt (by omega)])
                case d2 => have := HBL8.out; omega
                case d3 => have := hb2.size; omega
                intro v1 w1 hown1 hg1 _
                have hb3 : Below wo.heap.size wo w1 := (hb2.alloc (by have := hb2.size; omega) _).grown hg1 (by have := hb2.size; simp; omega) (fun g hg => ((HO'.out.alloc (.cells #[] 0)).lt g hg).1)
                have HO1 := Lib.hid hown1
                clear hown1 hg1 HO' hb2
                go_wp2_with fail
                go_roundw
                case rel =>
                  have hB8 : 8 * (j + 1) ≤ B.length := by have := HL.out; omega
                  have e1 : L - 8 = B.length - 8 * (j + 1) := by have := HL.out; omega
                  have e2 : ints (B.drop (8 * (j + 1))) = (ints R).drop 8 := by
                    rw [← HR.out]
                    simp only [ints, ← List.map_drop, List.drop_drop]
                    congr 1
                  refine ⟨j + 1, _, c - 8, hB8, by rw [e1], by omega, by rw [e2]; exact hdrop.out, ?_, hb3⟩
                  rw [B64Math.bytes8_snoc, bvs_append, HR.out, ← HV.out]
                  have := HO1.out
                  rw [HBL8.out] at this
                  exact this
                case measure => simp [lenOfV]; omega
          · go_wp2_with fail
            go_loop [12] (fun kk => Left0 R L kk) (fun kk => 8 - (intOf kk).toNat)
            case atStart => exact ⟨0, Nat.zero_le _, rfl, fun i hi => absurd hi (by omega)⟩
            case round =>
              obtain ⟨kk, hkk, rfl, hz⟩ := hrel
              have HZ := Lib.hid hz
              clear hz
              have hjb : B.length / 8 = j := by have := HL.out; omega
              have HJB := Lib.hid hjb
              clear hjb
              have hdecB : B64Math.dec l = if (R.all (· == 0)) = true then some (B64Math.bytes8 j B) else none := by
                rw [HD.out]
                unfold B64Math.decB
                rw [if_neg h6, HJB.out, HR.out]
              have HDB := Lib.hid hdecB
              clear hdecB
              by_cases hkL : kk < L
              · have hkl : kk < (ints R).length := by have := HRL.out; simp [ints]; omega
                obtain ⟨ad, rfl, hadl, hcz⟩ := HN.out.at_ hkl
                have hcz' := (hb2.cell (p := ad.add kk) (by rw [addr_block]; exact hadl)).trans hcz
                have hkR : kk < R.length := by have := HRL.out; omega
                have hgi : (ints R)[kk] = ((R[kk] : Nat) : Int) := by simp [ints]
                rw [hgi] at hcz'
                clear hcz hgi
                generalize hX : R[kk] = b at hcz'
                have HX := Lib.hid hX
                clear hX
                by_cases hb0 : b = 0
                · have hq : ((b : Int) != 0) = false := by rw [hb0]; rfl
                  have H0 := Lib.hid hb0
                  clear hb0
                  go_wp2_with fail
                  go_round
                  case rel =>
                    refine ⟨kk + 1, by omega, by go_num, fun i hi => ?_⟩
                    by_cases h : i < kk
                    · exact HZ.out i h
                    · obtain rfl : i = kk := by omega
                      rw [List.getD_eq_getElem?_getD, List.getElem?_eq_getElem hkR, HX.out, H0.out]
                      rfl
                  case measure => simp [intOf]; omega
                · have hq : ((b : Int) != 0) = true := by rw [bne_iff_ne]; omega
                  have H0 := Lib.hid hb0
                  clear hb0
                  go_wp2_with fail
                  go_ret2
                  refine ⟨hbr.trans (hb2.mono (by have := hbr.size; omega)), ?_⟩
                  have hno : ¬ (R.all (· == 0)) = true := by
                    intro h
                    rw [List.all_eq_true] at h
                    have := h R[kk] (List.getElem_mem _)
                    rw [HX.out] at this
                    exact H0.out (by simpa using this)
                  rw [HDB.out, if_neg hno]
                  rfl
              · go_wp2_with fail
                go_ret2
                refine ⟨hbr.trans (hb2.mono (by have := hbr.size; omega)), ?_⟩
                have hall : (R.all (· == 0)) = true := by
                  rw [List.all_eq_true]
                  intro b hb
                  obtain ⟨i, hi, rfl⟩ := List.getElem_of_mem hb
                  have := HZ.out i (by have := HRL.out; omega)
                  rw [List.getD_eq_getElem?_getD, List.getElem?_eq_getElem hi] at this
                  simpa using this
                rw [HDB.out, if_pos hall]
                refine ⟨u9, rfl, ?_⟩
                rw [B64Math.bytes8_length]
                exact own_mono HO.out (by have := hbr.size; omega)
end Go.Proofs.YtnjkpoljcekjcaaDoor
