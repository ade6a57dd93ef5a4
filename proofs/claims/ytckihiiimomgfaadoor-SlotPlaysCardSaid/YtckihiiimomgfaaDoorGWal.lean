/- Texts laid as one: Wal, Wal2. -/
import Derived.Test.YtckihiiimomgfaaDoorGDisk
import Derived.Test.YtckihiiimomgfaaDoorGStamp
import Derived.Test.YtckihiiimomgfaaDoorGMath
import Derived.BigQuiet
import Derived.Test.YtckihiiimomgfaaDoorGReg
namespace Go.Proofs.YtckihiiimomgfaaDoor
open Go.RowKit DiskMath
def RegionOk (n : Nat) (a b : Int) : Prop := 0 ≤ a ∧ a < b ∧ b ≤ n
theorem walRight_yes (w : World) (F : Nat → Prop) (p : Nat) (d : Dk) (a b : Int) (h : DiskAt w F p d) (hr : RegionOk d.fast.length a b) :
    Calls Tryd.prog 53 #[.pointer (some ⟨p, 0, none⟩), .int .i64 a, .int .i64 b] w fun e w' => e = .returned (.int .i64 0) ∧ w = w' := by
  obtain ⟨gf, gm, n, vw, hb, _⟩ := h
  obtain ⟨h1, h2, h3⟩ := hr
  rw [hb.len] at h3
  have hpos := hb.pos
  have HH := Lib.hid hb
  clear hb
  have hne : ((n : Int) == 0) = false := by rw [beq_eq_false_iff_ne]; omega
  have d1 : decide (a < 0) = false := decide_eq_false (by omega)
  have d2 : decide (b ≤ a) = false := decide_eq_false (by omega)
  have d3 : decide ((n : Int) < b) = false := decide_eq_false (by omega)
  go_enter Tryd.func53, Tryd.ntmps53
  go_wp2_with fail
  refine (diskLen_any w p gf gm n vw d HH.out).mono ?_
  rintro e w' ⟨rfl, rfl⟩
  go_wp2_with fail
  refine (diskLen_any w p gf gm n vw d HH.out).mono ?_
  rintro e w' ⟨rfl, rfl⟩
  go_wp2_with fail
  go_ret
  exact ⟨rfl, rfl⟩
theorem walRight_no (w : World) (F : Nat → Prop) (p : Nat) (d : Dk) (a b : Int) (h : DiskAt w F p d) (hr : ¬ RegionOk d.fast.length a b) :
    Calls Tryd.prog 53 #[.pointer (some ⟨p, 0, none⟩), .int .i64 a, .int .i64 b] w fun e w' => e = .returned (.int .i64 2) ∧ w = w' := by
  obtain ⟨gf, gm, n, vw, hb, _⟩ := h
  unfold RegionOk at hr
  rw [hb.len] at hr
  have hpos := hb.pos
  have HH := Lib.hid hb
  clear hb
  have hne : ((n : Int) == 0) = false := by rw [beq_eq_false_iff_ne]; omega
  by_cases h1 : a < 0
  · have d1 : decide (a < 0) = true := decide_eq_true h1
    go_enter Tryd.func53, Tryd.ntmps53
    go_wp2_with fail
    refine (diskLen_any w p gf gm n vw d HH.out).mono ?_
    rintro e w' ⟨rfl, rfl⟩
    go_wp2_with fail
    go_ret
    exact ⟨rfl, rfl⟩
  · have d1 : decide (a < 0) = false := decide_eq_false h1
    by_cases h2 : b ≤ a
    · have d2 : decide (b ≤ a) = true := decide_eq_true h2
      go_enter Tryd.func53, Tryd.ntmps53
      go_wp2_with fail
      refine (diskLen_any w p gf gm n vw d HH.out).mono ?_
      rintro e w' ⟨rfl, rfl⟩
      go_wp2_with fail
      go_ret
      exact ⟨rfl, rfl⟩
    · have d2 : decide (b ≤ a) = false := decide_eq_false h2
      have d3 : decide ((n : Int) < b) = true := decide_eq_true (by omega)
      go_enter Tryd.func53, Tryd.ntmps53
      go_wp2_with fail
      refine (diskLen_any w p gf gm n vw d HH.out).mono ?_
      rintro e w' ⟨rfl, rfl⟩
      go_wp2_with fail
      refine (diskLen_any w p gf gm n vw d HH.out).mono ?_
      rintro e w' ⟨rfl, rfl⟩
      go_wp2_with fail
      go_ret
      exact ⟨rfl, rfl⟩
theorem or_i64 (x y i : Nat) (hx : x % 2 ^ i = 0) (hy : y < 2 ^ i) (hs : x + y < 2 ^ 63) : bits .or .i64 (x : Int) (y : Int) = ((x + y : Nat) : Int) := by
  have hx1 : x ||| y = x + y := nat_join i _ _ hx hy
  show IntKind.i64.wrap ((BitVec.ofInt 64 (x : Int) ||| BitVec.ofInt 64 (y : Int)).toNat : Int) = _
  have e1 : (BitVec.ofInt 64 (x : Int)).toNat = x := by rw [BitVec.ofInt_natCast, BitVec.toNat_ofNat]; exact Nat.mod_eq_of_lt (by omega)
  have e2 : (BitVec.ofInt 64 (y : Int)).toNat = y := by rw [BitVec.ofInt_natCast, BitVec.toNat_ofNat]; exact Nat.mod_eq_of_lt (by omega)
  rw [BitVec.toNat_or, e1, e2, hx1, IntKind.wrap_i64]
  omega
theorem four_or (a b c d : Nat) (ha : a < 2 ^ 8) (hb : b < 2 ^ 8) (hc : c < 2 ^ 8) (hd : d < 2 ^ 8) : bits .or .i64 (bits .or .i64 (bits .or .i64 ((a : Int) * 16777216) ((b : Int) * 65536)) ((c : Int) * 256)) (d : Int) = ((a * 16777216 + b * 65536 + c * 256 + d : Nat) : Int) := by
  have e1 := or_i64 (a * 16777216) (b * 65536) 24 (by omega) (by omega) (by omega)
  have e2 := or_i64 (a * 16777216 + b * 65536) (c * 256) 16 (by omega) (by omega) (by omega)
  have e3 := or_i64 (a * 16777216 + b * 65536 + c * 256) d 8 (by omega) (by omega) (by omega)
  rw [show (a : Int) * 16777216 = ((a * 16777216 : Nat) : Int) by omega, show (b : Int) * 65536 = ((b * 65536 : Nat) : Int) by omega, show (c : Int) * 256 = ((c * 256 : Nat) : Int) by omega, e1, e2, e3]
set_option maxHeartbeats 400000 in
theorem number_any (ad : Addr) (c n : Nat) (l : List UInt8) (w : World) (hn : l.length = n) (hl : 4 ≤ n) (hm : n ≤ 65536) (hr : Bs w (some ad) l) :
    Calls Tryd.prog 54 #[.slice (some ad) n c] w fun e w' => e = .returned (.int .i64 (StampMath.ofBe (l.take 4) : Nat)) ∧ Below w.heap.size w w' := by
  have ho : StampMath.ofBe (l.take 4) = l[0].toNat * 16777216 + l[1].toNat * 65536 + l[2].toNat * 256 + l[3].toNat := by
    match l, hn with
    | a :: b :: c :: d :: l, _ => simp [StampMath.ofBe]; omega
    | [], h => simp at h; omega
    | [_], h => simp at h; omega
    | [_, _], h => simp at h; omega
    | [_, _, _], h => simp at h; omega
  obtain ⟨a, ha, _, g0⟩ := hr.at_ (k := 0) (by omega)
  obtain ⟨a1, ha1, _, g1⟩ := hr.at_ (k := 1) (by omega)
  obtain ⟨a2, ha2, _, g2⟩ := hr.at_ (k := 2) (by omega)
  obtain ⟨a3, ha3, hlt, g3⟩ := hr.at_ (k := 3) (by omega)
  injection ha with ha
  injection ha1 with ha1
  injection ha2 with ha2
  injection ha3 with ha3
  subst ha ha1 ha2 ha3
  have lit : ∀ k, 0 < k → ad.add k = ⟨ad.block, ad.off + k, none⟩ := fun k hk => by unfold Addr.add; rw [if_neg (by omega)]
  have lit0 : ad.add 0 = ad := by unfold Addr.add; rw [if_pos rfl]
  rw [lit0] at g0
  rw [lit 1 (by decide)] at g1
  rw [lit 2 (by decide)] at g2
  rw [lit 3 (by decide)] at g3
  clear lit lit0
  have b0 := l[0].toNat_lt
  have b1 := l[1].toNat_lt
  have b2 := l[2].toNat_lt
  have b3 := l[3].toNat_lt
  generalize l[0].toNat = x0 at *
  generalize l[1].toNat = x1 at *
  generalize l[2].toNat = x2 at *
  generalize l[3].toNat = x3 at *
  have HO := Lib.hid ho
  clear ho hr hlt
  have n0 : (0 : Int) < (n : Int) := by omega
  have n1 : (1 : Int) < (n : Int) := by omega
  have n2 : (2 : Int) < (n : Int) := by omega
  have n3 : (3 : Int) < (n : Int) := by omega
  have m1 : 1 < n := by omega
  have m2 : 2 < n := by omega
  have m3 : 3 < n := by omega
  go_enter Tryd.func54, Tryd.ntmps54
  go_upto_region 1 with (fail)
  go_quiet (fail)
  have e4 := four_or x0 x1 x2 x3 b0 b1 b2 b3
  rw [e4]
  go_wp2_with fail
  go_ret
  exact ⟨ret_int' (by rw [HO.out]), below_refl_drewN _ _ _⟩
end Go.Proofs.YtckihiiimomgfaaDoor

namespace Go.Proofs.YtckihiiimomgfaaDoor
open Go.RowKit DiskMath
/-- a log lies in block lp, its disk in p -/
structure LogB (w : World) (lp p : Nat) (a : Nat) (g : WalMath.Lg) : Prop where
  blk : w.heap[lp]? = some (.cells #[.pointer (some ⟨p, 0, none⟩), .int .i64 (a : Nat), .int .i64 (g.to : Nat), .int .i64 (g.at_ : Nat), .int .i64 (g.epoch : Nat), .int .i64 (g.next : Nat), .int .i64 (g.err : Nat)] 73 (0, 0))
theorem LogB.cells {w : World} {lp p a : Nat} {g : WalMath.Lg} (h : LogB w lp p a g) : w.cell? ⟨lp, 0, none⟩ = some (.pointer (some ⟨p, 0, none⟩)) ∧ w.cell? ⟨lp, 1, none⟩ = some (.int .i64 (a : Nat)) ∧ w.cell? ⟨lp, 2, none⟩ = some (.int .i64 (g.to : Nat)) ∧ w.cell? ⟨lp, 3, none⟩ = some (.int .i64 (g.at_ : Nat)) ∧ w.cell? ⟨lp, 4, none⟩ = some (.int .i64 (g.epoch : Nat)) ∧ w.cell? ⟨lp, 5, none⟩ = some (.int .i64 (g.next : Nat)) ∧ w.cell? ⟨lp, 6, none⟩ = some (.int .i64 (g.err : Nat)) ∧ ∀ i, w.frozen? ⟨lp, i, none⟩ = false :=
  ⟨block_cell h.blk, block_cell h.blk, block_cell h.blk, block_cell h.blk, block_cell h.blk, block_cell h.blk, block_cell h.blk, fun _ => block_free h.blk⟩
theorem LogB.lt {w : World} {lp p a : Nat} {g : WalMath.Lg} (h : LogB w lp p a g) : lp < w.heap.size := heap_lt h.blk
theorem LogB.kept {w w' : World} {F : Nat → Prop} {lp p a : Nat} {g : WalMath.Lg} (h : LogB w lp p a g) (hk : Kept F w w') (hp : ¬ F lp) : LogB w' lp p a g := ⟨hk.heap h.blk hp⟩
theorem LogB.below {w w' : World} {lp p a : Nat} {g : WalMath.Lg} (h : LogB w lp p a g) (hb : Below w.heap.size w w') : LogB w' lp p a g := ⟨(hb.block lp h.lt).trans h.blk⟩
theorem walOk_any (w : World) (lp p a : Nat) (g : WalMath.Lg) (h : LogB w lp p a g) : Calls Tryd.prog 66 #[.pointer (some ⟨lp, 0, none⟩)] w fun e w' => e = .returned (.bool true) ∧ w = w' := by
  obtain ⟨c0, _⟩ := h.cells
  clear h
  go_enter Tryd.func66, Tryd.ntmps66
  go_wp2_with fail
  go_ret
  exact ⟨rfl, rfl⟩
theorem walAt_any (w : World) (lp p a : Nat) (g : WalMath.Lg) (h : LogB w lp p a g) : Calls Tryd.prog 35 #[.pointer (some ⟨lp, 0, none⟩)] w fun e w' => e = .returned (.int .i64 (g.at_ : Nat)) ∧ w = w' := by
  obtain ⟨_, _, _, c3, _⟩ := h.cells
  have HH := Lib.hid h
  clear h
  go_enter Tryd.func35, Tryd.ntmps35
  go_wp2_with fail
  refine (walOk_any w lp p a g HH.out).mono ?_
  rintro e w' ⟨rfl, rfl⟩
  go_wp2_with fail
  go_ret
  exact ⟨rfl, rfl⟩
theorem walNext_any (w : World) (lp p a : Nat) (g : WalMath.Lg) (h : LogB w lp p a g) : Calls Tryd.prog 36 #[.pointer (some ⟨lp, 0, none⟩)] w fun e w' => e = .returned (.int .i64 (g.next : Nat)) ∧ w = w' := by
  obtain ⟨_, _, _, _, _, c5, _⟩ := h.cells
  have HH := Lib.hid h
  clear h
  go_enter Tryd.func36, Tryd.ntmps36
  go_wp2_with fail
  refine (walOk_any w lp p a g HH.out).mono ?_
  rintro e w' ⟨rfl, rfl⟩
  go_wp2_with fail
  go_ret
  exact ⟨rfl, rfl⟩
theorem walRoom_any (w : World) (lp p a : Nat) (g : WalMath.Lg) (h : LogB w lp p a g) (h1 : g.at_ ≤ g.to) (h2 : g.to ≤ 65536) : Calls Tryd.prog 34 #[.pointer (some ⟨lp, 0, none⟩)] w fun e w' => e = .returned (.int .i64 ((g.to - g.at_ : Nat) : Int)) ∧ Below w.heap.size w w' := by
  obtain ⟨_, _, c2, c3, _⟩ := h.cells
  have HH := Lib.hid h
  have hs : IntKind.i64.wrap ((g.to : Int) - (g.at_ : Int)) = ((g.to - g.at_ : Nat) : Int) := by rw [IntKind.wrap_i64]; omega
  obtain ⟨to_, at_, ep, nx, er⟩ := g
  simp only at *
  clear h
  go_enter Tryd.func34, Tryd.ntmps34
  go_wp2_with fail
  refine (walOk_any w lp p a _ HH.out).mono ?_
  rintro e w' ⟨rfl, rfl⟩
  go_upto_region 3 with (fail)
  go_quiet (fail)
  go_wp2_with fail
  go_ret
  exact ⟨ret_int' (by omega), below_refl_drewN _ _ _⟩
theorem LogB.setAt {w : World} {lp p a : Nat} {g : WalMath.Lg} (h : LogB w lp p a g) (x : Int) (k : Nat) (hx : x = (k : Int)) : LogB (w.setCell ⟨lp, 3, none⟩ (.int .i64 x)) lp p a { g with at_ := k } := by
  subst hx
  exact ⟨set_block h.blk 3 _⟩
theorem LogB.setNext {w : World} {lp p a : Nat} {g : WalMath.Lg} (h : LogB w lp p a g) (x : Int) (k : Nat) (hx : x = (k : Int)) : LogB (w.setCell ⟨lp, 5, none⟩ (.int .i64 x)) lp p a { g with next := k } := by
  subst hx
  exact ⟨set_block h.blk 5 _⟩
theorem LogB.setErr {w : World} {lp p a : Nat} {g : WalMath.Lg} (h : LogB w lp p a g) (x : Int) (k : Nat) (hx : x = (k : Int)) : LogB (w.setCell ⟨lp, 6, none⟩ (.int .i64 x)) lp p a { g with err := k } := by
  subst hx
  exact ⟨set_block h.blk 6 _⟩
theorem walRestart_any (w : World) (lp p a : Nat) (g : WalMath.Lg) (h : LogB w lp p a g) : Calls Tryd.prog 38 #[.pointer (some ⟨lp, 0, none⟩)] w fun e w' => e = .returned (.int .i64 (g.next : Nat)) ∧ LogB w' lp p a { g with at_ := a } ∧ Kept (fun k => k = lp) w w' ∧ w'.heap.size = w.heap.size := by
  obtain ⟨_, c1, _, _, _, c5, _, f⟩ := h.cells
  have f3 := f 3
  have HH := Lib.hid h
  clear h f
  go_enter Tryd.func38, Tryd.ntmps38
  go_wp2_with fail
  refine (walOk_any w lp p a _ HH.out).mono ?_
  rintro e w' ⟨rfl, rfl⟩
  go_wp2_with fail
  go_ret
  exact ⟨rfl, HH.out.setAt _ _ rfl, (Kept.refl (fun k => k = lp) w).setCell (p := ⟨lp, 3, none⟩) (.inl rfl) _, by simp⟩
/-- the greatest epoch of the sectors from a on, so many -/
def nwst (S : List Sector) (a k : Nat) : Nat := WalMath.newest ((S.drop a).take k)
theorem nwst_succ (S : List Sector) (a k : Nat) (s : Sector) (h : S[a + k]? = some s) : nwst S a (k + 1) = max (max (nwst S a k) (WalMath.hd s)) (WalMath.tl s) := by
  unfold nwst
  rw [List.take_add_one, List.getElem?_drop, h]
  simp [WalMath.newest]
theorem nwst_le (S : List Sector) (a k : Nat) : nwst S a k ≤ 4294967295 := WalMath.newest_le fun c _ => by
  have h1 := StampMath.ofBe_lt (c.take 4)
  have h2 := StampMath.ofBe_lt ((c.drop 56).take 4)
  have h3 : 256 ^ (c.take 4).length ≤ 256 ^ 4 := Nat.pow_le_pow_right (by decide) (by simp; omega)
  have h4 : 256 ^ ((c.drop 56).take 4).length ≤ 256 ^ 4 := Nat.pow_le_pow_right (by decide) (by simp; omega)
  unfold WalMath.hd WalMath.tl
  omega
def NwRel (w : World) (S : List Sector) (a b : Nat) (n i : Value) (wr : World) : Prop := ∃ k : Nat, a + k ≤ b ∧ i = .int .i64 ((a + k : Nat) : Int) ∧ n = .int .i64 (nwst S a k : Nat) ∧ Below w.heap.size w wr
set_option maxRecDepth 100000 in
set_option maxHeartbeats 1000000 in
theorem walNewest_yes (w : World) (F : Nat → Prop) (p : Nat) (d : Dk) (a b : Nat) (h : DiskAt w F p d) (h1 : a < b) (h2 : b ≤ d.fast.length) (h3 : d.fast.length ≤ 65536) :
    Calls Tryd.prog 19 #[.pointer (some ⟨p, 0, none⟩), .int .i64 a, .int .i64 b] w fun e w' => e = .returned (.tuple #[.int .i64 (nwst (view d) a (b - a) : Nat), .int .i64 0]) ∧ Below w.heap.size w w' := by
  have HD := Lib.hid h.lt
  have HLen := Lib.hid h2
  clear h
  go_enter Tryd.func19, Tryd.ntmps19
  go_wp2_with fail
  refine (walRight_yes w _ p d a b HD.out ⟨by omega, by omega, by omega⟩).mono ?_
  rintro e w' ⟨rfl, rfl⟩
  go_wp2_with fail
  go_loopw [9, 10] (fun n i wr => NwRel w (view d) a b n i wr) (fun _ i _ => b - (intOf i).toNat)
  case atStart => exact ⟨0, by omega, by go_num, by simp [nwst, WalMath.newest], Below.refl _ _⟩
  case round =>
    obtain ⟨k, hk, rfl, rfl, hb⟩ := hrel
    obtain ⟨wo, rfl⟩ : ∃ wo : World, wo = wr := ⟨_, rfl⟩
    have hsz := hb.size
    have HB := Lib.hid hb
    obtain ⟨i, hi⟩ : ∃ i, a + k = i := ⟨_, rfl⟩
    have HI := Lib.hid hi
    rw [hi] at hk ⊢
    have hnw := nwst_le (view d) a k
    obtain ⟨x, hx⟩ : ∃ x, nwst (view d) a k = x := ⟨_, rfl⟩
    rw [hx] at hnw ⊢
    have HX := Lib.hid hx
    clear hb hi hx
    by_cases hlt : i < b
    · go_wp2_with fail
      refine (diskRead_yes wo _ p d i (HD.out.below HB.out) (by have := HLen.out; omega)).mono ?_
      rintro e w1 ⟨v, s, rfl, hs, hsl, ho, hb1⟩
      obtain ⟨A1, c1, rfl, hc1⟩ := own_shape ho
      have hbs := Bs.of_own ho
      obtain ⟨ad, rfl, hadl, hadc⟩ := hbs.at_ (k := 0) (by omega)
      have HS := Lib.hid hs
      have HO := Lib.hid hbs
      have HB1 := Lib.hid hb1
      have HSL := Lib.hid hsl
      clear hadc hadl hs hsl hbs hb1 ho
      go_upto_region 11 with (fail)
      refine wp_region_mix [(true, 0), (true, 1), (true, 3), (true, 4), (false, 2), (false, 5), (false, 6), (true, 7)] 8 (fun _ => True) (by kernel_rfl) (by kernel_rfl) (by rintro _ ⟨_, _⟩ ⟨_, _⟩ _ rfl h; exact h) trivial ?_
      simp only [pickM, List.getElem?_cons_succ, List.getElem?_cons_zero]
      iterate 4 (refine wpMix_take (v := ?_) (Or.inl ⟨by rfl, ?_⟩) ?_; rotate_left; · intro w' hSw; go_simp; (try with_reducible rfl))
      (try simp only [Act.put, List.setIfInBounds_toArray, List.set_cons_zero, List.set_cons_succ])
      refine wpMix_do rfl fun K hK => ?_
      go_simp
      refine (number_any ad c1 64 s w1.drew HSL.out (by omega) (by omega) HO.out.drew).mono ?_
      rintro e w2 ⟨rfl, hb2⟩
      refine hK.out _ _ (fun _ => trivial) ?_
      clear hK K
      have HB2 := Lib.hid (show Below w1.heap.size w1 w2 from (Below.refl _ _).drew.trans hb2)
      clear hb2
      (try simp only [Act.put, List.setIfInBounds_toArray, List.set_cons_zero, List.set_cons_succ])
      have hc56 : ¬ c1 = 56 := by omega
      have hd8 : ((s.drop 56).take 8).length = 8 := by have := HSL.out; simp; omega
      refine wpMix_do rfl fun K hK => ?_
      go_simp
      refine (number_any ⟨ad.block, ad.off + 56, none⟩ (c1 - 56) 8 ((s.drop 56).take 8) w2 hd8 (by omega) (by omega) ((HO.out.below HB2.out).sub 56 8 (by decide))).mono ?_
      rintro e w3 ⟨rfl, hb3⟩
      refine hK.out _ _ (fun _ => trivial) ?_
      clear hK K
      have HB3 := Lib.hid (below_then HB2.out hb3)
      clear hb3
      (try simp only [Act.put, List.setIfInBounds_toArray, List.set_cons_zero, List.set_cons_succ])
      refine wpMix_do rfl fun K hK => ?_
      go_simp
      refine hK.out _ _ (fun _ => trivial) ?_
      clear hK K
      (try simp only [Act.put, List.setIfInBounds_toArray, List.set_cons_zero, List.set_cons_succ])
      refine wpMix_take (v := ?_) (Or.inl ⟨by rfl, ?_⟩) ?_
      rotate_left
      · intro w' hSw
        go_simp
        with_reducible rfl
      (try simp only [Act.put, List.setIfInBounds_toArray, List.set_cons_zero, List.set_cons_succ])
      refine wpMix_nil ?_
      have e56 : (List.take 4 (List.take 8 (List.drop 56 s))) = (s.drop 56).take 4 := by rw [List.take_take]; rfl
      have hmx : nwst (view d) a (k + 1) = max (max x (StampMath.ofBe (s.take 4))) (StampMath.ofBe ((s.drop 56).take 4)) := by
        rw [nwst_succ _ _ _ s (by rw [HI.out]; exact HS.out), HX.out]; rfl
      rw [e56]
      have HMX := Lib.hid hmx
      obtain ⟨y, hy⟩ : ∃ y, StampMath.ofBe (s.take 4) = y := ⟨_, rfl⟩
      obtain ⟨z, hz⟩ : ∃ z, StampMath.ofBe ((s.drop 56).take 4) = z := ⟨_, rfl⟩
      rw [hy, hz] at HMX ⊢
      have HB3' := Lib.hid (HB.out.trans ((HB1.out.trans (HB3.out.mono HB1.out.size)).mono HB.out.size))
      clear hy hz e56 hmx HB3 HB2
      go_wp2_with fail
      go_roundw
      case rel =>
        refine ⟨k + 1, by have := HI.out; omega, ?_, ?_, HB3'.out⟩
        · have := HI.out
          go_num
        · rw [HMX.out]
          go_num
      case measure => simp [intOf]; omega
    · go_wp2_with fail
      go_ret2
      have hba : b - a = k := by have := HI.out; omega
      rw [hba, HX.out]
      exact ⟨rfl, HB.out⟩
end Go.Proofs.YtckihiiimomgfaaDoor
