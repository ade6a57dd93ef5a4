/- The contracts of a log's region: wal.right, wal.number. -/
import Derived.Test.YtckihiiimomgfaaDoorDisk3
import Derived.Test.YtckihiiimomgfaaDoorStampRead
import Derived.Test.YtckihiiimomgfaaDoorWalMath
import Derived.BigQuiet
namespace Go.Proofs.YtckihiiimomgfaaDoor
open Go.RowKit DiskMath
def RegionOk (n : Nat) (a b : Int) : Prop := 0 ≤ a ∧ a < b ∧ b ≤ n
theorem walRight_yes (w : World) (F : Nat → Prop) (p : Nat) (d : Dk) (a b : Int) (h : DiskAt w F p d) (hr : RegionOk d.fast.length a b) :
    Calls Tryd.prog 53 #[.pointer (some ⟨p, 0, none⟩), .int .i64 a, .int .i64 b] w fun e w' => e = .returned (.int .i64 0) ∧ w = w' := by
  obtain ⟨gf, gm, n, vw, hb, _⟩ := h
  obtain ⟨h1, h2, h3⟩ := hr
  rw [hb.len] at h3
  have hpos := hb.pos
  have HH := Lib.hid hb
  clear hb
  have hne : ((n : Int) == 0) = false := by rw [beq_eq_false_iff_ne]; omega
  have d1 : decide (a < 0) = false := decide_eq_false (by omega)
  have d2 : decide (b ≤ a) = false := decide_eq_false (by omega)
  have d3 : decide ((n : Int) < b) = false := decide_eq_false (by omega)
  go_enter Tryd.func53, Tryd.ntmps53
  go_wp2_with fail
  refine (diskLen_any w p gf gm n vw d HH.out).mono ?_
  rintro e w' ⟨rfl, rfl⟩
  go_wp2_with fail
  refine (diskLen_any w p gf gm n vw d HH.out).mono ?_
  rintro e w' ⟨rfl, rfl⟩
  go_wp2_with fail
  go_ret
  exact ⟨rfl, rfl⟩
theorem walRight_no (w : World) (F : Nat → Prop) (p : Nat) (d : Dk) (a b : Int) (h : DiskAt w F p d) (hr : ¬ RegionOk d.fast.length a b) :
    Calls Tryd.prog 53 #[.pointer (some ⟨p, 0, none⟩), .int .i64 a, .int .i64 b] w fun e w' => e = .returned (.int .i64 2) ∧ w = w' := by
  obtain ⟨gf, gm, n, vw, hb, _⟩ := h
  unfold RegionOk at hr
  rw [hb.len] at hr
  have hpos := hb.pos
  have HH := Lib.hid hb
  clear hb
  have hne : ((n : Int) == 0) = false := by rw [beq_eq_false_iff_ne]; omega
  by_cases h1 : a < 0
  · have d1 : decide (a < 0) = true := decide_eq_true h1
    go_enter Tryd.func53, Tryd.ntmps53
    go_wp2_with fail
    refine (diskLen_any w p gf gm n vw d HH.out).mono ?_
    rintro e w' ⟨rfl, rfl⟩
    go_wp2_with fail
    go_ret
    exact ⟨rfl, rfl⟩
  · have d1 : decide (a < 0) = false := decide_eq_false h1
    by_cases h2 : b ≤ a
    · have d2 : decide (b ≤ a) = true := decide_eq_true h2
      go_enter Tryd.func53, Tryd.ntmps53
      go_wp2_with fail
      refine (diskLen_any w p gf gm n vw d HH.out).mono ?_
      rintro e w' ⟨rfl, rfl⟩
      go_wp2_with fail
      go_ret
      exact ⟨rfl, rfl⟩
    · have d2 : decide (b ≤ a) = false := decide_eq_false h2
      have d3 : decide ((n : Int) < b) = true := decide_eq_true (by omega)
      go_enter Tryd.func53, Tryd.ntmps53
      go_wp2_with fail
      refine (diskLen_any w p gf gm n vw d HH.out).mono ?_
      rintro e w' ⟨rfl, rfl⟩
      go_wp2_with fail
      refine (diskLen_any w p gf gm n vw d HH.out).mono ?_
      rintro e w' ⟨rfl, rfl⟩
      go_wp2_with fail
      go_ret
      exact ⟨rfl, rfl⟩
theorem or_i64 (x y i : Nat) (hx : x % 2 ^ i = 0) (hy : y < 2 ^ i) (hs : x + y < 2 ^ 63) : bits .or .i64 (x : Int) (y : Int) = ((x + y : Nat) : Int) := by
  have hx1 : x ||| y = x + y := nat_join i _ _ hx hy
  show IntKind.i64.wrap ((BitVec.ofInt 64 (x : Int) ||| BitVec.ofInt 64 (y : Int)).toNat : Int) = _
  have e1 : (BitVec.ofInt 64 (x : Int)).toNat = x := by rw [BitVec.ofInt_natCast, BitVec.toNat_ofNat]; exact Nat.mod_eq_of_lt (by omega)
  have e2 : (BitVec.ofInt 64 (y : Int)).toNat = y := by rw [BitVec.ofInt_natCast, BitVec.toNat_ofNat]; exact Nat.mod_eq_of_lt (by omega)
  rw [BitVec.toNat_or, e1, e2, hx1, IntKind.wrap_i64]
  omega
theorem four_or (a b c d : Nat) (ha : a < 2 ^ 8) (hb : b < 2 ^ 8) (hc : c < 2 ^ 8) (hd : d < 2 ^ 8) : bits .or .i64 (bits .or .i64 (bits .or .i64 ((a : Int) * 16777216) ((b : Int) * 65536)) ((c : Int) * 256)) (d : Int) = ((a * 16777216 + b * 65536 + c * 256 + d : Nat) : Int) := by
  have e1 := or_i64 (a * 16777216) (b * 65536) 24 (by omega) (by omega) (by omega)
  have e2 := or_i64 (a * 16777216 + b * 65536) (c * 256) 16 (by omega) (by omega) (by omega)
  have e3 := or_i64 (a * 16777216 + b * 65536 + c * 256) d 8 (by omega) (by omega) (by omega)
  rw [show (a : Int) * 16777216 = ((a * 16777216 : Nat) : Int) by omega, show (b : Int) * 65536 = ((b * 65536 : Nat) : Int) by omega, show (c : Int) * 256 = ((c * 256 : Nat) : Int) by omega, e1, e2, e3]
set_option maxHeartbeats 400000 in
theorem number_any (ad : Addr) (c n : Nat) (l : List UInt8) (w : World) (hn : l.length = n) (hl : 4 ≤ n) (hm : n ≤ 65536) (hr : Bs w (some ad) l) :
    Calls Tryd.prog 54 #[.slice (some ad) n c] w fun e w' => e = .returned (.int .i64 (StampMath.ofBe (l.take 4) : Nat)) ∧ Below w.heap.size w w' := by
  have ho : StampMath.ofBe (l.take 4) = l[0].toNat * 16777216 + l[1].toNat * 65536 + l[2].toNat * 256 + l[3].toNat := by
    match l, hn with
    | a :: b :: c :: d :: l, _ => simp [StampMath.ofBe]; omega
    | [], h => simp at h; omega
    | [_], h => simp at h; omega
    | [_, _], h => simp at h; omega
    | [_, _, _], h => simp at h; omega
  obtain ⟨a, ha, _, g0⟩ := hr.at_ (k := 0) (by omega)
  obtain ⟨a1, ha1, _, g1⟩ := hr.at_ (k := 1) (by omega)
  obtain ⟨a2, ha2, _, g2⟩ := hr.at_ (k := 2) (by omega)
  obtain ⟨a3, ha3, hlt, g3⟩ := hr.at_ (k := 3) (by omega)
  injection ha with ha
  injection ha1 with ha1
  injection ha2 with ha2
  injection ha3 with ha3
  subst ha ha1 ha2 ha3
  have lit : ∀ k, 0 < k → ad.add k = ⟨ad.block, ad.off + k, none⟩ := fun k hk => by unfold Addr.add; rw [if_neg (by omega)]
  have lit0 : ad.add 0 = ad := by unfold Addr.add; rw [if_pos rfl]
  rw [lit0] at g0
  rw [lit 1 (by decide)] at g1
  rw [lit 2 (by decide)] at g2
  rw [lit 3 (by decide)] at g3
  clear lit lit0
  have b0 := l[0].toNat_lt
  have b1 := l[1].toNat_lt
  have b2 := l[2].toNat_lt
  have b3 := l[3].toNat_lt
  generalize l[0].toNat = x0 at *
  generalize l[1].toNat = x1 at *
  generalize l[2].toNat = x2 at *
  generalize l[3].toNat = x3 at *
  have HO := Lib.hid ho
  clear ho hr hlt
  have n0 : (0 : Int) < (n : Int) := by omega
  have n1 : (1 : Int) < (n : Int) := by omega
  have n2 : (2 : Int) < (n : Int) := by omega
  have n3 : (3 : Int) < (n : Int) := by omega
  have m1 : 1 < n := by omega
  have m2 : 2 < n := by omega
  have m3 : 3 < n := by omega
  go_enter Tryd.func54, Tryd.ntmps54
  go_upto_region 1 with (fail)
  go_quiet (fail)
  have e4 := four_or x0 x1 x2 x3 b0 b1 b2 b3
  rw [e4]
  go_wp2_with fail
  go_ret
  exact ⟨ret_int' (by rw [HO.out]), below_refl_drewN _ _ _⟩
end Go.Proofs.YtckihiiimomgfaaDoor
