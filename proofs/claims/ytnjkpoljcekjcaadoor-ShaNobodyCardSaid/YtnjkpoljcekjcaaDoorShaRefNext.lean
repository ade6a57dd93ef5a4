/- The contract of the document's state behind a block. -/
import Derived.Test.YtnjkpoljcekjcaaDoorShaNext
import Derived.Test.YtnjkpoljcekjcaaDoorPush
import Derived.Deep.DeepCutAuto
import Derived.Great.BuildSlice
import Derived.KernelRfl
import Derived.Deep.RegionHeld3
namespace Go.Proofs.YtnjkpoljcekjcaaDoor
open Go.RowKit
theorem u32v_uvs (l : List Nat) : u32v l = uvs l := rfl
/-- the slice at A reads as the words l -/
def Us (w : World) (A : Option Addr) (l : List Nat) : Prop :=
  ∃ g, A = some ⟨g, 0, none⟩ ∧ g < w.heap.size ∧ ∀ j, j < l.length → w.cell? ⟨g, j, none⟩ = some (.int .u32 (l.getD j 0 : Nat))
theorem Us.below {w w' : World} {A : Option Addr} {l : List Nat} (h : Us w A l) (hb : Below w.heap.size w w') : Us w' A l := by
  obtain ⟨g, e, hlt, hc⟩ := h
  exact ⟨g, e, Nat.lt_of_lt_of_le hlt hb.size, fun j hj => (hb.cell (p := ⟨g, j, none⟩) hlt).trans (hc j hj)⟩
theorem Us.of_row {w : World} {g : Nat} {T : TypeId} {l : List Nat} (h : Row32 w g T l) : Us w (some ⟨g, 0, none⟩) l := ⟨g, rfl, heap_lt h, fun j hj => h.cell j hj⟩
theorem turnQ (x n : Nat) (w : World) (hx : x < 4294967296) (h1 : n < 32) :
    Calls Tryd.prog 40 #[.int .u32 (x : Nat), .int .u64 (n : Nat)] w fun e w' => e = .returned (.int .u32 (ShaMath.rot x n : Nat)) ∧ w' = w :=
  (turn_any x n w hx h1).mono fun _ _ ⟨h, h'⟩ => ⟨h, h'.symm⟩
theorem turn7Q (x : Nat) (w : World) (hx : x < 4294967296) : Calls Tryd.prog 40 #[.int .u32 (x : Int), .int .u64 7] w fun e w' => e = .returned (.int .u32 (ShaMath.rot x 7 : Nat)) ∧ w' = w := turnQ x 7 w hx (by decide)
theorem turn18Q (x : Nat) (w : World) (hx : x < 4294967296) : Calls Tryd.prog 40 #[.int .u32 (x : Int), .int .u64 18] w fun e w' => e = .returned (.int .u32 (ShaMath.rot x 18 : Nat)) ∧ w' = w := turnQ x 18 w hx (by decide)
theorem turn17Q (x : Nat) (w : World) (hx : x < 4294967296) : Calls Tryd.prog 40 #[.int .u32 (x : Int), .int .u64 17] w fun e w' => e = .returned (.int .u32 (ShaMath.rot x 17 : Nat)) ∧ w' = w := turnQ x 17 w hx (by decide)
theorem turn19Q (x : Nat) (w : World) (hx : x < 4294967296) : Calls Tryd.prog 40 #[.int .u32 (x : Int), .int .u64 19] w fun e w' => e = .returned (.int .u32 (ShaMath.rot x 19 : Nat)) ∧ w' = w := turnQ x 19 w hx (by decide)
theorem turn6Q (x : Nat) (w : World) (hx : x < 4294967296) : Calls Tryd.prog 40 #[.int .u32 (x : Int), .int .u64 6] w fun e w' => e = .returned (.int .u32 (ShaMath.rot x 6 : Nat)) ∧ w' = w := turnQ x 6 w hx (by decide)
theorem turn11Q (x : Nat) (w : World) (hx : x < 4294967296) : Calls Tryd.prog 40 #[.int .u32 (x : Int), .int .u64 11] w fun e w' => e = .returned (.int .u32 (ShaMath.rot x 11 : Nat)) ∧ w' = w := turnQ x 11 w hx (by decide)
theorem turn25Q (x : Nat) (w : World) (hx : x < 4294967296) : Calls Tryd.prog 40 #[.int .u32 (x : Int), .int .u64 25] w fun e w' => e = .returned (.int .u32 (ShaMath.rot x 25 : Nat)) ∧ w' = w := turnQ x 25 w hx (by decide)
theorem turn2Q (x : Nat) (w : World) (hx : x < 4294967296) : Calls Tryd.prog 40 #[.int .u32 (x : Int), .int .u64 2] w fun e w' => e = .returned (.int .u32 (ShaMath.rot x 2 : Nat)) ∧ w' = w := turnQ x 2 w hx (by decide)
theorem turn13Q (x : Nat) (w : World) (hx : x < 4294967296) : Calls Tryd.prog 40 #[.int .u32 (x : Int), .int .u64 13] w fun e w' => e = .returned (.int .u32 (ShaMath.rot x 13 : Nat)) ∧ w' = w := turnQ x 13 w hx (by decide)
theorem turn22Q (x : Nat) (w : World) (hx : x < 4294967296) : Calls Tryd.prog 40 #[.int .u32 (x : Int), .int .u64 22] w fun e w' => e = .returned (.int .u32 (ShaMath.rot x 22 : Nat)) ∧ w' = w := turnQ x 22 w hx (by decide)
theorem turn2L (x : Nat) (w : World) (hx : x < 4294967296) : Calls Tryd.prog 40 #[.int .u32 (x : Int), .int .u64 2] w fun e w' => e = .returned (.int .u32 (ShaMath.rot x 2 : Nat)) ∧ w = w' := turn_any x 2 w hx (by decide)
theorem turn13L (x : Nat) (w : World) (hx : x < 4294967296) : Calls Tryd.prog 40 #[.int .u32 (x : Int), .int .u64 13] w fun e w' => e = .returned (.int .u32 (ShaMath.rot x 13 : Nat)) ∧ w = w' := turn_any x 13 w hx (by decide)
theorem turn22L (x : Nat) (w : World) (hx : x < 4294967296) : Calls Tryd.prog 40 #[.int .u32 (x : Int), .int .u64 22] w fun e w' => e = .returned (.int .u32 (ShaMath.rot x 22 : Nat)) ∧ w = w' := turn_any x 22 w hx (by decide)
theorem ch_spell' (e f g : Nat) (he : e < 4294967296) (hf : f < 4294967296) (hg : g < 4294967296) : bits .xor .u32 (bits .and .u32 (e : Int) (f : Int)) (bits .and .u32 (bits .xor .u32 (e : Int) 4294967295) (g : Int)) = (ShaMath.ch e f g : Nat) := by
  have e1 : bits .xor .u32 (e : Int) 4294967295 = ((e ^^^ 4294967295 : Nat) : Int) := u32_xor_nat e 4294967295 he (by decide)
  have e2 : e ^^^ 4294967295 < 4294967296 := Nat.xor_lt_two_pow (n := 32) he (by decide)
  rw [e1, u32_and_nat _ _ he hf, u32_and_nat _ _ e2 hg, u32_xor_nat _ _ (Nat.and_lt_two_pow (n := 32) _ hf) (Nat.and_lt_two_pow (n := 32) _ hg), Nat.xor_comm e 4294967295]
  rfl
def RnW (l : List UInt8) (w : World) (lo hi : Nat) (o i : Value) (wr : World) : Prop :=
  ∃ k : Nat, lo ≤ k ∧ k ≤ hi ∧ i = .int .i64 (k : Nat) ∧ Own32 wr (w.heap.size + 1) o (ShaMath.wTo l k) ∧ Row32 wr w.heap.size 65 ShaMath.kk ∧ Below w.heap.size w wr
theorem word_sum' (b0 b1 b2 b3 : Nat) (h0 : b0 < 256) (h1 : b1 < 256) (h2 : b2 < 256) (h3 : b3 < 256) : IntKind.u32.wrap (IntKind.u32.wrap (IntKind.u32.wrap ((b0 : Int) * 16777216 + (b1 : Int) * 65536) + (b2 : Int) * 256) + (b3 : Int)) = ((b0 * 16777216 + b1 * 65536 + b2 * 256 + b3 : Nat) : Int) := by
  rw [IntKind.wrap_u32, IntKind.wrap_u32, IntKind.wrap_u32]; omega
theorem word_sum (b0 b1 b2 b3 : Nat) (h0 : b0 < 256) (h1 : b1 < 256) (h2 : b2 < 256) (h3 : b3 < 256) : ((b0 : Int) * 16777216 + (b1 : Int) * 65536 + (b2 : Int) * 256 + (b3 : Int)) % 4294967296 = ((b0 * 16777216 + b1 * 65536 + b2 * 256 + b3 : Nat) : Int) := by omega
theorem row_sum (s x : ShaMath.St) : #[Value.int .u32 (((s.a : Int) + (x.a : Int)) % 4294967296), .int .u32 (((s.b : Int) + (x.b : Int)) % 4294967296), .int .u32 (((s.c : Int) + (x.c : Int)) % 4294967296), .int .u32 (((s.d : Int) + (x.d : Int)) % 4294967296), .int .u32 (((s.e : Int) + (x.e : Int)) % 4294967296), .int .u32 (((s.f : Int) + (x.f : Int)) % 4294967296), .int .u32 (((s.g : Int) + (x.g : Int)) % 4294967296), .int .u32 (((s.h : Int) + (x.h : Int)) % 4294967296)] = (uvs (stl (ShaMath.addSt s x))).toArray := by
  simp [uvs, stl, ShaMath.addSt]
def RnS (s : ShaMath.St) (W : List Nat) (w : World) (g6 : Nat) (a b c d e f g h i : Value) (wr : World) : Prop :=
  ∃ k : Nat, k ≤ 64 ∧ i = .int .i64 (k : Nat) ∧ a = .int .u32 ((ShaMath.rnds s W k).a : Nat) ∧ b = .int .u32 ((ShaMath.rnds s W k).b : Nat) ∧ c = .int .u32 ((ShaMath.rnds s W k).c : Nat) ∧ d = .int .u32 ((ShaMath.rnds s W k).d : Nat) ∧
    e = .int .u32 ((ShaMath.rnds s W k).e : Nat) ∧ f = .int .u32 ((ShaMath.rnds s W k).f : Nat) ∧ g = .int .u32 ((ShaMath.rnds s W k).g : Nat) ∧ h = .int .u32 ((ShaMath.rnds s W k).h : Nat) ∧
    (∀ j, j < 64 → wr.cell? ⟨g6, j, none⟩ = some (.int .u32 (W.getD j 0 : Nat))) ∧ Row32 wr w.heap.size 65 ShaMath.kk ∧ Below w.heap.size w wr
set_option maxRecDepth 100000 in
set_option maxHeartbeats 2000000 in
theorem refNext_any (s : ShaMath.St) (A B : Option Addr) (c1 n c : Nat) (l : List UInt8) (w : World) (hs : s.lt) (hn : l.length = n) (hl : 64 ≤ n) (hm : n ≤ 1000000) (hu : Us w A (stl s)) (hr : Bs w B l) (_hc8 : 8 ≤ c1) :
    Calls Tryd.prog 31 #[.slice A 8 c1, .slice B n c] w fun e w' => ∃ g, e = .returned (.slice (some ⟨g, 0, none⟩) 8 8) ∧ Row32 w' g 42 (stl (ShaMath.next s l)) ∧ Below w.heap.size w w' := by
  have HN := Lib.hid hn
  obtain ⟨gs, rfl, hgs, hcs⟩ := hu
  have HCS := Lib.hid hcs
  have HR := Lib.hid hr
  have hi64 : (Tryd.prog.info? 65).map (·.size) = some ShaMath.kk.length := by kernel_rfl
  have hal : w.heap.size + 1 = (w.alloc (.cells (uvs (List.replicate 64 0)).toArray 65)).heap.size := by simp
  have I64 := Lib.hid hi64
  clear hn hcs hr hi64 hal
  go_enter Tryd.func31, Tryd.ntmps31
  go_wp2_with (first
    | (refine wpList_buildTo rfl 65 _ rfl (some 23) rfl (uvs ShaMath.kk).toArray (by kernel_rfl) ?_)
    | (refine wpList_store_row32 rfl 65 (.tmp 5) (.tmp 23) rfl w.heap.size ShaMath.kk (List.replicate 64 0) 65 rfl rfl (heap_alloc_new w _) (by rfl) I64.out ?_; intro w1 h1 k1; have H1 := Lib.hid h1; have hb1 : Below w.heap.size w w1 := (below_alloc w _).trans (k1.below (B := w.heap.size) (fun k _ hk => by omega) (by simp)); have hsz1 : w.heap.size + 1 ≤ w1.heap.size := (by have := k1.size; simpa using this); have HB1 := Lib.hid hb1; clear h1 k1 hb1))
  clear I64
  go_loopw [6, 7] (fun o i wr => RnW l w 0 16 o i wr) (fun _ i _ => 16 - (intOf i).toNat)
  case atStart => exact ⟨0, Nat.le_refl _, Nat.zero_le _, rfl, Own32.nil _ _, H1.out, HB1.out⟩
  case round =>
    clear H1 HB1
    obtain ⟨k, _, hk, rfl, ho, hrow, hb⟩ := hrel
    obtain ⟨A1, m1, d1, rfl, hm1, hc1⟩ := ho.shape'
    rw [ShaMath.wTo_length] at hm1
    subst hm1
    have hsz := hb.size
    have hrow0 := heap_lt hrow
    have hr := HR.out
    have HO := Lib.hid ho
    have HROW := Lib.hid hrow
    have HB := Lib.hid hb
    by_cases hlt : k < 16
    · have hn := HN.out
      obtain ⟨ad, rfl, hadb, h0⟩ := hr.at_ (k := 4 * k) (by omega)
      obtain ⟨_, e1, _, h1⟩ := hr.at_ (k := 4 * k + 1) (by omega)
      obtain ⟨_, e2, _, h2⟩ := hr.at_ (k := 4 * k + 2) (by omega)
      obtain ⟨_, e3, _, h3⟩ := hr.at_ (k := 4 * k + 3) (by omega)
      injection e1 with e1; injection e2 with e2; injection e3 with e3
      subst e1 e2 e3
      have hw : ShaMath.wNext l (ShaMath.wTo l k) k = l[4 * k].toNat * 16777216 + l[4 * k + 1].toNat * 65536 + l[4 * k + 2].toNat * 256 + l[4 * k + 3].toNat := by
        unfold ShaMath.wNext
        rw [if_pos hlt]
        unfold ShaMath.word ShaMath.byteAt
        simp only [List.getD_eq_getElem?_getD, List.getElem?_eq_getElem (show 4 * k < l.length by omega), List.getElem?_eq_getElem (show 4 * k + 1 < l.length by omega), List.getElem?_eq_getElem (show 4 * k + 2 < l.length by omega), List.getElem?_eq_getElem (show 4 * k + 3 < l.length by omega), Option.getD_some]
      have q0 := l[4 * k].toNat_lt
      have q1 := l[4 * k + 1].toNat_lt
      have q2 := l[4 * k + 2].toNat_lt
      have q3 := l[4 * k + 3].toNat_lt
      obtain ⟨b0, g0⟩ : ∃ b, l[4 * k].toNat = b := ⟨_, rfl⟩
      obtain ⟨b1, g1⟩ : ∃ b, l[4 * k + 1].toNat = b := ⟨_, rfl⟩
      obtain ⟨b2, g2⟩ : ∃ b, l[4 * k + 2].toNat = b := ⟨_, rfl⟩
      obtain ⟨b3, g3⟩ : ∃ b, l[4 * k + 3].toNat = b := ⟨_, rfl⟩
      rw [g0] at h0 hw q0; rw [g1] at h1 hw q1; rw [g2] at h2 hw q2; rw [g3] at h3 hw q3
      have hor := word_sum' b0 b1 b2 b3 (by omega) (by omega) (by omega) (by omega)
      rw [← hw] at hor
      have HOR := Lib.hid hor
      obtain ⟨p0, e0⟩ := named (4 * k)
      obtain ⟨p1, e1⟩ := named (p0 + 1)
      obtain ⟨p2, e2⟩ := named (p0 + 2)
      obtain ⟨p3, e3⟩ := named (p0 + 3)
      rw [e0] at h0 h1 h2 h3
      rw [e1] at h1; rw [e2] at h2; rw [e3] at h3
      have v0 : IntKind.i64.wrap (4 * (k : Int)) = (p0 : Int) := (IntWalk.i64_in _ (by omega)).trans (by omega)
      have v1 : IntKind.i64.wrap ((p0 : Int) + 1) = (p1 : Int) := (IntWalk.i64_in _ (by omega)).trans (by omega)
      have v2 : IntKind.i64.wrap ((p0 : Int) + 2) = (p2 : Int) := (IntWalk.i64_in _ (by omega)).trans (by omega)
      have v3 : IntKind.i64.wrap ((p0 : Int) + 3) = (p3 : Int) := (IntWalk.i64_in _ (by omega)).trans (by omega)
      have n0 : p0 < n := by omega
      have n1 : p1 < n := by omega
      have n2 : p2 < n := by omega
      have n3 : p3 < n := by omega
      have r0 : IntKind.u32.wrap (b0 : Int) = (b0 : Int) := by rw [IntKind.wrap_u32]; omega
      have r1 : IntKind.u32.wrap (b1 : Int) = (b1 : Int) := by rw [IntKind.wrap_u32]; omega
      have r2 : IntKind.u32.wrap (b2 : Int) = (b2 : Int) := by rw [IntKind.wrap_u32]; omega
      have r3 : IntKind.u32.wrap (b3 : Int) = (b3 : Int) := by rw [IntKind.wrap_u32]; omega
      have s0 : IntKind.u32.wrap ((b0 : Int) * 16777216) = (b0 : Int) * 16777216 := by rw [IntKind.wrap_u32]; omega
      have s1 : IntKind.u32.wrap ((b1 : Int) * 65536) = (b1 : Int) * 65536 := by rw [IntKind.wrap_u32]; omega
      have s2 : IntKind.u32.wrap ((b2 : Int) * 256) = (b2 : Int) * 256 := by rw [IntKind.wrap_u32]; omega
      have hlk : (ShaMath.wTo l k).length ≤ 1000000 := by rw [ShaMath.wTo_length]; omega
      have hks : ∀ w' : World, Below w.heap.size w w' → w'.cell? (ad.add p0) = some (.int .u8 (b0 : Int)) ∧ w'.cell? (ad.add p1) = some (.int .u8 (b1 : Int)) ∧ w'.cell? (ad.add p2) = some (.int .u8 (b2 : Int)) ∧ w'.cell? (ad.add p3) = some (.int .u8 (b3 : Int)) := fun w' hb =>
        ⟨(hb.cell (by rw [addr_block]; exact hadb)).trans h0, (hb.cell (by rw [addr_block]; exact hadb)).trans h1, (hb.cell (by rw [addr_block]; exact hadb)).trans h2, (hb.cell (by rw [addr_block]; exact hadb)).trans h3⟩
      have HKS := Lib.hid hks
      have HLK := Lib.hid hlk
      have HB2 : Hid (Below w.heap.size w wr) := HB
      clear e0 e1 e2 e3 hn g0 g1 g2 g3 hw hr hor ho hrow hb hks hlk h0 h1 h2 h3
      go_wp2_with fail
      go_region_held3 (fun w' => w'.cell? (ad.add p0) = some (.int .u8 (b0 : Int)) ∧ w'.cell? (ad.add p1) = some (.int .u8 (b1 : Int)) ∧ w'.cell? (ad.add p2) = some (.int .u8 (b2 : Int)) ∧ w'.cell? (ad.add p3) = some (.int .u8 (b3 : Int)))
        (first | exact HKS.out _ HB2.out | exact HKS.out _ HB2.out.drew | exact HKS.out _ (HB2.out.alloc HB2.out.size _) | exact HKS.out _ (HB2.out.alloc HB2.out.size _).drew)
        ((refine wstep_push32 (by rfl) _ _ (by rfl) (w.heap.size + 1) (.slice A1 k d1) (ShaMath.wTo l k) (by rfl) HO.out (by rfl) _ (ShaMath.wNext l (ShaMath.wTo l k) k) (by rfl) HOR.out HLK.out ?_ ?_; (omega); intro v2 w2 ho2 hk2 _; have HO2 := Lib.hid ho2; have HB2 : Hid (Below w.heap.size w w2) := Lib.hid (HB.out.trans (hk2.below (B := w.heap.size) (fun k _ hk => by have := (HO.out.lt k hk).1; omega) hsz)); have HK2 := Lib.hid hk2; clear ho2 hk2))
      go_wp2_with fail
      go_roundw
      case rel =>
        exact ⟨k + 1, by omega, by omega, by go_num, HO2.out, HROW.out.keep HK2.out (fun h => by have := (HO.out.lt _ h).1; omega), HB2.out⟩
      case measure => simp [intOf]; omega
    · have hk16 : k = 16 := by omega
      have ho' : Own32 wr (w.heap.size + 1) (.slice A1 k d1) (ShaMath.wTo l 16) := by rw [hk16] at ho ⊢; exact ho
      have HO' := Lib.hid ho'
      obtain ⟨wo, hwo⟩ : ∃ x : World, x = wr := ⟨_, rfl⟩
      rw [← hwo] at HO' HROW HB ⊢
      clear ho hrow hb HO hr ho' hk16 hwo hsz hrow0 hc1
      go_wp2_with fail
      clear hlt hk
      go_loopw [6, 8] (fun o i wr => RnW l w 16 64 o i wr) (fun _ i _ => 64 - (intOf i).toNat)
      case atStart => exact ⟨16, Nat.le_refl _, by decide, rfl, HO'.out, HROW.out, HB.out⟩
      case round =>
        clear HO' HROW HB
        obtain ⟨k, hk0, hk, rfl, ho, hrow, hb⟩ := hrel
        have hlk := ShaMath.wTo_length l k
        obtain ⟨g, d1, rfl, hc1, hgb, hgs', hcell⟩ := ho.at_n hlk (by omega)
        have hsz := hb.size
        have HO := Lib.hid ho
        have HROW := Lib.hid hrow
        have HB := Lib.hid hb
        have HLK := Lib.hid hlk
        by_cases hlt : k < 64
        · have a0 := hcell (k - 16) (by omega)
          have a1 := hcell (k - 15) (by omega)
          have a2 := hcell (k - 7) (by omega)
          have a3 := hcell (k - 2) (by omega)
          have l0 := ShaMath.wTo_lt l k (k - 16)
          have l1 := ShaMath.wTo_lt l k (k - 15)
          have l2 := ShaMath.wTo_lt l k (k - 7)
          have l3 := ShaMath.wTo_lt l k (k - 2)
          have hw : ShaMath.wNext l (ShaMath.wTo l k) k = ((ShaMath.wTo l k).getD (k - 16) 0 + ShaMath.sm0 ((ShaMath.wTo l k).getD (k - 15) 0) + (ShaMath.wTo l k).getD (k - 7) 0 + ShaMath.sm1 ((ShaMath.wTo l k).getD (k - 2) 0)) % 4294967296 := by
            unfold ShaMath.wNext
            rw [if_neg (by omega)]
          obtain ⟨x0, g0⟩ := named ((ShaMath.wTo l k).getD (k - 16) 0)
          obtain ⟨x1, g1⟩ := named ((ShaMath.wTo l k).getD (k - 15) 0)
          obtain ⟨x2, g2⟩ := named ((ShaMath.wTo l k).getD (k - 7) 0)
          obtain ⟨x3, g3⟩ := named ((ShaMath.wTo l k).getD (k - 2) 0)
          rw [g0] at a0 l0 hw; rw [g1] at a1 l1 hw; rw [g2] at a2 l2 hw; rw [g3] at a3 l3 hw
          have hs0 := sm0_spell x1 l1
          have hs1 := sm1_spell x3 l3
          obtain ⟨y0, gy0⟩ := named (ShaMath.sm0 x1)
          obtain ⟨y1, gy1⟩ := named (ShaMath.sm1 x3)
          rw [gy0] at hs0 hw; rw [gy1] at hs1 hw
          have HW := Lib.hid hw
          obtain ⟨p0, e0⟩ := named (k - 16)
          obtain ⟨p1, e1⟩ := named (k - 15)
          obtain ⟨p2, e2⟩ := named (k - 7)
          obtain ⟨p3, e3⟩ := named (k - 2)
          rw [e0] at a0; rw [e1] at a1; rw [e2] at a2; rw [e3] at a3
          have A0 := Lib.hid a0
          have A2 := Lib.hid a2
          have v0 : IntKind.i64.wrap ((k : Int) - 16) = (p0 : Int) := (IntWalk.i64_in _ (by omega)).trans (by omega)
          have v1 : IntKind.i64.wrap ((k : Int) - 15) = (p1 : Int) := (IntWalk.i64_in _ (by omega)).trans (by omega)
          have v2 : IntKind.i64.wrap ((k : Int) - 7) = (p2 : Int) := (IntWalk.i64_in _ (by omega)).trans (by omega)
          have v3 : IntKind.i64.wrap ((k : Int) - 2) = (p3 : Int) := (IntWalk.i64_in _ (by omega)).trans (by omega)
          have n0 : p0 < k := by omega
          have n1 : p1 < k := by omega
          have n2 : p2 < k := by omega
          have n3 : p3 < k := by omega
          have m0 : (p0 : Int) < (k : Int) := by omega
          have m1 : (p1 : Int) < (k : Int) := by omega
          have m2 : (p2 : Int) < (k : Int) := by omega
          have m3 : (p3 : Int) < (k : Int) := by omega
          clear e0 e1 e2 e3 g0 g1 g2 g3 gy0 gy1 hw ho hrow hb a0 a2 hlk hcell
          go_wp2_with fail
          go_quiet (fail)
          obtain ⟨wm, hwm⟩ : ∃ x : World, x = wr.drewN nq := ⟨_, rfl⟩
          have HO : Hid (Own32 wm (w.heap.size + 1) (.slice (some ⟨g, 0, none⟩) k d1) (ShaMath.wTo l k)) := by rw [hwm]; exact Lib.hid ⟨HO.out.1, HO.out.2⟩
          have HROW : Hid (Row32 wm w.heap.size 65 ShaMath.kk) := by rw [hwm]; exact Lib.hid HROW.out
          have HB : Hid (Below w.heap.size w wm) := by rw [hwm]; exact Lib.hid (below_drewN HB.out nq)
          have a0 : wm.cell? ⟨g, p0, none⟩ = some (.int .u32 (x0 : Int)) := by rw [hwm]; exact A0.out
          have a2 : wm.cell? ⟨g, p2, none⟩ = some (.int .u32 (x2 : Int)) := by rw [hwm]; exact A2.out
          have hsz : w.heap.size ≤ wm.heap.size := by rw [hwm]; exact hsz
          rw [← hwm]
          clear hwm A0 A2 a1 a3 v1 v3 hgs'
          go_wp2_with fail
          go_quiet ((go_at_call 40; first | (with_reducible exact Calls.quiet_of_same (turn7Q x1 _ l1)) | (with_reducible exact Calls.quiet_of_same (turn18Q x1 _ l1)) | (with_reducible exact Calls.quiet_of_same (turn17Q x3 _ l3)) | (with_reducible exact Calls.quiet_of_same (turn19Q x3 _ l3))))
          obtain ⟨wn, hwm⟩ : ∃ x : World, x = wm.drewN nq := ⟨_, rfl⟩
          have HO : Hid (Own32 wn (w.heap.size + 1) (.slice (some ⟨g, 0, none⟩) k d1) (ShaMath.wTo l k)) := by rw [hwm]; exact Lib.hid ⟨HO.out.1, HO.out.2⟩
          have HROW : Hid (Row32 wn w.heap.size 65 ShaMath.kk) := by rw [hwm]; exact Lib.hid HROW.out
          have HB : Hid (Below w.heap.size w wn) := by rw [hwm]; exact Lib.hid (below_drewN HB.out nq)
          have hsz : w.heap.size + 1 ≤ wn.heap.size := heap_lt HROW.out
          rw [← hwm]
          clear hwm a0 a2 v0 v2 hs0 hs1 l0 l1 l2 l3
          go_wp2_with (at_builtin; refine wpList_push32 rfl (.tmp 107) (.tmp 109) rfl (w.heap.size + 1) (.slice (some ⟨g, 0, none⟩) k d1) (ShaMath.wTo l k) rfl HO.out rfl _ (ShaMath.wNext l (ShaMath.wTo l k) k) rfl (by rw [HW.out]; omega) (by have := HLK.out; omega) hsz ?_; intro v2 w2 ho2 hk2 _; have HO2 := Lib.hid ho2; have HB2 : Hid (Below w.heap.size w w2) := Lib.hid (HB.out.trans (hk2.below (B := w.heap.size) (fun k _ hk => by have := (HO.out.lt k hk).1; omega) (by omega))); have HK2 := Lib.hid hk2; clear ho2 hk2)
          go_roundw
          case rel =>
            exact ⟨k + 1, by omega, by omega, by go_num, HO2.out, HROW.out.keep HK2.out (fun h => by have := (HO.out.lt _ h).1; omega), HB2.out⟩
          case measure => simp [intOf]; omega
        · have hk64 : k = 64 := by omega
          rw [hk64] at hcell
          have hWlt : ∀ i, (ShaMath.wTo l 64).getD i 0 < 4294967296 := fun i => ShaMath.wTo_lt l 64 i
          have hnx : ShaMath.next s l = ShaMath.addSt s (ShaMath.rnds s (ShaMath.wTo l 64) 64) := rfl
          obtain ⟨W, hW⟩ : ∃ W, ShaMath.wTo l 64 = W := ⟨_, rfl⟩
          rw [hW] at hcell hWlt hnx
          have HNX := Lib.hid hnx
          have HWL := Lib.hid hWlt
          have HCELL := Lib.hid hcell
          have hcs : ∀ j, j < 8 → wr.cell? ⟨gs, j, none⟩ = some (.int .u32 ((stl s).getD j 0 : Nat)) := fun j hj => (hb.cell (p := ⟨gs, j, none⟩) hgs).trans (HCS.out j hj)
          have c0 := hcs 0 (by decide)
          have c1' := hcs 1 (by decide)
          have c2 := hcs 2 (by decide)
          have c3 := hcs 3 (by decide)
          have c4 := hcs 4 (by decide)
          have c5 := hcs 5 (by decide)
          have c6 := hcs 6 (by decide)
          have c7 := hcs 7 (by decide)
          simp only [stl, List.getD_cons_zero, List.getD_cons_succ] at c0 c1' c2 c3 c4 c5 c6 c7
          obtain ⟨wo, hwo⟩ : ∃ x : World, x = wr := ⟨_, rfl⟩
          rw [← hwo] at c0 c1' c2 c3 c4 c5 c6 c7 HCELL HROW HB ⊢
          clear hcell hWlt hnx hW hcs ho hrow hb HO HLK hlk hk64 hwo hc1
          go_wp2_with fail
          go_quiet (fail)
          obtain ⟨wp, hwp⟩ : ∃ x : World, x = wo.drewN nq := ⟨_, rfl⟩
          have HCELL : Hid (∀ j, j < 64 → wp.cell? ⟨g, j, none⟩ = some (.int .u32 (W.getD j 0 : Nat))) := by rw [hwp]; exact Lib.hid HCELL.out
          have HROW : Hid (Row32 wp w.heap.size 65 ShaMath.kk) := by rw [hwp]; exact Lib.hid HROW.out
          have HB : Hid (Below w.heap.size w wp) := by rw [hwp]; exact Lib.hid (below_drewN HB.out nq)
          rw [← hwp]
          clear hwp c0 c1' c2 c3 c4 c5 c6 c7 hlt hk hk0 hsz hgs'
          go_wp2_with fail
          go_loopw [12, 13, 14, 15, 16, 17, 18, 19, 20] (fun a b c d e f g' h i wr => RnS s W w g a b c d e f g' h i wr) (fun _ _ _ _ _ _ _ _ i _ => 64 - (intOf i).toNat)
          case atStart => exact ⟨0, Nat.zero_le _, rfl, rfl, rfl, rfl, rfl, rfl, rfl, rfl, rfl, HCELL.out, HROW.out, HB.out⟩
          case round =>
            clear HCELL HROW HB
            obtain ⟨k, hk, rfl, rfl, rfl, rfl, rfl, rfl, rfl, rfl, rfl, hcell, hrow, hb⟩ := hrel
            have HCELL := Lib.hid hcell
            have HROW := Lib.hid hrow
            have HB := Lib.hid hb
            have hst := ShaMath.rnds_lt W k hs
            have hnx : ShaMath.rnds s W (k + 1) = ShaMath.rnd (ShaMath.rnds s W k) (ShaMath.kk.getD k 0) (W.getD k 0) := rfl
            have HNX2 := Lib.hid hnx
            clear hnx
            by_cases hlt : k < 64
            · have hkk := ShaMath.kk_lt k hlt
              have hww := HWL.out k
              have cw := hcell k hlt
              have ck := hrow.cell k (by exact hlt)
              clear hcell hrow hb
              generalize hR : ShaMath.rnds s W k = R at *
              obtain ⟨a, b, c', d, e, f, g', x7⟩ := R
              obtain ⟨la, lb, lc, ld, le, lf, lg, lh⟩ := hst
              simp only at la lb lc ld le lf lg lh
              have HR := Lib.hid hR
              clear hR
              generalize hKK : ShaMath.kk.getD k 0 = kv at *
              generalize hWW : W.getD k 0 = wv at *
              have hkl : (k : Int) < 64 := by omega
              have hb1 := bg1_spell e le
              have hch := ch_spell' e f g' le lf lg
              obtain ⟨y0, gy0⟩ := named (ShaMath.bg1 e)
              obtain ⟨y1, gy1⟩ := named (ShaMath.ch e f g')
              rw [gy0] at hb1; rw [gy1] at hch
              have Y0 := Lib.hid gy0
              have Y1 := Lib.hid gy1
              clear gy0 gy1
              go_wp2_with fail
              go_quiet ((go_at_call 40; first | (with_reducible exact Calls.quiet_of_same (turn6Q e _ le)) | (with_reducible exact Calls.quiet_of_same (turn11Q e _ le)) | (with_reducible exact Calls.quiet_of_same (turn25Q e _ le))))
              obtain ⟨wn, hwm⟩ : ∃ x : World, x = wr.drewN nq := ⟨_, rfl⟩
              have HCELL : Hid (∀ j, j < 64 → wn.cell? ⟨g, j, none⟩ = some (.int .u32 (W.getD j 0 : Nat))) := by rw [hwm]; exact Lib.hid HCELL.out
              have HROW : Hid (Row32 wn w.heap.size 65 ShaMath.kk) := by rw [hwm]; exact Lib.hid HROW.out
              have HB : Hid (Below w.heap.size w wn) := by rw [hwm]; exact Lib.hid (below_drewN HB.out nq)
              rw [← hwm]
              clear hwm hb1 hch cw ck
              have hb0 := bg0_spell a la
              have hmj := maj_spell a b c' la lb lc
              obtain ⟨z0, gz0⟩ := named (ShaMath.bg0 a)
              obtain ⟨z1, gz1⟩ := named (ShaMath.maj a b c')
              rw [gz0] at hb0; rw [gz1] at hmj
              have Z0 := Lib.hid gz0
              have Z1 := Lib.hid gz1
              clear gz0 gz1
              go_wp2_with fail
              refine (turn2L a wn la).mono ?_
              rintro e' w' ⟨rfl, rfl⟩
              go_wp2_with fail
              refine (turn13L a wn la).mono ?_
              rintro e' w' ⟨rfl, rfl⟩
              go_wp2_with fail
              refine (turn22L a wn la).mono ?_
              rintro e' w' ⟨rfl, rfl⟩
              go_wp2_with fail
              go_roundw
              case rel =>
                refine ⟨k + 1, by omega, by go_num, ?_, by rw [HNX2.out]; rfl, by rw [HNX2.out]; rfl, by rw [HNX2.out]; rfl, ?_, by rw [HNX2.out]; rfl, by rw [HNX2.out]; rfl, by rw [HNX2.out]; rfl, HCELL.out, HROW.out, HB.out⟩
                · rw [HNX2.out]
                  show Value.int .u32 _ = Value.int .u32 (((ShaMath.tt ⟨a, b, c', d, e, f, g', x7⟩ kv wv + ShaMath.uu ⟨a, b, c', d, e, f, g', x7⟩) % 4294967296 : Nat) : Int)
                  congr 1
                  unfold ShaMath.tt ShaMath.uu
                  simp only
                  rw [Y0.out, Y1.out, Z0.out, Z1.out]
                  omega
                · rw [HNX2.out]
                  show Value.int .u32 _ = Value.int .u32 (((d + ShaMath.tt ⟨a, b, c', d, e, f, g', x7⟩ kv wv) % 4294967296 : Nat) : Int)
                  congr 1
                  unfold ShaMath.tt
                  simp only
                  rw [Y0.out, Y1.out]
                  omega
              case measure => simp [intOf]; omega
            · obtain rfl : k = 64 := by omega
              generalize hX : ShaMath.rnds s W 64 = X at *
              have hfin : ShaMath.next s l = ShaMath.addSt s X := HNX.out
              have HFIN := Lib.hid hfin
              have hcs : ∀ j, j < 8 → wr.cell? ⟨gs, j, none⟩ = some (.int .u32 ((stl s).getD j 0 : Nat)) := fun j hj => (hb.cell (p := ⟨gs, j, none⟩) hgs).trans (HCS.out j hj)
              have c0 := hcs 0 (by decide)
              have c1' := hcs 1 (by decide)
              have c2 := hcs 2 (by decide)
              have c3 := hcs 3 (by decide)
              have c4 := hcs 4 (by decide)
              have c5 := hcs 5 (by decide)
              have c6 := hcs 6 (by decide)
              have c7 := hcs 7 (by decide)
              simp only [stl, List.getD_cons_zero, List.getD_cons_succ] at c0 c1' c2 c3 c4 c5 c6 c7
              have hsum := row_sum s X
              have HSUM := Lib.hid hsum
              obtain ⟨xa, xb, xc, xd, xe, xf, xg, xh⟩ := X
              obtain ⟨sa, sb, sc, sd, se, sf, sg, sh⟩ := s
              simp only at c0 c1' c2 c3 c4 c5 c6 c7
              clear hX hfin hcs hsum hcell hrow hst HNX HCELL HROW hlt hk
              go_wp2_with fail
              go_still_tail 40, (by kernel_rfl)
              clear c0 c1' c2 c3 c4 c5 c6 c7
              go_wp2_with fail
              go_ret
              refine ⟨_, rfl, ?_, HB.out.drew.alloc (by have := HB.out.size; simpa using this) _⟩
              rw [HFIN.out]
              show (World.alloc _ _).heap[_]? = _
              rw [show (uvs (stl (ShaMath.addSt _ _))).toArray = _ from HSUM.out.symm]
              exact heap_alloc_new _ _
end Go.Proofs.YtnjkpoljcekjcaaDoor
