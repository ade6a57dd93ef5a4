/- The contract of wal.record: the record that stands at a log's place, or none. -/
import Derived.Test.YtckihiiimomgfaaDoorWal3
import Derived.Test.YtckihiiimomgfaaDoorJoin2
import Derived.Test.YtckihiiimomgfaaDoorSplit
namespace Go.Proofs.YtckihiiimomgfaaDoor
open Go.RowKit DiskMath
namespace WalMath
theorem partsAt_snoc {S : List Sector} {tt at_ seq i m : Nat} {l : List StampMath.Part} {q : StampMath.Part} (h : partsAt S tt at_ seq i m = some l) (hq : partAt S tt (at_ + (i + m)) (i + m) (seq + (i + m)) = some q) : partsAt S tt at_ seq i (m + 1) = some (l ++ [q]) := by
  obtain ⟨hl, hp⟩ := partsAt_some h
  refine partsAt_mk (by simp [hl]) (fun j p hj => ?_)
  by_cases hjl : j < l.length
  · rw [List.getElem?_append_left hjl] at hj; exact hp j p hj
  · have := (List.getElem?_eq_some_iff.1 hj).1
    simp at this
    obtain rfl : j = m := by omega
    rw [List.getElem?_append_right (by omega), hl, Nat.sub_self] at hj
    injection hj with hj
    subst hj
    exact hq
theorem partsAt_none {S : List Sector} {tt at_ seq i m n : Nat} (hn : m < n) (hq : partAt S tt (at_ + (i + m)) (i + m) (seq + (i + m)) = none) : partsAt S tt at_ seq i n = none := by
  cases h : partsAt S tt at_ seq i n with
  | none => rfl
  | some l =>
    obtain ⟨hl, hp⟩ := partsAt_some h
    have := hp m l[m] (List.getElem?_eq_getElem (by omega))
    rw [hq] at this
    cases this
theorem record_first {S : List Sector} {tt at_ seq : Nat} (h : partAt S tt at_ 0 seq = none) : record S tt at_ seq = none := by unfold record; rw [h]
theorem record_next {S : List Sector} {tt at_ seq : Nat} {p : StampMath.Part} (h : partAt S tt at_ 0 seq = some p) (h' : partsAt S tt at_ seq 1 (p.total.toNat - 1) = none) : record S tt at_ seq = none := by unfold record; rw [h]; simp only; rw [h']
theorem record_join {S : List Sector} {tt at_ seq : Nat} {p : StampMath.Part} {l : List StampMath.Part} (h : partAt S tt at_ 0 seq = some p) (h' : partsAt S tt at_ seq 1 (p.total.toNat - 1) = some l) : record S tt at_ seq = (StampMath.join (p :: l)).map fun b => (b, p.total.toNat) := by unfold record; rw [h]; simp only; rw [h']
end WalMath
/-- what record answers -/
def RecPost (r : Option (List UInt8 × Nat)) (w : World) (e : Ending) (w' : World) : Prop :=
  match r with
  | none => e = .returned (.tuple #[.slice none 0 0, .int .i64 0]) ∧ Below w.heap.size w w'
  | some x => ∃ v, e = .returned (.tuple #[v, .int .i64 (x.2 : Nat)]) ∧ Own8 w' w.heap.size v x.1 ∧ Below w.heap.size w w'
theorem PRow.one {w : World} {T : TypeId} {G : Nat → Prop} {p : StampMath.Part} {u : Value} (hu : Own8 w 0 u p.data) (hg : ∀ g, u.ownBlock = some g → G g) (hG : G w.heap.size) : PRow (w.alloc (.cells (partCells p u).toArray T)) T G (.slice (some ⟨w.heap.size, 0, none⟩) 1 1) [p] := by
  refine ⟨partCells p u, ⟨rfl, .inr ⟨w.heap.size, 1, _, rfl, Nat.zero_le _, heap_alloc_new w _, Nat.le_refl _, by decide, rfl, rfl⟩⟩, fun g h => ?_, fun j q hj => ?_⟩
  · simp [Value.ownBlock] at h; subst h; exact hG
  · cases j with
    | zero =>
      simp at hj
      subst hj
      exact ⟨u, rfl, hu.below (below_alloc _ _), hg⟩
    | succ j => simp at hj
/-- behind the reading of a part: it lies in a block of its own -/
def PtCut (w : World) (q : Option StampMath.Part) (s ok : Value) (wx : World) : Prop :=
  match q with
  | none => ok = .bool false ∧ Below w.heap.size w wx
  | some p => ∃ (g : Nat) (u : Value), s = .pointer (some ⟨g, 0, none⟩) ∧ ok = .bool true ∧ PartAt wx g p.epoch p.seq p.index p.total u ∧ w.heap.size ≤ g ∧ g < wx.heap.size ∧ Own8 wx w.heap.size u p.data ∧ u.ownBlock ≠ some g ∧ Below w.heap.size w wx
def RcRel (w : World) (S : List Sector) (tt at_ seq g : Nat) (p : StampMath.Part) (u v i : Value) (wr : World) : Prop :=
  ∃ (k : Nat) (l : List StampMath.Part), 1 ≤ k ∧ k ≤ p.total.toNat ∧ i = .int .i64 (k : Int) ∧ WalMath.partsAt S tt at_ seq 1 (k - 1) = some l ∧ PRow wr 130 (fun x => w.heap.size ≤ x) v (p :: l) ∧ PartAt wr g p.epoch p.seq p.index p.total u ∧ v.ownBlock ≠ some g ∧ g < wr.heap.size ∧ Below w.heap.size w wr
set_option maxRecDepth 100000 in
set_option maxHeartbeats 4000000 in
theorem walRecord_any (w : World) (F : Nat → Prop) (lp p a : Nat) (g : WalMath.Lg) (d : Dk) (hl : LogB w lp p a g) (hd : DiskAt w F p d) (ht : Halves w) (hto : g.to ≤ d.fast.length) (hd16 : d.fast.length ≤ 65536) (hat : g.at_ ≤ g.to) (hnx : g.next ≤ 4294967295 + 65536) :
    Calls Tryd.prog 65 #[.pointer (some ⟨lp, 0, none⟩)] w (RecPost (WalMath.record (view d) g.to g.at_ g.next) w) := by
  obtain ⟨_, _, _, c3, _, c5, _⟩ := hl.cells
  have hlt := hl.lt
  have hpt : ∀ (w' : World) (at_ i s : Nat), Below w.heap.size w w' → Calls Tryd.prog 90 #[.pointer (some ⟨lp, 0, none⟩), .int .i64 at_, .int .i64 i, .int .i64 s] w' (fun e w'' => match WalMath.partAt (view d) g.to at_ i s with | some q => PartYes q w' e w'' | none => PartNo w' e w'') := fun w' at_ i s hb => walPart_any w' F lp p a at_ i s g d (hl.below hb) (hd.below hb) (ht.below hb) hto
  have hsk : ∀ w' : World, Below w.heap.size w w' → w'.cell? ⟨lp, 3, none⟩ = some (.int .i64 (g.at_ : Nat)) ∧ w'.cell? ⟨lp, 5, none⟩ = some (.int .i64 (g.next : Nat)) := fun w' hb => by
    obtain ⟨_, _, _, c3, _, c5, _⟩ := (hl.below hb).cells
    exact ⟨c3, c5⟩
  obtain ⟨to_, at_, ep, nx, er⟩ := g
  simp only at *
  have HPT := Lib.hid hpt
  have HSK := Lib.hid hsk
  obtain ⟨S, hS⟩ : ∃ S, view d = S := ⟨_, rfl⟩
  rw [hS] at HPT ⊢
  clear hl hd ht hpt hsk hS
  have hn0 := World.new_ne w _ c3
  have i0 : IntKind.i64.wrap (0 : Int) = 0 := rfl
  go_enter Tryd.func65, Tryd.ntmps65
  go_wp2_with fail
  cases hq : WalMath.partAt S to_ at_ 0 nx with
  | none =>
    have hp0 : ∀ w' : World, Below w.heap.size w w' → Calls Tryd.prog 90 #[.pointer (some ⟨lp, 0, none⟩), .int .i64 at_, .int .i64 0, .int .i64 nx] w' (PartNo w') := fun w' hb => by
      have := HPT.out w' at_ 0 nx hb
      rw [hq] at this
      exact this
    have HP0 := Lib.hid hp0
    have HRE := Lib.hid (WalMath.record_first hq)
    clear hp0 hq
    go_cut [4, 5] (fun s ok wx => PtCut w none s ok wx)
    case first =>
      go_region_held3 (fun w' => w'.cell? ⟨lp, 3, none⟩ = some (.int .i64 (at_ : Nat)) ∧ w'.cell? ⟨lp, 5, none⟩ = some (.int .i64 (nx : Nat))) ((first | go_keep | exact HSK.out _ hbw)) (first
        | (go_at_call 90; refine (HP0.out _ ?_).mono ?_; (first | exact (Below.refl _ _).drew | exact (below_alloc _ _).drew); rintro e w1 ⟨q, Au, nu, cu, rfl, hb1⟩; have hbw : Below w.heap.size w w1 := (by first | exact (Below.refl _ _).drew.trans hb1 | exact (below_alloc _ _).drew.trans (hb1.mono (by simp))); obtain ⟨hc3, hc5⟩ := HSK.out _ hbw; obtain ⟨hc1, hf1⟩ := bcell hb1; have hn1 := World.new_ne w1 _ hc3))
      all_goals
        go_wp2_with fail
        go_meet
        first
          | exact ⟨rfl, hbw.alloc hbw.size _⟩
          | exact ⟨rfl, ((((hbw.setCell (Nat.le_refl _) _).setCell (Nat.le_refl _) _).setCell (Nat.le_refl _) _).setCell (Nat.le_refl _) _).setCell (Nat.le_refl _) _⟩
    case rest =>
      obtain ⟨rfl, hb⟩ := hcut
      have HB := Lib.hid hb
      clear hb HP0
      go_wp2_with fail
      go_ret2
      rw [HRE.out]
      exact ⟨rfl, HB.out⟩
  | some q =>
    have hp0 : ∀ w' : World, Below w.heap.size w w' → Calls Tryd.prog 90 #[.pointer (some ⟨lp, 0, none⟩), .int .i64 at_, .int .i64 0, .int .i64 nx] w' (PartYes q w') := fun w' hb => by
      have := HPT.out w' at_ 0 nx hb
      rw [hq] at this
      exact this
    have HP0 := Lib.hid hp0
    have hqr := (StampMath.read_some (WalMath.partAt_some hq).2.1).1
    have HQ := Lib.hid hq
    clear hp0 hq
    obtain ⟨qe, qs, qi, qt, qd⟩ := q
    obtain ⟨T, hT⟩ := Int.eq_ofNat_of_zero_le (show 0 ≤ qt by have := hqr.2.2.2.2.1; simp only at this; omega)
    subst hT
    have hT1 : 1 ≤ T := by have := hqr.2.2.2.2.1; simp only at this; omega
    have hT2 : T ≤ 65535 := by have := hqr.2.2.2.2.2.1; simp only at this; omega
    clear hqr
    go_cut [4, 5] (fun s ok wx => PtCut w (some ⟨qe, qs, qi, T, qd⟩) s ok wx)
    case first =>
      go_region_held3 (fun w' => w'.cell? ⟨lp, 3, none⟩ = some (.int .i64 (at_ : Nat)) ∧ w'.cell? ⟨lp, 5, none⟩ = some (.int .i64 (nx : Nat))) ((first | go_keep | exact HSK.out _ hbw)) (first
        | (go_at_call 90; refine (HP0.out _ ?_).mono ?_; (first | exact (Below.refl _ _).drew | exact (below_alloc _ _).drew); rintro e w1 ⟨u, rfl, hou, hb1⟩; obtain ⟨Au, nu, cu, rfl, hnu, hcu, hmu⟩ := hou.shape'; have hbw : Below w.heap.size w w1 := (by first | exact (Below.refl _ _).drew.trans hb1 | exact (below_alloc _ _).drew.trans (hb1.mono (by simp))); obtain ⟨hc3, hc5⟩ := HSK.out _ hbw; obtain ⟨hc1, hf1⟩ := bcell hb1; have hn1 := World.new_ne w1 _ hc3))
      all_goals
        go_wp2_with fail
        go_meet
        first
          | (obtain ⟨q1, q2, q3⟩ := box_behind (w0 := w.drew) (T := 130) (a := qe) (b := qs) (i := qi) (t := T) (Below.refl _ _).drew (Nat.le_refl _) hb1 hou
             exact ⟨_, _, rfl, rfl, q1, hbw.size, by simp, q2, fun h => by have := (hou.lt _ h).2; omega, q3⟩)
          | (obtain ⟨q1, q2, q3⟩ := box_ahead (w0 := w) (T := 130) (z0 := .int .i64 0) (z1 := .int .i64 0) (z2 := .int .i64 0) (z3 := .int .i64 0) (z4 := .slice none 0 0) (a := qe) (b := qs) (i := qi) (t := T) (Below.refl _ _) (Nat.le_refl _) ((Below.refl _ _).drew.trans hb1) hou _ rfl
             exact ⟨_, _, rfl, rfl, q1, Nat.le_refl _, by have := hb1.size; simp at this ⊢; omega, q2, fun h => by have := (hou.lt _ h).1; simp at this; omega, q3⟩)
    case rest =>
      obtain ⟨g, u, rfl, rfl, hat, hgl, hgs, hou, hug, hbc⟩ := hcut
      obtain ⟨w1, rfl⟩ : ∃ w1 : World, w1 = wc := ⟨_, rfl⟩
      obtain ⟨Au, nu, cu, rfl, hnu, hcu, hmu⟩ := hou.shape'
      have HAT := Lib.hid hat
      have HOU := Lib.hid hou
      have HBC := Lib.hid hbc
      have HUG := Lib.hid hug
      have k0 := HAT.out.c0
      have k1 := HAT.out.c1
      have k2 := HAT.out.c2
      have k3 := HAT.out.c3
      have k4 := HAT.out.c4
      simp only at k0 k1 k2 k3 k4
      clear hat hou hug hbc HP0 hnu
      go_wp2_with fail
      obtain ⟨i0x, hi0, hz0, hz1, hz2⟩ := info_parts info_part
      go_loopw [6, 7] (fun v i wr => RcRel w S to_ at_ nx g ⟨qe, qs, qi, T, qd⟩ (.slice Au nu cu) v i wr) (fun _ i _ => T - (intOf i).toNat)
      case atStart =>
        refine ⟨1, [], Nat.le_refl _, by simpa using hT1, rfl, rfl, PRow.one (p := ⟨qe, qs, qi, T, qd⟩) (HOU.out.base (Nat.zero_le _)) (fun x hx => (HOU.out.lt x hx).1) HBC.out.size, HAT.out.below (below_alloc _ _), fun h => ?_, by simp; omega, HBC.out.alloc HBC.out.size _⟩
        simp [Value.ownBlock] at h
        omega
      case round =>
        clear k0 k1 k2 k3 k4 HAT HOU HBC HUG hgl hgs
        obtain ⟨k, l, hk1, hkT, rfl, hpl, hrow, hatr, hvg, hgr, hb⟩ := hrel
        obtain ⟨wo, rfl⟩ : ∃ wo : World, wo = wr := ⟨_, rfl⟩
        simp only [Int.toNat_natCast] at hkT
        have hll := (WalMath.partsAt_some hpl).1
        obtain ⟨A6, c6, rfl, hc6⟩ := hrow.shape
        have hlk : ((⟨qe, qs, qi, T, qd⟩ : StampMath.Part) :: l).length = k := by rw [List.length_cons, hll]; omega
        rw [hlk] at hrow hc6 hvg ⊢
        have HROW := Lib.hid hrow
        have HAT := Lib.hid hatr
        have HB := Lib.hid hb
        have HPL := Lib.hid hpl
        have HLK := Lib.hid hlk
        have HVG := Lib.hid hvg
        have g3 := hatr.c3
        simp only at g3
        have hsz := hb.size
        clear hrow hatr hb hpl hlk hvg hll
        by_cases hlt : k < T
        · obtain ⟨hc3, hc5⟩ := HSK.out wo HB.out
          have hn1 := World.new_ne wo _ hc3
          have s1 : IntKind.i64.wrap ((at_ : Int) + (k : Int)) = (at_ : Int) + (k : Int) := by rw [IntKind.wrap_i64]; omega
          have s2 : IntKind.i64.wrap ((nx : Int) + (k : Int)) = (nx : Int) + (k : Int) := by rw [IntKind.wrap_i64]; omega
          go_wp2_with fail
          cases hq8 : WalMath.partAt S to_ (at_ + k) k (nx + k) with
          | none =>
            have hp8 : ∀ w' : World, Below wo.heap.size wo w' → Calls Tryd.prog 90 #[.pointer (some ⟨lp, 0, none⟩), .int .i64 ((at_ : Int) + (k : Int)), .int .i64 k, .int .i64 ((nx : Int) + (k : Int))] w' (PartNo w') := fun w' hb => by
              have := HPT.out w' (at_ + k) k (nx + k) (below_then HB.out hb)
              rw [hq8] at this
              exact this
            have hre : WalMath.record S to_ at_ nx = none := WalMath.record_next HQ.out (WalMath.partsAt_none (m := k - 1) (by simp only [Int.toNat_natCast]; omega) (by rw [show 1 + (k - 1) = k by omega]; exact hq8))
            have HP8 := Lib.hid hp8
            have HRE := Lib.hid hre
            clear hp8 hre hq8
            go_cut [8, 9] from 29 to 58 (fun s ok wx => PtCut wo none s ok wx)
            case first =>
              go_region_held3 (fun w' => w'.cell? ⟨lp, 3, none⟩ = some (.int .i64 (at_ : Nat)) ∧ w'.cell? ⟨lp, 5, none⟩ = some (.int .i64 (nx : Nat))) ((first | go_keep | exact HSK.out _ (below_then HB.out hbw))) (first
                | (go_at_call 90; refine (HP8.out _ ?_).mono ?_; (first | exact (Below.refl _ _).drew | exact (below_alloc _ _).drew); rintro e w1' ⟨q, Au', nu', cu', rfl, hb1⟩; have hbw : Below wo.heap.size wo w1' := (by first | exact (Below.refl _ _).drew.trans hb1 | exact (below_alloc _ _).drew.trans (hb1.mono (by simp))); obtain ⟨hc3', hc5'⟩ := HSK.out _ (below_then HB.out hbw); obtain ⟨hc1, hf1⟩ := bcell hb1; have hn1' := World.new_ne w1' _ hc3'))
              all_goals
                go_wp2_with fail
                go_meet
                first
                  | exact ⟨rfl, hbw.alloc hbw.size _⟩
                  | exact ⟨rfl, ((((hbw.setCell (Nat.le_refl _) _).setCell (Nat.le_refl _) _).setCell (Nat.le_refl _) _).setCell (Nat.le_refl _) _).setCell (Nat.le_refl _) _⟩
            case rest =>
              obtain ⟨rfl, hb8⟩ := hcut
              have HB8 := Lib.hid (below_then HB.out hb8)
              clear hb8 HP8
              go_wp2_with fail
              go_ret2
              rw [HRE.out]
              exact ⟨rfl, HB8.out⟩
          | some q8 =>
            have hp8 : ∀ w' : World, Below wo.heap.size wo w' → Calls Tryd.prog 90 #[.pointer (some ⟨lp, 0, none⟩), .int .i64 ((at_ : Int) + (k : Int)), .int .i64 k, .int .i64 ((nx : Int) + (k : Int))] w' (PartYes q8 w') := fun w' hb => by
              have := HPT.out w' (at_ + k) k (nx + k) (below_then HB.out hb)
              rw [hq8] at this
              exact this
            have hpl8 : WalMath.partsAt S to_ at_ nx 1 k = some (l ++ [q8]) := by
              have := WalMath.partsAt_snoc HPL.out (q := q8) (by rw [show 1 + (k - 1) = k by omega]; exact hq8)
              rwa [show k - 1 + 1 = k by omega] at this
            have HP8 := Lib.hid hp8
            have HPL8 := Lib.hid hpl8
            clear hp8 hpl8 hq8
            obtain ⟨re, rs, ri, rt, rd⟩ := q8
            go_cut [8, 9] from 29 to 58 (fun s ok wx => PtCut wo (some ⟨re, rs, ri, rt, rd⟩) s ok wx)
            case first =>
              go_region_held3 (fun w' => w'.cell? ⟨lp, 3, none⟩ = some (.int .i64 (at_ : Nat)) ∧ w'.cell? ⟨lp, 5, none⟩ = some (.int .i64 (nx : Nat))) ((first | go_keep | exact HSK.out _ (below_then HB.out hbw))) (first
                | (go_at_call 90; refine (HP8.out _ ?_).mono ?_; (first | exact (Below.refl _ _).drew | exact (below_alloc _ _).drew); rintro e w1' ⟨u', rfl, hou', hb1⟩; obtain ⟨Au', nu', cu', rfl, hnu', hcu', hmu'⟩ := hou'.shape'; have hbw : Below wo.heap.size wo w1' := (by first | exact (Below.refl _ _).drew.trans hb1 | exact (below_alloc _ _).drew.trans (hb1.mono (by simp))); obtain ⟨hc3', hc5'⟩ := HSK.out _ (below_then HB.out hbw); obtain ⟨hc1, hf1⟩ := bcell hb1; have hn1' := World.new_ne w1' _ hc3'))
              all_goals
                go_wp2_with fail
                go_meet
                first
                  | (obtain ⟨q1, q2, q3⟩ := box_behind (w0 := wo.drew) (T := 130) (a := re) (b := rs) (i := ri) (t := rt) (Below.refl _ _).drew (Nat.le_refl _) hb1 hou'
                     exact ⟨_, _, rfl, rfl, q1, hbw.size, by simp, q2, fun h => by have := (hou'.lt _ h).2; omega, q3⟩)
                  | (obtain ⟨q1, q2, q3⟩ := box_ahead (w0 := wo) (T := 130) (z0 := .int .i64 0) (z1 := .int .i64 0) (z2 := .int .i64 0) (z3 := .int .i64 0) (z4 := .slice none 0 0) (a := re) (b := rs) (i := ri) (t := rt) (Below.refl _ _) (Nat.le_refl _) ((Below.refl _ _).drew.trans hb1) hou' _ rfl
                     exact ⟨_, _, rfl, rfl, q1, Nat.le_refl _, by have := hb1.size; simp at this ⊢; omega, q2, fun h => by have := (hou'.lt _ h).1; simp at this; omega, q3⟩)
            case rest =>
              obtain ⟨g8, u8, rfl, rfl, hat8, hgl8, hgs8, hou8, hug8, hbc8⟩ := hcut
              obtain ⟨w8, rfl⟩ : ∃ w8 : World, w8 = wc := ⟨_, rfl⟩
              obtain ⟨A8, n8, c8, rfl, hn8, hcu8, hmu8⟩ := hou8.shape'
              have HOU8 := Lib.hid hou8
              have HBC8 := Lib.hid hbc8
              have HAT8 := Lib.hid (HAT.out.below hbc8)
              have k0 := hat8.c0
              have k1 := hat8.c1
              have k2 := hat8.c2
              have k3 := hat8.c3
              have k4 := hat8.c4
              simp only at k0 k1 k2 k3 k4
              have hlen : ((⟨qe, qs, qi, T, qd⟩ : StampMath.Part) :: l).length ≤ 1000000 := by rw [HLK.out]; omega
              have hs8 := hbc8.size
              clear hat8 hou8 hug8 hbc8 HP8 hn8 hc3 hc5 g3
              go_wp2_with (
                at_builtin
                refine wpList_pushP rfl (.tmp 55) (.tmp 57) 99 rfl 130 i0x (.agg #[.int .i64 0, .int .i64 0, .int .i64 0, .int .i64 0, .slice none 0 0]) Tryd.underlying99 hi0 hz0 hz1 hz2 rfl (by decide) (fun x => w.heap.size ≤ x) (.slice A6 k c6) (.slice A8 n8 c8) (⟨qe, qs, qi, T, qd⟩ :: l) ⟨re, rs, ri, rt, rd⟩ rfl (HROW.out.below HBC8.out) rfl rfl (HOU8.out.base (Nat.zero_le _)) (fun x hx => by have := (HOU8.out.lt x hx).1; omega) hlen ?_
                intro v9 w9 hp9 hk9 hv9
                have HP9 := Lib.hid hp9
                have HK9 := Lib.hid hk9
                have HV9 := Lib.hid hv9
                clear hp9 hk9 hv9)
              go_roundw
              case rel =>
                refine ⟨k + 1, l ++ [⟨re, rs, ri, rt, rd⟩], by omega, by simp only [Int.toNat_natCast]; omega, by go_num, by rw [Nat.add_sub_cancel]; exact HPL8.out, ?_, ?_, ?_, ?_, ?_⟩
                · exact HP9.out.mono (fun x hx => hx.elim id (fun h => by omega))
                · have hkc : ∀ j, w9.cell? ⟨g, j, none⟩ = w8.cell? ⟨g, j, none⟩ := fun j => HK9.out.cell (by simp only; omega) (fun h => HVG.out h)
                  exact ⟨(hkc 0).trans HAT8.out.c0, (hkc 1).trans HAT8.out.c1, (hkc 2).trans HAT8.out.c2, (hkc 3).trans HAT8.out.c3, (hkc 4).trans HAT8.out.c4⟩
                · intro h
                  rcases HV9.out g h with h | h
                  · exact HVG.out h
                  · omega
                · have := HK9.out.size; omega
                · exact below_then HB.out HBC8.out |>.trans (HK9.out.below (B := w.heap.size) (fun x _ e => by obtain ⟨xs, _, h2, _⟩ := HROW.out; exact h2 x e) (by omega))
              case measure => simp [intOf]; omega
        · obtain rfl : k = T := by omega
          have hj := join_any A6 k c6 (⟨qe, qs, qi, k, qd⟩ :: l) _ wo HLK.out hT2 HROW.out
          have hrc := WalMath.record_join HQ.out (l := l) (by simp only [Int.toNat_natCast]; exact HPL.out)
          simp only [Int.toNat_natCast] at hrc
          have HJ := Lib.hid hj
          have HRC := Lib.hid hrc
          clear hj hrc
          go_wp2_with fail
          refine HJ.out.mono ?_
          rintro e w2 (⟨b, v, hj, rfl, ho2, hb2⟩ | ⟨hj, rfl, hb2⟩)
          · have g32 := (HAT.out.below hb2).c3
            have HJJ := Lib.hid hj
            have HO2 := Lib.hid ho2
            have HB2 := Lib.hid hb2
            obtain ⟨A2, n2, c2, rfl, _, _, _⟩ := ho2.shape'
            clear hj ho2 hb2 HJ g3
            go_wp2_with fail
            go_quiet (fail)
            go_wp2_with fail
            go_ret2
            rw [HRC.out, HJJ.out]
            exact ⟨_, rfl, HO2.out.base hsz, below_drewN (below_then HB.out HB2.out) _⟩
          · have HJJ := Lib.hid hj
            have HB2 := Lib.hid hb2
            clear hj hb2 HJ
            go_wp2_with fail
            go_ret2
            rw [HRC.out, HJJ.out]
            exact ⟨rfl, below_then HB.out HB2.out⟩
end Go.Proofs.YtckihiiimomgfaaDoor
