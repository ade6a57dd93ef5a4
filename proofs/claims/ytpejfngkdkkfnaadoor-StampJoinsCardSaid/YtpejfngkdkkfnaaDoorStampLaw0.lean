/- The contracts of the statements' helpers on parts: mine, plain. -/
import Derived.Test.YtpejfngkdkkfnaaDoorStampRead
namespace Go.Proofs.YtpejfngkdkkfnaaDoor
open Go.RowKit
set_option maxHeartbeats 400000 in
theorem plain_any (a b i t : Int) (v : Value) (A : Option Addr) (n c : Nat) (hv : v = .slice A n c) (w : World) :
    Calls Tryd.prog 26 #[.agg #[.int .i64 a, .int .i64 b, .int .i64 i, .int .i64 t, v]] w fun e w' => e = .returned (.agg #[.int .i64 a, .int .i64 b, .int .i64 i, .int .i64 t, v]) ∧ Below w.heap.size w w' := by
  subst hv
  go_enter Tryd.func26, Tryd.ntmps26
  go_wp2_with fail
  refine bodyPost_ret (v := .agg #[.int .i64 a, .int .i64 b, .int .i64 i, .int .i64 t, .slice A n c]) (by simp [results, Tryd.results26, go_sem]) rfl ⟨rfl, ?_⟩
  exact below_then (below_alloc _ _) (below_alloc _ _)
/-- two boxes behind one another, and whatever leaves them alone -/
theorem two_boxes {w w1 : World} {cs zs : Array Value} {S T : TypeId} (hb : Below ((w.alloc (.cells cs S)).alloc (.cells zs T)).drew.heap.size ((w.alloc (.cells cs S)).alloc (.cells zs T)).drew w1) :
    (∀ j, w1.cell? ⟨w.heap.size, j, none⟩ = cs[j]?) ∧ (∀ j, w1.cell? ⟨w.heap.size + 1, j, none⟩ = zs[j]?) ∧ (∀ j, w1.frozen? ⟨w.heap.size + 1, j, none⟩ = false) := by
  have h1 : Below (w.heap.size + 1) (w.alloc (.cells cs S)) w1 := (((Below.refl _ _).alloc (by simp) _).drew).trans (hb.mono (by simp))
  have h2 : Below (w.heap.size + 2) ((w.alloc (.cells cs S)).alloc (.cells zs T)) w1 := ((Below.refl _ _).drew).trans (hb.mono (by simp))
  refine ⟨fun j => box_cell h1 (by omega) j, fun j => ?_, fun j => ?_⟩
  · have := box_cell h2 (by simp) j
    simpa using this
  · have := box_free h2 (by simp) j
    simpa using this
set_option maxHeartbeats 1000000 in
theorem mine_any (p : StampMath.Part) (A : Option Addr) (c : Nat) (w : World) (hc : p.data.length ≤ c) (hm : c ≤ maxLen) (hr : Bs w A p.data) :
    Calls Tryd.prog 23 #[.agg #[.int .i64 p.epoch, .int .i64 p.seq, .int .i64 p.index, .int .i64 p.total, .slice A p.data.length c]] w fun e w' =>
      ∃ v, e = .returned (.agg #[.int .i64 p.epoch, .int .i64 p.seq, .int .i64 p.index, .int .i64 p.total, v]) ∧ w'.ownsRow w.heap.size 5 1 v (p.data.take 50).length (bvs (p.data.take 50)) ∧ Below w.heap.size w w' := by
  obtain ⟨a, b, i, t, da⟩ := p
  simp only at *
  have hrb := hr.take 50
  have hbl : (da.take 50).length ≤ 50 := List.length_take_le _ _
  have hcut := fun w => cut_bs A c 50 da w hc hm (by decide)
  obtain ⟨db, hdb⟩ : ∃ db, da.take 50 = db := ⟨_, rfl⟩
  rw [hdb] at hrb hbl hcut ⊢
  have HC := Lib.hid hcut
  clear hcut hdb hr hc hm
  go_enter Tryd.func23, Tryd.ntmps23
  go_wp2_with fail
  have hr0 : Bs ((w.alloc (.cells #[.int .i64 a, .int .i64 b, .int .i64 i, .int .i64 t, .slice A da.length c] 37)).alloc zeroPart).drew A db := (hrb.alloc _).alloc _
  go_region_held3 (fun w' => w'.cell? ⟨w.heap.size, 0, none⟩ = some (.int .i64 a) ∧ w'.cell? ⟨w.heap.size, 1, none⟩ = some (.int .i64 b) ∧ w'.cell? ⟨w.heap.size, 2, none⟩ = some (.int .i64 i) ∧ w'.cell? ⟨w.heap.size, 3, none⟩ = some (.int .i64 t) ∧ w'.cell? ⟨w.heap.size, 4, none⟩ = some (.slice A da.length c)) (first | go_keep)
    (first
      | (go_at_call 13; refine (HC.out _).mono ?_; rintro e w' ⟨rfl, rfl⟩)
      | (go_at_call 14; refine (copy_any A c db _ (by omega) hr0).mono ?_; rintro e w1 ⟨v, rfl, hown, hb1⟩; obtain ⟨A1, c1, rfl, hq⟩ := own_shape hown; obtain ⟨hx, hy, hz⟩ := two_boxes hb1; have g0 : w1.cell? ⟨w.heap.size, 0, none⟩ = some (.int .i64 a) := hx 0; have g1 : w1.cell? ⟨w.heap.size, 1, none⟩ = some (.int .i64 b) := hx 1; have g2 : w1.cell? ⟨w.heap.size, 2, none⟩ = some (.int .i64 i) := hx 2; have g3 : w1.cell? ⟨w.heap.size, 3, none⟩ = some (.int .i64 t) := hx 3; have g4 : w1.cell? ⟨w.heap.size, 4, none⟩ = some (.slice A da.length c) := hx 4; have z0 : w1.cell? ⟨w.heap.size + 1, 0, none⟩ = some (.int .i64 0) := hy 0; have y0 := hz 0; have z1 : w1.cell? ⟨w.heap.size + 1, 1, none⟩ = some (.int .i64 0) := hy 1; have y1 := hz 1; have z2 : w1.cell? ⟨w.heap.size + 1, 2, none⟩ = some (.int .i64 0) := hy 2; have y2 := hz 2; have z3 : w1.cell? ⟨w.heap.size + 1, 3, none⟩ = some (.int .i64 0) := hy 3; have y3 := hz 3; have z4 : w1.cell? ⟨w.heap.size + 1, 4, none⟩ = some (.slice none 0 0) := hy 4; have y4 := hz 4; clear hx hy hz))
  go_wp2_with fail
  refine bodyPost_ret (v := .agg #[.int .i64 a, .int .i64 b, .int .i64 i, .int .i64 t, .slice A1 db.length c1]) (by simp [results, Tryd.results23, go_sem, z0, z1, z2, z3, z4]) rfl ?_
  have hg : w1.grownBy (((((w1.setCell ⟨w.heap.size + 1, 0, none⟩ (.int .i64 a)).setCell ⟨w.heap.size + 1, 1, none⟩ (.int .i64 b)).setCell ⟨w.heap.size + 1, 2, none⟩ (.int .i64 i)).setCell ⟨w.heap.size + 1, 3, none⟩ (.int .i64 t)).setCell ⟨w.heap.size + 1, 4, none⟩ (.slice A1 db.length c1)) (some (w.heap.size + 1)) :=
    grown_set (grown_set (grown_set (grown_set (grown_set ⟨rfl, rfl, rfl, Nat.le_refl _, fun _ _ _ => rfl⟩ 0 _) 1 _) 2 _) 3 _) 4 _
  have hbw : Below w.heap.size w w1 := (below_then (below_alloc w _) (below_alloc _ _)).drew.trans (hb1.mono (by simp; omega))
  have hs1 := hb1.size
  simp at hs1
  refine ⟨_, rfl, own_base (hown.kept hg ?_) (by simp; omega), hbw.grown hg (by omega) (fun k hk => by injection hk with hk; omega)⟩
  cases hv : (Value.slice A1 db.length c1).ownBlock with
  | none => exact .inl rfl
  | some g' =>
    right
    have := (hown.lt g' hv).1
    simp at this
    intro e
    injection e with e
    omega
theorem mine_at (a b i t : Int) (da db : List UInt8) (A : Option Addr) (n c : Nat) (w : World) (hn : da.length = n) (hc : n ≤ c) (hm : c ≤ maxLen) (hr : Bs w A da) (hdb : da.take 50 = db) :
    Calls Tryd.prog 23 #[.agg #[.int .i64 a, .int .i64 b, .int .i64 i, .int .i64 t, .slice A n c]] w fun e w' =>
      ∃ B d, e = .returned (.agg #[.int .i64 a, .int .i64 b, .int .i64 i, .int .i64 t, .slice B db.length d]) ∧ w'.ownsRow w.heap.size 5 1 (.slice B db.length d) db.length (bvs db) ∧ Below w.heap.size w w' := by
  subst hn hdb
  refine (mine_any ⟨a, b, i, t, da⟩ A c w hc hm hr).mono ?_
  rintro e w' ⟨v, rfl, hown, hb⟩
  obtain ⟨B, d, rfl, _⟩ := own_shape hown
  exact ⟨B, d, rfl, hown, hb⟩
end Go.Proofs.YtpejfngkdkkfnaaDoor
