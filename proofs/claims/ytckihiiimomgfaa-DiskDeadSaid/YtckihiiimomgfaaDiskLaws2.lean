/- The walk of the statement that behind Flush a crash changes nothing: DiskFast. -/
import Derived.Test.YtckihiiimomgfaaDiskLaws
import Derived.Test.YtckihiiimomgfaaRows8
namespace Go.Proofs.Ytckihiiimomgfaa
open Go.RowKit DiskMath
/-- a disk, and what its first k sectors were read as -/
structure Was (W w : World) (F G : Nat → Prop) (p : Nat) (d : Dk) (v : Value) (ls : List Sector) : Prop where
  disk : DiskAt w F p d
  ownF : ∀ k, F k → W.heap.size ≤ k ∧ k < w.heap.size
  rows : Rows8 w G v ls
  ownG : ∀ k, G k → W.heap.size ≤ k ∧ k < w.heap.size ∧ ¬ F k
  bel : Below W.heap.size W w
theorem Was.below {W w w' : World} {F G : Nat → Prop} {p : Nat} {d : Dk} {v : Value} {ls : List Sector} (h : Was W w F G p d v ls) (hb : Below w.heap.size w w') : Was W w' F G p d v ls :=
  ⟨h.disk.below hb, fun k hk => ⟨(h.ownF k hk).1, Nat.lt_of_lt_of_le (h.ownF k hk).2 hb.size⟩, h.rows.below hb, fun k hk => ⟨(h.ownG k hk).1, Nat.lt_of_lt_of_le (h.ownG k hk).2.1 hb.size, (h.ownG k hk).2.2⟩, h.bel.trans (hb.mono h.bel.size)⟩
/-- the disk's own steps -/
theorem Was.step {W w w' : World} {F G H : Nat → Prop} {p : Nat} {d d' : Dk} {v : Value} {ls : List Sector} (h : Was W w F G p d v ls) (hk : Kept F w w') (hd : DiskAt w' H p d') (hH : ∀ k, H k → F k ∨ w.heap.size ≤ k) : Was W w' (fun k => H k ∧ k < w'.heap.size) G p d' v ls := by
  have hs := h.bel.size
  refine ⟨hd.lt, fun k hk' => ⟨(hH k hk'.1).elim (fun hf => (h.ownF k hf).1) (fun hle => by omega), hk'.2⟩, h.rows.kept hk (fun k hg => (h.ownG k hg).2.2), fun k hg => ⟨(h.ownG k hg).1, Nat.lt_of_lt_of_le (h.ownG k hg).2.1 hk.size, fun hf => ?_⟩, h.bel.trans (hk.below (B := W.heap.size) (fun k _ hf => (h.ownF k hf).1) hs)⟩
  rcases hH k hf.1 with h1 | h1
  · exact (h.ownG k hg).2.2 h1
  · have := (h.ownG k hg).2.1; omega
theorem Was.push {W w w2 w' : World} {F G : Nat → Prop} {p : Nat} {d : Dk} {v v' : Value} {ls ls' : List Sector} (h : Was W w F G p d v ls) (hb : Below w.heap.size w w2) (hr : Rows8 w' (fun k => (G k ∨ (w.heap.size ≤ k ∧ k < w2.heap.size)) ∨ w2.heap.size ≤ k) v' ls')
    (hk : Kept (fun k => v.ownBlock = some k) w2 w') : Was W w' F (fun k => ((G k ∨ (w.heap.size ≤ k ∧ k < w2.heap.size)) ∨ w2.heap.size ≤ k) ∧ k < w'.heap.size) p d v' ls' := by
  have hs := h.bel.size
  have hs2 := hb.size
  have hs3 := hk.size
  have hv : ∀ g, v.ownBlock = some g → G g := by obtain ⟨vs, _, h2, _⟩ := h.rows; exact h2
  refine ⟨(h.disk.below hb).kept hk (fun k hf e => (h.ownG k (hv k e)).2.2 hf), fun k hf => ⟨(h.ownF k hf).1, by have := (h.ownF k hf).2; omega⟩, hr.lt, fun k hg => ⟨?_, hg.2, fun hf => ?_⟩, (h.bel.trans (hb.mono hs)).trans (hk.below (B := W.heap.size) (fun k _ e => (h.ownG k (hv k e)).1) (by omega))⟩
  · rcases hg.1 with (h1 | h1) | h1
    · exact (h.ownG k h1).1
    · omega
    · omega
  · have := (h.ownF k hf).2
    rcases hg.1 with (h1 | h1) | h1
    · exact (h.ownG k h1).2.2 hf
    · omega
    · omega
def WasRel (W : World) (F : Nat → Prop) (p : Nat) (d : Dk) (v i : Value) (wr : World) : Prop := ∃ (k : Nat) (G : Nat → Prop), i = .int .i64 (k : Int) ∧ k ≤ 8 ∧ Was W wr F G p d v ((view d).take k)
theorem take_snoc' {l : List Sector} {k : Nat} {s : Sector} (h : l[k]? = some s) : l.take (k + 1) = l.take k ++ [s] := by rw [List.take_add_one, h]; rfl
def FastRel (W : World) (F G : Nat → Prop) (p : Nat) (d : Dk) (v i : Value) (wr : World) : Prop := ∃ (k : Nat), i = .int .i64 (k : Int) ∧ k ≤ 8 ∧ Was W wr F G p d v (view d)
set_option maxHeartbeats 2000000 in
theorem diskFast_walk (A : Option Addr) (c : Nat) (ds : List D7) (Al : Option Addr) (cl : Nat) (L : List Int) (w : World) (hc : ds.length ≤ c) (hm : c ≤ maxLen) (hr : D7s w A ds) (hlc : L.length ≤ cl) (hlm : cl ≤ maxLen) (hrl : Ns w Al L) :
    Calls Try.prog 4 #[.slice A ds.length c, .slice Al L.length cl] w fun e w' => e = .returned (.bool true) ∧ Below w.heap.size w w' := by
  have HPL := Lib.hid (played_any A c ds w hc hm hr)
  have HRL := Lib.hid hrl
  obtain ⟨nL, hnL⟩ : ∃ n, L.length = n := ⟨_, rfl⟩
  have HCR := Lib.hid (fun (w' : World) (F : Nat → Prop) (p : Nat) (d : Dk) h hr hA => diskCrash_any w' F p d Al cl L h hlc hlm hr hA)
  rw [hnL] at HCR ⊢
  have HNL := Lib.hid hnL
  have hal : ∀ ad, Al = some ad → L ≠ [] → ad.block < w.heap.size := fun ad he hn => by
    obtain ⟨ad2, e2, h2, _⟩ := hrl.at_ (k := 0) (List.length_pos_iff.2 hn)
    rw [he] at e2; injection e2 with e2; subst e2; exact h2
  have HAL := Lib.hid hal
  clear hc hm hr hlc hlm hrl hnL hal
  go_enter Try.func4, Try.ntmps4
  go_wp2_with fail
  refine HPL.out.mono ?_
  rintro e w1 ⟨p, d, F, rfl, ho, hw⟩
  have HO := Lib.hid ho
  clear ho
  go_wp2_with fail
  have hwr := flush_ok HO.out.armed HO.out.dead
  refine (diskFlush_any w1 F p d HO.out.disk).mono ?_
  rintro e w2 ⟨rfl, hd2, hk2⟩
  rw [hwr] at hd2 ⊢
  have hs2 := hk2.size
  have hv2 : (view d).length = 8 := by rw [view_length]; exact HO.out.len
  obtain ⟨V, hV⟩ : ∃ V, view d = V := ⟨_, rfl⟩
  rw [hV] at hd2 hv2
  obtain ⟨d2, hd2e⟩ : ∃ d2 : Dk, ({ d with fast := V, waits := [] } : Dk) = d2 := ⟨_, rfl⟩
  have h20 : d2.fast.length = 8 ∧ view d2 = V ∧ (∀ l, crash d2 l = d2) ∧ d2.waits.length = 0 ∧ (!d2.dead) = true := by
    have ha := HO.out.armed
    have hdd := HO.out.dead
    subst hd2e
    refine ⟨hv2, rfl, fun l => ?_, rfl, by simp [hdd]⟩
    unfold crash
    simp only [torn]
    cases l <;> simp [ha, hdd]
  rw [hd2e] at hd2
  have HW := Lib.hid (show Was w w2 F (fun _ => False) p d2 (.slice none 0 0) ((view d2).take 0) from ⟨hd2, fun k hk => ⟨(HO.out.own k hk).1, by have := (HO.out.own k hk).2; omega⟩, Rows8.nil _ _, fun _ h => h.elim, HO.out.bel.trans (hk2.below (B := w.heap.size) (fun k _ hf => (HO.out.own k hf).1) HO.out.bel.size)⟩)
  have H20 := Lib.hid h20
  clear hd2 hk2 hwr hv2 hV hd2e h20 hs2 hw HO
  go_wp2_with fail
  go_loopw [6, 7] (fun v i wr => WasRel w F p d2 v i wr) (fun _ i _ => 8 - (intOf i).toNat)
  case atStart => exact ⟨0, _, rfl, by decide, HW.out⟩
  case round =>
    clear HW
    obtain ⟨k, G, rfl, hk8, hw⟩ := hrel
    obtain ⟨wo, rfl⟩ : ∃ wo : World, wo = wr := ⟨_, rfl⟩
    obtain ⟨A6, c6, rfl, _⟩ := hw.rows.shape
    obtain ⟨Lk, hLk⟩ : ∃ Lk, (view d2).take k = Lk := ⟨_, rfl⟩
    rw [hLk] at hw ⊢
    obtain ⟨n6, hn6⟩ : ∃ n6, Lk.length = n6 := ⟨_, rfl⟩
    rw [hn6] at hw ⊢
    have hls : Lk.length ≤ 1000000 := by rw [← hLk, List.length_take]; omega
    have HW := Lib.hid hw
    have HLK := Lib.hid hLk
    clear hw hLk hn6
    by_cases hlt : k < 8
    · go_wp2_with fail
      refine (diskRead_yes wo F p d2 k HW.out.disk (by rw [H20.out.1]; exact hlt)).mono ?_
      rintro e w3 ⟨v3, s, rfl, hs, hs64, ho3, hb3⟩
      obtain ⟨A3, c3, rfl, _⟩ := own_shape ho3
      have ho3' : Own8 w3 wo.heap.size (.slice A3 64 c3) s := by unfold Own8; rw [hs64]; exact ho3
      have HO3 := Lib.hid ho3'
      have HB3 := Lib.hid hb3
      have HS := Lib.hid hs
      have hG3 : ∀ g, (Value.slice A3 64 c3).ownBlock = some g → G g ∨ (wo.heap.size ≤ g ∧ g < w3.heap.size) := fun g hg => .inr (ho3'.lt g hg)
      have HG3 := Lib.hid hG3
      clear hs hs64 ho3 ho3' hb3 hG3
      go_wp2_with (at_builtin; refine wpList_pushR rfl (.tmp 32) (.tmp 34) rfl (fun x => G x ∨ (wo.heap.size ≤ x ∧ x < w3.heap.size)) (.slice A6 n6 c6) (.slice A3 64 c3) Lk s rfl ((HW.out.rows.below HB3.out).mono (fun _ h => .inl h)) rfl rfl (HO3.out.base (Nat.zero_le _)) HG3.out hls ?_; intro v4 w4 hr4 hk4 hv4; have HR4 := Lib.hid hr4; have HK4 := Lib.hid hk4; clear hr4 hk4 hv4)
      go_roundw
      case rel => exact ⟨k + 1, _, by go_num, by omega, by rw [take_snoc' HS.out, HLK.out]; exact HW.out.push HB3.out HR4.out HK4.out⟩
      case measure => simp [intOf]; omega
    · have hk : k = 8 := by omega
      have hall : Lk = view d2 := by rw [← HLK.out]; exact List.take_of_length_le (by rw [view_length, H20.out.1]; omega)
      have hw8 := HW.out
      rw [hall] at hw8
      have HW8 := Lib.hid hw8
      clear HW hw8 hall hk hls
      go_wp2_with fail
      refine (HCR.out wo F p d2 HW8.out.disk (HRL.out.below HW8.out.bel) (fun ad he hn hf => by have := HAL.out ad he hn; have := (HW8.out.ownF _ hf).1; omega)).mono ?_
      rintro e w3 ⟨rfl, hd3, hk3⟩
      rw [H20.out.2.2.1] at hd3
      have HW3 := Lib.hid (HW8.out.step hk3 hd3 (fun k h => .inl h))
      clear hd3 hk3 HW8
      go_wp2_with fail
      go_loopw [10] (fun i wr => FastRel w (fun k => F k ∧ k < w3.heap.size) G p d2 (.slice A6 n6 c6) i wr) (fun i _ => 8 - (intOf i).toNat)
      case atStart => exact ⟨0, rfl, by decide, HW3.out⟩
      case round =>
        clear HW3
        obtain ⟨k2, rfl, hk28, hw⟩ := hrel
        obtain ⟨wz, rfl⟩ : ∃ wz : World, wz = wr := ⟨_, rfl⟩
        have HW := Lib.hid hw
        clear hw
        by_cases hlt2 : k2 < 8
        · go_wp2_with fail
          refine (diskRead_yes wz _ p d2 k2 HW.out.disk (by rw [H20.out.1]; exact hlt2)).mono ?_
          rintro e w5 ⟨v5, s, rfl, hs, hs64, ho5, hb5⟩
          obtain ⟨A5, c5, rfl, _⟩ := own_shape ho5
          have ho5' : Own8 w5 wz.heap.size (.slice A5 64 c5) s := by unfold Own8; rw [hs64]; exact ho5
          have hw5 := HW.out.below hb5
          obtain ⟨g6, c6', u, hv6, _, hg6, _, hcu, hou, _⟩ := hw5.rows.at_ hs
          obtain ⟨Au, cu, rfl, _⟩ := hou.shape
          injection hv6 with e1 e2 e3
          subst e1
          have hn6 : n6 = 8 := by rw [e2, view_length]; exact H20.out.1
          clear e2 e3
          rw [hs64] at hcu hou
          have hsm := same_at A5 Au c5 cu 64 64 s s w5 hs64 hs64 (by decide) (by decide) ho5'.bs hou.bs
          rw [sameB_self] at hsm
          have HSM := Lib.hid hsm
          have HW5 := Lib.hid hw5
          have hk6 : k2 < n6 := by omega
          have hk6i : (k2 : Int) < (n6 : Int) := by omega
          clear hs hs64 ho5 ho5' hb5 hw5 hou hsm hn6
          go_wp2_with fail
          refine HSM.out.mono ?_
          rintro e w7 ⟨rfl, hb7⟩
          have HW7 := Lib.hid (HW5.out.below hb7)
          clear hb7 HSM
          go_wp2_with fail
          go_roundw
          case rel => exact ⟨k2 + 1, by go_num, by omega, HW7.out⟩
          case measure => simp [intOf]; omega
        · have hwt : d2.waits.length = 0 := H20.out.2.2.2.1
          have hdd : (!d2.dead) = true := H20.out.2.2.2.2
          have hcw := diskWaits_any wz _ p d2 HW.out.disk
          rw [hwt] at hcw
          have hcp := fun w' (h : DiskAt w' _ p d2) => diskPower_any w' (fun k => F k ∧ k < w3.heap.size) p d2 h
          rw [hdd] at hcp
          have HCW := Lib.hid hcw
          have HCP := Lib.hid hcp
          clear hwt hdd hcw hcp
          go_wp2_with fail
          refine HCW.out.mono ?_
          rintro e w8 ⟨rfl, rfl⟩
          go_wp2_with fail
          refine (HCP.out _ HW.out.disk).mono ?_
          rintro e w8 ⟨rfl, rfl⟩
          go_wp2_with fail
          refine (diskLives_any _).mono ?_
          rintro e w8 ⟨rfl, hb8⟩
          have HB8 := Lib.hid (HW.out.bel.trans (hb8.mono HW.out.bel.size))
          clear hb8
          go_wp2_with fail
          go_ret
          exact ⟨rfl, HB8.out⟩
end Go.Proofs.Ytckihiiimomgfaa
