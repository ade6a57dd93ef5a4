/- The walk of the statement that a sector is torn just there: DiskTears. -/
import Derived.Test.YtckihiiimomgfaaDiskLaws2
namespace Go.Proofs.Ytckihiiimomgfaa
open Go.RowKit DiskMath
theorem Ns.lit (w : World) (zs : List Int) (cs : Array Value) (t : TypeId) (fr : Nat × Nat) (h : cs = (zs.map (Value.int .i64)).toArray) : Ns (w.alloc (.cells cs t fr)) (some ⟨w.heap.size, 0, none⟩) zs := fun j z hj => by
  refine ⟨_, rfl, by simp, ?_⟩
  have e : (w.alloc (.cells cs t fr)).heap[w.heap.size]? = some (.cells cs t fr) := heap_alloc_new w _
  rw [Addr.add_lit, Nat.zero_add, cell_of_row _ _ _ _ _ _ e, h]
  simp [hj]
def TearRel (W : World) (F G : Nat → Prop) (p : Nat) (d : Dk) (v : Value) (V : List Sector) (vs : Value) (sb : Sector) (i : Value) (wr : World) : Prop := ∃ (k : Nat), i = .int .i64 (k : Int) ∧ k ≤ 8 ∧ Was W wr F G p d v V ∧ Own8 wr 0 vs sb ∧ ∀ g, vs.ownBlock = some g → g < wr.heap.size ∧ ¬ F g ∧ ¬ G g
set_option maxHeartbeats 2000000 in
theorem diskTears_walk (A : Option Addr) (c : Nat) (ds : List D7) (x : Int) (Ab : Option Addr) (cb : Nat) (b : List UInt8) (y : Int) (w : World) (hc : ds.length ≤ c) (hm : c ≤ maxLen) (hr : D7s w A ds) (hbc : b.length ≤ cb) (hbm : cb ≤ maxLen) (hrb : Bs w Ab b) :
    Calls Try.prog 3 #[.slice A ds.length c, .int .i64 x, .slice Ab b.length cb, .int .i64 y] w fun e w' => e = .returned (.bool true) ∧ Below w.heap.size w w' := by
  have HPL := Lib.hid (played_any A c ds w hc hm hr)
  have HRB := Lib.hid hrb
  have HSEC := Lib.hid (fun (w' : World) h => refSector_any Ab cb b w' hbc hbm h)
  obtain ⟨iw, hiw, hiw7⟩ : ∃ iw : Nat, max 0 (min x 7) = (iw : Int) ∧ iw < 8 := ⟨(max 0 (min x 7)).toNat, by omega, by omega⟩
  have hwi := within_any x 0 7
  simp only [hiw] at hwi
  have HWI := Lib.hid hwi
  have hwm := within_any y 0 64
  have hcm : max 0 (min y 64) = ((clamp y : Nat) : Int) := by unfold clamp; omega
  have hcl64 := clamp_le y
  obtain ⟨m, hmm⟩ : ∃ m, clamp y = m := ⟨_, rfl⟩
  rw [hmm] at hcm hcl64
  simp only [hcm] at hwm
  have HWM := Lib.hid hwm
  have HMM := Lib.hid hmm
  obtain ⟨sb, hsb⟩ : ∃ sb, secOf b = sb := ⟨_, rfl⟩
  have hsb64 : sb.length = 64 := by rw [← hsb]; exact secOf_length b
  rw [hsb] at HSEC
  have HS64 := Lib.hid hsb64
  clear hc hm hr hbc hbm hrb hiw hwi hwm hcm hmm hsb hsb64
  obtain ⟨i0, hi0, hz0, hz1, hz2⟩ := info_parts info_u8
  go_enter Try.func3, Try.ntmps3
  go_wp2_with fail
  refine HPL.out.mono ?_
  rintro e w1 ⟨p, d, F, rfl, ho, hw⟩
  have HO := Lib.hid ho
  clear ho
  go_wp2_with fail
  refine (HWI.out w1 (by decide)).mono ?_
  rintro e w' ⟨rfl, rfl⟩
  clear HWI
  go_wp2_with fail
  have hwr := flush_ok HO.out.armed HO.out.dead
  refine (diskFlush_any w1 F p d HO.out.disk).mono ?_
  rintro e w2 ⟨rfl, hd2, hk2⟩
  rw [hwr] at hd2 ⊢
  have hs2 := hk2.size
  have hv2 : (view d).length = 8 := by rw [view_length]; exact HO.out.len
  obtain ⟨V, hV⟩ : ∃ V, view d = V := ⟨_, rfl⟩
  rw [hV] at hd2 hv2
  obtain ⟨d2, hd2e⟩ : ∃ d2 : Dk, ({ d with fast := V, waits := [] } : Dk) = d2 := ⟨_, rfl⟩
  have h20 : d2.fast.length = 8 ∧ view d2 = V ∧ (∀ l, crash d2 l = d2) ∧ d2.waits.length = 0 ∧ (!d2.dead) = true ∧ d2.armed = 0 ∧ d2.dead = false ∧ d2.fast = view d2 ∧ d2.waits = [] := by
    have ha := HO.out.armed
    have hdd := HO.out.dead
    subst hd2e
    refine ⟨hv2, rfl, fun l => ?_, rfl, by simp [hdd], ha, hdd, rfl, rfl⟩
    unfold crash
    simp only [torn]
    cases l <;> simp [ha, hdd]
  rw [hd2e] at hd2
  have HW := Lib.hid (show Was w w2 F (fun _ => False) p d2 (.slice none 0 0) ((view d2).take 0) from ⟨hd2, fun k hk => ⟨(HO.out.own k hk).1, by have := (HO.out.own k hk).2; omega⟩, Rows8.nil _ _, fun _ h => h.elim, HO.out.bel.trans (hk2.below (B := w.heap.size) (fun k _ hf => (HO.out.own k hf).1) HO.out.bel.size)⟩)
  have H20 := Lib.hid h20
  clear hd2 hk2 hwr hv2 hV hd2e h20 hs2 hw HO
  go_wp2_with fail
  go_loopw [10, 11] (fun v i wr => WasRel w F p d2 v i wr) (fun _ i _ => 8 - (intOf i).toNat)
  case atStart => exact ⟨0, _, rfl, by decide, HW.out⟩
  case round =>
    clear HW
    obtain ⟨k, G, rfl, hk8, hw⟩ := hrel
    obtain ⟨wo, rfl⟩ : ∃ wo : World, wo = wr := ⟨_, rfl⟩
    obtain ⟨A6, c6, rfl, _⟩ := hw.rows.shape
    obtain ⟨Lk, hLk⟩ : ∃ Lk, (view d2).take k = Lk := ⟨_, rfl⟩
    rw [hLk] at hw ⊢
    obtain ⟨n6, hn6⟩ : ∃ n6, Lk.length = n6 := ⟨_, rfl⟩
    rw [hn6] at hw ⊢
    have hls : Lk.length ≤ 1000000 := by rw [← hLk, List.length_take]; omega
    have HW := Lib.hid hw
    have HLK := Lib.hid hLk
    clear hw hLk hn6
    by_cases hlt : k < 8
    · go_wp2_with fail
      refine (diskRead_yes wo F p d2 k HW.out.disk (by rw [H20.out.1]; exact hlt)).mono ?_
      rintro e w3 ⟨v3, s, rfl, hs, hs64, ho3, hb3⟩
      obtain ⟨A3, c3, rfl, _⟩ := own_shape ho3
      have ho3' : Own8 w3 wo.heap.size (.slice A3 64 c3) s := by unfold Own8; rw [hs64]; exact ho3
      have HO3 := Lib.hid ho3'
      have HB3 := Lib.hid hb3
      have HS := Lib.hid hs
      have hG3 : ∀ g, (Value.slice A3 64 c3).ownBlock = some g → G g ∨ (wo.heap.size ≤ g ∧ g < w3.heap.size) := fun g hg => .inr (ho3'.lt g hg)
      have HG3 := Lib.hid hG3
      clear hs hs64 ho3 ho3' hb3 hG3
      go_wp2_with (at_builtin; refine wpList_pushR rfl (.tmp 41) (.tmp 43) rfl (fun x => G x ∨ (wo.heap.size ≤ x ∧ x < w3.heap.size)) (.slice A6 n6 c6) (.slice A3 64 c3) Lk s rfl ((HW.out.rows.below HB3.out).mono (fun _ h => .inl h)) rfl rfl (HO3.out.base (Nat.zero_le _)) HG3.out hls ?_; intro v4 w4 hr4 hk4 hv4; have HR4 := Lib.hid hr4; have HK4 := Lib.hid hk4; clear hr4 hk4 hv4)
      go_roundw
      case rel => exact ⟨k + 1, _, by go_num, by omega, by rw [take_snoc' HS.out, HLK.out]; exact HW.out.push HB3.out HR4.out HK4.out⟩
      case measure => simp [intOf]; omega
    · have hk : k = 8 := by omega
      have hall : Lk = view d2 := by rw [← HLK.out]; exact List.take_of_length_le (by rw [view_length, H20.out.1]; omega)
      have hw8 := HW.out
      rw [hall] at hw8
      have HW8 := Lib.hid hw8
      clear HW hw8 hall hk hls
      go_wp2_with fail
      refine (HSEC.out wo (HRB.out.below HW8.out.bel)).mono ?_
      rintro e w3 ⟨v3, rfl, ho3, hb3⟩
      obtain ⟨A3, c3, rfl, hc3⟩ := own_shape ho3
      rw [HS64.out] at ho3 hc3 ⊢
      have hw3 := HW8.out.below hb3
      have HW3 := Lib.hid hw3
      have ho3' : Own8 w3 wo.heap.size (.slice A3 64 c3) sb := ho3
      have HO3 := Lib.hid ho3'
      have hg3 : ∀ g, (Value.slice A3 64 c3).ownBlock = some g → g < w3.heap.size ∧ ¬ F g ∧ ¬ G g := fun g hg => ⟨(ho3'.lt g hg).2, fun h => by have := (ho3'.lt g hg).1; have := (HW8.out.ownF g h).2; omega, fun h => by have := (ho3'.lt g hg).1; have := (HW8.out.ownG g h).2.1; omega⟩
      have HG3 := Lib.hid hg3
      obtain ⟨V, hV⟩ : ∃ V, view d2 = V := ⟨_, rfl⟩
      have hVs : ∀ s ∈ V, s.length = 64 := by
        rw [← hV, ← H20.out.2.2.2.2.2.2.2.1]
        obtain ⟨gf, gm, n, vw, hb, _⟩ := HW8.out.disk
        exact hb.sec
      have hV8 : V.length = 8 := by rw [← hV, view_length]; exact H20.out.1
      have hn6 : n6 = 8 := by
        have h := HW8.out.rows
        obtain ⟨A', c', e, _⟩ := h.shape
        injection e with _ e
        rw [e, hV, hV8]
      clear ho3 hb3 hw3 ho3' hg3
      go_wp2_with fail
      have hwr := write_ok (d := d2) (i := iw) (b := sb) (by rw [H20.out.1]; exact hiw7) HS64.out H20.out.2.2.2.2.2.1 H20.out.2.2.2.2.2.2.1
      refine (diskWrite_own w3 F p wo.heap.size d2 iw (.slice A3 64 c3) sb HW3.out.disk (by rw [H20.out.1]; exact hiw7) HS64.out HO3.out (fun g hg h => (HG3.out g hg).2.1 h) (by rw [H20.out.2.2.2.1]; decide)).mono ?_
      rintro e w4 ⟨rfl, hd4, hk4⟩
      rw [hwr] at hd4 ⊢
      obtain ⟨d3, hd3⟩ : ∃ d3 : Dk, ({ d2 with waits := d2.waits ++ [(iw, sb)] } : Dk) = d3 := ⟨_, rfl⟩
      obtain ⟨d4, hd4e⟩ : ∃ d4, crash d3 [y] = d4 := ⟨_, rfl⟩
      have h40 : d4.fast.length = 8 ∧ view d4 = V.set iw (sb.take m ++ (V.getD iw []).drop m) := by
        rw [← hd4e, ← hd3]
        have e1 := H20.out.2.2.2.2.2.2.2.2
        have e2 := H20.out.2.2.2.2.2.2.2.1
        rw [e1, ← HMM.out, ← hV, ← e2]
        refine ⟨?_, rfl⟩
        show (torn _ _ _).length = 8
        rw [torn_length]
        exact H20.out.1
      rw [hd3] at hd4
      have hw4 := HW3.out.step hk4 hd4 (fun k h => h)
      have ho4 := HO3.out.keep hk4 (fun g hg h => (HG3.out g hg).2.1 h)
      have hs4 := hk4.size
      obtain ⟨si, hsi⟩ : ∃ si, V[iw]? = some si := ⟨_, List.getElem?_eq_getElem (by omega)⟩
      have hw4r := hw4.rows
      rw [hV] at hw4r
      obtain ⟨g6, c6', u, hv6, _, hg6, _, hcu, hou, _⟩ := hw4r.at_ hsi
      obtain ⟨Au, cu, rfl, _⟩ := hou.shape
      injection hv6 with e1 e2 e3
      subst e1
      rw [hVs si (List.mem_of_getElem? hsi)] at hcu
      have HW4 := Lib.hid hw4
      have HO4 := Lib.hid ho4
      have H40 := Lib.hid h40
      have HV := Lib.hid hV
      have HVS := Lib.hid hVs
      have HV8 := Lib.hid hV8
      have HD4E := Lib.hid hd4e
      have hk6 : iw < n6 := by omega
      have hk6i : (iw : Int) < (n6 : Int) := by omega
      clear hwr hd4 hk4 hd3 hd4e h40 hw4 ho4 hsi hw4r hou e2 e3 hV hVs hV8
      go_wp2_with fail
      refine (diskCrash_any _ _ p d3 (some ⟨w4.heap.size, 0, none⟩) 1 [y] ((HW4.out.below (below_alloc w4 _)).disk) (Nat.le_refl 1) (by decide) (Ns.lit w4 [y] _ _ _ rfl) (fun ad he _ hf => by injection he with he; subst he; have := hf.2; simp at this)).mono ?_
      rintro e w6 ⟨rfl, hd6, hk6'⟩
      rw [HD4E.out] at hd6
      have hw6 := (HW4.out.below (below_alloc w4 _)).step hk6' hd6 (fun k h => .inl h)
      have ho6 := ((HO4.out.base (Nat.zero_le _)).below (below_alloc w4 _)).keep hk6' (fun g hg h => by
        have h1 := HG3.out g hg
        rcases h.1 with h2 | h2
        · exact h1.2.1 h2
        · omega)
      have hs6 : w4.heap.size ≤ w6.heap.size := by have := hk6'.size; simp at this; omega
      have hg6' : ∀ g, (Value.slice A3 64 c3).ownBlock = some g → g < w6.heap.size ∧ ¬ (((F g ∨ w3.heap.size ≤ g) ∧ g < w4.heap.size) ∧ g < w6.heap.size) ∧ ¬ G g := fun g hg => by
        have h1 := HG3.out g hg
        refine ⟨by omega, fun h => ?_, h1.2.2⟩
        rcases h.1.1 with h2 | h2
        · exact h1.2.1 h2
        · omega
      rw [HV.out] at hw6
      have HW6 := Lib.hid hw6
      have HO6 := Lib.hid ho6
      have HG6 := Lib.hid hg6'
      clear hd6 hk6' hw6 ho6 hg6' hcu hk6 hk6i hg6
      go_wp2_with fail
      refine (HWM.out w6 (by decide)).mono ?_
      rintro e w' ⟨rfl, rfl⟩
      clear HWM
      go_wp2_with fail
      go_loopw [16] (fun i wr => TearRel w _ G p d4 (.slice (some ⟨g6, 0, none⟩) n6 c6) V (.slice A3 64 c3) sb i wr) (fun i _ => 8 - (intOf i).toNat)
      case atStart => exact ⟨0, rfl, by decide, HW6.out, HO6.out, HG6.out⟩
      case round =>
        clear HW6 HO6 HG6
        obtain ⟨k2, rfl, hk28, hw, hos, hgs⟩ := hrel
        obtain ⟨wz, rfl⟩ : ∃ wz : World, wz = wr := ⟨_, rfl⟩
        have HW := Lib.hid hw
        have HOS := Lib.hid hos
        have HGS := Lib.hid hgs
        clear hw hos hgs
        by_cases hlt2 : k2 < 8
        · go_wp2_with fail
          refine (diskRead_yes wz _ p d4 k2 HW.out.disk (by rw [H40.out.1]; exact hlt2)).mono ?_
          rintro e w5 ⟨v5, s, rfl, hs, hs64, ho5, hb5⟩
          obtain ⟨A5, c5, rfl, _⟩ := own_shape ho5
          have ho5' : Own8 w5 wz.heap.size (.slice A5 64 c5) s := by unfold Own8; rw [hs64]; exact ho5
          have hw5 := HW.out.below hb5
          have hos5 := HOS.out.below hb5
          obtain ⟨sk, hsk⟩ : ∃ sk, V[k2]? = some sk := ⟨_, List.getElem?_eq_getElem (by have := HV8.out; omega)⟩
          have hsk64 := HVS.out sk (List.mem_of_getElem? hsk)
          obtain ⟨g6', c6', u, hv6, _, hg6, _, hcu, hou, hgu⟩ := hw5.rows.at_ hsk
          obtain ⟨Au, cu, rfl, hcu64, hcum⟩ := hou.shape
          injection hv6 with e1 e2 e3
          injection e1 with e1
          injection e1 with e1
          subst e1
          rw [hsk64] at hcu hou hcu64 hgu
          have HW5 := Lib.hid hw5
          have HO5 := Lib.hid ho5'
          have HOS5 := Lib.hid hos5
          have HOU := Lib.hid hou
          have HSK := Lib.hid hsk64
          have HG6L := Lib.hid hg6
          have hk6 : k2 < n6 := by omega
          have hk6i : (k2 : Int) < (n6 : Int) := by omega
          by_cases hki : k2 = iw
          · subst hki
            have hwant : s = sb.take m ++ sk.drop m := by
              rw [H40.out.2, List.getElem?_set_self (by have := HV8.out; omega)] at hs
              rw [List.getD_eq_getElem?_getD, hsk] at hs
              exact (Option.some.inj hs).symm
            have HWT := Lib.hid hwant
            have HGU := Lib.hid hgu
            clear hs hs64 ho5 ho5' hb5 hw5 hou hsk hsk64 hwant e2 e3 hos5 hgu
            obtain ⟨gu, rfl⟩ : ∃ gu, Au = some ⟨gu, 0, none⟩ := by
              rcases HOU.out.2 with ⟨e, _⟩ | ⟨g, cap, cur, e, _⟩
              · injection e with _ e; exact absurd e (by decide)
              · injection e with e; exact ⟨g, e⟩
            go_wp2_with fail
            refine wp_region_takeS [0, 1, 2, 4, 5, 6, 7, 8, 9] [3, 10, 11] 12 (fun w' => w'.cell? ⟨g6, k2, none⟩ = some (.slice (some ⟨gu, 0, none⟩) 64 cu)) (by kernel_rfl) (by kernel_rfl) (by rintro _ ⟨_, _⟩ ⟨_, _⟩ _ rfl h; exact h) hcu ?_
            simp only [pick, List.getElem?_cons_succ, List.getElem?_cons_zero]
            have HCU := Lib.hid hcu
            clear hcu
            have hm3 : m ≤ c3 := by omega
            have hmi : (m : Int) ≤ 64 := by omega
            have hmcu : m ≤ cu := by omega
            iterate 9 (refine wpHeadI_step (v := ?_) (Or.inl ⟨by rfl, ?_⟩) ?_; rotate_left; · intro w' hSw; go_simp; (try with_reducible rfl))
            refine wpHeadI_nil ?_
            simp only [Act.put, List.setIfInBounds_toArray, List.set_cons_zero, List.set_cons_succ]
            refine wpTailI_op (by decide) rfl fun K hK => ?_
            go_simp
            have htl : (sb.take m).length = m := by rw [List.length_take, HS64.out]; omega
            have hcp := copy_any A3 c3 (sb.take m) w5.drew (by omega) (HOS5.out.bs.take m).drew
            rw [htl] at hcp
            refine hcp.mono ?_
            rintro e w7 ⟨v7, rfl, ho7, hb7⟩
            have hb57 : Below w5.heap.size w5 w7 := ((Below.refl _ _).drew).trans hb7
            have hc7 : w7.cell? ⟨g6, k2, none⟩ = some (.slice (some ⟨gu, 0, none⟩) 64 cu) := by rw [hb57.cell (p := ⟨g6, k2, none⟩) HG6L.out]; exact HCU.out
            refine hK.out _ _ hc7 ?_
            try simp only [Act.put, List.setIfInBounds_toArray, List.set_cons_zero, List.set_cons_succ]
            refine wpTailI_op (by decide) rfl fun K2 hK2 => ?_
            refine wp_append_bs _ (.tmp 86) (.tmp 92) 23 rfl w5.heap.size 5 i0 (.int .u8 0) Try.underlying23 hi0 hz0 hz1 hz2 rfl v7 (bvs (sb.take m)) rfl (by rw [bvs_length, htl]; exact ho7) _ _ _ (sk.drop m) ?_ rfl ?_ ?_ ?_ ?_
            · rw [List.length_drop, HSK.out]
            · have h := ((HOU.out.bs.below hb57).drop (k := m) (cap := cu) (by rw [HSK.out]; exact hcu64))
              simpa [Addr.add_lit] using h
            · rw [bvs_length, htl, List.length_drop, HSK.out]; omega
            · exact hb57.size
            · intro v8 w8 ho8 hg8 _
              have hc8 : w8.cell? ⟨g6, k2, none⟩ = some (.slice (some ⟨gu, 0, none⟩) 64 cu) := by
                have hk8 : Kept (fun k => v7.ownBlock = some k) w7 w8 := Kept.of_grown hg8 (fun _ e => e)
                rw [hk8.cell (p := ⟨g6, k2, none⟩) (cell_lt' hc7) (fun e => by have h1 := (ho7.lt g6 e).1; have h2 := HG6L.out; have h3 : w5.heap.size ≤ g6 := h1; omega)]
                exact hc7
              have hb58 : Below w5.heap.size w5 w8 := hb57.grown hg8 hb57.size (fun g e => (ho7.lt g e).1)
              have ho8' : Own8 w8 w5.heap.size v8 s := by
                have hl : (bvs (sb.take m)).length + (sk.drop m).length = s.length := by rw [HWT.out, bvs_length, List.length_append]
                rw [hl, ← bvs_append, ← HWT.out] at ho8
                exact ho8
              have HB58 := Lib.hid hb58
              have HO8 := Lib.hid ho8'
              refine hK2.out _ _ hc8 ?_
              have HC8 := Lib.hid hc8
              obtain ⟨A8, n8, c8, rfl, hn8, _, _⟩ := ho8'.shape'
              have hs64 : s.length = 64 := by rw [HWT.out, List.length_append, htl, List.length_drop, HSK.out]; omega
              obtain rfl : n8 = 64 := by omega
              have hsm := same_at A5 A8 c5 c8 64 64 s s w8 hs64 hs64 (by decide) (by decide) (HO5.out.bs.below hb58) ho8'.bs
              rw [sameB_self] at hsm
              have HSM := Lib.hid hsm
              clear hK2 K2 hK K hc7 hc8 ho7 hb7 hb57 ho8 hg8 hb58 ho8' hcp htl hi0 hz0 hz1 hz2 hcu64 hmcu HCU HOU hn8 hs64 hsm
              simp only [Act.put, List.setIfInBounds_toArray, List.set_cons_zero, List.set_cons_succ]
              refine wpTailI_op (by decide) rfl fun K hK => ?_
              go_simp
              refine hK.out _ _ HC8.out ?_
              clear hK K HC8
              try simp only [Act.put, List.setIfInBounds_toArray, List.set_cons_zero, List.set_cons_succ]
              refine wpTailI_nil ?_
              go_wp2_with fail
              all_goals
                refine HSM.out.mono ?_
                rintro e w9 ⟨rfl, hb9⟩
                have HB59 := Lib.hid (below_then HB58.out hb9)
                clear hb9 HSM
                go_wp2_with fail
                go_roundw
                case rel => exact ⟨k2 + 1, by go_num, by omega, HW5.out.below HB59.out, HOS5.out.below HB59.out, fun g hg => ⟨by have := HB59.out.size; have := (HOS5.out.lt g hg).2; omega, (HGS.out g hg).2⟩⟩
                case measure => simp [intOf]; omega
          · have hwant : s = sk := by
              rw [H40.out.2, List.getElem?_set_ne (by omega), hsk] at hs
              exact (Option.some.inj hs).symm
            subst hwant
            have hsm := same_at A5 Au c5 cu 64 64 s s w5 hs64 hs64 (by decide) (by decide) ho5'.bs hou.bs
            rw [sameB_self] at hsm
            have HSM := Lib.hid hsm
            have hne : ((k2 : Int) == (iw : Int)) = false := by rw [beq_eq_false_iff_ne]; omega
            clear hs hs64 ho5 ho5' hb5 hw5 hou hsk hsk64 e2 e3 hos5 hgu hsm hki
            go_wp2_with fail
            refine HSM.out.mono ?_
            rintro e w9 ⟨rfl, hb9⟩
            have HB59 := Lib.hid hb9
            clear hb9 HSM
            go_wp2_with fail
            go_roundw
            case rel => exact ⟨k2 + 1, by go_num, by omega, HW5.out.below HB59.out, HOS5.out.below HB59.out, fun g hg => ⟨by have := HB59.out.size; have := (HOS5.out.lt g hg).2; omega, (HGS.out g hg).2⟩⟩
            case measure => simp [intOf]; omega
        · go_wp2_with fail
          refine (diskLives_any _).mono ?_
          rintro e w8 ⟨rfl, hb8⟩
          have HB8 := Lib.hid (HW.out.bel.trans (hb8.mono HW.out.bel.size))
          clear hb8
          go_wp2_with fail
          go_ret
          exact ⟨rfl, HB8.out⟩
end Go.Proofs.Ytckihiiimomgfaa
