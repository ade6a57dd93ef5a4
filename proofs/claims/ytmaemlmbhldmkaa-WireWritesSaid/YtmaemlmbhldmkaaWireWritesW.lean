/- The walk of the law on rows of puttings: it returns true and turns nothing that was there. -/
import Derived.Test.YtmaemlmbhldmkaaWireBackW
import Derived.Lib.Builder
namespace Go.Proofs.Ytmaemlmbhldmkaa
open Go.RowKit
/-- the law's memory: the writer, what is wanted, the bytes of this round, each in blocks of its own -/
structure WW (B g : Nat) (w0 w : World) (v wv bv : Value) (L M bb : List UInt8) : Prop where
  wr : WrAt w g B v L
  want : w.ownsRow B 5 1 wv M.length (bvs M)
  bown : w.ownsRow B 5 1 bv bb.length (bvs bb)
  bel : Below B w0 w
  d1 : ∀ q, wv.ownBlock = some q → ¬ wrF g v q
  d2 : ∀ q, bv.ownBlock = some q → ¬ wrF g v q
  d3 : ∀ q, bv.ownBlock = some q → wv.ownBlock ≠ some q
  hB : B ≤ w.heap.size
  hg : B ≤ g
section
variable {B g : Nat} {w0 w w' : World} {v wv bv : Value} {L M bb : List UInt8}
theorem WW.call (h : WW B g w0 w v wv bv L M bb) (hb : Below w.heap.size w w') : WW B g w0 w' v wv bv L M bb :=
  ⟨h.wr.below hb, own_below h.want hb, own_below h.bown hb, h.bel.trans (hb.mono h.hB), h.d1, h.d2, h.d3, Nat.le_trans h.hB hb.size, h.hg⟩
theorem WW.writer {v' : Value} {L' : List UInt8} (h : WW B g w0 w v wv bv L M bb) (hw : WrAt w' g B v' L') (hk : Kept (wrF g v) w w') (hf : ∀ k, wrF g v' k → wrF g v k ∨ w.heap.size ≤ k) : WW B g w0 w' v' wv bv L' M bb :=
  ⟨hw, hk.own h.want h.d1, hk.own h.bown h.d2, h.bel.trans (hk.below (fun k _ hf => h.wr.ge h.hg k hf) h.hB),
    fun q e hq => (hf q hq).elim (h.d1 q e) (fun hle => by have := (h.want.lt q e).2; omega),
    fun q e hq => (hf q hq).elim (h.d2 q e) (fun hle => by have := (h.bown.lt q e).2; omega), h.d3, Nat.le_trans h.hB hk.size, h.hg⟩
theorem WW.append {wv' : Value} {m : List UInt8} (h : WW B g w0 w v wv bv L M bb) (ho : w'.ownsRow B 5 1 wv' ((bvs M).length + m.length) (bvs M ++ bvs m)) (hg : w.grownBy w' wv.ownBlock) (hat : wv'.ownBlock = wv.ownBlock ∨ wv'.ownBlock = some w.heap.size) :
    WW B g w0 w' v wv' bv L (M ++ m) bb := by
  have hk : Kept (fun q => wv.ownBlock = some q) w w' := Kept.of_grown hg (fun _ e => e)
  have hcase : ∀ q, wv'.ownBlock = some q → wv.ownBlock = some q ∨ w.heap.size ≤ q := fun q e => by
    rcases hat with e2 | e2
    · exact .inl (e2 ▸ e)
    · rw [e2] at e
      injection e with e
      exact .inr (by omega)
  refine ⟨h.wr.kept hk (fun k hk' e => h.d1 k e hk'), ?_, hk.own h.bown (fun k e e2 => h.d3 k e e2), h.bel.grown hg h.hB (fun k e => (h.want.lt k e).1), fun q e hq => ?_, h.d2, fun q e e2 => ?_, Nat.le_trans h.hB hg.size, h.hg⟩
  · rw [← bvs_append, bvs_length] at ho
    rw [List.length_append]
    exact ho
  · rcases hcase q e with h1 | h1
    · exact h.d1 q h1 hq
    · have := h.wr.lt q hq; omega
  · rcases hcase q e2 with h1 | h1
    · exact h.d3 q e h1
    · have := (h.bown.lt q e).2; omega
theorem WW.far {row : Option Nat} (h : WW B g w0 w v wv bv L M bb) (hg : w.grownBy w' row) (hr : ∀ q, row = some q → B ≤ q ∧ ¬ wrF g v q ∧ wv.ownBlock ≠ some q ∧ bv.ownBlock ≠ some q) : WW B g w0 w' v wv bv L M bb := by
  have hk : Kept (fun q => row = some q) w w' := Kept.of_grown hg (fun _ e => e)
  exact ⟨h.wr.kept hk (fun k hk' e => (hr k e).2.1 hk'), hk.own h.want (fun k e e2 => (hr k e2).2.2.1 e), hk.own h.bown (fun k e e2 => (hr k e2).2.2.2 e), h.bel.grown hg h.hB (fun k e => (hr k e).1), h.d1, h.d2, h.d3, Nat.le_trans h.hB hg.size, h.hg⟩
theorem WW.inc {bb' : List UInt8} (h : WW B g w0 w v wv bv L M bb) (hg : w.grownBy w' bv.ownBlock) (ho : w'.ownsRow B 5 1 bv bb'.length (bvs bb')) : WW B g w0 w' v wv bv L M bb' := by
  have hk : Kept (fun q => bv.ownBlock = some q) w w' := Kept.of_grown hg (fun _ e => e)
  exact ⟨h.wr.kept hk (fun k hk' e => h.d2 k e hk'), hk.own h.want (fun k e e2 => h.d3 k e2 e), ho, h.bel.grown hg h.hB (fun k e => (h.bown.lt k e).1), h.d1, h.d2, h.d3, Nat.le_trans h.hB hg.size, h.hg⟩
theorem WW.newb {bv' : Value} {bb' : List UInt8} (h : WW B g w0 w v wv bv L M bb) (hb : Below w.heap.size w w') (ho : w'.ownsRow w.heap.size 5 1 bv' bb'.length (bvs bb')) : WW B g w0 w' v wv bv' L M bb' := by
  have h1 := h.call hb
  refine ⟨h1.wr, h1.want, own_base ho h.hB, h1.bel, h.d1, fun q e hq => ?_, fun q e e2 => ?_, h1.hB, h.hg⟩
  · have := (ho.lt q e).1; have := h.wr.lt q hq; omega
  · have := (ho.lt q e).1; have := (h.want.lt q e2).2; omega
end
theorem wrBool_f (g base : Nat) (v : Value) (l : List UInt8) (w : World) (h : WrAt w g base v l) (hl : l.length ≤ 900000) (hbase : base ≤ w.heap.size) :
    Calls Try.prog 15 #[.pointer (some ⟨g, 0, none⟩), .bool false] w (WrPost w g base v (l ++ WireMath.put 0)) := wrBool_any g base v l false w h hl hbase
theorem wrBool_t (g base : Nat) (v : Value) (l : List UInt8) (w : World) (h : WrAt w g base v l) (hl : l.length ≤ 900000) (hbase : base ≤ w.heap.size) :
    Calls Try.prog 15 #[.pointer (some ⟨g, 0, none⟩), .bool true] w (WrPost w g base v (l ++ WireMath.put 1)) := wrBool_any g base v l true w h hl hbase
theorem bvs_put' (l : List UInt8) (j : Nat) (c : UInt8) : (bvs l).set j (.int .u8 (c.toNat : Int)) = bvs (l.set j c) := by simp [bvs, List.map_set]
def WriteRel (ds : List WDo) (w : World) (g : Nat) (wv i : Value) (wr : World) : Prop :=
  ∃ (k : Nat) (v bv : Value) (L bb : List UInt8), k ≤ ds.length ∧ k ≤ 40 ∧ i = .int .i64 (k : Nat) ∧ L.length ≤ 220 * k ∧ WW w.heap.size g w wr v wv bv L L bb
def IncB (g : Nat) (w0 : World) (w : World) (v wv bv : Value) (L M : List UInt8) (n : Nat) (i : Value) (wr : World) : Prop :=
  ∃ (k : Nat) (bb : List UInt8), k ≤ n ∧ bb.length = n ∧ i = .int .i64 (k : Nat) ∧ WW w.heap.size g w wr v wv bv L M bb ∧ w0.heap.size ≤ wr.heap.size
def IncG (w0 : World) (base : Nat) (gv : Value) (n : Nat) (i : Value) (wr : World) : Prop :=
  ∃ (k : Nat) (ys : List UInt8), k ≤ n ∧ ys.length = n ∧ i = .int .i64 (k : Nat) ∧ wr.ownsRow base 5 1 gv n (bvs ys) ∧ w0.grownBy wr gv.ownBlock
set_option maxHeartbeats 4000000 in
set_option maxRecDepth 100000 in
theorem wireWrites_walk (A : Option Addr) (c : Nat) (ds : List WDo) (w : World) (_hc : ds.length ≤ c) (hm : c ≤ maxLen) (hr : WDos w A ds) :
    Calls Try.prog 3 #[.slice A ds.length c] w fun e w' => e = .returned (.bool true) ∧ Below w.heap.size w w' := by
  obtain ⟨i0, hi0, hz0, hz1, hz2⟩ := info_parts info_u8
  obtain ⟨jj, hjj⟩ := Option.isSome_iff_exists.1 (show (Try.prog.info? 48).isSome = true by kernel_rfl)
  have HR := Lib.hid hr
  have hm' : c ≤ 9223372036854775807 := by unfold maxLen at hm; omega
  clear hr hm
  go_enter Try.func3, Try.ntmps3
  go_wp2_with fail
  refine (wrNew_any w).mono ?_
  rintro e w1 ⟨rfl, hw1, hb1⟩
  have h1 : WW w.heap.size w.heap.size w w1 (.slice none 0 0) (.slice none 0 0) (.slice none 0 0) [] [] [] :=
    ⟨hw1, World.ownsRow_nil _ _ _ _, World.ownsRow_nil _ _ _ _, hb1, (fun q e => by cases e), (fun q e => by cases e), (fun q e => by cases e), hb1.size, Nat.le_refl _⟩
  have H1 := Lib.hid h1
  clear hw1 hb1 h1
  go_wp2_with fail
  go_loopw [4, 5] (fun wv i wr => WriteRel ds w w.heap.size wv i wr) (fun _ i _ => 40 - (intOf i).toNat)
  case atStart => exact ⟨0, _, _, [], [], Nat.zero_le _, Nat.zero_le _, rfl, by decide, H1.out⟩
  case round =>
    obtain ⟨k, v, bv, L, bb0, hk, hk40, rfl, hLl, hww⟩ := hrel
    have H := Lib.hid hww
    obtain ⟨wa, rfl⟩ : ∃ x : World, x = wr := ⟨_, rfl⟩
    clear hww H1
    by_cases hin : k < ds.length ∧ k < 40
    · obtain ⟨hlt, hlt40⟩ := hin
      obtain ⟨ad, B, cb, rfl, hadl, hd⟩ := HR.out k ds[k] (List.getElem?_eq_getElem hlt)
      obtain ⟨d, hdd⟩ : ∃ d, ds[k] = d := ⟨_, rfl⟩
      rw [hdd] at hd
      clear hdd
      obtain ⟨dk, dx, db, di⟩ := d
      have hdx : dx < 18446744073709551616 := hd.hx
      have hp10 := put10 dx hdx
      have HDX := Lib.hid hdx
      have hcut : ∀ w', Calls Try.prog 9 #[.slice B db.length cb, .int .i64 200] w' fun e w'' => e = .returned (.slice B (db.take 200).length cb) ∧ w' = w'' := fun w' => cut_bs B cb 200 db w' hd.hc hd.hm (by decide)
      have hbs : Bs w B (db.take 200) := hd.bs.take 200
      have hbl : (db.take 200).length ≤ 200 := List.length_take_le _ _
      obtain ⟨bb, hbb⟩ : ∃ bb, db.take 200 = bb := ⟨_, rfl⟩
      rw [hbb] at hbs hbl
      simp only [hbb] at hcut
      have hby := bytesOf_len bb hbl
      have hcell : ∀ w', Below w.heap.size w w' → w'.cell? (ad.add (k * 4)) = some (.int .i64 dk) ∧ w'.cell? ⟨(ad.add (k * 4)).block, (ad.add (k * 4)).off + 1, none⟩ = some (.int .u64 (dx : Int)) ∧ w'.cell? ⟨(ad.add (k * 4)).block, (ad.add (k * 4)).off + 2, none⟩ = some (.slice B db.length cb) ∧ w'.cell? ⟨(ad.add (k * 4)).block, (ad.add (k * 4)).off + 3, none⟩ = some (.bool di) := fun w' hbb =>
        ⟨(hbb.cell (by rw [addr_block]; exact hadl)).trans hd.c0, by rw [fld _ _ 1 (by decide)]; exact (hbb.cell (by rw [addr_block]; exact hadl)).trans hd.c1, by rw [fld _ _ 2 (by decide)]; exact (hbb.cell (by rw [addr_block]; exact hadl)).trans hd.c2, by rw [fld _ _ 3 (by decide)]; exact (hbb.cell (by rw [addr_block]; exact hadl)).trans hd.c3⟩
      have HCE := Lib.hid hcell
      have HBS := Lib.hid hbs
      have HCUT := Lib.hid hcut
      clear hcell hbs hcut hd hbb hdx
      obtain ⟨k0, k1, k2, k3⟩ := HCE.out wa H.out.bel
      go_wp2_with fail
      clear k0 k1 k2 k3
      refine (HCUT.out _).mono ?_
      rintro e w' ⟨rfl, rfl⟩
      go_wp2_with fail
      refine (copy_any B cb bb wa (by omega) (HBS.out.below H.out.bel)).mono ?_
      rintro e wb ⟨vb, rfl, hob, hbb⟩
      obtain ⟨Ab, cbb, rfl, _⟩ := own_shape hob
      have H := Lib.hid (H.out.newb hbb hob)
      clear hob hbb
      obtain ⟨k0, k1, k2, k3⟩ := HCE.out wb H.out.bel
      have HBB := Lib.hid (Bs.of_own H.out.bown)
      by_cases hd0 : dk = 0
      · subst hd0
        go_wp2_with fail
        clear k0 k1 k2 k3
        refine (wrU_any w.heap.size w.heap.size dx v L wb H.out.wr HDX.out (by omega) H.out.hB).mono ?_
        rintro e wc ⟨rfl, vc, hwc, hkc, hfc⟩
        have H := Lib.hid (H.out.writer hwc hkc hfc)
        clear hwc hkc hfc
        obtain ⟨k0, k1, k2, k3⟩ := HCE.out wc H.out.bel
        go_wp2_with fail
        clear k0 k1 k2 k3
        refine (refPut_any dx wc HDX.out).mono ?_
        rintro e wd ⟨ud, rfl, hod, hbd⟩
        obtain ⟨Ad, cd, rfl, _⟩ := own_shape hod
        have hsd := Bs.of_own hod
        have H := Lib.hid (H.out.call hbd)
        clear hod hbd
        obtain ⟨m, hm⟩ : ∃ m, WireMath.put dx = m := ⟨_, rfl⟩
        have hml : m.length ≤ 210 := by rw [← hm]; omega
        rw [hm] at hsd H ⊢
        clear hm
        have HOW := Lib.hid (own_len' H.out.want)
        have hBs := H.out.hB
        go_wp2_with (at_builtin; refine wpList_append_bs _ rfl _ _ 25 rfl w.heap.size 5 i0 (.int .u8 0) Try.underlying25 hi0 hz0 hz1 hz2 rfl u4 (bvs L) rfl HOW.out Ad cd m.length m rfl rfl hsd ?ca hBs ?_)
        case ca => rw [bvs_length]; omega
        intro uq we hoe hge hate
        have H := Lib.hid (H.out.append hoe hge hate)
        clear hoe hge hate HOW hBs hsd
        obtain ⟨Lq, hLq⟩ : ∃ Lq, L ++ m = Lq := ⟨_, rfl⟩
        have hLql : Lq.length ≤ 220 * (k + 1) := by rw [← hLq, List.length_append]; omega
        rw [hLq] at H
        clear hLq
        obtain ⟨vq, hvq⟩ : ∃ x, x = vc := ⟨_, rfl⟩
        subst hvq
        go_wp2_with fail
        go_loopw [9] (fun i wr => IncB w.heap.size we w vq uq (.slice Ab bb.length cbb) Lq Lq bb.length i wr) (fun i _ => bb.length - (intOf i).toNat)
        case atStart => exact ⟨0, bb, Nat.zero_le _, rfl, rfl, H.out, Nat.le_refl _⟩
        case round =>
          obtain ⟨q, bq, hq, hbq, rfl, hH, hsz⟩ := hrel
          have HN := Lib.hid hbq
          have H := Lib.hid hH
          clear hbq hH
          by_cases hlq : q < bb.length
          · have hown : wr.ownsRow w.heap.size 5 1 (.slice Ab bb.length cbb) bb.length (bvs bq) := by have := H.out.bown; rw [HN.out] at this; exact this
            obtain ⟨gb, cap, hvv, hbg, hgl⟩ := hown.form (by omega)
            injection hvv with hA _ hcc
            subst hA hcc
            have hylt : q < bq.length := by have := HN.out; omega
            have hcell : wr.cell? ⟨gb, q, none⟩ = some (.int .u8 (bq[q].toNat : Int)) := by
              rw [hown.cellAt _ (by omega)]
              exact bvs_get _ _ _ (List.getElem?_eq_getElem hylt)
            have hfro := hown.frozenAt q
            have HW := Lib.hid hown
            clear hown
            obtain ⟨y, hy⟩ : ∃ y, bq[q] = y := ⟨_, rfl⟩
            rw [hy] at hcell
            have hyb := y.toNat_lt
            clear hy
            go_wp2_with fail
            go_roundw
            case rel =>
              have e : ((y.toNat : Int) + 1) % 256 = ((UInt8.ofNat (y.toNat + 1)).toNat : Int) := by rw [UInt8.toNat_ofNat']; omega
              refine ⟨q + 1, bq.set q (UInt8.ofNat (y.toNat + 1)), by omega, by rw [List.length_set]; exact HN.out, by go_num, H.out.inc (grown_set (w := wr) ⟨rfl, rfl, rfl, Nat.le_refl _, fun _ _ _ => rfl⟩ q _) ?_, by simpa [World.setCell] using hsz⟩
              have h := (HW.out.stored q (.int .u8 (((y.toNat : Int) + 1) % 256))).1
              rw [e, bvs_put'] at h
              rw [e, List.length_set, HN.out]
              exact h
            case measure => simp [intOf]; omega
          · obtain ⟨wf, rfl⟩ : ∃ x : World, x = wr := ⟨_, rfl⟩
            have HDN := Lib.hid (wrDone_any w.heap.size w.heap.size vq Lq wf H.out.wr (by omega))
            go_wp2_with fail
            refine HDN.out.mono ?_
            rintro e wg ⟨gv, rfl, hog, hbg⟩
            obtain ⟨Ag, cg, rfl, _⟩ := own_shape hog
            have hfs := H.out.hB
            have hgd : ∀ z, (Value.slice Ag Lq.length cg).ownBlock = some z → w.heap.size ≤ z ∧ ¬ wrF w.heap.size vq z ∧ uq.ownBlock ≠ some z ∧ (Value.slice Ab bb.length cbb).ownBlock ≠ some z := fun z e => by
              have h1 := (hog.lt z e).1
              refine ⟨by omega, fun hf => ?_, fun e2 => ?_, fun e2 => ?_⟩
              · have := H.out.wr.lt z hf; omega
              · have := (H.out.want.lt z e2).2; omega
              · have := (H.out.bown.lt z e2).2; omega
            have HGD := Lib.hid hgd
            have H := Lib.hid (H.out.call hbg)
            have HOG := Lib.hid hog
            obtain ⟨Aw, cw, hshape, _⟩ := own_shape H.out.want
            have hsame := same_bel Ag Aw cg cw Lq Lq wg (by omega) (by omega) (Bs.of_own hog) (Bs.of_own (hshape ▸ H.out.want))
            have HSM := Lib.hid hsame
            have hnp := Lib.run_neq_ptr_same (P := Try.prog) wg ⟨w.heap.size, 0, none⟩ Try.underlying23 hjj
            subst hshape
            clear hog hbg hgd hsame HDN
            go_wp2_with fail
            clear hnp
            refine HSM.out.mono ?_
            rintro e wh ⟨rfl, hbh⟩
            rw [sameB_self]
            have H := Lib.hid (H.out.call hbh)
            have HOG := Lib.hid (own_below HOG.out hbh)
            clear hbh HSM
            go_wp2_with fail
            go_loopw [11] (fun i wr => IncG wh wf.heap.size (.slice Ag Lq.length cg) Lq.length i wr) (fun i _ => Lq.length - (intOf i).toNat)
            case atStart => exact ⟨0, Lq, Nat.zero_le _, rfl, rfl, HOG.out, ⟨rfl, rfl, rfl, Nat.le_refl _, fun _ _ _ => rfl⟩⟩
            case round =>
              obtain ⟨r, ys, hr1, hyl, rfl, hown, hgr⟩ := hrel
              have HYL := Lib.hid hyl
              have HGR := Lib.hid hgr
              clear hyl hgr HOG
              by_cases hlr : r < Lq.length
              · obtain ⟨gb, cap, hvv, hbg, hgl⟩ := hown.form (by omega)
                injection hvv with hA _ hcc
                subst hA hcc
                have hylt : r < ys.length := by have := HYL.out; omega
                have hcell : wr.cell? ⟨gb, r, none⟩ = some (.int .u8 (ys[r].toNat : Int)) := by
                  rw [hown.cellAt _ (by omega)]
                  exact bvs_get _ _ _ (List.getElem?_eq_getElem hylt)
                have hfro := hown.frozenAt r
                have HW := Lib.hid hown
                clear hown
                go_wp2_with fail
                go_roundw
                case rel =>
                  refine ⟨r + 1, ys.set r 0, by omega, by rw [List.length_set]; exact HYL.out, by go_num, ?_, grown_then HGR.out (grown_set (w := wr) ⟨rfl, rfl, rfl, Nat.le_refl _, fun _ _ _ => rfl⟩ r _)⟩
                  have h := (HW.out.stored r (.int .u8 ((0 : UInt8).toNat : Int))).1
                  rw [bvs_put'] at h
                  exact h
                case measure => simp [intOf]; omega
              · have H := Lib.hid (H.out.far HGR.out HGD.out)
                clear hown HGR HGD
                go_wp2_with fail
                go_roundw
                case rel => exact ⟨k + 1, vq, _, Lq, _, by omega, by omega, by go_num, hLql, H.out⟩
                case measure => simp [intOf]; omega
      · by_cases hd1 : dk = 1
        · subst hd1
          clear hd0
          go_wp2_with fail
          clear k0 k1 k2 k3
          refine (wrBytes_any w.heap.size w.heap.size v L Ab cbb bb wb H.out.wr (by omega) (by omega) H.out.hB HBB.out (fun ad' e _ hf => H.out.d2 ad'.block (by rw [e]; rfl) hf)).mono ?_
          rintro e wc ⟨rfl, vc, hwc, hkc, hfc⟩
          have H := Lib.hid (H.out.writer hwc hkc hfc)
          clear hwc hkc hfc
          obtain ⟨k0, k1, k2, k3⟩ := HCE.out wc H.out.bel
          go_wp2_with fail
          clear k0 k1 k2 k3
          refine (refBytes_any Ab cbb bb wc (by omega) (Bs.of_own H.out.bown)).mono ?_
          rintro e wd ⟨ud, rfl, hod, hbd⟩
          obtain ⟨Ad, cd, rfl, _⟩ := own_shape hod
          have hsd := Bs.of_own hod
          have H := Lib.hid (H.out.call hbd)
          clear hod hbd
          obtain ⟨m, hm⟩ : ∃ m, bytesOf bb = m := ⟨_, rfl⟩
          have hml : m.length ≤ 210 := by rw [← hm]; omega
          rw [hm] at hsd H ⊢
          clear hm
          have HOW := Lib.hid (own_len' H.out.want)
          have hBs := H.out.hB
          go_wp2_with (at_builtin; refine wpList_append_bs _ rfl _ _ 25 rfl w.heap.size 5 i0 (.int .u8 0) Try.underlying25 hi0 hz0 hz1 hz2 rfl u4 (bvs L) rfl HOW.out Ad cd m.length m rfl rfl hsd ?cb hBs ?_)
          case cb => rw [bvs_length]; omega
          intro uq we hoe hge hate
          have H := Lib.hid (H.out.append hoe hge hate)
          clear hoe hge hate HOW hBs hsd
          obtain ⟨Lq, hLq⟩ : ∃ Lq, L ++ m = Lq := ⟨_, rfl⟩
          have hLql : Lq.length ≤ 220 * (k + 1) := by rw [← hLq, List.length_append]; omega
          rw [hLq] at H
          clear hLq
          obtain ⟨vq, hvq⟩ : ∃ x, x = vc := ⟨_, rfl⟩
          subst hvq
          go_wp2_with fail
          go_loopw [9] (fun i wr => IncB w.heap.size we w vq uq (.slice Ab bb.length cbb) Lq Lq bb.length i wr) (fun i _ => bb.length - (intOf i).toNat)
          case atStart => exact ⟨0, bb, Nat.zero_le _, rfl, rfl, H.out, Nat.le_refl _⟩
          case round =>
            obtain ⟨q, bq, hq, hbq, rfl, hH, hsz⟩ := hrel
            have HN := Lib.hid hbq
            have H := Lib.hid hH
            clear hbq hH
            by_cases hlq : q < bb.length
            · have hown : wr.ownsRow w.heap.size 5 1 (.slice Ab bb.length cbb) bb.length (bvs bq) := by have := H.out.bown; rw [HN.out] at this; exact this
              obtain ⟨gb, cap, hvv, hbg, hgl⟩ := hown.form (by omega)
              injection hvv with hA _ hcc
              subst hA hcc
              have hylt : q < bq.length := by have := HN.out; omega
              have hcell : wr.cell? ⟨gb, q, none⟩ = some (.int .u8 (bq[q].toNat : Int)) := by
                rw [hown.cellAt _ (by omega)]
                exact bvs_get _ _ _ (List.getElem?_eq_getElem hylt)
              have hfro := hown.frozenAt q
              have HW := Lib.hid hown
              clear hown
              obtain ⟨y, hy⟩ : ∃ y, bq[q] = y := ⟨_, rfl⟩
              rw [hy] at hcell
              have hyb := y.toNat_lt
              clear hy
              go_wp2_with fail
              go_roundw
              case rel =>
                have e : ((y.toNat : Int) + 1) % 256 = ((UInt8.ofNat (y.toNat + 1)).toNat : Int) := by rw [UInt8.toNat_ofNat']; omega
                refine ⟨q + 1, bq.set q (UInt8.ofNat (y.toNat + 1)), by omega, by rw [List.length_set]; exact HN.out, by go_num, H.out.inc (grown_set (w := wr) ⟨rfl, rfl, rfl, Nat.le_refl _, fun _ _ _ => rfl⟩ q _) ?_, by simpa [World.setCell] using hsz⟩
                have h := (HW.out.stored q (.int .u8 (((y.toNat : Int) + 1) % 256))).1
                rw [e, bvs_put'] at h
                rw [e, List.length_set, HN.out]
                exact h
              case measure => simp [intOf]; omega
            · obtain ⟨wf, rfl⟩ : ∃ x : World, x = wr := ⟨_, rfl⟩
              have HDN := Lib.hid (wrDone_any w.heap.size w.heap.size vq Lq wf H.out.wr (by omega))
              go_wp2_with fail
              refine HDN.out.mono ?_
              rintro e wg ⟨gv, rfl, hog, hbg⟩
              obtain ⟨Ag, cg, rfl, _⟩ := own_shape hog
              have hfs := H.out.hB
              have hgd : ∀ z, (Value.slice Ag Lq.length cg).ownBlock = some z → w.heap.size ≤ z ∧ ¬ wrF w.heap.size vq z ∧ uq.ownBlock ≠ some z ∧ (Value.slice Ab bb.length cbb).ownBlock ≠ some z := fun z e => by
                have h1 := (hog.lt z e).1
                refine ⟨by omega, fun hf => ?_, fun e2 => ?_, fun e2 => ?_⟩
                · have := H.out.wr.lt z hf; omega
                · have := (H.out.want.lt z e2).2; omega
                · have := (H.out.bown.lt z e2).2; omega
              have HGD := Lib.hid hgd
              have H := Lib.hid (H.out.call hbg)
              have HOG := Lib.hid hog
              obtain ⟨Aw, cw, hshape, _⟩ := own_shape H.out.want
              have hsame := same_bel Ag Aw cg cw Lq Lq wg (by omega) (by omega) (Bs.of_own hog) (Bs.of_own (hshape ▸ H.out.want))
              have HSM := Lib.hid hsame
              have hnp := Lib.run_neq_ptr_same (P := Try.prog) wg ⟨w.heap.size, 0, none⟩ Try.underlying23 hjj
              subst hshape
              clear hog hbg hgd hsame HDN
              go_wp2_with fail
              clear hnp
              refine HSM.out.mono ?_
              rintro e wh ⟨rfl, hbh⟩
              rw [sameB_self]
              have H := Lib.hid (H.out.call hbh)
              have HOG := Lib.hid (own_below HOG.out hbh)
              clear hbh HSM
              go_wp2_with fail
              go_loopw [11] (fun i wr => IncG wh wf.heap.size (.slice Ag Lq.length cg) Lq.length i wr) (fun i _ => Lq.length - (intOf i).toNat)
              case atStart => exact ⟨0, Lq, Nat.zero_le _, rfl, rfl, HOG.out, ⟨rfl, rfl, rfl, Nat.le_refl _, fun _ _ _ => rfl⟩⟩
              case round =>
                obtain ⟨r, ys, hr1, hyl, rfl, hown, hgr⟩ := hrel
                have HYL := Lib.hid hyl
                have HGR := Lib.hid hgr
                clear hyl hgr HOG
                by_cases hlr : r < Lq.length
                · obtain ⟨gb, cap, hvv, hbg, hgl⟩ := hown.form (by omega)
                  injection hvv with hA _ hcc
                  subst hA hcc
                  have hylt : r < ys.length := by have := HYL.out; omega
                  have hcell : wr.cell? ⟨gb, r, none⟩ = some (.int .u8 (ys[r].toNat : Int)) := by
                    rw [hown.cellAt _ (by omega)]
                    exact bvs_get _ _ _ (List.getElem?_eq_getElem hylt)
                  have hfro := hown.frozenAt r
                  have HW := Lib.hid hown
                  clear hown
                  go_wp2_with fail
                  go_roundw
                  case rel =>
                    refine ⟨r + 1, ys.set r 0, by omega, by rw [List.length_set]; exact HYL.out, by go_num, ?_, grown_then HGR.out (grown_set (w := wr) ⟨rfl, rfl, rfl, Nat.le_refl _, fun _ _ _ => rfl⟩ r _)⟩
                    have h := (HW.out.stored r (.int .u8 ((0 : UInt8).toNat : Int))).1
                    rw [bvs_put'] at h
                    exact h
                  case measure => simp [intOf]; omega
                · have H := Lib.hid (H.out.far HGR.out HGD.out)
                  clear hown HGR HGD
                  go_wp2_with fail
                  go_roundw
                  case rel => exact ⟨k + 1, vq, _, Lq, _, by omega, by omega, by go_num, hLql, H.out⟩
                  case measure => simp [intOf]; omega
        · by_cases hd2 : dk = 2
          · subst hd2
            clear hd0 hd1
            have hcv := run_convert_bs (P := Try.prog) wb 25 9 5 Try.underlying25 Try.underlying5 Try.underlying9 Ab cbb _ bb rfl HBB.out
            go_wp2_with fail
            clear k0 k1 k2 k3 hcv
            refine (wrText_any w.heap.size w.heap.size v L bb wb H.out.wr (by omega) (by omega) H.out.hB).mono ?_
            rintro e wc ⟨rfl, vc, hwc, hkc, hfc⟩
            have H := Lib.hid (H.out.writer hwc hkc hfc)
            clear hwc hkc hfc
            obtain ⟨k0, k1, k2, k3⟩ := HCE.out wc H.out.bel
            go_wp2_with fail
            clear k0 k1 k2 k3
            refine (refBytes_any Ab cbb bb wc (by omega) (Bs.of_own H.out.bown)).mono ?_
            rintro e wd ⟨ud, rfl, hod, hbd⟩
            obtain ⟨Ad, cd, rfl, _⟩ := own_shape hod
            have hsd := Bs.of_own hod
            have H := Lib.hid (H.out.call hbd)
            clear hod hbd
            obtain ⟨m, hm⟩ : ∃ m, bytesOf bb = m := ⟨_, rfl⟩
            have hml : m.length ≤ 210 := by rw [← hm]; omega
            rw [hm] at hsd H ⊢
            clear hm
            have HOW := Lib.hid (own_len' H.out.want)
            have hBs := H.out.hB
            go_wp2_with (at_builtin; refine wpList_append_bs _ rfl _ _ 25 rfl w.heap.size 5 i0 (.int .u8 0) Try.underlying25 hi0 hz0 hz1 hz2 rfl u4 (bvs L) rfl HOW.out Ad cd m.length m rfl rfl hsd ?cc hBs ?_)
            case cc => rw [bvs_length]; omega
            intro uq we hoe hge hate
            have H := Lib.hid (H.out.append hoe hge hate)
            clear hoe hge hate HOW hBs hsd
            obtain ⟨Lq, hLq⟩ : ∃ Lq, L ++ m = Lq := ⟨_, rfl⟩
            have hLql : Lq.length ≤ 220 * (k + 1) := by rw [← hLq, List.length_append]; omega
            rw [hLq] at H
            clear hLq
            obtain ⟨vq, hvq⟩ : ∃ x, x = vc := ⟨_, rfl⟩
            subst hvq
            go_wp2_with fail
            go_loopw [9] (fun i wr => IncB w.heap.size we w vq uq (.slice Ab bb.length cbb) Lq Lq bb.length i wr) (fun i _ => bb.length - (intOf i).toNat)
            case atStart => exact ⟨0, bb, Nat.zero_le _, rfl, rfl, H.out, Nat.le_refl _⟩
            case round =>
              obtain ⟨q, bq, hq, hbq, rfl, hH, hsz⟩ := hrel
              have HN := Lib.hid hbq
              have H := Lib.hid hH
              clear hbq hH
              by_cases hlq : q < bb.length
              · have hown : wr.ownsRow w.heap.size 5 1 (.slice Ab bb.length cbb) bb.length (bvs bq) := by have := H.out.bown; rw [HN.out] at this; exact this
                obtain ⟨gb, cap, hvv, hbg, hgl⟩ := hown.form (by omega)
                injection hvv with hA _ hcc
                subst hA hcc
                have hylt : q < bq.length := by have := HN.out; omega
                have hcell : wr.cell? ⟨gb, q, none⟩ = some (.int .u8 (bq[q].toNat : Int)) := by
                  rw [hown.cellAt _ (by omega)]
                  exact bvs_get _ _ _ (List.getElem?_eq_getElem hylt)
                have hfro := hown.frozenAt q
                have HW := Lib.hid hown
                clear hown
                obtain ⟨y, hy⟩ : ∃ y, bq[q] = y := ⟨_, rfl⟩
                rw [hy] at hcell
                have hyb := y.toNat_lt
                clear hy
                go_wp2_with fail
                go_roundw
                case rel =>
                  have e : ((y.toNat : Int) + 1) % 256 = ((UInt8.ofNat (y.toNat + 1)).toNat : Int) := by rw [UInt8.toNat_ofNat']; omega
                  refine ⟨q + 1, bq.set q (UInt8.ofNat (y.toNat + 1)), by omega, by rw [List.length_set]; exact HN.out, by go_num, H.out.inc (grown_set (w := wr) ⟨rfl, rfl, rfl, Nat.le_refl _, fun _ _ _ => rfl⟩ q _) ?_, by simpa [World.setCell] using hsz⟩
                  have h := (HW.out.stored q (.int .u8 (((y.toNat : Int) + 1) % 256))).1
                  rw [e, bvs_put'] at h
                  rw [e, List.length_set, HN.out]
                  exact h
                case measure => simp [intOf]; omega
              · obtain ⟨wf, rfl⟩ : ∃ x : World, x = wr := ⟨_, rfl⟩
                have HDN := Lib.hid (wrDone_any w.heap.size w.heap.size vq Lq wf H.out.wr (by omega))
                go_wp2_with fail
                refine HDN.out.mono ?_
                rintro e wg ⟨gv, rfl, hog, hbg⟩
                obtain ⟨Ag, cg, rfl, _⟩ := own_shape hog
                have hfs := H.out.hB
                have hgd : ∀ z, (Value.slice Ag Lq.length cg).ownBlock = some z → w.heap.size ≤ z ∧ ¬ wrF w.heap.size vq z ∧ uq.ownBlock ≠ some z ∧ (Value.slice Ab bb.length cbb).ownBlock ≠ some z := fun z e => by
                  have h1 := (hog.lt z e).1
                  refine ⟨by omega, fun hf => ?_, fun e2 => ?_, fun e2 => ?_⟩
                  · have := H.out.wr.lt z hf; omega
                  · have := (H.out.want.lt z e2).2; omega
                  · have := (H.out.bown.lt z e2).2; omega
                have HGD := Lib.hid hgd
                have H := Lib.hid (H.out.call hbg)
                have HOG := Lib.hid hog
                obtain ⟨Aw, cw, hshape, _⟩ := own_shape H.out.want
                have hsame := same_bel Ag Aw cg cw Lq Lq wg (by omega) (by omega) (Bs.of_own hog) (Bs.of_own (hshape ▸ H.out.want))
                have HSM := Lib.hid hsame
                have hnp := Lib.run_neq_ptr_same (P := Try.prog) wg ⟨w.heap.size, 0, none⟩ Try.underlying23 hjj
                subst hshape
                clear hog hbg hgd hsame HDN
                go_wp2_with fail
                clear hnp
                refine HSM.out.mono ?_
                rintro e wh ⟨rfl, hbh⟩
                rw [sameB_self]
                have H := Lib.hid (H.out.call hbh)
                have HOG := Lib.hid (own_below HOG.out hbh)
                clear hbh HSM
                go_wp2_with fail
                go_loopw [11] (fun i wr => IncG wh wf.heap.size (.slice Ag Lq.length cg) Lq.length i wr) (fun i _ => Lq.length - (intOf i).toNat)
                case atStart => exact ⟨0, Lq, Nat.zero_le _, rfl, rfl, HOG.out, ⟨rfl, rfl, rfl, Nat.le_refl _, fun _ _ _ => rfl⟩⟩
                case round =>
                  obtain ⟨r, ys, hr1, hyl, rfl, hown, hgr⟩ := hrel
                  have HYL := Lib.hid hyl
                  have HGR := Lib.hid hgr
                  clear hyl hgr HOG
                  by_cases hlr : r < Lq.length
                  · obtain ⟨gb, cap, hvv, hbg, hgl⟩ := hown.form (by omega)
                    injection hvv with hA _ hcc
                    subst hA hcc
                    have hylt : r < ys.length := by have := HYL.out; omega
                    have hcell : wr.cell? ⟨gb, r, none⟩ = some (.int .u8 (ys[r].toNat : Int)) := by
                      rw [hown.cellAt _ (by omega)]
                      exact bvs_get _ _ _ (List.getElem?_eq_getElem hylt)
                    have hfro := hown.frozenAt r
                    have HW := Lib.hid hown
                    clear hown
                    go_wp2_with fail
                    go_roundw
                    case rel =>
                      refine ⟨r + 1, ys.set r 0, by omega, by rw [List.length_set]; exact HYL.out, by go_num, ?_, grown_then HGR.out (grown_set (w := wr) ⟨rfl, rfl, rfl, Nat.le_refl _, fun _ _ _ => rfl⟩ r _)⟩
                      have h := (HW.out.stored r (.int .u8 ((0 : UInt8).toNat : Int))).1
                      rw [bvs_put'] at h
                      exact h
                    case measure => simp [intOf]; omega
                  · have H := Lib.hid (H.out.far HGR.out HGD.out)
                    clear hown HGR HGD
                    go_wp2_with fail
                    go_roundw
                    case rel => exact ⟨k + 1, vq, _, Lq, _, by omega, by omega, by go_num, hLql, H.out⟩
                    case measure => simp [intOf]; omega
          · have e0 : (dk == 0) = false := by rw [beq_eq_false_iff_ne]; exact hd0
            have e1 : (dk == 1) = false := by rw [beq_eq_false_iff_ne]; exact hd1
            have e2 : (dk == 2) = false := by rw [beq_eq_false_iff_ne]; exact hd2
            clear hd0 hd1 hd2
            have hp1 := put10 1 (by decide)
            have hp0 := put10 0 (by decide)
            cases di
            · go_wp2_with fail
              clear k0 k1 k2 k3
              refine (wrBool_f w.heap.size w.heap.size v L wb H.out.wr (by omega) H.out.hB).mono ?_
              rintro e wc ⟨rfl, vc, hwc, hkc, hfc⟩
              have H := Lib.hid (H.out.writer hwc hkc hfc)
              clear hwc hkc hfc
              obtain ⟨k0, k1, k2, k3⟩ := HCE.out wc H.out.bel
              go_wp2_with fail
              clear k0 k1 k2 k3
              refine (refPut_any 0 wc (by decide)).mono ?_
              rintro e wd ⟨ud, rfl, hod, hbd⟩
              obtain ⟨Ad, cd, rfl, _⟩ := own_shape hod
              have hsd := Bs.of_own hod
              have H := Lib.hid (H.out.call hbd)
              clear hod hbd
              obtain ⟨m, hm⟩ : ∃ m, WireMath.put 0 = m := ⟨_, rfl⟩
              have hml : m.length ≤ 210 := by rw [← hm]; omega
              rw [hm] at hsd H ⊢
              clear hm
              have HOW := Lib.hid (own_len' H.out.want)
              have hBs := H.out.hB
              go_wp2_with (at_builtin; refine wpList_append_bs _ rfl _ _ 25 rfl w.heap.size 5 i0 (.int .u8 0) Try.underlying25 hi0 hz0 hz1 hz2 rfl u4 (bvs L) rfl HOW.out Ad cd m.length m rfl rfl hsd ?cd hBs ?_)
              case cd => rw [bvs_length]; omega
              intro uq we hoe hge hate
              have H := Lib.hid (H.out.append hoe hge hate)
              clear hoe hge hate HOW hBs hsd
              obtain ⟨Lq, hLq⟩ : ∃ Lq, L ++ m = Lq := ⟨_, rfl⟩
              have hLql : Lq.length ≤ 220 * (k + 1) := by rw [← hLq, List.length_append]; omega
              rw [hLq] at H
              clear hLq
              obtain ⟨vq, hvq⟩ : ∃ x, x = vc := ⟨_, rfl⟩
              subst hvq
              go_wp2_with fail
              go_loopw [9] (fun i wr => IncB w.heap.size we w vq uq (.slice Ab bb.length cbb) Lq Lq bb.length i wr) (fun i _ => bb.length - (intOf i).toNat)
              case atStart => exact ⟨0, bb, Nat.zero_le _, rfl, rfl, H.out, Nat.le_refl _⟩
              case round =>
                obtain ⟨q, bq, hq, hbq, rfl, hH, hsz⟩ := hrel
                have HN := Lib.hid hbq
                have H := Lib.hid hH
                clear hbq hH
                by_cases hlq : q < bb.length
                · have hown : wr.ownsRow w.heap.size 5 1 (.slice Ab bb.length cbb) bb.length (bvs bq) := by have := H.out.bown; rw [HN.out] at this; exact this
                  obtain ⟨gb, cap, hvv, hbg, hgl⟩ := hown.form (by omega)
                  injection hvv with hA _ hcc
                  subst hA hcc
                  have hylt : q < bq.length := by have := HN.out; omega
                  have hcell : wr.cell? ⟨gb, q, none⟩ = some (.int .u8 (bq[q].toNat : Int)) := by
                    rw [hown.cellAt _ (by omega)]
                    exact bvs_get _ _ _ (List.getElem?_eq_getElem hylt)
                  have hfro := hown.frozenAt q
                  have HW := Lib.hid hown
                  clear hown
                  obtain ⟨y, hy⟩ : ∃ y, bq[q] = y := ⟨_, rfl⟩
                  rw [hy] at hcell
                  have hyb := y.toNat_lt
                  clear hy
                  go_wp2_with fail
                  go_roundw
                  case rel =>
                    have e : ((y.toNat : Int) + 1) % 256 = ((UInt8.ofNat (y.toNat + 1)).toNat : Int) := by rw [UInt8.toNat_ofNat']; omega
                    refine ⟨q + 1, bq.set q (UInt8.ofNat (y.toNat + 1)), by omega, by rw [List.length_set]; exact HN.out, by go_num, H.out.inc (grown_set (w := wr) ⟨rfl, rfl, rfl, Nat.le_refl _, fun _ _ _ => rfl⟩ q _) ?_, by simpa [World.setCell] using hsz⟩
                    have h := (HW.out.stored q (.int .u8 (((y.toNat : Int) + 1) % 256))).1
                    rw [e, bvs_put'] at h
                    rw [e, List.length_set, HN.out]
                    exact h
                  case measure => simp [intOf]; omega
                · obtain ⟨wf, rfl⟩ : ∃ x : World, x = wr := ⟨_, rfl⟩
                  have HDN := Lib.hid (wrDone_any w.heap.size w.heap.size vq Lq wf H.out.wr (by omega))
                  go_wp2_with fail
                  refine HDN.out.mono ?_
                  rintro e wg ⟨gv, rfl, hog, hbg⟩
                  obtain ⟨Ag, cg, rfl, _⟩ := own_shape hog
                  have hfs := H.out.hB
                  have hgd : ∀ z, (Value.slice Ag Lq.length cg).ownBlock = some z → w.heap.size ≤ z ∧ ¬ wrF w.heap.size vq z ∧ uq.ownBlock ≠ some z ∧ (Value.slice Ab bb.length cbb).ownBlock ≠ some z := fun z e => by
                    have h1 := (hog.lt z e).1
                    refine ⟨by omega, fun hf => ?_, fun e2 => ?_, fun e2 => ?_⟩
                    · have := H.out.wr.lt z hf; omega
                    · have := (H.out.want.lt z e2).2; omega
                    · have := (H.out.bown.lt z e2).2; omega
                  have HGD := Lib.hid hgd
                  have H := Lib.hid (H.out.call hbg)
                  have HOG := Lib.hid hog
                  obtain ⟨Aw, cw, hshape, _⟩ := own_shape H.out.want
                  have hsame := same_bel Ag Aw cg cw Lq Lq wg (by omega) (by omega) (Bs.of_own hog) (Bs.of_own (hshape ▸ H.out.want))
                  have HSM := Lib.hid hsame
                  have hnp := Lib.run_neq_ptr_same (P := Try.prog) wg ⟨w.heap.size, 0, none⟩ Try.underlying23 hjj
                  subst hshape
                  clear hog hbg hgd hsame HDN
                  go_wp2_with fail
                  clear hnp
                  refine HSM.out.mono ?_
                  rintro e wh ⟨rfl, hbh⟩
                  rw [sameB_self]
                  have H := Lib.hid (H.out.call hbh)
                  have HOG := Lib.hid (own_below HOG.out hbh)
                  clear hbh HSM
                  go_wp2_with fail
                  go_loopw [11] (fun i wr => IncG wh wf.heap.size (.slice Ag Lq.length cg) Lq.length i wr) (fun i _ => Lq.length - (intOf i).toNat)
                  case atStart => exact ⟨0, Lq, Nat.zero_le _, rfl, rfl, HOG.out, ⟨rfl, rfl, rfl, Nat.le_refl _, fun _ _ _ => rfl⟩⟩
                  case round =>
                    obtain ⟨r, ys, hr1, hyl, rfl, hown, hgr⟩ := hrel
                    have HYL := Lib.hid hyl
                    have HGR := Lib.hid hgr
                    clear hyl hgr HOG
                    by_cases hlr : r < Lq.length
                    · obtain ⟨gb, cap, hvv, hbg, hgl⟩ := hown.form (by omega)
                      injection hvv with hA _ hcc
                      subst hA hcc
                      have hylt : r < ys.length := by have := HYL.out; omega
                      have hcell : wr.cell? ⟨gb, r, none⟩ = some (.int .u8 (ys[r].toNat : Int)) := by
                        rw [hown.cellAt _ (by omega)]
                        exact bvs_get _ _ _ (List.getElem?_eq_getElem hylt)
                      have hfro := hown.frozenAt r
                      have HW := Lib.hid hown
                      clear hown
                      go_wp2_with fail
                      go_roundw
                      case rel =>
                        refine ⟨r + 1, ys.set r 0, by omega, by rw [List.length_set]; exact HYL.out, by go_num, ?_, grown_then HGR.out (grown_set (w := wr) ⟨rfl, rfl, rfl, Nat.le_refl _, fun _ _ _ => rfl⟩ r _)⟩
                        have h := (HW.out.stored r (.int .u8 ((0 : UInt8).toNat : Int))).1
                        rw [bvs_put'] at h
                        exact h
                      case measure => simp [intOf]; omega
                    · have H := Lib.hid (H.out.far HGR.out HGD.out)
                      clear hown HGR HGD
                      go_wp2_with fail
                      go_roundw
                      case rel => exact ⟨k + 1, vq, _, Lq, _, by omega, by omega, by go_num, hLql, H.out⟩
                      case measure => simp [intOf]; omega
            · go_wp2_with fail
              clear k0 k1 k2 k3
              refine (wrBool_t w.heap.size w.heap.size v L wb H.out.wr (by omega) H.out.hB).mono ?_
              rintro e wc ⟨rfl, vc, hwc, hkc, hfc⟩
              have H := Lib.hid (H.out.writer hwc hkc hfc)
              clear hwc hkc hfc
              obtain ⟨k0, k1, k2, k3⟩ := HCE.out wc H.out.bel
              go_wp2_with fail
              clear k0 k1 k2 k3
              refine (refPut_any 1 wc (by decide)).mono ?_
              rintro e wd ⟨ud, rfl, hod, hbd⟩
              obtain ⟨Ad, cd, rfl, _⟩ := own_shape hod
              have hsd := Bs.of_own hod
              have H := Lib.hid (H.out.call hbd)
              clear hod hbd
              obtain ⟨m, hm⟩ : ∃ m, WireMath.put 1 = m := ⟨_, rfl⟩
              have hml : m.length ≤ 210 := by rw [← hm]; omega
              rw [hm] at hsd H ⊢
              clear hm
              have HOW := Lib.hid (own_len' H.out.want)
              have hBs := H.out.hB
              go_wp2_with (at_builtin; refine wpList_append_bs _ rfl _ _ 25 rfl w.heap.size 5 i0 (.int .u8 0) Try.underlying25 hi0 hz0 hz1 hz2 rfl u4 (bvs L) rfl HOW.out Ad cd m.length m rfl rfl hsd ?ce hBs ?_)
              case ce => rw [bvs_length]; omega
              intro uq we hoe hge hate
              have H := Lib.hid (H.out.append hoe hge hate)
              clear hoe hge hate HOW hBs hsd
              obtain ⟨Lq, hLq⟩ : ∃ Lq, L ++ m = Lq := ⟨_, rfl⟩
              have hLql : Lq.length ≤ 220 * (k + 1) := by rw [← hLq, List.length_append]; omega
              rw [hLq] at H
              clear hLq
              obtain ⟨vq, hvq⟩ : ∃ x, x = vc := ⟨_, rfl⟩
              subst hvq
              go_wp2_with fail
              go_loopw [9] (fun i wr => IncB w.heap.size we w vq uq (.slice Ab bb.length cbb) Lq Lq bb.length i wr) (fun i _ => bb.length - (intOf i).toNat)
              case atStart => exact ⟨0, bb, Nat.zero_le _, rfl, rfl, H.out, Nat.le_refl _⟩
              case round =>
                obtain ⟨q, bq, hq, hbq, rfl, hH, hsz⟩ := hrel
                have HN := Lib.hid hbq
                have H := Lib.hid hH
                clear hbq hH
                by_cases hlq : q < bb.length
                · have hown : wr.ownsRow w.heap.size 5 1 (.slice Ab bb.length cbb) bb.length (bvs bq) := by have := H.out.bown; rw [HN.out] at this; exact this
                  obtain ⟨gb, cap, hvv, hbg, hgl⟩ := hown.form (by omega)
                  injection hvv with hA _ hcc
                  subst hA hcc
                  have hylt : q < bq.length := by have := HN.out; omega
                  have hcell : wr.cell? ⟨gb, q, none⟩ = some (.int .u8 (bq[q].toNat : Int)) := by
                    rw [hown.cellAt _ (by omega)]
                    exact bvs_get _ _ _ (List.getElem?_eq_getElem hylt)
                  have hfro := hown.frozenAt q
                  have HW := Lib.hid hown
                  clear hown
                  obtain ⟨y, hy⟩ : ∃ y, bq[q] = y := ⟨_, rfl⟩
                  rw [hy] at hcell
                  have hyb := y.toNat_lt
                  clear hy
                  go_wp2_with fail
                  go_roundw
                  case rel =>
                    have e : ((y.toNat : Int) + 1) % 256 = ((UInt8.ofNat (y.toNat + 1)).toNat : Int) := by rw [UInt8.toNat_ofNat']; omega
                    refine ⟨q + 1, bq.set q (UInt8.ofNat (y.toNat + 1)), by omega, by rw [List.length_set]; exact HN.out, by go_num, H.out.inc (grown_set (w := wr) ⟨rfl, rfl, rfl, Nat.le_refl _, fun _ _ _ => rfl⟩ q _) ?_, by simpa [World.setCell] using hsz⟩
                    have h := (HW.out.stored q (.int .u8 (((y.toNat : Int) + 1) % 256))).1
                    rw [e, bvs_put'] at h
                    rw [e, List.length_set, HN.out]
                    exact h
                  case measure => simp [intOf]; omega
                · obtain ⟨wf, rfl⟩ : ∃ x : World, x = wr := ⟨_, rfl⟩
                  have HDN := Lib.hid (wrDone_any w.heap.size w.heap.size vq Lq wf H.out.wr (by omega))
                  go_wp2_with fail
                  refine HDN.out.mono ?_
                  rintro e wg ⟨gv, rfl, hog, hbg⟩
                  obtain ⟨Ag, cg, rfl, _⟩ := own_shape hog
                  have hfs := H.out.hB
                  have hgd : ∀ z, (Value.slice Ag Lq.length cg).ownBlock = some z → w.heap.size ≤ z ∧ ¬ wrF w.heap.size vq z ∧ uq.ownBlock ≠ some z ∧ (Value.slice Ab bb.length cbb).ownBlock ≠ some z := fun z e => by
                    have h1 := (hog.lt z e).1
                    refine ⟨by omega, fun hf => ?_, fun e2 => ?_, fun e2 => ?_⟩
                    · have := H.out.wr.lt z hf; omega
                    · have := (H.out.want.lt z e2).2; omega
                    · have := (H.out.bown.lt z e2).2; omega
                  have HGD := Lib.hid hgd
                  have H := Lib.hid (H.out.call hbg)
                  have HOG := Lib.hid hog
                  obtain ⟨Aw, cw, hshape, _⟩ := own_shape H.out.want
                  have hsame := same_bel Ag Aw cg cw Lq Lq wg (by omega) (by omega) (Bs.of_own hog) (Bs.of_own (hshape ▸ H.out.want))
                  have HSM := Lib.hid hsame
                  have hnp := Lib.run_neq_ptr_same (P := Try.prog) wg ⟨w.heap.size, 0, none⟩ Try.underlying23 hjj
                  subst hshape
                  clear hog hbg hgd hsame HDN
                  go_wp2_with fail
                  clear hnp
                  refine HSM.out.mono ?_
                  rintro e wh ⟨rfl, hbh⟩
                  rw [sameB_self]
                  have H := Lib.hid (H.out.call hbh)
                  have HOG := Lib.hid (own_below HOG.out hbh)
                  clear hbh HSM
                  go_wp2_with fail
                  go_loopw [11] (fun i wr => IncG wh wf.heap.size (.slice Ag Lq.length cg) Lq.length i wr) (fun i _ => Lq.length - (intOf i).toNat)
                  case atStart => exact ⟨0, Lq, Nat.zero_le _, rfl, rfl, HOG.out, ⟨rfl, rfl, rfl, Nat.le_refl _, fun _ _ _ => rfl⟩⟩
                  case round =>
                    obtain ⟨r, ys, hr1, hyl, rfl, hown, hgr⟩ := hrel
                    have HYL := Lib.hid hyl
                    have HGR := Lib.hid hgr
                    clear hyl hgr HOG
                    by_cases hlr : r < Lq.length
                    · obtain ⟨gb, cap, hvv, hbg, hgl⟩ := hown.form (by omega)
                      injection hvv with hA _ hcc
                      subst hA hcc
                      have hylt : r < ys.length := by have := HYL.out; omega
                      have hcell : wr.cell? ⟨gb, r, none⟩ = some (.int .u8 (ys[r].toNat : Int)) := by
                        rw [hown.cellAt _ (by omega)]
                        exact bvs_get _ _ _ (List.getElem?_eq_getElem hylt)
                      have hfro := hown.frozenAt r
                      have HW := Lib.hid hown
                      clear hown
                      go_wp2_with fail
                      go_roundw
                      case rel =>
                        refine ⟨r + 1, ys.set r 0, by omega, by rw [List.length_set]; exact HYL.out, by go_num, ?_, grown_then HGR.out (grown_set (w := wr) ⟨rfl, rfl, rfl, Nat.le_refl _, fun _ _ _ => rfl⟩ r _)⟩
                        have h := (HW.out.stored r (.int .u8 ((0 : UInt8).toNat : Int))).1
                        rw [bvs_put'] at h
                        exact h
                      case measure => simp [intOf]; omega
                    · have H := Lib.hid (H.out.far HGR.out HGD.out)
                      clear hown HGR HGD
                      go_wp2_with fail
                      go_roundw
                      case rel => exact ⟨k + 1, vq, _, Lq, _, by omega, by omega, by go_num, hLql, H.out⟩
                      case measure => simp [intOf]; omega
    · have hex : ds.length ≤ k ∨ (k < ds.length ∧ 40 ≤ k) := by omega
      clear hin
      have HBW := Lib.hid H.out.bel
      rcases hex with hex | ⟨hex, hex'⟩
      all_goals
        go_wp2_with fail
        refine (wireLives_any wa).mono ?_
        rintro e w9 ⟨rfl, hb9⟩
        go_wp2_with fail
        go_ret
        exact ⟨rfl, below_then HBW.out hb9⟩
end Go.Proofs.Ytmaemlmbhldmkaa
