/- The contracts of slot.save and slot.Open. -/
import Derived.Test.YtckihiiimomgfaaDoorSlot2
import Derived.Test.YtckihiiimomgfaaDoorGWire
namespace Go.Proofs.YtckihiiimomgfaaDoor
open Go.RowKit DiskMath
/-- what a slot's record says -/
def slDec (r : List UInt8) : Nat × List UInt8 :=
  if rdEnd (rdBytes (rdN 4611686018427387904 r 0).2.1 (rdN 4611686018427387904 r 0).2.2).2.1 (rdBytes (rdN 4611686018427387904 r 0).2.1 (rdN 4611686018427387904 r 0).2.2).2.2 = 0 then
    ((rdN 4611686018427387904 r 0).1, (rdBytes (rdN 4611686018427387904 r 0).2.1 (rdN 4611686018427387904 r 0).2.2).1) else (0, [])
def HsPost (r : Nat × List UInt8) (w : World) (e : Ending) (w' : World) : Prop := ∃ v, e = .returned (.tuple #[.int .i64 (r.1 : Nat), v]) ∧ Own8 w' w.heap.size v r.2 ∧ Below w.heap.size w w'
theorem HsPost.zero {r : Nat × List UInt8} {w w' : World} (h : r = (0, [])) (hb : Below w.heap.size w w') : HsPost r w (.returned (.tuple #[.int .i64 0, .slice none 0 0])) w' := by subst h; exact ⟨_, rfl, Own8.nil _ _, hb⟩
set_option maxRecDepth 100000 in
set_option maxHeartbeats 1000000 in
theorem slotHas_any (w : World) (F : Nat → Prop) (sp p fr i : Nat) (s : SlotMath.Sl) (d : Dk) (hs : SlotB w sp p fr s) (hd : DiskAt w F p d) (ht : Halves w) (hi : i ≤ 1) (hf : fr + 2 * s.size ≤ d.fast.length) (hd16 : d.fast.length ≤ 20000) :
    Calls Tryd.prog 43 #[.pointer (some ⟨sp, 0, none⟩), .int .i64 i] w (HsPost (SlotMath.has slDec (view d) (fr + i * s.size) s.size) w) := by
  have HP := Lib.hid (slotParts_any w F sp p fr i s d hs hd ht hi hf (by omega))
  obtain ⟨S, hS⟩ : ∃ S, view d = S := ⟨_, rfl⟩
  obtain ⟨a, ha⟩ : ∃ a, fr + i * s.size = a := ⟨_, rfl⟩
  obtain ⟨size, hsz⟩ : ∃ size, s.size = size := ⟨_, rfl⟩
  rw [hS, ha, hsz] at HP
  rw [hS, ha, hsz]
  rw [hsz] at hf
  have hsz2 : size ≤ 10000 := by omega
  have HS := Lib.hid hs
  have HD := Lib.hid hd
  clear hs hd ht hS ha hsz hf hd16
  go_enter Tryd.func43, Tryd.ntmps43
  go_wp2_with fail
  refine HP.out.mono ?_
  cases hp : SlotMath.slotParts S a size with
  | none =>
    have hh : SlotMath.has slDec S a size = (0, []) := by unfold SlotMath.has SlotMath.slotRec; rw [hp]; rfl
    have HH := Lib.hid hh
    rintro e w1 ⟨rfl, hb1⟩
    have HB1 := Lib.hid hb1
    clear hp hh hb1 HP
    go_wp2_with fail
    refine (join_any none 0 0 [] (fun _ => False) w1 rfl (by decide) (PRow.nil _ _ _)).mono ?_
    rintro e w2 (⟨b, v, hj, _⟩ | ⟨_, rfl, hb2⟩)
    · cases hj
    · have HB2 := Lib.hid (below_then HB1.out hb2)
      clear hb2
      go_wp2_with fail
      go_ret2
      exact HsPost.zero HH.out HB2.out
  | some l =>
    rintro e w1 ⟨A1, n1, c1, hl1, hc1, rfl, hr1, hb1⟩
    have hll : l.length ≤ size := by
      unfold SlotMath.slotParts at hp
      split at hp
      · cases hp
      · split at hp
        · cases hp
        · next p0 hp0 hq0 =>
          cases hra : SlotMath.readAll S (a + 1) (p0.total.toNat - 1) with
          | none => rw [hra] at hp; cases hp
          | some l' =>
            rw [hra] at hp
            injection hp with hp
            have h1 := (SlotMath.readAll_some hra).1
            have h2 := (StampMath.read_some hp0).1.2.2.2.2.1
            rw [← hp]
            simp only [List.length_cons]
            omega
    have hj := join_any A1 n1 c1 l _ w1 hl1 (by omega) hr1
    have HJ := Lib.hid hj
    have HB1 := Lib.hid hb1
    have HPL := Lib.hid hp
    have HL := Lib.hid (show _ ∧ _ from ⟨hl1, hll⟩)
    clear hp hj hb1 hr1 HP hl1 hll
    go_wp2_with fail
    refine HJ.out.mono ?_
    rintro e w2 (⟨r, v, hj, rfl, ho2, hb2⟩ | ⟨hj, rfl, hb2⟩)
    · have hh : SlotMath.has slDec S a size = slDec r := by unfold SlotMath.has SlotMath.slotRec; rw [HPL.out]; simp only [Option.bind_some]; rw [hj]
      have hrl : r.length ≤ 1000000 := by
        obtain ⟨h1, _⟩ := SlotMath.slotRec_some (S := S) (a := a) (size := size) (r := r) (by unfold SlotMath.slotRec; rw [HPL.out]; exact hj)
        unfold StampMath.totalOf at h1
        omega
      obtain ⟨A2, n2, c2, rfl, hn2, hc2, hm2⟩ := ho2.shape'
      have hop := rdOpen_any A2 c2 r w2 hrl ho2.bs
      rw [hn2] at hop
      have HOP := Lib.hid hop
      have HH := Lib.hid hh
      have HB2 := Lib.hid (below_then HB1.out hb2)
      have HRL := Lib.hid hrl
      clear hj hh hrl ho2 hb2 hn2 hop HJ
      go_wp2_with fail
      refine HOP.out.mono ?_
      rintro e w3 ⟨g, A3, c3, rfl, hg3, hrd3, hb3⟩
      have hb3' := below_then HB2.out hb3
      have hgw : w.heap.size ≤ g := by have := HB2.out.size; omega
      have HB3 := Lib.hid hb3'
      have HN := Lib.hid (rdN_any 4611686018427387904 g A3 c3 r 0 w3 hrd3 HRL.out (by decide))
      have hlenN := rdN_len 4611686018427387904 r 0
      have hsd : slDec r = slDec r := rfl
      conv at hsd => rhs; unfold slDec
      rcases hN : rdN 4611686018427387904 r 0 with ⟨nn, l1, e1⟩
      rw [hN] at HN hlenN hsd
      simp only at HN hlenN hsd
      have HLN := Lib.hid hlenN
      have HSD := Lib.hid hsd
      clear hb3 hrd3 hb3' hN hlenN hsd HOP
      go_wp2_with fail
      refine HN.out.mono ?_
      rintro e w4 ⟨rfl, hg4, A4, c4, hrd4⟩
      have hb4 : Below w.heap.size w w4 := HB3.out.grown hg4 HB3.out.size (fun k hk => by injection hk with hk; omega)
      have HB4 := Lib.hid hb4
      have HY := Lib.hid (rdBytes_any g A4 c4 l1 e1 w4 hrd4 (by have := HLN.out; have := HRL.out; omega))
      rcases hY : rdBytes l1 e1 with ⟨bb, l2, e2⟩
      unfold RdBytesPost at HY
      rw [hY] at HY HSD
      simp only at HY HSD
      have hyl : l2.length ≤ l1.length := by
        have h1 := rdN_len 2147483647 l1 e1
        have h2 : rdBytes l1 e1 = (bb, l2, e2) := hY
        unfold rdBytes at h2
        split at h2
        · injection h2 with _ h2; injection h2 with h2 _; rw [← h2]; exact h1
        · split at h2
          · injection h2 with _ h2; injection h2 with h2 _; rw [← h2]; simp
          · injection h2 with _ h2; injection h2 with h2 _; rw [← h2, List.length_drop]; omega
      have HYL := Lib.hid hyl
      clear hg4 hrd4 hb4 hY hyl HN
      go_wp2_with fail
      refine HY.out.mono ?_
      rintro e w5 ⟨B5, d5, rfl, ho5, hg5, A5, c5, hrd5⟩
      have hb5 : Below w.heap.size w w5 := HB4.out.grown hg5 HB4.out.size (fun k hk => by injection hk with hk; omega)
      have HB5 := Lib.hid hb5
      have ho5' : Own8 w5 w4.heap.size (.slice B5 bb.length d5) bb := ho5
      have HO5 := Lib.hid (ho5'.base HB4.out.size)
      have HE := Lib.hid (rdEnd_any g A5 c5 l2 e2 w5 hrd5 (by have := HLN.out; have := HRL.out; have := HYL.out; omega))
      obtain ⟨ed, hed⟩ : ∃ ed, rdEnd l2 e2 = ed := ⟨_, rfl⟩
      rw [hed] at HE HSD
      clear ho5 ho5' hg5 hrd5 hb5 hed HY
      go_wp2_with fail
      refine HE.out.mono ?_
      rintro e w' ⟨rfl, rfl⟩
      by_cases h0 : ed = 0
      · subst h0
        rw [if_pos rfl] at HSD
        go_wp2_with fail
        go_ret2
        rw [HH.out, HSD.out]
        exact ⟨_, rfl, HO5.out, HB5.out⟩
      · rw [if_neg h0] at HSD
        have hne : ((ed : Int) != 0) = true := by rw [bne_iff_ne]; omega
        clear h0
        go_wp2_with fail
        go_ret2
        exact HsPost.zero (by rw [HH.out, HSD.out]) HB5.out
    · have hh : SlotMath.has slDec S a size = (0, []) := by unfold SlotMath.has SlotMath.slotRec; rw [HPL.out]; simp only [Option.bind_some]; rw [hj]
      have HH := Lib.hid hh
      have HB2 := Lib.hid (below_then HB1.out hb2)
      clear hj hh hb2 HJ
      go_wp2_with fail
      go_ret2
      exact HsPost.zero HH.out HB2.out
end Go.Proofs.YtckihiiimomgfaaDoor
