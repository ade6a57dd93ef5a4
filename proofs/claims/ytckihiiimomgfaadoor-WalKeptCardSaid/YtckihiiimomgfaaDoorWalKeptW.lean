/- The walk of the statement that a log is crash safe: WalKept. -/
import Derived.Test.YtckihiiimomgfaaDoorWalLaws
import Derived.Test.YtckihiiimomgfaaDoorWalSame
import Derived.Test.YtckihiiimomgfaaDoorOpenDo9
import Derived.Test.YtckihiiimomgfaaDoorDisk7
namespace Go.Proofs.YtckihiiimomgfaaDoor
open Go.RowKit DiskMath
/-- a log, its disk, the rows that are sure, the one that may be: in blocks apart -/
structure KpMem (W w : World) (p lp : Nat) (F G : Nat → Prop) (g : WalMath.Lg) (d : Dk) (v u : Value) (sure : List (List UInt8)) (maybe : List UInt8) : Prop where
  log : LogB w lp p 0 g
  dk : DiskAt w F p d
  rows : Rows8 w G v sure
  may : Own8 w 0 u maybe
  mayG : ∀ x, u.ownBlock = some x → G x
  ownF : ∀ x, F x → W.heap.size ≤ x ∧ x < w.heap.size
  ownG : ∀ x, G x → W.heap.size ≤ x ∧ x < w.heap.size
  ownL : W.heap.size ≤ lp
  fg : ∀ x, F x → ¬ G x
  fl : ¬ F lp
  gl : ¬ G lp
  bel : Below W.heap.size W w
  lens : ∀ l ∈ sure, l.length ≤ 150
  mlen : maybe.length ≤ 150
section
variable {W w w' : World} {p lp : Nat} {F G : Nat → Prop} {g : WalMath.Lg} {d d' : Dk} {v u : Value} {sure : List (List UInt8)} {maybe : List UInt8}
theorem KpMem.below (h : KpMem W w p lp F G g d v u sure maybe) (hb : Below w.heap.size w w') : KpMem W w' p lp F G g d v u sure maybe :=
  ⟨h.log.below hb, h.dk.below hb, h.rows.below hb, h.may.below hb, h.mayG, fun x hx => ⟨(h.ownF x hx).1, Nat.lt_of_lt_of_le (h.ownF x hx).2 hb.size⟩, fun x hx => ⟨(h.ownG x hx).1, Nat.lt_of_lt_of_le (h.ownG x hx).2 hb.size⟩, h.ownL, h.fg, h.fl, h.gl, below_then h.bel hb, h.lens, h.mlen⟩
theorem KpMem.step (h : KpMem W w p lp F G g d v u sure maybe) (hk : Kept F w w') (hd : DiskAt w' F p d') : KpMem W w' p lp F G g d' v u sure maybe :=
  ⟨h.log.kept hk h.fl, hd, h.rows.kept hk (fun x hx hf => h.fg x hf hx), h.may.keep hk (fun x hx hf => h.fg x hf (h.mayG x hx)), h.mayG, fun x hx => ⟨(h.ownF x hx).1, Nat.lt_of_lt_of_le (h.ownF x hx).2 hk.size⟩, fun x hx => ⟨(h.ownG x hx).1, Nat.lt_of_lt_of_le (h.ownG x hx).2 hk.size⟩, h.ownL, h.fg, h.fl, h.gl,
    h.bel.trans (hk.below (B := W.heap.size) (fun x _ hx => (h.ownF x hx).1) h.bel.size), h.lens, h.mlen⟩
theorem KpMem.app {r : WalMath.Lg × Dk × Nat} {e : Ending} (h : KpMem W w p lp F G g d v u sure maybe) (ha : AppPost F lp p 0 r w e w') : KpMem W w' p lp (fun x => (F x ∨ w.heap.size ≤ x) ∧ x < w'.heap.size) G r.1 r.2.1 v u sure maybe := by
  obtain ⟨_, hl, hd, hk⟩ := ha
  have hs := hk.size
  have hbs := h.bel.size
  have hlp := h.log.lt
  have hg : ∀ x, G x → ¬ (F x ∨ x = lp) := fun x hx hf => by
    rcases hf with hf | rfl
    · exact h.fg x hf hx
    · exact h.gl hx
  refine ⟨hl, hd.lt, h.rows.kept hk hg, h.may.keep hk (fun x hx => hg x (h.mayG x hx)), h.mayG, fun x hx => ⟨?_, hx.2⟩, fun x hx => ⟨(h.ownG x hx).1, Nat.lt_of_lt_of_le (h.ownG x hx).2 hs⟩, h.ownL, fun x hx hgx => ?_, fun hx => ?_, h.gl, h.bel.trans (hk.below (B := W.heap.size) (fun x _ hx => ?_) hbs), h.lens, h.mlen⟩
  · rcases hx.1 with hf | hf
    · exact (h.ownF x hf).1
    · omega
  · rcases hx.1 with hf | hf
    · exact h.fg x hf hgx
    · have := (h.ownG x hgx).2; omega
  · rcases hx.1 with hf | hf
    · exact h.fl hf
    · omega
  · rcases hx with hf | rfl
    · exact (h.ownF x hf).1
    · exact h.ownL
theorem KpMem.push {v' : Value} {l : List UInt8} (h : KpMem W w p lp F G g d v u sure maybe) (hr : Rows8 w' (fun k => G k ∨ w.heap.size ≤ k) v' (sure ++ [l])) (hk : Kept (fun k => v.ownBlock = some k) w w') (hl : l.length ≤ 150) :
    KpMem W w' p lp F (fun x => (G x ∨ w.heap.size ≤ x) ∧ x < w'.heap.size) g d v' u (sure ++ [l]) maybe := by
  have hs := hk.size
  have hbs := h.bel.size
  have hlp := h.log.lt
  have hvG : ∀ x, v.ownBlock = some x → G x := fun x hx => by obtain ⟨_, _, h2, _⟩ := h.rows; exact h2 x hx
  refine ⟨h.log.kept hk (fun e => h.gl (hvG _ e)), h.dk.kept hk (fun x hx e => h.fg x hx (hvG x e)), hr.lt, h.may.keep hk (fun x hx e => rows_ne h.rows h.may x e hx), fun x hx => ⟨.inl (h.mayG x hx), Nat.lt_of_lt_of_le (h.ownG x (h.mayG x hx)).2 hs⟩,
    fun x hx => ⟨(h.ownF x hx).1, Nat.lt_of_lt_of_le (h.ownF x hx).2 hs⟩, fun x hx => ⟨?_, hx.2⟩, h.ownL, fun x hx hgx => ?_, h.fl, fun hx => ?_, h.bel.trans (hk.below (B := W.heap.size) (fun x _ e => (h.ownG x (hvG x e)).1) hbs), fun m hm => ?_, h.mlen⟩
  · rcases hx.1 with hf | hf
    · exact (h.ownG x hf).1
    · omega
  · rcases hgx.1 with hf | hf
    · exact h.fg x hx hf
    · have := (h.ownF x hx).2; omega
  · rcases hx.1 with hf | hf
    · exact h.gl hf
    · omega
  · rcases List.mem_append.1 hm with hm | hm
    · exact h.lens m hm
    · obtain rfl : m = l := by simpa using hm
      exact hl
/-- more blocks of one's own, behind the others -/
theorem KpMem.more {wx : World} (h : KpMem W w p lp F G g d v u sure maybe) (hb : Below w.heap.size w wx) : KpMem W wx p lp F (fun x => G x ∨ (w.heap.size ≤ x ∧ x < wx.heap.size)) g d v u sure maybe := by
  have h' := h.below hb
  have hs := hb.size
  have hbs := h.bel.size
  have hlp := h.log.lt
  refine ⟨h'.log, h'.dk, h'.rows.mono (fun _ hx => .inl hx), h'.may, fun x hx => .inl (h.mayG x hx), h'.ownF, fun x hx => ?_, h.ownL, fun x hx hgx => ?_, h.fl, fun hx => ?_, h'.bel, h.lens, h.mlen⟩
  · rcases hx with hx | hx
    · exact h'.ownG x hx
    · omega
  · rcases hgx with hgx | hgx
    · exact h.fg x hx hgx
    · have := (h.ownF x hx).2; omega
  · rcases hx with hx | hx
    · exact h.gl hx
    · omega
theorem KpMem.set {u' : Value} {m : List UInt8} (h : KpMem W w p lp F G g d v u sure maybe) (ho : Own8 w 0 u' m) (hG : ∀ x, u'.ownBlock = some x → G x) (hl : m.length ≤ 150) : KpMem W w p lp F G g d v u' sure m :=
  ⟨h.log, h.dk, h.rows, ho, hG, h.ownF, h.ownG, h.ownL, h.fg, h.fl, h.gl, h.bel, h.lens, hl⟩
/-- another log -/
theorem KpMem.relog {lp' : Nat} {g' : WalMath.Lg} (h : KpMem W w p lp F G g d v u sure maybe) (hb : Below w.heap.size w w') (hl : LogB w' lp' p 0 g') (hn : w.heap.size ≤ lp') : KpMem W w' p lp' F G g' d v u sure maybe := by
  have h' := h.below hb
  have hbs := h.bel.size
  exact ⟨hl, h'.dk, h'.rows, h'.may, h'.mayG, h'.ownF, h'.ownG, by omega, h'.fg, fun hf => by have := (h.ownF _ hf).2; omega, fun hg => by have := (h.ownG _ hg).2; omega, h'.bel, h'.lens, h'.mlen⟩
end
theorem kept_facts {n : Nat} {g : WalMath.Lg} {d : Dk} {sure : List (List UInt8)} {maybe : List UInt8} {doubt : Bool} (h : WalMath.Kept n g d sure maybe doubt) : g.to = n ∧ g.at_ ≤ g.to ∧ d.fast.length = n ∧ g.epoch < 256 ∧ g.next = g.at_ ∧ d.waits.length ≤ 100 ∧ n ≤ 100 := by
  refine ⟨h.to, by have := h.to; have := h.core.le; omega, h.core.len, h.core.e255, h.next, ?_, h.core.n40⟩
  rcases h.is with ⟨_, _, h3, _⟩ | ⟨_, _, _, m, h4, h5, h6⟩
  · rw [h3]; decide
  · rw [h6]
    have := h.core.n40
    simp [WalMath.wl]
    omega
theorem append_epoch (g : WalMath.Lg) (d : Dk) (b : List UInt8) : (WalMath.append g d b).1.epoch = g.epoch := by
  unfold WalMath.append
  split
  · rfl
  · split
    · rfl
    · split
      · rfl
      · split
        · rfl
        · split <;> rfl
def KpRel (W : World) (n p : Nat) (sg sv su sd i : Value) (wr : World) : Prop :=
  ∃ (k lp : Nat) (F G : Nat → Prop) (g : WalMath.Lg) (d : Dk) (sure : List (List UInt8)) (maybe : List UInt8) (doubt : Bool), i = .int .i64 (k : Int) ∧ k ≤ 40 ∧ sg = .pointer (some ⟨lp, 0, none⟩) ∧ sd = .bool doubt ∧ KpMem W wr p lp F G g d sv su sure maybe ∧ WalMath.Kept n g d sure maybe doubt ∧ g.epoch ≤ 1 + k ∧ sure.length ≤ k
set_option maxRecDepth 100000 in
set_option maxHeartbeats 1000000 in
theorem walKept_walk (x : Int) (A : Option Addr) (c : Nat) (ds : List D9) (w : World) (_hc : ds.length ≤ c) (hm : c ≤ maxLen) (hr : D9s w A ds) (ht : Halves w) :
    Calls Tryd.prog 7 #[.int .i64 x, .slice A ds.length c] w fun e w' => e = .returned (.bool true) ∧ Below w.heap.size w w' := by
  have hcm : c ≤ 9223372036854775807 := by unfold maxLen at hm; omega
  obtain ⟨N, hN⟩ : ∃ N, ds.length = N := ⟨_, rfl⟩
  obtain ⟨n, hn, hn4, hn40⟩ : ∃ n : Nat, max 4 (min x 40) = (n : Int) ∧ 4 ≤ n ∧ n ≤ 40 := ⟨(max 4 (min x 40)).toNat, by omega, by omega, by omega⟩
  rw [hN] at _hc ⊢
  have HN := Lib.hid hN
  have HR := Lib.hid hr
  have HT := Lib.hid ht
  have hth := ht.1
  clear hN hm hr ht
  go_enter Tryd.func7, Tryd.ntmps7
  go_wp2_with fail
  refine (within_any x 4 40 w (by decide)).mono ?_
  rintro e w' ⟨rfl, rfl⟩
  rw [hn]
  clear hn
  go_wp2_with fail
  refine (diskNew_yes n w (by omega) (by omega)).mono ?_
  rintro e w1 ⟨rfl, hd1, hb1⟩
  have ho1 := walOpen_yes w1 _ (w.heap.size + 2) 0 n 1 0 (n + 1) (DiskMath.new n) hd1.lt (HT.out.below hb1) (by omega) (by simp [DiskMath.new]) (by simp [DiskMath.new]; omega) (by decide) (by decide) (by omega)
  have hns : WalMath.says (view (DiskMath.new n)) n (n + 1) 0 0 = ([], 0, 0) := by
    have hk := (WalMath.kept_new (n := n) (by omega)).core
    exact WalMath.says_none hk.none_
  rw [hns] at ho1
  have HO1 := Lib.hid ho1
  have HD1 := Lib.hid hd1.lt
  have HB1 := Lib.hid hb1
  have hs1 := hb1.size
  clear hd1 hb1 ho1 hns
  go_wp2_with fail
  refine HO1.out.mono ?_
  rintro e w2 ⟨v2, rfl, hl2, _, hb2⟩
  have HB2 := Lib.hid (below_then HB1.out hb2)
  have hs2 := hb2.size
  have hlp := hl2.lt
  have HM := Lib.hid (show KpMem w w2 (w.heap.size + 2) w1.heap.size (fun k => w.heap.size ≤ k ∧ k < w1.heap.size) (fun _ => False) ⟨n, 0, 1, 0, 0⟩ (DiskMath.new n) (.slice none 0 0) (.slice none 0 0) [] [] from
    ⟨hl2, HD1.out.below hb2, Rows8.nil _ _, Own8.nil _ _, fun y hy => by simp [Value.ownBlock] at hy, fun y hy => ⟨hy.1, by omega⟩, fun y hy => hy.elim, by omega, fun _ _ h => h, fun h => by have := h.2; omega, fun h => h, HB2.out, fun l hl => by simp at hl, by decide⟩)
  clear hl2 hb2 HO1 HD1 HB1
  go_wp2_with fail
  obtain ⟨p, hp⟩ : ∃ p, w.heap.size + 2 = p := ⟨_, rfl⟩
  rw [hp] at HM
  rw [hp]
  go_loopw [7, 10, 11, 12, 13] (fun sg sv su sd i wr => KpRel w n p sg sv su sd i wr) (fun _ _ _ _ i _ => 40 - (intOf i).toNat)
  case atStart => exact ⟨0, _, _, _, _, _, _, _, _, rfl, by decide, rfl, rfl, HM.out, WalMath.kept_new (by omega), Nat.le_refl _, Nat.le_refl _⟩
  case round =>
    clear HM HB2 hlp hs1 hs2 hp
    obtain ⟨k, lp, F, G, g, d, sure, maybe, doubt, rfl, hk, rfl, rfl, hmem, hkept, hep, hsl⟩ := hrel
    obtain ⟨wo, rfl⟩ : ∃ wo : World, wo = wr := ⟨_, rfl⟩
    obtain ⟨Av, cv, rfl, hcv⟩ := hmem.rows.shape
    obtain ⟨Au, nu, cu, rfl, hnu, hcu1, hcu2⟩ := hmem.may.shape'
    obtain ⟨ms, hms⟩ : ∃ ms, sure.length = ms := ⟨_, rfl⟩
    rw [hms] at hmem hcv hsl ⊢
    have HMS := Lib.hid hms
    have HNU := Lib.hid hnu
    clear hms hnu
    by_cases hgo : k < N ∧ k < 40
    · obtain ⟨hlt, h40⟩ := hgo
      obtain ⟨z, hz⟩ : ∃ z, ds[k]? = some z := ⟨_, List.getElem?_eq_getElem (by have := HN.out; omega)⟩
      obtain ⟨ad, Ab, cb, Al, cl, rfl, hadw, hda, halw⟩ := HR.out.at_ hmem.bel hz
      obtain ⟨dk, dn, db, dl⟩ := z
      have c0 := hda.c0
      simp only at c0
      have HDA := Lib.hid hda
      have HAL := Lib.hid (show Ns w Al dl from halw)
      have HMEM := Lib.hid hmem
      have HKE := Lib.hid hkept
      have HKF := Lib.hid (kept_facts hkept)
      have hsz := hmem.bel.size
      clear hda hmem hkept hz halw
      by_cases h0 : dk = 0
      · subst h0
        have c2 := HDA.out.c2
        simp only at c2
        rw [addr_fld _ _ 2 (by decide)] at c2
        obtain ⟨q1, q2, q3⟩ := HDA.out.hb
        simp only at q1 q2 q3
        have hcu := cut_bs Ab cb 150 db wo q1 q2 (by decide)
        obtain ⟨l0, hl0⟩ : ∃ l0, db.take 150 = l0 := ⟨_, rfl⟩
        have hb0 : Bs wo Ab l0 := by rw [← hl0]; exact q3.take 150
        have hl0l : l0.length ≤ 150 := by rw [← hl0]; exact List.length_take_le _ _
        have hcp := copy_any Ab cb l0 wo (by omega) hb0
        obtain ⟨m0, hm0⟩ : ∃ m0, l0.length = m0 := ⟨_, rfl⟩
        obtain ⟨mb, hmb⟩ : ∃ mb, db.length = mb := ⟨_, rfl⟩
        rw [hl0, hm0, hmb] at hcu
        rw [hmb] at c2
        rw [hm0] at hcp hl0l
        have HCU := Lib.hid hcu
        have HCP := Lib.hid hcp
        have HM0 := Lib.hid hm0
        clear hcu hcp hm0 hmb hl0 hb0 q1 q2 q3
        go_wp2_with fail
        refine HCU.out.mono ?_
        rintro e w' ⟨rfl, rfl⟩
        go_wp2_with fail
        refine HCP.out.mono ?_
        rintro e w3 ⟨v3, rfl, ho3, hb3⟩
        obtain ⟨A3, c3, rfl, hc3⟩ := own_shape ho3
        have ho3' : Own8 w3 wo.heap.size (.slice A3 m0 c3) l0 := by unfold Own8; rw [HM0.out]; exact ho3
        have hM3 := HMEM.out.more hb3
        have hpw := diskPower_any w3 F p d hM3.dk
        obtain ⟨f1, f2, f3, f4, f5, f6, f7⟩ := HKF.out
        have hap := walAppend_any w3 F lp p 0 g d A3 c3 l0 hM3.log hM3.dk (HT.out.below hM3.bel) hM3.fl (fun h => by have := (hM3.ownF _ h).1; omega) (by rw [HM0.out]; exact hc3) (own_capm ho3) ho3'.bs (by rw [HM0.out]; omega) f2 (by omega) (by omega) (by omega) (by omega) (by omega)
        have hka := WalMath.kept_append HKE.out l0 (by rw [HM0.out]; exact hl0l)
        have hae := append_epoch g d l0
        rw [HM0.out] at hap
        obtain ⟨dd, hdd⟩ : ∃ dd, d.dead = dd := ⟨_, rfl⟩
        rw [hdd] at hpw hka
        obtain ⟨r, hr⟩ : ∃ r, WalMath.append g d l0 = r := ⟨_, rfl⟩
        rw [hr] at hap hka hae
        obtain ⟨g', d', cd⟩ := r
        simp only at hka hae
        have HM3 := Lib.hid hM3
        have HO3 := Lib.hid ho3'
        have HPW := Lib.hid hpw
        have HAP := Lib.hid hap
        have HKA := Lib.hid hka
        have HAE := Lib.hid hae
        have hs3 := hb3.size
        clear ho3 ho3' hb3 hM3 hpw hap hka hae hdd hr f1 f2 f3 f4 f5 f6 f7 hc3 HCU HCP c2
        go_wp2_with fail
        refine HPW.out.mono ?_
        rintro e w' ⟨rfl, rfl⟩
        go_wp2_with fail
        refine HAP.out.mono ?_
        rintro e w4 ha4
        have hM4 := HM3.out.app ha4
        have ho4 : Own8 w4 0 (.slice A3 m0 c3) l0 := (HO3.out.base (Nat.zero_le _)).keep ha4.2.2.2 (fun y hy hf => by
          have h1 := (HO3.out.lt y hy).1
          rcases hf with hf | rfl
          · have := (HMEM.out.ownF y hf).2; omega
          · have := HMEM.out.log.lt; omega)
        have hG3 : ∀ y, (Value.slice A3 m0 c3).ownBlock = some y → G y ∨ (wo.heap.size ≤ y ∧ y < w3.heap.size) := fun y hy => .inr (HO3.out.lt y hy)
        have he := ha4.1
        simp only at he
        subst he
        have HM4 := Lib.hid hM4
        have HO4 := Lib.hid ho4
        have HG3 := Lib.hid hG3
        clear ha4 hM4 ho4 hG3 HPW HAP HM3
        rcases HKA.out with ⟨h1, h2⟩ | ⟨h1, h2, h3⟩ | ⟨h1, h2, h3⟩
        · subst h1
          have HK2 := Lib.hid h2
          clear h2 HKA
          go_wp2_with (at_builtin; refine wpList_pushR rfl (.tmp 73) (.tmp 75) rfl (fun y => G y ∨ (wo.heap.size ≤ y ∧ y < w3.heap.size)) (.slice Av ms cv) (.slice A3 m0 c3) sure l0 rfl HM4.out.rows rfl rfl HO4.out HG3.out (by have := HMS.out; omega) ?_; intro v5 w5 hr5 hk5 hv5; have HM5 := Lib.hid (HM4.out.push hr5 hk5 (by have := HM0.out; omega)); clear hr5 hk5 hv5)
          go_roundw
          case rel => exact ⟨k + 1, lp, _, _, g', d', sure ++ [l0], maybe, doubt, by go_num, by omega, rfl, rfl, HM5.out, HK2.out, by have := HAE.out; omega, by have := HMS.out; simp; omega⟩
          case measure => simp [intOf]; omega
        · subst h1 h2
          have HK2 := Lib.hid h3
          clear h3 HKA
          go_wp2_with fail
          go_roundw
          case rel => exact ⟨k + 1, lp, _, _, g', d', sure, l0, true, by go_num, by omega, rfl, rfl, HM4.out.set HO4.out HG3.out (by have := HM0.out; omega), HK2.out, by have := HAE.out; omega, by have := HMS.out; omega⟩
          case measure => simp [intOf]; omega
        · have HK2 := Lib.hid h3
          have n1 : ((cd : Int) == 0) = false := by rw [beq_eq_false_iff_ne]; omega
          clear h3 HKA
          by_cases h7 : cd = 7
          · subst h7
            obtain rfl : dd = true := h2 rfl
            clear h1 h2 n1
            go_wp2_with fail
            go_roundw
            case rel => exact ⟨k + 1, lp, _, _, g', d', sure, maybe, doubt, by go_num, by omega, rfl, rfl, HM4.out, HK2.out, by have := HAE.out; omega, by have := HMS.out; omega⟩
            case measure => simp [intOf]; omega
          · have n7 : ((cd : Int) == 7) = false := by rw [beq_eq_false_iff_ne]; omega
            clear h1 h2 h7
            go_wp2_with fail
            go_roundw
            case rel => exact ⟨k + 1, lp, _, _, g', d', sure, maybe, doubt, by go_num, by omega, rfl, rfl, HM4.out, HK2.out, by have := HAE.out; omega, by have := HMS.out; omega⟩
            case measure => simp [intOf]; omega
      · have e0 : (dk == 0) = false := beq_eq_false_iff_ne.2 h0
        clear h0
        by_cases h2 : dk = 2
        · subst h2
          have c1 := HDA.out.c1
          simp only at c1
          rw [addr_fld _ _ 1 (by decide)] at c1
          go_wp2_with fail
          refine (diskArm_any wo F p d dn HDA.out.hn.1 HDA.out.hn.2 HMEM.out.dk).mono ?_
          rintro e w3 ⟨rfl, hd3, hk3, _⟩
          have HM3 := Lib.hid (HMEM.out.step hk3 hd3)
          clear hd3 hk3 c1
          go_wp2_with fail
          go_roundw
          case rel => exact ⟨k + 1, lp, F, G, g, _, sure, maybe, doubt, by go_num, by omega, rfl, rfl, HM3.out, WalMath.kept_arm HKE.out dn, by omega, by have := HMS.out; omega⟩
          case measure => simp [intOf]; omega
        · have e2 : (dk == 2) = false := beq_eq_false_iff_ne.2 h2
          clear h2
          by_cases h3 : dk = 3
          · subst h3
            have c3 := HDA.out.c3
            simp only at c3
            rw [addr_fld _ _ 3 (by decide)] at c3
            have hcr := diskCrash_any wo F p d Al cl dl HMEM.out.dk HDA.out.hl.1 HDA.out.hl.2.1 (HAL.out.below HMEM.out.bel) (fun a2 he hn hf => by
              obtain ⟨a3, e3, h3, _⟩ := HAL.out.at_ (k := 0) (List.length_pos_iff.2 hn)
              rw [he] at e3; injection e3 with e3; subst e3
              have := (HMEM.out.ownF _ hf).1; omega)
            obtain ⟨f1, f2, f3, f4, f5, f6, f7⟩ := HKF.out
            have hkc := WalMath.kept_crash HKE.out dl 100 (by have := HMS.out; omega) (by omega)
            have hcl : (crash d dl).fast.length = n := (torn_length _ _ _).trans f3
            have hvw : view (crash d dl) = (crash d dl).fast := rfl
            obtain ⟨ml, hml⟩ : ∃ ml, dl.length = ml := ⟨_, rfl⟩
            rw [hml] at hcr c3
            obtain ⟨d', hd'⟩ : ∃ d', crash d dl = d' := ⟨_, rfl⟩
            rw [hd'] at hcr hkc hcl hvw
            obtain ⟨nw, hnw⟩ : ∃ nw, WalMath.newest d'.fast = nw := ⟨_, rfl⟩
            rw [hnw] at hkc
            have hnst : nwst (view d') 0 (n - 0) = nw := by
              unfold nwst
              rw [hvw, List.drop_zero, List.take_of_length_le (by omega), hnw]
            obtain ⟨hk1, all, a', hk2, hk3, hk4⟩ := hkc
            rw [← hvw] at hk2
            have HCR := Lib.hid hcr
            have HS := Lib.hid (show _ ∧ _ ∧ _ from ⟨hcl, hnst, hk2⟩)
            have HK4 := Lib.hid hk4
            have HK3 := Lib.hid hk3
            clear hcr hcl hvw hd' hnw hnst hk2 hk3 hk4 hml f1 f2 f3 f4 f5 f6 f7
            go_wp2_with fail
            refine HCR.out.mono ?_
            rintro e w3 ⟨rfl, hd3, hk3'⟩
            have hM3 := HMEM.out.step hk3' hd3
            have hnw := walNewest_yes w3 F p d' 0 n hM3.dk (by omega) (by have := HS.out.1; omega) (by have := HS.out.1; omega)
            rw [HS.out.2.1] at hnw
            have HNW := Lib.hid hnw
            have HM3 := Lib.hid hM3
            clear hd3 hk3' hM3 hnw HCR c3
            go_wp2_with fail
            refine HNW.out.mono ?_
            rintro e w4 ⟨rfl, hb4⟩
            have hM4 := HM3.out.below hb4
            have hop : Calls Tryd.prog 32 #[.pointer (some ⟨p, 0, none⟩), .int .i64 0, .int .i64 n, .int .i64 ((nw : Int) + 1), .int .i64 0] w4 (OpnPost p 0 n (nw + 1) (WalMath.says (view d') n 100 0 0) w4) := walOpen_yes w4 F p 0 n (nw + 1) 0 100 d' hM4.dk (HT.out.below hM4.bel) (by omega) (by have := HS.out.1; omega) (by have := HS.out.1; omega) (by omega) (by decide) (by omega)
            rw [HS.out.2.2] at hop
            have HOP := Lib.hid hop
            have HM4 := Lib.hid hM4
            clear hb4 hM4 hop HNW HM3
            go_wp2_with fail
            refine HOP.out.mono ?_
            rintro e w5 ⟨v5, rfl, hl5, hr5, hb5⟩
            simp only at hl5 hr5
            have hM5 := HM4.out.relog hb5 hl5 (Nat.le_refl _)
            obtain ⟨A5, c5, rfl, hc5⟩ := hr5.shape
            have hgl4 : ∀ y, G y → y < w4.heap.size := fun y hy => (HM4.out.ownG y hy).2
            obtain ⟨lp', hlp'⟩ : ∃ lp', w4.heap.size = lp' := ⟨_, rfl⟩
            rw [hlp'] at hM5 hr5 hgl4 ⊢
            have HGL4 := Lib.hid hgl4
            clear hgl4
            have HM5 := Lib.hid hM5
            have HR5 := Lib.hid hr5
            clear hl5 hb5 hM5 hr5 hlp' HOP HM4 hc5
            rcases HK3.out with rfl | ⟨rfl, rfl⟩
            · have hsm : ∀ w', Below w5.heap.size w5 w' → Calls Tryd.prog 39 #[.slice A5 all.length c5, .slice Av ms cv] w' fun e w'' => e = .returned (.bool true) ∧ Below w'.heap.size w' w'' := fun w' h => by
                have := sameRows_any w' _ _ A5 Av ms c5 cv all HMS.out (by omega) (by have := HR5.out.below h; rwa [HMS.out] at this) (HM5.out.rows.below h) (fun l hl => by have := HM5.out.lens l hl; omega)
                rwa [HMS.out]
              rw [HMS.out] at hsm ⊢
              have HSM := Lib.hid hsm
              have n1 : ((ms : Int) == (ms : Int) + 1) = false := by rw [beq_eq_false_iff_ne]; omega
              clear hsm HK3
              by_cases hp : 0 < ms
              · cases doubt
                all_goals
                  go_wp2_with fail
                  refine (HSM.out _ (Below.refl _ _)).mono ?_
                  rintro e w6 ⟨rfl, hb6⟩
                  have HM6 := Lib.hid (HM5.out.below hb6)
                  clear hb6
                  go_wp2_with fail
                  go_roundw
                  case rel => exact ⟨k + 1, lp', F, G, _, d', all, maybe, false, by go_num, by omega, rfl, rfl, HM6.out, HK4.out maybe, by simp only; omega, by have := HMS.out; omega⟩
                  case measure => simp [intOf]; omega
              · obtain rfl : ms = 0 := by omega
                go_wp2_with fail
                refine (HSM.out _ (Below.refl _ _)).mono ?_
                rintro e w6 ⟨rfl, hb6⟩
                have HM6 := Lib.hid (HM5.out.below hb6)
                clear hb6
                go_wp2_with fail
                go_roundw
                case rel => exact ⟨k + 1, lp', F, G, _, d', all, maybe, false, by go_num, by omega, rfl, rfl, HM6.out, HK4.out maybe, by simp only; omega, by have := HMS.out; omega⟩
                case measure => simp [intOf]; omega
            · have hlen : (sure ++ [maybe]).length = ms + 1 := by have := HMS.out; simp; omega
              have hx : (sure ++ [maybe])[ms]? = some maybe := by rw [List.getElem?_append_right (by have := HMS.out; omega), HMS.out, Nat.sub_self]; rfl
              obtain ⟨g5, c5', u5, hv5, _, hg5, _, hcl5, ho5, _⟩ := HR5.out.at_ hx
              injection hv5 with z1 z2 z3
              subst z1 z3
              obtain ⟨B5, n5, d5, rfl, hn5, _, _⟩ := ho5.shape'
              have hmaylen := HM5.out.mlen
              have hs1 := fun w' (h : Below w5.heap.size w5 w') => same_at B5 Au d5 cu n5 nu maybe maybe w' hn5 HNU.out (by omega) (by have := HNU.out; omega) (ho5.bs.below h) (HM5.out.may.bs.below h)
              simp only [sameB_self] at hs1
              rw [hlen]
              have HS1 := Lib.hid hs1
              have HLEN := Lib.hid hlen
              have HG5 := Lib.hid hg5
              have j0 : (0 : Int) ≤ (ms : Int) := by omega
              have j1 : (ms : Int) < (ms : Int) + 1 := by omega
              clear hlen hx ho5 hn5 hs1 hmaylen z2 hg5
              go_wp2_with fail
              refine (HS1.out _ (Below.refl _ _)).mono ?_
              rintro e w6 ⟨rfl, hb6⟩
              have HM6 := Lib.hid (HM5.out.below hb6)
              have HR6 := Lib.hid (HR5.out.below hb6)
              clear hb6 HS1 hcl5 HM5 HR5 HG5 j0 j1
              go_wp2_with (at_builtin; refine wpList_pushR rfl (.tmp 146) (.tmp 148) rfl G (.slice Av ms cv) (.slice Au nu cu) sure maybe rfl HM6.out.rows rfl rfl HM6.out.may HM6.out.mayG (by have := HMS.out; omega) ?_; intro v7 w7 hr7 hk7 hv7; have HM7 := Lib.hid (HM6.out.push hr7 hk7 HM6.out.mlen); have HR7 := Lib.hid (HR6.out.kept hk7 (fun y hy e => by obtain ⟨_, _, h2, _⟩ := HM6.out.rows; have := HGL4.out y (h2 y e); omega)); obtain ⟨A7, c7, rfl, _⟩ := hr7.shape; rw [HLEN.out]; clear hr7 hk7 hv7)
              have hsm := sameRows_any w7 _ _ (some ⟨g5, 0, none⟩) A7 (ms + 1) c5 c7 (sure ++ [maybe]) HLEN.out (by omega) (by have := HR7.out; rwa [HLEN.out] at this) (by have := HM7.out.rows; rwa [HLEN.out] at this) (fun l hl => by have := HM7.out.lens l hl; omega)
              have HSM := Lib.hid hsm
              clear hsm
              refine HSM.out.mono ?_
              rintro e w8 ⟨rfl, hb8⟩
              have hm8 := HM7.out.below hb8
              rw [HLEN.out] at hm8
              have HM8 := Lib.hid hm8
              clear hb8 hm8
              go_wp2_with fail
              go_roundw
              case rel => exact ⟨k + 1, lp', F, _, _, d', sure ++ [maybe], maybe, false, by go_num, by omega, rfl, rfl, HM8.out, HK4.out maybe, by simp only; omega, by have := HMS.out; simp; omega⟩
              case measure => simp [intOf]; omega
          · have e3 : (dk == 3) = false := beq_eq_false_iff_ne.2 h3
            clear h3
            go_wp2_with fail
            go_roundw
            case rel => exact ⟨k + 1, lp, F, G, g, d, sure, maybe, doubt, by go_num, by omega, rfl, rfl, HMEM.out, HKE.out, by omega, by have := HMS.out; omega⟩
            case measure => simp [intOf]; omega
    · have hx : ¬ k < N ∨ (k < N ∧ ¬ k < 40) := by omega
      have HB := Lib.hid hmem.bel
      clear hgo hmem hkept
      rcases hx with hx | ⟨hx, hy⟩
      all_goals
        go_wp2_with fail
        refine (walLives_any wo (HT.out.below HB.out)).mono ?_
        rintro e w8 ⟨rfl, hb8⟩
        have HB8 := Lib.hid (below_then HB.out hb8)
        clear hb8
        go_wp2_with fail
        go_ret
        exact ⟨rfl, HB8.out⟩
end Go.Proofs.YtckihiiimomgfaaDoor
