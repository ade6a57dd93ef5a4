/- The walk of the statement that slots are crash safe: SlotKept. -/
import Derived.Test.YtckihiiimomgfaaDoorSlotLaws
import Derived.Test.YtckihiiimomgfaaDoorOpenDo10
import Derived.Test.YtckihiiimomgfaaDoorGDisk
namespace Go.Proofs.YtckihiiimomgfaaDoor
open Go.RowKit DiskMath
theorem rdU_put (x : Nat) (r : List UInt8) (hx : x < 18446744073709551616) : rdU (WireMath.put x ++ r) 0 = (x, r, 0) := by
  unfold rdU
  rw [if_neg (by simp), WireMath.get_put x r hx]
  simp
theorem slDec_enc (k : Nat) (b : List UInt8) (hk : k ≤ 4611686018427387904) (hb : b.length ≤ 65520) : slDec (slEnc k b) = (k, b) := by
  have h1 : rdN 4611686018427387904 (slEnc k b) 0 = (k, bytesOf b, 0) := by
    unfold rdN slEnc
    rw [rdU_put k _ (by omega), if_neg (by simp), if_neg (by simp only; omega)]
  have h2 : rdN 2147483647 (bytesOf b) 0 = (b.length, b, 0) := by
    unfold rdN bytesOf
    rw [rdU_put b.length _ (by omega), if_neg (by simp), if_neg (by simp only; omega)]
  have h3 : rdBytes (bytesOf b) 0 = (b, [], 0) := by
    unfold rdBytes
    rw [h2, if_neg (by simp), if_neg (by simp)]
    simp
  unfold slDec
  rw [h1]
  simp only [h3]
  rfl
theorem slEnc_short (k : Nat) (b : List UInt8) (hk : k ≤ 4611686018427387904) (hb : b.length ≤ 200) : (slEnc k b).length ≤ 380 := by
  unfold slEnc bytesOf
  have h1 := WireMath.put_le 8 k (by omega)
  have h2 := WireMath.put_le 2 b.length (by omega)
  simp only [List.length_append]
  omega
/-- slots, their disk, what is sure, what may be: in blocks apart -/
structure KsMem (W w : World) (p sp : Nat) (F G : Nat → Prop) (s : SlotMath.Sl) (d : Dk) (v u : Value) (sure maybe : List UInt8) : Prop where
  slot : SlotB w sp p 0 s
  dk : DiskAt w F p d
  su : Own8 w 0 v sure
  suG : ∀ x, v.ownBlock = some x → G x
  may : Own8 w 0 u maybe
  mayG : ∀ x, u.ownBlock = some x → G x
  ownF : ∀ x, F x → W.heap.size ≤ x ∧ x < w.heap.size
  ownG : ∀ x, G x → W.heap.size ≤ x ∧ x < w.heap.size
  ownL : W.heap.size ≤ sp
  fg : ∀ x, F x → ¬ G x
  fl : ¬ F sp
  gl : ¬ G sp
  bel : Below W.heap.size W w
  slen : sure.length ≤ 65536
  mlen : maybe.length ≤ 200
section
variable {W w w' : World} {p sp : Nat} {F G : Nat → Prop} {s : SlotMath.Sl} {d d' : Dk} {v u : Value} {sure maybe : List UInt8}
theorem KsMem.below (h : KsMem W w p sp F G s d v u sure maybe) (hb : Below w.heap.size w w') : KsMem W w' p sp F G s d v u sure maybe :=
  ⟨h.slot.below hb, h.dk.below hb, h.su.below hb, h.suG, h.may.below hb, h.mayG, fun x hx => ⟨(h.ownF x hx).1, Nat.lt_of_lt_of_le (h.ownF x hx).2 hb.size⟩, fun x hx => ⟨(h.ownG x hx).1, Nat.lt_of_lt_of_le (h.ownG x hx).2 hb.size⟩, h.ownL, h.fg, h.fl, h.gl, below_then h.bel hb, h.slen, h.mlen⟩
theorem KsMem.step (h : KsMem W w p sp F G s d v u sure maybe) (hk : Kept F w w') (hd : DiskAt w' F p d') : KsMem W w' p sp F G s d' v u sure maybe :=
  ⟨h.slot.kept hk h.fl, hd, h.su.keep hk (fun x hx hf => h.fg x hf (h.suG x hx)), h.suG, h.may.keep hk (fun x hx hf => h.fg x hf (h.mayG x hx)), h.mayG, fun x hx => ⟨(h.ownF x hx).1, Nat.lt_of_lt_of_le (h.ownF x hx).2 hk.size⟩, fun x hx => ⟨(h.ownG x hx).1, Nat.lt_of_lt_of_le (h.ownG x hx).2 hk.size⟩, h.ownL, h.fg, h.fl, h.gl,
    h.bel.trans (hk.below (B := W.heap.size) (fun x _ hx => (h.ownF x hx).1) h.bel.size), h.slen, h.mlen⟩
theorem KsMem.app {r : SlotMath.Sl × Dk × Nat} {e : Ending} (h : KsMem W w p sp F G s d v u sure maybe) (ha : SavPost F sp p 0 r w e w') : KsMem W w' p sp (fun x => (F x ∨ w.heap.size ≤ x) ∧ x < w'.heap.size) G r.1 r.2.1 v u sure maybe := by
  obtain ⟨_, hl, hd, hk⟩ := ha
  have hs := hk.size
  have hbs := h.bel.size
  have hlp := h.slot.lt
  have hg : ∀ x, G x → ¬ (F x ∨ x = sp) := fun x hx hf => by
    rcases hf with hf | rfl
    · exact h.fg x hf hx
    · exact h.gl hx
  refine ⟨hl, hd.lt, h.su.keep hk (fun x hx => hg x (h.suG x hx)), h.suG, h.may.keep hk (fun x hx => hg x (h.mayG x hx)), h.mayG, fun x hx => ⟨?_, hx.2⟩, fun x hx => ⟨(h.ownG x hx).1, Nat.lt_of_lt_of_le (h.ownG x hx).2 hs⟩, h.ownL, fun x hx hgx => ?_, fun hx => ?_, h.gl, h.bel.trans (hk.below (B := W.heap.size) (fun x _ hx => ?_) hbs), h.slen, h.mlen⟩
  · rcases hx.1 with hf | hf
    · exact (h.ownF x hf).1
    · omega
  · rcases hx.1 with hf | hf
    · exact h.fg x hf hgx
    · have := (h.ownG x hgx).2; omega
  · rcases hx.1 with hf | hf
    · exact h.fl hf
    · omega
  · rcases hx with hf | rfl
    · exact (h.ownF x hf).1
    · exact h.ownL
/-- more blocks of one's own, behind the others, but one -/
theorem KsMem.more {wx : World} (z : Nat) (h : KsMem W w p sp F G s d v u sure maybe) (hb : Below w.heap.size w wx) : KsMem W wx p sp F (fun x => G x ∨ (w.heap.size ≤ x ∧ x < wx.heap.size ∧ x ≠ z)) s d v u sure maybe := by
  have h' := h.below hb
  have hs := hb.size
  have hbs := h.bel.size
  have hlp := h.slot.lt
  refine ⟨h'.slot, h'.dk, h'.su, fun x hx => .inl (h.suG x hx), h'.may, fun x hx => .inl (h.mayG x hx), h'.ownF, fun x hx => ?_, h.ownL, fun x hx hgx => ?_, h.fl, fun hx => ?_, h'.bel, h.slen, h.mlen⟩
  · rcases hx with hx | hx
    · exact h'.ownG x hx
    · omega
  · rcases hgx with hgx | hgx
    · exact h.fg x hx hgx
    · have := (h.ownF x hx).2; omega
  · rcases hx with hx | hx
    · exact h.gl hx
    · omega
theorem KsMem.setS {u' : Value} {m : List UInt8} (h : KsMem W w p sp F G s d v u sure maybe) (ho : Own8 w 0 u' m) (hG : ∀ x, u'.ownBlock = some x → G x) (hl : m.length ≤ 65536) : KsMem W w p sp F G s d u' u m maybe :=
  ⟨h.slot, h.dk, ho, hG, h.may, h.mayG, h.ownF, h.ownG, h.ownL, h.fg, h.fl, h.gl, h.bel, hl, h.mlen⟩
theorem KsMem.setM {u' : Value} {m : List UInt8} (h : KsMem W w p sp F G s d v u sure maybe) (ho : Own8 w 0 u' m) (hG : ∀ x, u'.ownBlock = some x → G x) (hl : m.length ≤ 200) : KsMem W w p sp F G s d v u' sure m :=
  ⟨h.slot, h.dk, h.su, h.suG, ho, hG, h.ownF, h.ownG, h.ownL, h.fg, h.fl, h.gl, h.bel, h.slen, hl⟩
/-- other slots -/
theorem KsMem.reslot {sp' : Nat} {s' : SlotMath.Sl} (h : KsMem W w p sp F G s d v u sure maybe) (hl : SlotB w sp' p 0 s') (ho : W.heap.size ≤ sp') (hf : ¬ F sp') (hg : ¬ G sp') : KsMem W w p sp' F G s' d v u sure maybe :=
  ⟨hl, h.dk, h.su, h.suG, h.may, h.mayG, h.ownF, h.ownG, ho, h.fg, hf, hg, h.bel, h.slen, h.mlen⟩
end
theorem skept_facts {size c : Nat} {s : SlotMath.Sl} {d : Dk} {sure maybe : List UInt8} {doubt : Bool} (h : SlotMath.SKept slDec slEnc size c s d sure maybe doubt) (hs : size ≤ 8) : s.size = size ∧ s.last ≤ 1 ∧ d.fast.length = 2 * size ∧ s.epoch ≤ c + 1 ∧ s.seq ≤ 10 * c ∧ s.number ≤ c ∧ d.waits.length ≤ 8 := by
  obtain ⟨q, hc, _, _, his⟩ := h.core
  refine ⟨h.sz, hc.is, hc.len, h.epoch, h.seq, h.num, ?_⟩
  rcases his with ⟨_, _, h3, _⟩ | ⟨_, _, _, m, h4, h5, h6, h7⟩
  · rw [h3]; decide
  · rw [h7]
    simp [WalMath.wl]
    omega
def KsRel (W : World) (size p : Nat) (sg sv su sd i : Value) (wr : World) : Prop :=
  ∃ (k sp : Nat) (F G : Nat → Prop) (s : SlotMath.Sl) (d : Dk) (sure maybe : List UInt8) (doubt : Bool), i = .int .i64 (k : Int) ∧ k ≤ 40 ∧ sg = .pointer (some ⟨sp, 0, none⟩) ∧ sd = .bool doubt ∧ KsMem W wr p sp F G s d sv su sure maybe ∧ SlotMath.SKept slDec slEnc size k s d sure maybe doubt
set_option maxRecDepth 100000 in
set_option maxHeartbeats 1000000 in
theorem slotKept_walk (x : Int) (A : Option Addr) (c : Nat) (ds : List D10) (w : World) (_hc : ds.length ≤ c) (hm : c ≤ maxLen) (hr : D10s w A ds) (ht : Halves w) :
    Calls Tryd.prog 3 #[.int .i64 x, .slice A ds.length c] w fun e w' => e = .returned (.bool true) ∧ Below w.heap.size w w' := by
  have hcm : c ≤ 9223372036854775807 := by unfold maxLen at hm; omega
  obtain ⟨N, hN⟩ : ∃ N, ds.length = N := ⟨_, rfl⟩
  obtain ⟨n, hn, hn1, hn8⟩ : ∃ n : Nat, max 1 (min x 8) = (n : Int) ∧ 1 ≤ n ∧ n ≤ 8 := ⟨(max 1 (min x 8)).toNat, by omega, by omega, by omega⟩
  obtain ⟨n2, hn2⟩ : ∃ n2, 2 * n = n2 := ⟨_, rfl⟩
  rw [hN] at _hc ⊢
  have HN := Lib.hid hN
  have HN2 := Lib.hid hn2
  have HR := Lib.hid hr
  have HT := Lib.hid ht
  have hth := ht.1
  have e2 : (2 : Int) * (n : Int) = (n2 : Int) := by omega
  have hn216 : n2 ≤ 16 := by omega
  have hn22 : 2 ≤ n2 := by omega
  clear hN hm hr ht hn2
  go_enter Tryd.func3, Tryd.ntmps3
  go_wp2_with fail
  refine (within_any x 1 8 w (by decide)).mono ?_
  rintro e w' ⟨rfl, rfl⟩
  rw [hn]
  clear hn
  go_wp2_with fail
  refine (diskNew_yes n2 w (by omega) (by omega)).mono ?_
  rintro e w1 ⟨rfl, hd1, hb1⟩
  have hkn : SlotMath.SKept slDec slEnc n 0 ⟨n, 1, 0, 0, 1, 0⟩ (DiskMath.new n2) [] [] false := by rw [← HN2.out]; exact SlotMath.kept_new
  have ho1 := slotOpen_yes w1 _ (w.heap.size + 2) 0 n 1 (DiskMath.new n2) hd1.lt (HT.out.below hb1) hn1 (by simp [DiskMath.new]; have := HN2.out; omega) (by simp [DiskMath.new]; omega) (by decide)
  have hop : SlotMath.opens slDec (view (DiskMath.new n2)) 0 n = (0, 1, []) := by
    obtain ⟨q, hc, _⟩ := hkn.core
    exact SlotMath.core_open hc
  rw [hop] at ho1
  have HO1 := Lib.hid ho1
  have HD1 := Lib.hid hd1.lt
  have HB1 := Lib.hid hb1
  have HKN := Lib.hid hkn
  have hs1 := hb1.size
  clear hd1 hb1 ho1 hop hkn
  go_wp2_with fail
  refine HO1.out.mono ?_
  rintro e w2 ⟨v2, rfl, hl2, ho2, hb2⟩
  obtain ⟨A2, m2, c2, rfl, hm2, _, _⟩ := ho2.shape'
  obtain rfl : m2 = 0 := by simpa using hm2.symm
  have HB2 := Lib.hid (below_then HB1.out hb2)
  have hs2 := hb2.size
  have hlp := hl2.lt
  have HM := Lib.hid (show KsMem w w2 (w.heap.size + 2) w1.heap.size (fun k => w.heap.size ≤ k ∧ k < w1.heap.size) (fun _ => False) ⟨n, 1, 0, 0, 1, 0⟩ (DiskMath.new n2) (.slice none 0 0) (.slice none 0 0) [] [] from
    ⟨hl2, HD1.out.below hb2, Own8.nil _ _, fun y hy => by simp [Value.ownBlock] at hy, Own8.nil _ _, fun y hy => by simp [Value.ownBlock] at hy, fun y hy => ⟨hy.1, by omega⟩, fun y hy => hy.elim, by omega, fun _ _ h => h, fun h => by have := h.2; omega, fun h => h, HB2.out, by decide, by decide⟩)
  clear hl2 ho2 hb2 HO1 HD1 HB1 hm2
  go_wp2_with fail
  obtain ⟨p, hp⟩ : ∃ p, w.heap.size + 2 = p := ⟨_, rfl⟩
  rw [hp] at HM
  rw [hp]
  go_loopw [7, 10, 11, 12, 13] (fun sg sv su sd i wr => KsRel w n p sg sv su sd i wr) (fun _ _ _ _ i _ => 40 - (intOf i).toNat)
  case atStart => exact ⟨0, _, _, _, _, _, _, _, _, rfl, by decide, rfl, rfl, HM.out, HKN.out⟩
  case round =>
    clear HM HB2 hlp hs1 hs2 hp HKN
    obtain ⟨k, sp, F, G, s, d, sure, maybe, doubt, rfl, hk, rfl, rfl, hmem, hkept⟩ := hrel
    obtain ⟨wo, rfl⟩ : ∃ wo : World, wo = wr := ⟨_, rfl⟩
    obtain ⟨Av, nv, cv, rfl, hnv, _, _⟩ := hmem.su.shape'
    obtain ⟨Au, nu, cu, rfl, hnu, _, _⟩ := hmem.may.shape'
    have HNV := Lib.hid hnv
    have HNU := Lib.hid hnu
    clear hnv hnu
    by_cases hgo : k < N ∧ k < 40
    · obtain ⟨hlt, h40⟩ := hgo
      obtain ⟨z, hz⟩ : ∃ z, ds[k]? = some z := ⟨_, List.getElem?_eq_getElem (by have := HN.out; omega)⟩
      obtain ⟨ad, Ab, cb, Al, cl, rfl, hadw, hda, halw⟩ := HR.out.at_ hmem.bel hz
      obtain ⟨dk, dn, db, dl⟩ := z
      have c0 := hda.c0
      simp only at c0
      have HDA := Lib.hid hda
      have HAL := Lib.hid (show Ns w Al dl from halw)
      have HMEM := Lib.hid hmem
      have HKE := Lib.hid hkept
      have HKF := Lib.hid (skept_facts hkept hn8)
      have hsz := hmem.bel.size
      clear hda hmem hkept hz halw
      by_cases h0 : dk = 0
      · subst h0
        have c2 := HDA.out.c2
        simp only at c2
        rw [addr_fld _ _ 2 (by decide)] at c2
        obtain ⟨q1, q2, q3⟩ := HDA.out.hb
        simp only at q1 q2 q3
        have hcu := cut_bs Ab cb 200 db wo q1 q2 (by decide)
        obtain ⟨l0, hl0⟩ : ∃ l0, db.take 200 = l0 := ⟨_, rfl⟩
        have hb0 : Bs wo Ab l0 := by rw [← hl0]; exact q3.take 200
        have hl0l : l0.length ≤ 200 := by rw [← hl0]; exact List.length_take_le _ _
        have hcp := copy_any Ab cb l0 wo (by omega) hb0
        obtain ⟨m0, hm0⟩ : ∃ m0, l0.length = m0 := ⟨_, rfl⟩
        obtain ⟨mb, hmb⟩ : ∃ mb, db.length = mb := ⟨_, rfl⟩
        rw [hl0, hm0, hmb] at hcu
        rw [hmb] at c2
        rw [hm0] at hcp hl0l
        have HCU := Lib.hid hcu
        have HCP := Lib.hid hcp
        have HM0 := Lib.hid hm0
        clear hcu hcp hm0 hmb hl0 hb0 q1 q2 q3
        go_wp2_with fail
        refine HCU.out.mono ?_
        rintro e w' ⟨rfl, rfl⟩
        go_wp2_with fail
        refine HCP.out.mono ?_
        rintro e w3 ⟨v3, rfl, ho3, hb3⟩
        obtain ⟨A3, c3, rfl, hc3⟩ := own_shape ho3
        have ho3' : Own8 w3 wo.heap.size (.slice A3 m0 c3) l0 := by unfold Own8; rw [HM0.out]; exact ho3
        have hM3 := HMEM.out.more w3.heap.size hb3
        have hpw := diskPower_any w3 F p d hM3.dk
        obtain ⟨f1, f2, f3, f4, f5, f6, f7⟩ := HKF.out
        have hap := slotSave_any w3 F sp p 0 s d A3 c3 l0 hM3.slot hM3.dk (HT.out.below hM3.bel) hM3.fl (fun h => by have := (hM3.ownF _ h).1; omega) (by have := hM3.ownL; omega) ho3'.bs (by rw [HM0.out]; omega) f2 (by rw [f1]; omega) (by have := HN2.out; omega) (by omega) (by omega) (by omega) (by omega)
        have hka := SlotMath.kept_save HKE.out l0 (by rw [HM0.out]; exact hl0l) (by omega) (slDec_enc _ _ (by omega) (by rw [HM0.out]; omega)) (slEnc_short _ _ (by omega) (by rw [HM0.out]; omega))
        rw [HM0.out] at hap
        obtain ⟨dd, hdd⟩ : ∃ dd, d.dead = dd := ⟨_, rfl⟩
        rw [hdd] at hpw hka
        obtain ⟨r, hr⟩ : ∃ r, SlotMath.save slEnc 0 s d l0 = r := ⟨_, rfl⟩
        rw [hr] at hap hka
        obtain ⟨s', d', cd⟩ := r
        simp only at hka
        have HM3 := Lib.hid hM3
        have HO3 := Lib.hid ho3'
        have HPW := Lib.hid hpw
        have HAP := Lib.hid hap
        have HKA := Lib.hid hka
        have hs3 := hb3.size
        clear ho3 ho3' hb3 hM3 hpw hap hka hdd hr f1 f2 f3 f4 f5 f6 f7 hc3 HCU HCP c2
        go_wp2_with fail
        refine HPW.out.mono ?_
        rintro e w' ⟨rfl, rfl⟩
        go_wp2_with fail
        refine HAP.out.mono ?_
        rintro e w4 ha4
        have hM4 := HM3.out.app ha4
        have ho4 : Own8 w4 0 (.slice A3 m0 c3) l0 := (HO3.out.base (Nat.zero_le _)).keep ha4.2.2.2 (fun y hy hf => by
          have h1 := (HO3.out.lt y hy).1
          rcases hf with hf | rfl
          · have := (HMEM.out.ownF y hf).2; omega
          · have := HMEM.out.slot.lt; omega)
        have hG3 : ∀ y, (Value.slice A3 m0 c3).ownBlock = some y → G y ∨ (wo.heap.size ≤ y ∧ y < w3.heap.size ∧ y ≠ w3.heap.size) := fun y hy => .inr (by have := HO3.out.lt y hy; omega)
        have he := ha4.1
        simp only at he
        subst he
        have HM4 := Lib.hid hM4
        have HO4 := Lib.hid ho4
        have HG3 := Lib.hid hG3
        clear ha4 hM4 ho4 hG3 HPW HAP HM3
        rcases HKA.out with ⟨h1, h2⟩ | ⟨h1, h2, h3⟩ | ⟨h1, h2, h3⟩
        · subst h1
          have HK2 := Lib.hid h2
          clear h2 HKA
          go_wp2_with fail
          go_roundw
          case rel => exact ⟨k + 1, sp, _, _, s', d', l0, maybe, doubt, by go_num, by omega, rfl, rfl, HM4.out.setS HO4.out HG3.out (by have := HM0.out; omega), HK2.out⟩
          case measure => simp [intOf]; omega
        · subst h1 h2
          have HK2 := Lib.hid h3
          clear h3 HKA
          go_wp2_with fail
          go_roundw
          case rel => exact ⟨k + 1, sp, _, _, s', d', sure, l0, true, by go_num, by omega, rfl, rfl, HM4.out.setM HO4.out HG3.out (by have := HM0.out; omega), HK2.out⟩
          case measure => simp [intOf]; omega
        · have HK2 := Lib.hid h3
          have n1 : ((cd : Int) == 0) = false := by rw [beq_eq_false_iff_ne]; omega
          clear h3 HKA
          by_cases h7 : cd = 7
          · subst h7
            obtain rfl : dd = true := h2 rfl
            clear h1 h2 n1
            go_wp2_with fail
            go_roundw
            case rel => exact ⟨k + 1, sp, _, _, s', d', sure, maybe, doubt, by go_num, by omega, rfl, rfl, HM4.out, HK2.out⟩
            case measure => simp [intOf]; omega
          · have n7 : ((cd : Int) == 7) = false := by rw [beq_eq_false_iff_ne]; omega
            clear h1 h2 h7
            go_wp2_with fail
            go_roundw
            case rel => exact ⟨k + 1, sp, _, _, s', d', sure, maybe, doubt, by go_num, by omega, rfl, rfl, HM4.out, HK2.out⟩
            case measure => simp [intOf]; omega
      · have e0 : (dk == 0) = false := beq_eq_false_iff_ne.2 h0
        clear h0
        by_cases h2 : dk = 1
        · subst h2
          have c1 := HDA.out.c1
          simp only at c1
          rw [addr_fld _ _ 1 (by decide)] at c1
          go_wp2_with fail
          refine (diskArm_any wo F p d dn HDA.out.hn.1 HDA.out.hn.2 HMEM.out.dk).mono ?_
          rintro e w3 ⟨rfl, hd3, hk3, _⟩
          have HM3 := Lib.hid (HMEM.out.step hk3 hd3)
          clear hd3 hk3 c1
          go_wp2_with fail
          go_roundw
          case rel => exact ⟨k + 1, sp, F, G, s, _, sure, maybe, doubt, by go_num, by omega, rfl, rfl, HM3.out, SlotMath.kept_arm HKE.out dn⟩
          case measure => simp [intOf]; omega
        · have e2' : (dk == 1) = false := beq_eq_false_iff_ne.2 h2
          clear h2
          by_cases h3 : dk = 2
          · subst h3
            have c3 := HDA.out.c3
            simp only at c3
            rw [addr_fld _ _ 3 (by decide)] at c3
            have hcr := diskCrash_any wo F p d Al cl dl HMEM.out.dk HDA.out.hl.1 HDA.out.hl.2.1 (HAL.out.below HMEM.out.bel) (fun a2 he hn hf => by
              obtain ⟨a3, e3, h3, _⟩ := HAL.out.at_ (k := 0) (List.length_pos_iff.2 hn)
              rw [he] at e3; injection e3 with e3; subst e3
              have := (HMEM.out.ownF _ hf).1; omega)
            obtain ⟨f1, f2, f3, f4, f5, f6, f7⟩ := HKF.out
            have hkc := SlotMath.kept_crash HKE.out dl (by omega) (fun _ => slDec_enc _ _ (by omega) (by have := HMEM.out.mlen; omega))
            have hcl : (crash d dl).fast.length = n2 := (torn_length _ _ _).trans (by rw [f3, HN2.out])
            have hvw : view (crash d dl) = (crash d dl).fast := rfl
            obtain ⟨ml, hml⟩ : ∃ ml, dl.length = ml := ⟨_, rfl⟩
            rw [hml] at hcr c3
            obtain ⟨d', hd'⟩ : ∃ d', crash d dl = d' := ⟨_, rfl⟩
            rw [hd'] at hcr hkc hcl hvw
            obtain ⟨nw, hnw⟩ : ∃ nw, WalMath.newest d'.fast = nw := ⟨_, rfl⟩
            rw [hnw] at hkc
            have hnst : nwst (view d') 0 (n2 - 0) = nw := by
              unfold nwst
              rw [hvw, List.drop_zero, List.take_of_length_le (by omega), hnw]
            obtain ⟨o, ho⟩ : ∃ o, SlotMath.opens slDec d'.fast 0 n = o := ⟨_, rfl⟩
            rw [ho] at hkc
            have ho' : SlotMath.opens slDec (view d') 0 n = o := by rw [hvw]; exact ho
            obtain ⟨o1, o2, o3⟩ := o
            obtain ⟨hk1, hk3, hk4⟩ := hkc
            simp only at hk3 hk4
            have HCR := Lib.hid hcr
            have HS := Lib.hid (show _ ∧ _ ∧ _ from ⟨hcl, hnst, ho'⟩)
            have HK4 := Lib.hid hk4
            have HK3 := Lib.hid hk3
            clear hcr hcl hvw hd' hnw hnst ho ho' hk3 hk4 hml f1 f2 f3 f4 f5 f6 f7
            go_wp2_with fail
            refine HCR.out.mono ?_
            rintro e w3 ⟨rfl, hd3, hk3'⟩
            have hM3 := HMEM.out.step hk3' hd3
            have hnw := walNewest_yes w3 F p d' 0 n2 hM3.dk (by omega) (by have := HS.out.1; omega) (by have := HS.out.1; omega)
            rw [HS.out.2.1] at hnw
            have HNW := Lib.hid hnw
            have HM3 := Lib.hid hM3
            clear hd3 hk3' hM3 hnw HCR c3
            go_wp2_with fail
            refine HNW.out.mono ?_
            rintro e w4 ⟨rfl, hb4⟩
            have hM4 := HM3.out.below hb4
            have hop : Calls Tryd.prog 12 #[.pointer (some ⟨p, 0, none⟩), .int .i64 0, .int .i64 n, .int .i64 ((nw : Int) + 1)] w4 (OpsPost p 0 n (nw + 1) (SlotMath.opens slDec (view d') 0 n) w4) := slotOpen_yes w4 F p 0 n (nw + 1) d' hM4.dk (HT.out.below hM4.bel) hn1 (by have := HS.out.1; have := HN2.out; omega) (by have := HS.out.1; omega) (by omega)
            rw [HS.out.2.2] at hop
            have HOP := Lib.hid hop
            have HM4 := Lib.hid hM4
            clear hb4 hM4 hop HNW HM3
            go_wp2_with fail
            refine HOP.out.mono ?_
            rintro e w5 ⟨v5, rfl, hl5, ho5, hb5⟩
            simp only at hl5 ho5
            obtain ⟨A5, n5, c5, rfl, hn5, _, _⟩ := ho5.shape'
            have hlt5 := hl5.lt
            have hM5 := (HM4.out.more w4.heap.size hb5).reslot hl5 (by have := HM4.out.bel.size; omega) (fun hf => by have := (HM4.out.ownF _ hf).2; omega) (fun hg => by
              rcases hg with hg | hg
              · have := (HM4.out.ownG _ hg).2; omega
              · omega)
            have hne5 : ∀ y, (Value.slice A5 n5 c5).ownBlock = some y → G y ∨ (w4.heap.size ≤ y ∧ y < w5.heap.size ∧ y ≠ w4.heap.size) := fun y hy => .inr (by
              have h1 := ho5.lt y hy
              have h2 : y ≠ w4.heap.size := fun e => own_ne ho5 hl5.blk (by decide) (by rw [← e]; exact hy)
              omega)
            have HM5 := Lib.hid hM5
            have HO5 := Lib.hid (ho5.base (Nat.zero_le _))
            have HNE5 := Lib.hid hne5
            have HN5 := Lib.hid hn5
            clear hl5 ho5 hb5 hM5 hne5 hn5 HOP HM4 hlt5
            by_cases hds : o3 = sure
            · have hl3 : o3.length ≤ 65536 := by rw [hds]; exact HMEM.out.slen
              have hsm := same_at A5 Av c5 cv n5 nv o3 sure w5 HN5.out HNV.out (by have := HN5.out; omega) (by have := HNV.out; have := HMEM.out.slen; omega) HO5.out.bs HM5.out.su.bs
              rw [hds, sameB_self] at hsm
              have HSM := Lib.hid hsm
              have HL3 := Lib.hid hl3
              clear hsm hds hl3 HK3
              go_wp2_with fail
              refine HSM.out.mono ?_
              rintro e w6 ⟨rfl, hb6⟩
              have HM6 := Lib.hid ((HM5.out.setS HO5.out HNE5.out HL3.out).below hb6)
              clear hb6
              go_wp2_with fail
              go_roundw
              case rel => exact ⟨k + 1, w4.heap.size, _, _, _, d', o3, maybe, false, by go_num, by omega, rfl, rfl, HM6.out, HK4.out maybe⟩
              case measure => simp [intOf]; omega
            · rcases HK3.out with h | ⟨rfl, h⟩
              · exact absurd h hds
              · have hl3 : o3.length ≤ 65536 := by rw [h]; have := HMEM.out.mlen; omega
                have hsm := same_at A5 Av c5 cv n5 nv o3 sure w5 HN5.out HNV.out (by have := HN5.out; omega) (by have := HNV.out; have := HMEM.out.slen; omega) HO5.out.bs HM5.out.su.bs
                have hf : sameB o3 sure = false := decide_eq_false hds
                rw [hf] at hsm
                have hs2 := fun w' (hb : Below w5.heap.size w5 w') => same_at A5 Au c5 cu n5 nu o3 maybe w' HN5.out HNU.out (by have := HN5.out; omega) (by have := HNU.out; have := HMEM.out.mlen; omega) (HO5.out.bs.below hb) (HM5.out.may.bs.below hb)
                rw [h] at hs2
                simp only [sameB_self] at hs2
                have HSM := Lib.hid hsm
                have HS2 := Lib.hid hs2
                have HL3 := Lib.hid hl3
                clear hsm hs2 hds hf hl3 h HK3
                go_wp2_with fail
                refine HSM.out.mono ?_
                rintro e w6 ⟨rfl, hb6⟩
                have HB6 := Lib.hid hb6
                clear hb6
                go_wp2_with fail
                refine (HS2.out _ HB6.out).mono ?_
                rintro e w7 ⟨rfl, hb7⟩
                have HM7 := Lib.hid ((HM5.out.setS HO5.out HNE5.out HL3.out).below (below_then HB6.out hb7))
                clear hb7
                go_wp2_with fail
                go_roundw
                case rel => exact ⟨k + 1, w4.heap.size, _, _, _, d', o3, maybe, false, by go_num, by omega, rfl, rfl, HM7.out, HK4.out maybe⟩
                case measure => simp [intOf]; omega
          · have e3 : (dk == 2) = false := beq_eq_false_iff_ne.2 h3
            clear h3
            go_wp2_with fail
            go_roundw
            case rel => exact ⟨k + 1, sp, F, G, s, d, sure, maybe, doubt, by go_num, by omega, rfl, rfl, HMEM.out, SlotMath.kept_more HKE.out⟩
            case measure => simp [intOf]; omega
    · have hx : ¬ k < N ∨ (k < N ∧ ¬ k < 40) := by omega
      have HB := Lib.hid hmem.bel
      clear hgo hmem hkept
      rcases hx with hx | ⟨hx, hy⟩
      all_goals
        go_wp2_with fail
        refine (slotLives_any wo (HT.out.below HB.out)).mono ?_
        rintro e w8 ⟨rfl, hb8⟩
        have HB8 := Lib.hid (below_then HB.out hb8)
        clear hb8
        go_wp2_with fail
        go_ret
        exact ⟨rfl, HB8.out⟩
end Go.Proofs.YtckihiiimomgfaaDoor
