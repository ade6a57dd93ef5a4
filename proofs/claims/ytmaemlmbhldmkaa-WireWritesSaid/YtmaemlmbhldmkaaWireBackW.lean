/- The walk of the law 'there and back': it returns true and turns nothing that was there. -/
import Derived.Test.YtmaemlmbhldmkaaWireLaws
import Derived.Test.YtmaemlmbhldmkaaOpenDo
import Derived.Deep.RegionHeld3
namespace Go.Proofs.Ytmaemlmbhldmkaa
open Go.RowKit
theorem WrAt.ge {w : World} {g base : Nat} {v : Value} {l : List UInt8} (h : WrAt w g base v l) (hg : base ≤ g) (k : Nat) (hk : wrF g v k) : base ≤ k := by
  rcases hk with rfl | hk
  · exact hg
  · exact (h.own.lt k hk).1
/-- what a call puts -/
def putDo (d : WDo) : List UInt8 := WireMath.put d.x ++ bytesOf (d.b.take 200) ++ bytesOf (d.b.take 200) ++ WireMath.put (if d.is then 1 else 0)
def putAll (ds : List WDo) : List UInt8 := ds.flatMap putDo
theorem put10 (x : Nat) (h : x < 18446744073709551616) : (WireMath.put x).length ≤ 10 := WireMath.put_le 9 x (by omega)
theorem bytesOf_len (b : List UInt8) (h : b.length ≤ 200) : (bytesOf b).length ≤ 210 := by
  have := put10 b.length (by omega)
  unfold bytesOf
  rw [List.length_append]
  omega
theorem putDo_len (d : WDo) (hx : d.x < 18446744073709551616) : (putDo d).length ≤ 440 := by
  have h1 := put10 d.x hx
  have h2 := bytesOf_len (d.b.take 200) (List.length_take_le _ _)
  have h3 : (WireMath.put (if d.is then 1 else 0)).length ≤ 10 := put10 _ (by split <;> decide)
  unfold putDo
  simp only [List.length_append]
  omega
theorem putAll_len (ds : List WDo) (h : ∀ d ∈ ds, d.x < 18446744073709551616) : (putAll ds).length ≤ 440 * ds.length := by
  induction ds with
  | nil => simp [putAll]
  | cons d ds ih =>
    have h1 := putDo_len d (h d (by simp))
    have h2 := ih (fun e he => h e (by simp [he]))
    unfold putAll at *
    rw [List.flatMap_cons, List.length_append, List.length_cons]
    omega
theorem putAll_snoc (ds : List WDo) (d : WDo) : putAll (ds ++ [d]) = putAll ds ++ putDo d := by simp [putAll]
theorem first_below {B : Nat} {w w1 w2 : World} (h : Below B w w1) (h' : Below B w1.drew w2 ∨ Below B w1 w2) : Below B w w2 := by
  rcases h' with h' | h'
  · exact h.drew.trans h'
  · exact h.trans h'
theorem fld (ad : Addr) (o j : Nat) (hj : 0 < j) : (⟨(ad.add o).block, (ad.add o).off + j, none⟩ : Addr) = ad.add (o + j) := by
  have := addr_lit (ad.add o) j 0 hj
  rw [addr_add] at this
  simpa [Addr.add] using this
def BackW (ds : List WDo) (w : World) (g : Nat) (i : Value) (wr : World) : Prop :=
  ∃ (k : Nat) (v : Value), k ≤ ds.length ∧ k ≤ 40 ∧ i = .int .i64 (k : Nat) ∧ WrAt wr g w.heap.size v (putAll (ds.take k)) ∧ Below w.heap.size w wr
def BackR (ds es : List WDo) (w : World) (g : Nat) (i : Value) (wr : World) : Prop :=
  ∃ (k : Nat) (A : Option Addr) (c : Nat), k ≤ ds.length ∧ k ≤ 40 ∧ i = .int .i64 (k : Nat) ∧ RdAt wr g A c (putAll (es.drop k)) 0 ∧ Below w.heap.size w wr
theorem rdU_put (x : Nat) (r : List UInt8) (h : x < 18446744073709551616) : rdU (WireMath.put x ++ r) 0 = (x, r, 0) := by
  unfold rdU
  rw [if_neg (by decide), WireMath.get_put x r h]
  simp
theorem rdBytes_put (b r : List UInt8) (h : b.length ≤ 200) : rdBytes (bytesOf b ++ r) 0 = (b, r, 0) := by
  have hu : rdU (bytesOf b ++ r) 0 = (b.length, b ++ r, 0) := by
    unfold bytesOf
    rw [List.append_assoc]
    exact rdU_put _ _ (by omega)
  have hn : rdN 2147483647 (bytesOf b ++ r) 0 = (b.length, b ++ r, 0) := by
    unfold rdN
    rw [hu]
    simp only
    rw [if_neg (by decide), if_neg (by omega)]
  unfold rdBytes
  rw [hn]
  simp only
  rw [if_neg (by decide), if_neg (by simp)]
  simp
theorem rd_do (x : Nat) (b : List UInt8) (i : Bool) (r : List UInt8) (hx : x < 18446744073709551616) (hb : b.length ≤ 200) :
    rdU (WireMath.put x ++ (bytesOf b ++ (bytesOf b ++ (WireMath.put (if i then 1 else 0) ++ r)))) 0 = (x, bytesOf b ++ (bytesOf b ++ (WireMath.put (if i then 1 else 0) ++ r)), 0) ∧
    rdBytes (bytesOf b ++ (bytesOf b ++ (WireMath.put (if i then 1 else 0) ++ r))) 0 = (b, bytesOf b ++ (WireMath.put (if i then 1 else 0) ++ r), 0) ∧
    rdBytes (bytesOf b ++ (WireMath.put (if i then 1 else 0) ++ r)) 0 = (b, WireMath.put (if i then 1 else 0) ++ r, 0) ∧
    rdBool (WireMath.put (if i then 1 else 0) ++ r) 0 = (i, r, 0) := by
  refine ⟨rdU_put _ _ hx, rdBytes_put _ _ hb, rdBytes_put _ _ hb, ?_⟩
  unfold rdBool
  rw [rdU_put _ _ (by split <;> decide)]
  cases i <;> rfl
set_option maxHeartbeats 4000000 in
set_option maxRecDepth 100000 in
theorem wireBack_walk (A : Option Addr) (c : Nat) (ds : List WDo) (w : World) (hc : ds.length ≤ c) (hm : c ≤ maxLen) (hr : WDos w A ds) :
    Calls Try.prog 5 #[.slice A ds.length c] w fun e w' => e = .returned (.bool true) ∧ Below w.heap.size w w' := by
  have hall : ∀ d ∈ ds, d.x < 18446744073709551616 := fun d hd => by
    obtain ⟨j, hj⟩ := List.getElem?_of_mem hd
    obtain ⟨_, _, _, _, _, h⟩ := hr j d hj
    exact h.hx
  have HALL := Lib.hid hall
  have HR := Lib.hid hr
  have hm' : c ≤ 9223372036854775807 := by unfold maxLen at hm; omega
  clear hall hr hm
  go_enter Try.func5, Try.ntmps5
  go_wp2_with fail
  refine (wrNew_any w).mono ?_
  rintro e w1 ⟨rfl, hw1, hb1⟩
  have HW1 := Lib.hid hw1
  have HB1 := Lib.hid hb1
  clear hw1 hb1
  go_wp2_with fail
  go_loopw [4] (fun i wr => BackW ds w w.heap.size i wr) (fun i _ => 40 - (intOf i).toNat)
  case atStart => exact ⟨0, _, Nat.zero_le _, Nat.zero_le _, rfl, by simpa [putAll] using HW1.out, HB1.out⟩
  case round =>
    obtain ⟨k, v, hk, hk40, rfl, hw, hb⟩ := hrel
    have HW := Lib.hid hw
    have HB := Lib.hid hb
    clear hw hb HW1 HB1
    by_cases hin : k < ds.length ∧ k < 40
    · obtain ⟨hlt, hlt40⟩ := hin
      obtain ⟨ad, B, cb, rfl, hadl, hd⟩ := HR.out k ds[k] (List.getElem?_eq_getElem hlt)
      have hdx := hd.hx
      have hLl := putAll_len (ds.take k) (fun d hd => HALL.out d (List.mem_of_mem_take hd))
      have hLl2 : (putAll (ds.take k)).length ≤ 17600 := by
        have := List.length_take_le k ds
        omega
      have hsn : putAll (ds.take (k + 1)) = putAll (ds.take k) ++ putDo ds[k] := by rw [List.take_succ_eq_append_getElem hlt, putAll_snoc]
      obtain ⟨L, hL⟩ : ∃ L, putAll (ds.take k) = L := ⟨_, rfl⟩
      rw [hL] at HW hLl2 hsn
      obtain ⟨d, hdd⟩ : ∃ d, ds[k] = d := ⟨_, rfl⟩
      rw [hdd] at hd hdx hsn
      have HSN := Lib.hid hsn
      clear hsn hLl hL hdd
      obtain ⟨dk, dx, db, di⟩ := d
      simp only at hdx
      have hp10 := put10 dx hdx
      have HDX := Lib.hid hdx
      have hbl : (db.take 200).length ≤ 200 := List.length_take_le _ _
      have hby := bytesOf_len (db.take 200) hbl
      have hcut : ∀ w', Calls Try.prog 9 #[.slice B db.length cb, .int .i64 200] w' fun e w'' => e = .returned (.slice B (db.take 200).length cb) ∧ w' = w'' := fun w' => cut_bs B cb 200 db w' hd.hc hd.hm (by decide)
      have hbs : Bs w B (db.take 200) := hd.bs.take 200
      obtain ⟨bb, hbb⟩ : ∃ bb, db.take 200 = bb := ⟨_, rfl⟩
      rw [hbb] at hbl hby hbs
      simp only [hbb] at hcut
      have hne : ∀ ad', B = some ad' → bb ≠ [] → ad'.block < w.heap.size := fun ad' e hn => by
        obtain ⟨ad2, e2, hl2, _⟩ := hbs.at_ (k := 0) (List.length_pos_iff.2 hn)
        rw [e] at e2
        injection e2 with e2
        subst e2
        exact hl2
      have HNE := Lib.hid hne
      have HBS := Lib.hid hbs
      have HCUT := Lib.hid hcut
      have HBB := Lib.hid hbb
      have HD := Lib.hid hd
      have hs := HB.out.size
      clear hne hbs hcut hbb hd hdx
      have k1 : wr.cell? (ad.add (k * 4 + 1)) = some (.int .u64 (dx : Int)) := (HB.out.cell (by rw [addr_block]; exact hadl)).trans HD.out.c1
      clear k1
      go_wp2_with fail
      have hkI0 : (0 : Int) ≤ (k : Int) := by omega
      have hkI : (k : Int) < (ds.length : Int) := by omega
      have hks : ∀ w', Below w.heap.size w w' → w'.cell? ⟨(ad.add (k * 4)).block, (ad.add (k * 4)).off + 1, none⟩ = some (.int .u64 (dx : Int)) ∧ w'.cell? ⟨(ad.add (k * 4)).block, (ad.add (k * 4)).off + 2, none⟩ = some (.slice B db.length cb) ∧ w'.cell? ⟨(ad.add (k * 4)).block, (ad.add (k * 4)).off + 3, none⟩ = some (.bool di) ∧ (convert 25 9 (.slice B bb.length cb)).run Try.prog w' = .ok (.string ⟨bb.toArray⟩) w' := fun w' hbb =>
        ⟨by rw [fld _ _ 1 (by decide)]; exact (hbb.cell (by rw [addr_block]; exact hadl)).trans HD.out.c1, by rw [fld _ _ 2 (by decide)]; exact (hbb.cell (by rw [addr_block]; exact hadl)).trans HD.out.c2, by rw [fld _ _ 3 (by decide)]; exact (hbb.cell (by rw [addr_block]; exact hadl)).trans HD.out.c3,
          run_convert_bs w' _ _ 5 Try.underlying25 Try.underlying5 Try.underlying9 B cb _ bb rfl (HBS.out.below hbb)⟩
      have HKS := Lib.hid hks
      have HWD : Hid (WrAt wr.drew w.heap.size w.heap.size v L) := Lib.hid ⟨HW.out.blk, HW.out.own⟩
      clear hks
      go_region_held3 (fun w' => w'.cell? ⟨(ad.add (k * 4)).block, (ad.add (k * 4)).off + 1, none⟩ = some (.int .u64 (dx : Int)) ∧ w'.cell? ⟨(ad.add (k * 4)).block, (ad.add (k * 4)).off + 2, none⟩ = some (.slice B db.length cb) ∧ w'.cell? ⟨(ad.add (k * 4)).block, (ad.add (k * 4)).off + 3, none⟩ = some (.bool di) ∧ (convert 25 9 (.slice B bb.length cb)).run Try.prog w' = .ok (.string ⟨bb.toArray⟩) w')
        (first | exact HKS.out _ HB.out | exact HKS.out _ HB.out.drew)
        (first
          | (go_at_call 10; (with_reducible refine (wrU_any w.heap.size w.heap.size dx v L _ HWD.out HDX.out ?_ ?_).mono ?_); (omega); (exact HB.out.size); rintro e wU ⟨rfl, vwU, hwq, hkq, _⟩; have hbq := hkq.below (B := w.heap.size) (fun k _ hf => HW.out.ge (Nat.le_refl _) k hf) (HB.out.size); have HB := Lib.hid (first_below HB.out (by first | exact .inl hbq | exact .inr hbq)); have HW := Lib.hid hwq; clear hbq hwq hkq)
          | (go_at_call 12; (with_reducible refine (wrBytes_any w.heap.size w.heap.size _ _ B cb bb _ HW.out ?_ ?_ ?_ ?_ ?_).mono ?_); (simp only [List.length_append]; omega); (omega); (exact HB.out.size); (exact HBS.out.below HB.out); (exact fun ad' e hn hf => by have h1 := HNE.out ad' e hn; have h2 := HW.out.ge (Nat.le_refl _) _ hf; omega); rintro e wB ⟨rfl, vwB, hwq, hkq, _⟩; have hbq := hkq.below (B := w.heap.size) (fun k _ hf => HW.out.ge (Nat.le_refl _) k hf) (HB.out.size); have HB := Lib.hid (first_below HB.out (by first | exact .inl hbq | exact .inr hbq)); have HW := Lib.hid hwq; clear hbq hwq hkq)
          | (go_at_call 14; (with_reducible refine (wrText_any w.heap.size w.heap.size _ _ bb _ HW.out ?_ ?_ ?_).mono ?_); (simp only [List.length_append]; omega); (omega); (exact HB.out.size); rintro e wT ⟨rfl, vwT, hwq, hkq, _⟩; have hbq := hkq.below (B := w.heap.size) (fun k _ hf => HW.out.ge (Nat.le_refl _) k hf) (HB.out.size); have HB := Lib.hid (first_below HB.out (by first | exact .inl hbq | exact .inr hbq)); have HW := Lib.hid hwq; clear hbq hwq hkq)
          | (go_at_call 15; (with_reducible refine (wrBool_any w.heap.size w.heap.size _ _ di _ HW.out ?_ ?_).mono ?_); (simp only [List.length_append]; omega); (exact HB.out.size); rintro e wL ⟨rfl, vwL, hwq, hkq, _⟩; have hbq := hkq.below (B := w.heap.size) (fun k _ hf => HW.out.ge (Nat.le_refl _) k hf) (HB.out.size); have HB := Lib.hid (first_below HB.out (by first | exact .inl hbq | exact .inr hbq)); have HW := Lib.hid hwq; clear hbq hwq hkq)
          | (go_at_call 9; (with_reducible refine (HCUT.out _).mono ?_); rintro e w' ⟨rfl, rfl⟩))
      go_wp2_with fail
      go_roundw
      case rel =>
        refine ⟨k + 1, vwL, by omega, by omega, by go_num, ?_, HB.out⟩
        rw [HSN.out]
        have h := HW.out
        have e : L ++ putDo ⟨dk, dx, db, di⟩ = L ++ WireMath.put dx ++ bytesOf bb ++ bytesOf bb ++ WireMath.put (if di then 1 else 0) := by
          unfold putDo
          simp only [HBB.out, List.append_assoc]
        rw [e]
        exact h
      case measure => simp [intOf]; omega
    · have hex : ds.length ≤ k ∨ (k < ds.length ∧ 40 ≤ k) := by omega
      have htk : ds.take k = ds.take 40 := by
        rcases hex with h | h
        · rw [List.take_of_length_le h, List.take_of_length_le (by omega)]
        · obtain rfl : k = 40 := by omega
          rfl
      rw [htk] at HW
      have hel : (ds.take 40).length ≤ 40 := List.length_take_le _ _
      have hLl := putAll_len (ds.take 40) (fun d hd => HALL.out d (List.mem_of_mem_take hd))
      obtain ⟨es, hes⟩ : ∃ es, ds.take 40 = es := ⟨_, rfl⟩
      rw [hes] at HW hel hLl
      have hpl : (putAll es).length ≤ 17600 := by omega
      have HES := Lib.hid hes
      have HDN := Lib.hid (wrDone_any w.heap.size w.heap.size v (putAll es) wr HW.out (by omega))
      obtain ⟨L, hL⟩ : ∃ L, putAll es = L := ⟨_, rfl⟩
      rw [hL] at HDN hpl
      have HL := Lib.hid hL
      clear hin htk hes hLl hL HW
      rcases hex with hex | ⟨hex, hex'⟩
      all_goals
        go_wp2_with fail
        refine HDN.out.mono ?_
        rintro e w2 ⟨u2, rfl, ho2, hb2⟩
        obtain ⟨A2, c2, rfl, _⟩ := own_shape ho2
        have HOP := Lib.hid (rdOpen_any A2 c2 L w2 (by omega) (Bs.of_own ho2))
        have HB2 := Lib.hid (below_then HB.out hb2)
        have hs2 := HB2.out.size
        clear ho2 hb2 HDN HB
        go_wp2_with fail
        refine HOP.out.mono ?_
        rintro e w3 ⟨g3, A3, c3, rfl, hg3, hrd, hb3⟩
        have HRD := Lib.hid hrd
        have HB3 := Lib.hid (below_then HB2.out hb3)
        clear hrd hb3 HOP HB2
        go_wp2_with fail
        go_loopw [6] (fun i wr => BackR ds es w g3 i wr) (fun i _ => 40 - (intOf i).toNat)
        case atStart => exact ⟨0, A3, c3, Nat.zero_le _, Nat.zero_le _, rfl, by rw [List.drop_zero, HL.out]; exact HRD.out, HB3.out⟩
        case round =>
          obtain ⟨j, A4, c4, hj, hj40, rfl, hrd, hb⟩ := hrel
          have HB := Lib.hid hb
          have hgs : w.heap.size ≤ g3 := by omega
          clear hb HRD HB3
          by_cases hin : j < ds.length ∧ j < 40
          · obtain ⟨hlt, hlt40⟩ := hin
            obtain ⟨ad, B, cb, hAeq, hadl, hd⟩ := HR.out j ds[j] (List.getElem?_eq_getElem hlt)
            subst hAeq
            have hej : es.drop j = ds[j] :: es.drop (j + 1) := by
              rw [← HES.out]
              have hjl : j < (ds.take 40).length := by rw [List.length_take]; omega
              rw [List.drop_eq_getElem_cons hjl]
              simp
            have hpa : putAll (es.drop j) = putDo ds[j] ++ putAll (es.drop (j + 1)) := by rw [hej]; simp [putAll]
            have hdlen : (putAll (es.drop j)).length ≤ 17600 := by
              have h1 := putAll_len (es.drop j) (fun d hd => HALL.out d (List.mem_of_mem_take (by rw [HES.out]; exact List.mem_of_mem_drop hd)))
              have h2 : (es.drop j).length ≤ es.length := by rw [List.length_drop]; omega
              omega
            rw [hpa] at hrd hdlen
            obtain ⟨d, hdd⟩ : ∃ d, ds[j] = d := ⟨_, rfl⟩
            rw [hdd] at hd hrd hdlen
            obtain ⟨R, hR⟩ : ∃ R, putAll (es.drop (j + 1)) = R := ⟨_, rfl⟩
            rw [hR] at hrd hdlen
            have HRR := Lib.hid hR
            clear hdd hej hpa hR
            obtain ⟨dk, dx, db, di⟩ := d
            have hdx : dx < 18446744073709551616 := hd.hx
            have hbl : (db.take 200).length ≤ 200 := List.length_take_le _ _
            have hcut : ∀ w', Calls Try.prog 9 #[.slice B db.length cb, .int .i64 200] w' fun e w'' => e = .returned (.slice B (db.take 200).length cb) ∧ w' = w'' := fun w' => cut_bs B cb 200 db w' hd.hc hd.hm (by decide)
            have hbs : Bs w B (db.take 200) := hd.bs.take 200
            unfold putDo at hrd hdlen
            simp only at hrd hdlen
            obtain ⟨bb, hbb⟩ : ∃ bb, db.take 200 = bb := ⟨_, rfl⟩
            rw [hbb] at hbl hbs hrd hdlen
            simp only [hbb] at hcut
            obtain ⟨q1, q2, q3, q4⟩ := rd_do dx bb di R hdx hbl
            have l1 : (bytesOf bb ++ (bytesOf bb ++ (WireMath.put (if di then 1 else 0) ++ R))).length ≤ 1000000 := by simp only [List.length_append] at hdlen ⊢; omega
            have l2 : (bytesOf bb ++ (WireMath.put (if di then 1 else 0) ++ R)).length ≤ 1000000 := by simp only [List.length_append] at hdlen ⊢; omega
            have l3 : (WireMath.put (if di then 1 else 0) ++ R).length ≤ 1000000 := by simp only [List.length_append] at hdlen ⊢; omega
            have l4 : (WireMath.put dx ++ (bytesOf bb ++ (bytesOf bb ++ (WireMath.put (if di then 1 else 0) ++ R)))).length ≤ 1000000 := by simp only [List.length_append] at hdlen ⊢; omega
            have hrd' : RdAt wr g3 A4 c4 (WireMath.put dx ++ (bytesOf bb ++ (bytesOf bb ++ (WireMath.put (if di then 1 else 0) ++ R)))) 0 := by simpa only [List.append_assoc] using hrd
            have hrdd : RdAt wr.drew g3 A4 c4 (WireMath.put dx ++ (bytesOf bb ++ (bytesOf bb ++ (WireMath.put (if di then 1 else 0) ++ R)))) 0 := ⟨hrd'.blk, hrd'.hc, hrd'.hm, hrd'.bs, hrd'.ne⟩
            have hU := rdU_any g3 A4 c4 _ 0 wr.drew hrdd l4
            have hB1 := fun A c w' h => rdBytes_any g3 A c (bytesOf bb ++ (bytesOf bb ++ (WireMath.put (if di then 1 else 0) ++ R))) 0 w' h l1
            have hB2 := fun A c w' h => rdText_any g3 A c (bytesOf bb ++ (WireMath.put (if di then 1 else 0) ++ R)) 0 w' h l2
            have hB3 := fun A c w' h => rdBool_any g3 A c (WireMath.put (if di then 1 else 0) ++ R) 0 w' h l3
            rw [q1] at hU
            unfold RdBytesPost at hB1
            simp only [q2] at hB1
            simp only [q3] at hB2
            simp only [q4] at hB3
            have HU := Lib.hid hU
            have HBY := Lib.hid hB1
            have HTX := Lib.hid hB2
            have HBO := Lib.hid hB3
            have hks : ∀ w', Below w.heap.size w w' → w'.cell? ⟨(ad.add (j * 4)).block, (ad.add (j * 4)).off + 1, none⟩ = some (.int .u64 (dx : Int)) ∧ w'.cell? ⟨(ad.add (j * 4)).block, (ad.add (j * 4)).off + 3, none⟩ = some (.bool di) ∧ (convert 25 9 (.slice B bb.length cb)).run Try.prog w' = .ok (.string ⟨bb.toArray⟩) w' := fun w' hbb =>
              ⟨by rw [fld _ _ 1 (by decide)]; exact (hbb.cell (by rw [addr_block]; exact hadl)).trans hd.c1, by rw [fld _ _ 3 (by decide)]; exact (hbb.cell (by rw [addr_block]; exact hadl)).trans hd.c3,
                run_convert_bs w' _ _ 5 Try.underlying25 Try.underlying5 Try.underlying9 B cb _ bb rfl (hbs.below hbb)⟩
            have HKS := Lib.hid hks
            have HBS := Lib.hid hbs
            have HCUT := Lib.hid hcut
            have k2 : wr.cell? ⟨(ad.add (j * 4)).block, (ad.add (j * 4)).off + 2, none⟩ = some (.slice B db.length cb) := by rw [fld _ _ 2 (by decide)]; exact (HB.out.cell (by rw [addr_block]; exact hadl)).trans hd.c2
            clear hrd hrd' hrdd hU hB1 hB2 hB3 hks hbs hcut hd q1 q2 q3 q4 l1 l2 l3 l4 hdlen hbb hdx
            go_wp2_with fail
            refine (HCUT.out _).mono ?_
            rintro e w' ⟨rfl, rfl⟩
            clear k2
            have hkI0 : (0 : Int) ≤ (j : Int) := by omega
            have hkI : (j : Int) < (ds.length : Int) := by omega
            have hxx : ((dx : Int) != (dx : Int)) = false := by simp
            have hdd : (di != di) = false := by simp
            have hbbb : (bb != bb) = false := by simp
            go_wp2_with fail
            go_region_held3 (fun w' => w'.cell? ⟨(ad.add (j * 4)).block, (ad.add (j * 4)).off + 1, none⟩ = some (.int .u64 (dx : Int)) ∧ w'.cell? ⟨(ad.add (j * 4)).block, (ad.add (j * 4)).off + 3, none⟩ = some (.bool di) ∧ (convert 25 9 (.slice B bb.length cb)).run Try.prog w' = .ok (.string ⟨bb.toArray⟩) w')
              (first | exact HKS.out _ HB.out | exact HKS.out _ HB.out.drew)
              (first
                | (go_at_call 20; (with_reducible refine (HU.out).mono ?_); rintro e wU ⟨rfl, hgq, AU, cU, hU⟩; have hbq : Below w.heap.size w wU := by { first | exact (HB.out.drew).grown hgq HB.out.size (fun k e => by injection e with e; omega) | exact HB.out.grown hgq HB.out.size (fun k e => by injection e with e; omega) }; have HB := Lib.hid hbq; have HRD := Lib.hid hU; clear hU; clear hbq hgq)
                | (go_at_call 23; (with_reducible refine (HBY.out _ _ _ HRD.out).mono ?_); rintro e wB ⟨B5, d5, rfl, ho5, hgq, AB, cB, hB⟩; have hbq : Below w.heap.size w wB := by { first | exact (HB.out.drew).grown hgq HB.out.size (fun k e => by injection e with e; omega) | exact HB.out.grown hgq HB.out.size (fun k e => by injection e with e; omega) }; have HB := Lib.hid hbq; have HRD := Lib.hid hB; have HO5 := Lib.hid (Bs.of_own ho5); clear hB ho5; clear hbq hgq)
                | (go_at_call 17; (with_reducible refine (same_bel B5 B d5 cb bb bb _ ?_ ?_ ?_ ?_).mono ?_); (omega); (omega); (exact HO5.out); (exact HBS.out.below HB.out); rintro e wS ⟨rfl, hbS⟩; rw [sameB_self]; have HRD := Lib.hid (HRD.out.below hbS); have HB := Lib.hid (below_then HB.out hbS); clear hbS)
                | (go_at_call 24; (with_reducible refine (HTX.out _ _ _ HRD.out).mono ?_); rintro e wT ⟨rfl, hgq, AT, cT, hT⟩; have hbq : Below w.heap.size w wT := by { first | exact (HB.out.drew).grown hgq HB.out.size (fun k e => by injection e with e; omega) | exact HB.out.grown hgq HB.out.size (fun k e => by injection e with e; omega) }; have HB := Lib.hid hbq; have HRD := Lib.hid hT; clear hT; clear hbq hgq)
                | (go_at_call 25; (with_reducible refine (HBO.out _ _ _ HRD.out).mono ?_); rintro e wL ⟨rfl, hgq, AL, cL, hL⟩; have hbq : Below w.heap.size w wL := by { first | exact (HB.out.drew).grown hgq HB.out.size (fun k e => by injection e with e; omega) | exact HB.out.grown hgq HB.out.size (fun k e => by injection e with e; omega) }; have HB := Lib.hid hbq; have HRD := Lib.hid hL; clear hL; clear hbq hgq))
            go_wp2_with fail
            go_roundw
            case rel => exact ⟨j + 1, AL, cL, by omega, by omega, by go_num, by rw [HRR.out]; exact HRD.out, HB.out⟩
            case measure => simp [intOf]; omega
          · have hex2 : ds.length ≤ j ∨ (j < ds.length ∧ 40 ≤ j) := by omega
            have hnil : es.drop j = [] := by
              rw [← HES.out]
              apply List.drop_of_length_le
              rw [List.length_take]
              omega
            rw [hnil] at hrd
            have HE := Lib.hid (rdEnd_any g3 A4 c4 [] 0 wr hrd (by decide))
            clear hnil hrd hin
            rcases hex2 with hex2 | ⟨hex2, hex2'⟩
            all_goals
              first
                | (exfalso; omega)
                | (go_wp2_with fail
                   refine HE.out.mono ?_
                   rintro e w' ⟨rfl, rfl⟩
                   go_wp2_with fail
                   refine (wireLives_any wr).mono ?_
                   rintro e w9 ⟨rfl, hb9⟩
                   go_wp2_with fail
                   go_ret
                   exact ⟨rfl, below_then HB.out hb9⟩)
end Go.Proofs.Ytmaemlmbhldmkaa
