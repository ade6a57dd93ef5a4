/- The contracts of a disk: New, Read. -/
import Derived.Test.YtckihiiimomgfaaDisk2
namespace Go.Proofs.Ytckihiiimomgfaa
open Go.RowKit DiskMath
theorem new_sec (n : Nat) : ∀ s ∈ (DiskMath.new n).fast, s.length = 64 := fun s hs => by
  obtain ⟨_, rfl⟩ := List.mem_replicate.1 hs
  rfl
set_option maxRecDepth 100000 in
set_option maxHeartbeats 400000 in
theorem diskNew_yes (n : Nat) (w : World) (h1 : 1 ≤ n) (h2 : n ≤ 65536) :
    Calls Try.prog 20 #[.int .i64 (n : Int)] w fun e w' => e = .returned (.tuple #[.pointer (some ⟨w.heap.size + 2, 0, none⟩), .int .i64 0]) ∧ DiskAt w' (fun k => w.heap.size ≤ k) (w.heap.size + 2) (DiskMath.new n) ∧ Below w.heap.size w w' := by
  obtain ⟨i0, hi0, hz0, hz1, hz2⟩ := info_parts info_sec
  have hmk : ∀ u : World, (Instr.makeSlice 60 (.int .i64 (n : Int)) (.int .i64 (n : Int))).run Try.prog u = .ok (.slice (some ⟨u.heap.size, 0, none⟩) n n) (u.alloc (.cells (flat (List.replicate n StampMath.zeros)).toArray 66)) := by
    intro u
    have h := run_make (P := Try.prog) u 60 66 i0 (secV (List.replicate 64 0)) Try.underlying60 hi0 hz0 .i64 .i64 (n : Int) (n : Int) (by omega) (by omega) (by rw [hz2]; omega) (by omega)
    rw [h, hz1, Int.toNat_natCast, made_flat]
  have hmm := @run_makeMap Try.prog
  go_enter Try.func20, Try.ntmps20
  go_wp2_with fail
  go_ret2
  have k1 := below_alloc w (.cells (flat (List.replicate n StampMath.zeros)).toArray 66)
  have k2 := below_alloc (w.alloc (.cells (flat (List.replicate n StampMath.zeros)).toArray 66)) (.map #[] 0)
  have s1 : (w.alloc (.cells (flat (List.replicate n StampMath.zeros)).toArray 66)).heap.size = w.heap.size + 1 := by simp
  have s2 : ((w.alloc (.cells (flat (List.replicate n StampMath.zeros)).toArray 66)).alloc (.map #[] 0)).heap.size = w.heap.size + 2 := by simp
  refine ⟨rfl, ⟨w.heap.size, w.heap.size + 1, n, .slice none 0 0, ⟨?_, ?_, ?_, World.ownsRow_nil _ _ _ _, by simp [DiskMath.new], h1, h2, new_sec n, fun x hx => by simp [DiskMath.new] at hx, by simp [DiskMath.new], by simp [DiskMath.new]⟩, by omega, Nat.le_refl _, by omega, fun g hg => by simp [Value.ownBlock] at hg⟩, ?_⟩
  · have := heap_alloc_new ((w.alloc (.cells (flat (List.replicate n StampMath.zeros)).toArray 66)).alloc (.map #[] 0)) (.cells #[.slice (some ⟨w.heap.size, 0, none⟩) n n, .map (some (w.heap.size + 1)), .slice none 0 0, .int .i64 0, .bool false] 64)
    rw [s2] at this
    exact this
  · have h0 : RowV (w.alloc (.cells (flat (List.replicate n StampMath.zeros)).toArray 66)) w.heap.size 66 (flat (List.replicate n StampMath.zeros)) := heap_alloc_new w _
    exact (h0.below k2).below (below_alloc _ _)
  · have h0 := MapIs.made (w.alloc (.cells (flat (List.replicate n StampMath.zeros)).toArray 66))
    rw [s1] at h0
    exact h0.below (below_alloc _ _)
  · exact ((k1.trans (k2.mono (by omega))).alloc (by omega) _)
set_option maxHeartbeats 400000 in
theorem diskNew_no (n : Int) (w : World) (h : n < 1 ∨ 65536 < n) : Calls Try.prog 20 #[.int .i64 n] w fun e w' => e = .returned (.tuple #[.pointer none, .int .i64 2]) ∧ w = w' := by
  rcases h with h | h
  · go_enter Try.func20, Try.ntmps20
    go_wp2_with fail
    go_ret2
    exact ⟨rfl, rfl⟩
  · have h' : ¬ n < 1 := by omega
    go_enter Try.func20, Try.ntmps20
    go_wp2_with fail
    go_ret2
    exact ⟨rfl, rfl⟩
theorem view_getD (d : Dk) (n i : Nat) (hl : d.fast.length = n) (hi : i < n) (hs : ∀ s ∈ d.fast, s.length = 64) (hw : ∀ x ∈ d.waits, x.1 < n ∧ x.2.length = 64) :
    ∃ s, (DiskMath.view d)[i]? = some s ∧ s.length = 64 ∧ ((lookL (i : Int) (nowOf d.waits) = none ∧ d.fast[i]? = some s) ∨ lookL (i : Int) (nowOf d.waits) = some (secV s)) := by
  rcases look_view d.fast d.waits i (by omega) with ⟨h1, h2⟩ | ⟨s, h1, h2, k, h3⟩
  · have h4 : d.fast[i]? = some d.fast[i] := List.getElem?_eq_getElem (by omega)
    exact ⟨d.fast[i], by unfold DiskMath.view; rw [h2, h4], hs _ (List.getElem_mem _), .inl ⟨h1, h4⟩⟩
  · exact ⟨s, h2, (hw _ h3).2, .inr h1⟩
set_option maxRecDepth 100000 in
set_option maxHeartbeats 1000000 in
theorem diskRead_yes (w : World) (F : Nat → Prop) (p : Nat) (d : Dk) (i : Nat) (h : DiskAt w F p d) (hi : i < d.fast.length) :
    Calls Try.prog 11 #[.pointer (some ⟨p, 0, none⟩), .int .i64 (i : Int)] w fun e w' => ∃ v s, e = .returned (.tuple #[v, .int .i64 0]) ∧ (DiskMath.view d)[i]? = some s ∧ s.length = 64 ∧ w'.ownsRow w.heap.size 5 1 v 64 (bvs s) ∧ Below w.heap.size w w' := by
  obtain ⟨gf, gm, n, vw, hb, _⟩ := h
  obtain ⟨c0, c1, _, _, _, _⟩ := hb.cells
  have hlen := hb.len
  have hpos := hb.pos
  have hmax := hb.max
  have hin : i < n := by omega
  obtain ⟨s, hs, hs64, hcase⟩ := view_getD d n i hlen hin hb.sec hb.wsec
  have hz := (Try.prog.info? 66)
  have hi66 : (Try.prog.info? 66).map (·.size) = some (bvs s).toArray.size := by rw [List.size_toArray, bvs_length, hs64]; kernel_rfl
  have HH := Lib.hid hb
  have HS := Lib.hid hs
  have HS64 := Lib.hid hs64
  have HI66 := Lib.hid hi66
  have hii : (i : Int) < (n : Int) := by omega
  obtain ⟨Z, hZ⟩ : ∃ Z : List UInt8, List.replicate 64 0 = Z := ⟨_, rfl⟩
  have hZl : Z.length = 64 := by rw [← hZ]; rfl
  have hzv : ∀ w : World, (zeroValue 66).run Try.prog w = .ok (secV Z) w := fun w => by rw [← hZ]; kernel_rfl
  clear hz
  have info64 : ∀ m : List UInt8, m.length = 64 → (Try.prog.info? 66).map (·.size) = some (bvs m).length := fun m hm => by rw [bvs_length, hm]; kernel_rfl
  have HI64 := Lib.hid info64
  have HZL := Lib.hid hZl
  rcases hcase with ⟨h1, h2⟩ | h1
  · have hlk := run_look_none (P := Try.prog) Try.underlying61 Try.underlying3 hb.map h1 (hzv w)
    have HLK := Lib.hid hlk
    have hbs : Bs w (some ⟨gf, 64 * i, none⟩) s := by
      have hr := hb.fast
      intro j c hj
      refine ⟨_, rfl, hr.lt, ?_⟩
      rw [Addr.add_lit, hr.cell]
      have h3 := flat_at hb.sec h2
      have h4 : ((flat d.fast).drop (64 * i)).take 64 = bvs s := h3
      have hjl : j < 64 := by rw [← hs64]; exact (List.getElem?_eq_some_iff.1 hj).1
      have h5 := bvs_get s j c hj
      rw [← h4, List.getElem?_take_of_lt hjl, List.getElem?_drop] at h5
      exact h5
    have HBS := Lib.hid hbs
    clear hb hlen hs hs64 hi66 hlk h1 h2 hZ hZl info64 hbs
    go_enter Try.func11, Try.ntmps11
    go_wp2_with fail
    refine (diskOk_any w p gf gm n vw d HH.out).mono ?_
    rintro e w' ⟨rfl, rfl⟩
    have hlk := HLK.out
    go_wp2_with (refine wpList_store_new rfl 66 (.tmp 6) (.tmp 31) rfl rfl (bvs Z) rfl rfl (by first | rfl | (rw [bvs_length, HZL.out]; rfl)) (HI64.out Z HZL.out) (bvs_one Z) ?_; intro w1 hr1 hb1 hs1; have HR1 := Lib.hid hr1; have HB1 := Lib.hid hb1; have HS1 := Lib.hid hs1; have c0' := hb1.cell (p := ⟨p, 0, none⟩) (HH.out.lt.1); clear hr1 hb1 hs1)
    have hbs1 : Bs w1 (some ⟨gf, i * 64, none⟩) s := by
      have := HBS.out.below HB1.out
      rw [Nat.mul_comm] at this
      exact this
    have hcl := clone_any (some ⟨gf, i * 64, none⟩) 64 s w1 (by rw [HS64.out]; decide) hbs1
    rw [HS64.out] at hcl
    refine hcl.mono ?_
    rintro e w2 ⟨v2, rfl, ho2, hb2⟩
    have HO2 := Lib.hid ho2
    have HB2 := Lib.hid hb2
    clear ho2 hb2 hcl hbs1 hlk
    go_wp2_with fail
    go_ret2
    exact ⟨v2, s, rfl, HS.out, HS64.out, own_base HO2.out HB1.out.size, below_then HB1.out HB2.out⟩
  · have hlk := run_look_some (P := Try.prog) Try.underlying61 Try.underlying3 hb.map h1
    have HLK := Lib.hid hlk
    clear hb hlen hs hs64 hi66 hlk h1 hZ hZl info64
    go_enter Try.func11, Try.ntmps11
    go_wp2_with fail
    refine (diskOk_any w p gf gm n vw d HH.out).mono ?_
    rintro e w' ⟨rfl, rfl⟩
    have hlk := HLK.out
    go_wp2_with (refine wpList_store_new rfl 66 (.tmp 6) (.tmp 31) rfl rfl (bvs s) rfl rfl (by rw [bvs_length, HS64.out]; show (bvs Z).toArray.size = 64; rw [List.size_toArray, bvs_length, HZL.out]) (HI64.out s HS64.out) (bvs_one s) ?_; intro w1 hr1 hb1 hs1; have HR1 := Lib.hid hr1; have HB1 := Lib.hid hb1; have HS1 := Lib.hid hs1; have c0' := hb1.cell (p := ⟨p, 0, none⟩) (HH.out.lt.1); clear hr1 hb1 hs1)
    have hbs1 : Bs w1 (some ⟨w.heap.size, 0, none⟩) s := by
      have hr : Row8 w1 w.heap.size 66 s := HR1.out
      exact hr.bs
    have hcl := clone_any (some ⟨w.heap.size, 0, none⟩) 64 s w1 (by rw [HS64.out]; decide) hbs1
    rw [HS64.out] at hcl
    refine hcl.mono ?_
    rintro e w2 ⟨v2, rfl, ho2, hb2⟩
    have HO2 := Lib.hid ho2
    have HB2 := Lib.hid hb2
    clear ho2 hb2 hcl hbs1 hlk
    go_wp2_with fail
    go_ret2
    exact ⟨v2, s, rfl, HS.out, HS64.out, own_base HO2.out HB1.out.size, below_then HB1.out HB2.out⟩
set_option maxHeartbeats 400000 in
theorem diskRead_no (w : World) (F : Nat → Prop) (p : Nat) (d : Dk) (i : Int) (h : DiskAt w F p d) (hi : i < 0 ∨ (d.fast.length : Int) ≤ i) :
    Calls Try.prog 11 #[.pointer (some ⟨p, 0, none⟩), .int .i64 i] w fun e w' => e = .returned (.tuple #[.slice none 0 0, .int .i64 2]) ∧ w = w' := by
  obtain ⟨gf, gm, n, vw, hb, _⟩ := h
  obtain ⟨c0, c1, _, _, _, _⟩ := hb.cells
  have hlen := hb.len
  rw [hlen] at hi
  have HH := Lib.hid hb
  clear hb hlen
  rcases hi with hi | hi
  · go_enter Try.func11, Try.ntmps11
    go_wp2_with fail
    refine (diskOk_any w p gf gm n vw d HH.out).mono ?_
    rintro e w' ⟨rfl, rfl⟩
    go_wp2_with fail
    go_ret2
    exact ⟨rfl, rfl⟩
  · have hi0 : ¬ i < 0 := by omega
    go_enter Try.func11, Try.ntmps11
    go_wp2_with fail
    refine (diskOk_any w p gf gm n vw d HH.out).mono ?_
    rintro e w' ⟨rfl, rfl⟩
    go_wp2_with fail
    go_ret2
    exact ⟨rfl, rfl⟩
end Go.Proofs.Ytckihiiimomgfaa
