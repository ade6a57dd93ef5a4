/- The listed variable of the sums: what the row's list gives; a world for the witnesses. -/
import Derived.Test.YtnjkpoljcekjcaaDoorRows
import Derived.Test.YtnjkpoljcekjcaaDoorLaw
import Derived.Test.YtnjkpoljcekjcaaDoorShaNext
namespace Go.Proofs.YtnjkpoljcekjcaaDoor
open Go.ChangeShapes Go.WideShapes Go.ChangeAt Go.RowKit

theorem own : ownKnob Tryd.prog.godebug = none := by kernel_rfl
theorem laidOut : laidOutB Tryd.prog = true := by kernel_rfl
theorem gTab : Tryd.prog.globalNamed "doorward/sha.words" = some 0 := by kernel_rfl
theorem gTabType : (Tryd.prog.globals[0]?).map (·.type) = some 65 := by kernel_rfl
theorem cellsTab : Tryd.prog.cellsOf 65 = 64 := by kernel_rfl
theorem cellsU32 : Tryd.prog.cellsOf 42 = 1 := by kernel_rfl
theorem words_tab {W : World} (h : laidMetH Tryd.prog [("doorward/sha.words", Rows.laid_doorward_sha_words)] W) : Lib.TabIs Tryd.prog W "doorward/sha.words" .u32 (ShaMath.kk.map Int.ofNat) :=
  Lib.tabIs_of_head (rest := []) gTab gTabType Tryd.underlying65 Tryd.underlying42 cellsU32 cellsTab h
theorem words_of {W : World} (h : laidMetH Tryd.prog [("doorward/sha.words", Rows.laid_doorward_sha_words)] W) : Words W := by
  have hc : ∀ i, i < 64 → W.cell? ⟨0, i, none⟩ = some (.int .u32 (ShaMath.kk.getD i 0 : Nat)) := by
    intro i hi
    have hl : i < (ShaMath.kk.map Int.ofNat).length := by simpa [ShaMath.kk] using hi
    have e : (ShaMath.kk.map Int.ofNat).getD i 0 = ((ShaMath.kk.getD i 0 : Nat) : Int) := (by decide : ∀ i, i < 64 → (ShaMath.kk.map Int.ofNat).getD i 0 = ((ShaMath.kk.getD i 0 : Nat) : Int)) i hi
    rw [(words_tab h).cell gTab i hl, ← e]
  refine ⟨cell_lt (hc 0 (by decide)), fun j v hj => ?_⟩
  have hlt : j < 64 := by
    have := (List.getElem?_eq_some_iff.1 hj).1
    simpa [uvs, ShaMath.kk] using this
  rw [Nat.zero_add, hc j hlt, ← hj]
  have hlk : j < ShaMath.kk.length := hlt
  simp [uvs, List.getD_eq_getElem?_getD, List.getElem?_eq_getElem hlk]
/-- a world for the witnesses: the settled one, the table holding what its initialiser lays -/
noncomputable def laidWorld (os : Os) : World :=
  { World.holding Tryd.prog os ⟨#[], #[], []⟩ with heap := (World.holding Tryd.prog os ⟨#[], #[], []⟩).heap.modify 0 fun
      | .cells _ t frozen => .cells #[.int .u32 1116352408, .int .u32 1899447441, .int .u32 3049323471, .int .u32 3921009573, .int .u32 961987163, .int .u32 1508970993, .int .u32 2453635748, .int .u32 2870763221, .int .u32 3624381080, .int .u32 310598401, .int .u32 607225278, .int .u32 1426881987, .int .u32 1925078388, .int .u32 2162078206, .int .u32 2614888103, .int .u32 3248222580, .int .u32 3835390401, .int .u32 4022224774, .int .u32 264347078, .int .u32 604807628, .int .u32 770255983, .int .u32 1249150122, .int .u32 1555081692, .int .u32 1996064986, .int .u32 2554220882, .int .u32 2821834349, .int .u32 2952996808, .int .u32 3210313671, .int .u32 3336571891, .int .u32 3584528711, .int .u32 113926993, .int .u32 338241895, .int .u32 666307205, .int .u32 773529912, .int .u32 1294757372, .int .u32 1396182291, .int .u32 1695183700, .int .u32 1986661051, .int .u32 2177026350, .int .u32 2456956037, .int .u32 2730485921, .int .u32 2820302411, .int .u32 3259730800, .int .u32 3345764771, .int .u32 3516065817, .int .u32 3600352804, .int .u32 4094571909, .int .u32 275423344, .int .u32 430227734, .int .u32 506948616, .int .u32 659060556, .int .u32 883997877, .int .u32 958139571, .int .u32 1322822218, .int .u32 1537002063, .int .u32 1747873779, .int .u32 1955562222, .int .u32 2024104815, .int .u32 2227730452, .int .u32 2361852424, .int .u32 2428436474, .int .u32 2756734187, .int .u32 3204031479, .int .u32 3329325298] t frozen
      | o => o }
end Go.Proofs.YtnjkpoljcekjcaaDoor
