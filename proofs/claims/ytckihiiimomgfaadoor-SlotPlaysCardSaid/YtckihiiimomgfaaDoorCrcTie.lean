/- The listed variable of the sums: what the row's list gives; a world for the witnesses. -/
import Derived.Test.YtckihiiimomgfaaDoorRows
import Derived.Test.YtckihiiimomgfaaDoorGOpen
import Derived.Test.YtckihiiimomgfaaDoorGStamp
namespace Go.Proofs.YtckihiiimomgfaaDoor
open Go.ChangeShapes Go.WideShapes Go.ChangeAt Go.RowKit

theorem own : ownKnob Tryd.prog.godebug = none := by kernel_rfl
theorem laidOut : laidOutB Tryd.prog = true := by kernel_rfl
theorem gTab : Tryd.prog.globalNamed "doorward/crc.halves" = some 0 := by kernel_rfl
theorem gTabType : (Tryd.prog.globals[0]?).map (·.type) = some 162 := by kernel_rfl
theorem cellsTab : Tryd.prog.cellsOf 162 = 16 := by kernel_rfl
theorem cellsU32 : Tryd.prog.cellsOf 142 = 1 := by kernel_rfl
theorem halves_tab {W : World} (h : laidMetH Tryd.prog [("doorward/crc.halves", Rows.laid_doorward_crc_halves)] W) : Lib.TabIs Tryd.prog W "doorward/crc.halves" .u32 (CrcMath.halves.map Int.ofNat) :=
  Lib.tabIs_of_head (rest := []) gTab gTabType Tryd.underlying162 Tryd.underlying142 cellsU32 cellsTab h
theorem halves_of {W : World} (h : laidMetH Tryd.prog [("doorward/crc.halves", Rows.laid_doorward_crc_halves)] W) : Halves W := by
  have hc : ∀ i, i < 16 → W.cell? ⟨0, i, none⟩ = some (.int .u32 (CrcMath.halves.getD i 0 : Nat)) := by
    intro i hi
    have hl : i < (CrcMath.halves.map Int.ofNat).length := by simpa [CrcMath.halves] using hi
    have e : (CrcMath.halves.map Int.ofNat).getD i 0 = ((CrcMath.halves.getD i 0 : Nat) : Int) := (by decide : ∀ i, i < 16 → (CrcMath.halves.map Int.ofNat).getD i 0 = ((CrcMath.halves.getD i 0 : Nat) : Int)) i hi
    rw [(halves_tab h).cell gTab i hl, ← e]
  exact ⟨cell_lt (hc 0 (by decide)), hc⟩
/-- a world for the witnesses: the settled one, the table holding what its initialiser lays -/
noncomputable def laidWorld (os : Os) : World :=
  { World.holding Tryd.prog os ⟨#[], #[], []⟩ with heap := (World.holding Tryd.prog os ⟨#[], #[], []⟩).heap.modify 0 fun
      | .cells _ t frozen => .cells #[.int .u32 0, .int .u32 498536548, .int .u32 997073096, .int .u32 651767980, .int .u32 1994146192, .int .u32 1802195444, .int .u32 1303535960, .int .u32 1342533948, .int .u32 3988292384, .int .u32 4027552580, .int .u32 3604390888, .int .u32 3412177804, .int .u32 2607071920, .int .u32 2262029012, .int .u32 2685067896, .int .u32 3183342108] t frozen
      | o => o }
end Go.Proofs.YtckihiiimomgfaaDoor
