/-
  NARROWER THAN 'FOR EVERY INPUT', by the rows' own cells (each row's printed sentence says how): SlotKept: laid · SlotPlays: laid · WalRoom: laid · WalNobody: laid · WalKept: laid · WalPlays: laid · SlotNobody: laid.
  DERIVED. THE GIVEN ROWS OF THIS SEAT. 7 by the template 'for every input the law returns true; each argument reads behind the call as it read before'; 0 by the template 'total and deterministic' (their statements: YtckihiiimomgfaaDoorTotals.lean).
  GIVEN WITH THE SEED: the statements are not yours to turn. If you find one false, say at which input.
  Laid BY PROGRAM, IN A SANDBOX (cutbox-rows.mjs): the forced cells as the released guide's own fill.sh prints them over the translation e7c57b602f6e6b09… (all of the seat's roots in one cut). By AI agents, Wed Nov 11 2026. No macro, syntax, notation, axiom, sorry.
-/
import Derived.Test.YtckihiiimomgfaaDoorChecked
import GoSem.Claim
import GoSem.ClaimJoined
import GoSem.ClaimMapViews
import Derived.JoinedTies
import Derived.KernelRfl
namespace Go.Proofs.YtckihiiimomgfaaDoor
/- THE CELL 'sum', in the pinned program and in every row, IS THE sha256 OF THE DUMP (.gsa) THAT YtckihiiimomgfaaDoorProg.lean LOADS. Nothing in Lean hashes anything: it is a label: what it is worth is what the hold of that sum in a sandbox is worth. -/
noncomputable def Tryd.pinned : Pinned := { name := "ytckihiiimomgfaadoor", sum := "e7c57b602f6e6b0975f4947998cecc8726266f87c74741fe7547cd5524c01d63", checked := Tryd.checked }
namespace Rows
def none {H : Type} : Left H := { results := [], args := [] }

/- WHAT THE LISTED PACKAGE-LEVEL VARIABLES READ AS WHEN THE CALL BEGINS. Each datum BY PROGRAM (the guide's laid-datum.mjs) off the statement by which the dump's own 'gosem.cut.vars' lays the variable. In a bare row this is a premise. The card (YtckihiiimomgfaaDoorCards.lean) ties it to the program's text. -/
def laid_doorward_crc_halves {H : Type} : DataW H := .agg [.lit (.int .u32 0), .lit (.int .u32 498536548), .lit (.int .u32 997073096), .lit (.int .u32 651767980), .lit (.int .u32 1994146192), .lit (.int .u32 1802195444), .lit (.int .u32 1303535960), .lit (.int .u32 1342533948), .lit (.int .u32 3988292384), .lit (.int .u32 4027552580), .lit (.int .u32 3604390888), .lit (.int .u32 3412177804), .lit (.int .u32 2607071920), .lit (.int .u32 2262029012), .lit (.int .u32 2685067896), .lit (.int .u32 3183342108)]

/-- 'doorwardlaw10.SlotKept': WHATEVER THE INPUT: true; the input reads as it did. -/
def slotKeptSpec : ChangeSpec := { name := "slotKept", fn := fun _ => fun
  | [d1, d2] => { results := [.lit (.bool true)], args := [d1, d2] }
  | _ => none }
def slotKeptRow : OpenClaim := { program := "ytckihiiimomgfaadoor", sum := "e7c57b602f6e6b0975f4947998cecc8726266f87c74741fe7547cd5524c01d63", func := "doorward/doorwardlaw10.SlotKept", spec := "slotKept", named := ["doorward/crc.halves"], apart := false, laid := [("doorward/crc.halves", laid_doorward_crc_halves)] }
def SlotKeptSaid : Prop := slotKeptRow.holds Tryd.pinned (OpenSpec.ofChange slotKeptSpec)

/-- ITS FALSE NEIGHBOUR: 'it returns false'. Refute it at one input. -/
def slotKeptWrong : ChangeSpec := { name := "slotKept", fn := fun _ => fun
  | [d1, d2] => { results := [.lit (.bool false)], args := [d1, d2] }
  | _ => none }
def SlotKeptWrongFalsely : Prop := slotKeptRow.holds Tryd.pinned (OpenSpec.ofChange slotKeptWrong)

/-- 'doorwardlaw10.SlotPlays': WHATEVER THE INPUT: true; the input reads as it did. -/
def slotPlaysSpec : ChangeSpec := { name := "slotPlays", fn := fun _ => fun
  | [d1, d2, d3, d4, d5] => { results := [.lit (.bool true)], args := [d1, d2, d3, d4, d5] }
  | _ => none }
def slotPlaysRow : OpenClaim := { program := "ytckihiiimomgfaadoor", sum := "e7c57b602f6e6b0975f4947998cecc8726266f87c74741fe7547cd5524c01d63", func := "doorward/doorwardlaw10.SlotPlays", spec := "slotPlays", recurses := true, named := ["doorward/crc.halves"], apart := false, laid := [("doorward/crc.halves", laid_doorward_crc_halves)] }
def SlotPlaysSaid : Prop := slotPlaysRow.holds Tryd.pinned (OpenSpec.ofChange slotPlaysSpec)

/-- ITS FALSE NEIGHBOUR: 'it returns false'. Refute it at one input. -/
def slotPlaysWrong : ChangeSpec := { name := "slotPlays", fn := fun _ => fun
  | [d1, d2, d3, d4, d5] => { results := [.lit (.bool false)], args := [d1, d2, d3, d4, d5] }
  | _ => none }
def SlotPlaysWrongFalsely : Prop := slotPlaysRow.holds Tryd.pinned (OpenSpec.ofChange slotPlaysWrong)

/-- 'doorwardlaw09.WalRoom': WHATEVER THE INPUT: true; the input reads as it did. -/
def walRoomSpec : ChangeSpec := { name := "walRoom", fn := fun _ => fun
  | [d1, d2, d3] => { results := [.lit (.bool true)], args := [d1, d2, d3] }
  | _ => none }
def walRoomRow : OpenClaim := { program := "ytckihiiimomgfaadoor", sum := "e7c57b602f6e6b0975f4947998cecc8726266f87c74741fe7547cd5524c01d63", func := "doorward/doorwardlaw09.WalRoom", spec := "walRoom", named := ["doorward/crc.halves"], apart := false, laid := [("doorward/crc.halves", laid_doorward_crc_halves)] }
def WalRoomSaid : Prop := walRoomRow.holds Tryd.pinned (OpenSpec.ofChange walRoomSpec)

/-- ITS FALSE NEIGHBOUR: 'it returns false'. Refute it at one input. -/
def walRoomWrong : ChangeSpec := { name := "walRoom", fn := fun _ => fun
  | [d1, d2, d3] => { results := [.lit (.bool false)], args := [d1, d2, d3] }
  | _ => none }
def WalRoomWrongFalsely : Prop := walRoomRow.holds Tryd.pinned (OpenSpec.ofChange walRoomWrong)

/-- 'doorwardlaw09.WalNobody': WHATEVER THE INPUT: true; the input reads as it did. -/
def walNobodySpec : ChangeSpec := { name := "walNobody", fn := fun _ => fun
  | [d1, d2, d3] => { results := [.lit (.bool true)], args := [d1, d2, d3] }
  | _ => none }
def walNobodyRow : OpenClaim := { program := "ytckihiiimomgfaadoor", sum := "e7c57b602f6e6b0975f4947998cecc8726266f87c74741fe7547cd5524c01d63", func := "doorward/doorwardlaw09.WalNobody", spec := "walNobody", named := ["doorward/crc.halves"], apart := false, laid := [("doorward/crc.halves", laid_doorward_crc_halves)] }
def WalNobodySaid : Prop := walNobodyRow.holds Tryd.pinned (OpenSpec.ofChange walNobodySpec)

/-- ITS FALSE NEIGHBOUR: 'it returns false'. Refute it at one input. -/
def walNobodyWrong : ChangeSpec := { name := "walNobody", fn := fun _ => fun
  | [d1, d2, d3] => { results := [.lit (.bool false)], args := [d1, d2, d3] }
  | _ => none }
def WalNobodyWrongFalsely : Prop := walNobodyRow.holds Tryd.pinned (OpenSpec.ofChange walNobodyWrong)

/-- 'doorwardlaw09.WalKept': WHATEVER THE INPUT: true; the input reads as it did. -/
def walKeptSpec : ChangeSpec := { name := "walKept", fn := fun _ => fun
  | [d1, d2] => { results := [.lit (.bool true)], args := [d1, d2] }
  | _ => none }
def walKeptRow : OpenClaim := { program := "ytckihiiimomgfaadoor", sum := "e7c57b602f6e6b0975f4947998cecc8726266f87c74741fe7547cd5524c01d63", func := "doorward/doorwardlaw09.WalKept", spec := "walKept", named := ["doorward/crc.halves"], apart := false, laid := [("doorward/crc.halves", laid_doorward_crc_halves)] }
def WalKeptSaid : Prop := walKeptRow.holds Tryd.pinned (OpenSpec.ofChange walKeptSpec)

/-- ITS FALSE NEIGHBOUR: 'it returns false'. Refute it at one input. -/
def walKeptWrong : ChangeSpec := { name := "walKept", fn := fun _ => fun
  | [d1, d2] => { results := [.lit (.bool false)], args := [d1, d2] }
  | _ => none }
def WalKeptWrongFalsely : Prop := walKeptRow.holds Tryd.pinned (OpenSpec.ofChange walKeptWrong)

/-- 'doorwardlaw09.WalPlays': WHATEVER THE INPUT: true; the input reads as it did. -/
def walPlaysSpec : ChangeSpec := { name := "walPlays", fn := fun _ => fun
  | [d1, d2, d3, d4, d5, d6] => { results := [.lit (.bool true)], args := [d1, d2, d3, d4, d5, d6] }
  | _ => none }
def walPlaysRow : OpenClaim := { program := "ytckihiiimomgfaadoor", sum := "e7c57b602f6e6b0975f4947998cecc8726266f87c74741fe7547cd5524c01d63", func := "doorward/doorwardlaw09.WalPlays", spec := "walPlays", named := ["doorward/crc.halves"], apart := false, laid := [("doorward/crc.halves", laid_doorward_crc_halves)] }
def WalPlaysSaid : Prop := walPlaysRow.holds Tryd.pinned (OpenSpec.ofChange walPlaysSpec)

/-- ITS FALSE NEIGHBOUR: 'it returns false'. Refute it at one input. -/
def walPlaysWrong : ChangeSpec := { name := "walPlays", fn := fun _ => fun
  | [d1, d2, d3, d4, d5, d6] => { results := [.lit (.bool false)], args := [d1, d2, d3, d4, d5, d6] }
  | _ => none }
def WalPlaysWrongFalsely : Prop := walPlaysRow.holds Tryd.pinned (OpenSpec.ofChange walPlaysWrong)

/-- 'doorwardlaw10.SlotNobody': WHATEVER THE INPUT: true; the input reads as it did. -/
def slotNobodySpec : ChangeSpec := { name := "slotNobody", fn := fun _ => fun
  | [d1, d2, d3] => { results := [.lit (.bool true)], args := [d1, d2, d3] }
  | _ => none }
def slotNobodyRow : OpenClaim := { program := "ytckihiiimomgfaadoor", sum := "e7c57b602f6e6b0975f4947998cecc8726266f87c74741fe7547cd5524c01d63", func := "doorward/doorwardlaw10.SlotNobody", spec := "slotNobody", named := ["doorward/crc.halves"], apart := false, laid := [("doorward/crc.halves", laid_doorward_crc_halves)] }
def SlotNobodySaid : Prop := slotNobodyRow.holds Tryd.pinned (OpenSpec.ofChange slotNobodySpec)

/-- ITS FALSE NEIGHBOUR: 'it returns false'. Refute it at one input. -/
def slotNobodyWrong : ChangeSpec := { name := "slotNobody", fn := fun _ => fun
  | [d1, d2, d3] => { results := [.lit (.bool false)], args := [d1, d2, d3] }
  | _ => none }
def SlotNobodyWrongFalsely : Prop := slotNobodyRow.holds Tryd.pinned (OpenSpec.ofChange slotNobodyWrong)

/- THE SECOND FORM. 'bulk': how many values and letters a reading holds, each counted each time it is reached (what is shared counts as often as it is met; a slice's spare places count too). A statement '..UptoSaid' is the law's where the arguments, and the package variables that the reading takes, are together of bulk at most 1048576: NARROWER than '..Said'. Prove '..Said' where nothing that the law and all that it calls make is longer than what came in: it says more and counts as full. Else prove '..UptoSaid'. A law counts once. -/
mutual
def uptoBulk {H : Type} : DataW H → Nat
  | .lit (.string bytes) => bytes.length + 1
  | .lit _ => 1
  | .nil => 1
  | .ptr d => uptoBulk d + 1
  | .slice elems spare => uptoBulkAll elems + uptoBulkAll spare + 1
  | .agg parts => uptoBulkAll parts + 1
  | .iface _ d => uptoBulk d + 1
  | .map entries => uptoBulkEntries entries + 1
  | .held _ => 1
def uptoBulkAll {H : Type} : List (DataW H) → Nat
  | [] => 0
  | d :: r => uptoBulk d + uptoBulkAll r
def uptoBulkEntries {H : Type} : List (Lit × DataW H) → Nat
  | [] => 0
  | x :: r => uptoBulkEntry x + uptoBulkEntries r
def uptoBulkEntry {H : Type} : Lit × DataW H → Nat
  | (.string bytes, d) => bytes.length + uptoBulk d + 1
  | (_, d) => uptoBulk d + 1
 end
def uptoSmall : (H : Type) → List (DataW H) → Bool := fun _ ds => decide (uptoBulkAll ds ≤ 1048576)
def OpenSpec.upto (s : _root_.Go.ChangeSpec) : _root_.Go.OpenSpec := { _root_.Go.OpenSpec.ofChange s with cond := some uptoSmall }

/-- 'doorwardlaw10.SlotKept', WHERE WHAT IT READS IS OF BULK AT MOST 1048576: true; the input reads as it did. -/
def slotKeptUptoRow : OpenClaim := { program := "ytckihiiimomgfaadoor", sum := "e7c57b602f6e6b0975f4947998cecc8726266f87c74741fe7547cd5524c01d63", func := "doorward/doorwardlaw10.SlotKept", spec := "slotKept", named := ["doorward/crc.halves"], apart := false, laid := [("doorward/crc.halves", laid_doorward_crc_halves)], narrowed := true }
def SlotKeptUptoSaid : Prop := slotKeptUptoRow.holds Tryd.pinned (OpenSpec.upto slotKeptSpec)

/-- 'doorwardlaw10.SlotPlays', WHERE WHAT IT READS IS OF BULK AT MOST 1048576: true; the input reads as it did. -/
def slotPlaysUptoRow : OpenClaim := { program := "ytckihiiimomgfaadoor", sum := "e7c57b602f6e6b0975f4947998cecc8726266f87c74741fe7547cd5524c01d63", func := "doorward/doorwardlaw10.SlotPlays", spec := "slotPlays", recurses := true, named := ["doorward/crc.halves"], apart := false, laid := [("doorward/crc.halves", laid_doorward_crc_halves)], narrowed := true }
def SlotPlaysUptoSaid : Prop := slotPlaysUptoRow.holds Tryd.pinned (OpenSpec.upto slotPlaysSpec)

/-- 'doorwardlaw09.WalRoom', WHERE WHAT IT READS IS OF BULK AT MOST 1048576: true; the input reads as it did. -/
def walRoomUptoRow : OpenClaim := { program := "ytckihiiimomgfaadoor", sum := "e7c57b602f6e6b0975f4947998cecc8726266f87c74741fe7547cd5524c01d63", func := "doorward/doorwardlaw09.WalRoom", spec := "walRoom", named := ["doorward/crc.halves"], apart := false, laid := [("doorward/crc.halves", laid_doorward_crc_halves)], narrowed := true }
def WalRoomUptoSaid : Prop := walRoomUptoRow.holds Tryd.pinned (OpenSpec.upto walRoomSpec)

/-- 'doorwardlaw09.WalNobody', WHERE WHAT IT READS IS OF BULK AT MOST 1048576: true; the input reads as it did. -/
def walNobodyUptoRow : OpenClaim := { program := "ytckihiiimomgfaadoor", sum := "e7c57b602f6e6b0975f4947998cecc8726266f87c74741fe7547cd5524c01d63", func := "doorward/doorwardlaw09.WalNobody", spec := "walNobody", named := ["doorward/crc.halves"], apart := false, laid := [("doorward/crc.halves", laid_doorward_crc_halves)], narrowed := true }
def WalNobodyUptoSaid : Prop := walNobodyUptoRow.holds Tryd.pinned (OpenSpec.upto walNobodySpec)

/-- 'doorwardlaw09.WalKept', WHERE WHAT IT READS IS OF BULK AT MOST 1048576: true; the input reads as it did. -/
def walKeptUptoRow : OpenClaim := { program := "ytckihiiimomgfaadoor", sum := "e7c57b602f6e6b0975f4947998cecc8726266f87c74741fe7547cd5524c01d63", func := "doorward/doorwardlaw09.WalKept", spec := "walKept", named := ["doorward/crc.halves"], apart := false, laid := [("doorward/crc.halves", laid_doorward_crc_halves)], narrowed := true }
def WalKeptUptoSaid : Prop := walKeptUptoRow.holds Tryd.pinned (OpenSpec.upto walKeptSpec)

/-- 'doorwardlaw09.WalPlays', WHERE WHAT IT READS IS OF BULK AT MOST 1048576: true; the input reads as it did. -/
def walPlaysUptoRow : OpenClaim := { program := "ytckihiiimomgfaadoor", sum := "e7c57b602f6e6b0975f4947998cecc8726266f87c74741fe7547cd5524c01d63", func := "doorward/doorwardlaw09.WalPlays", spec := "walPlays", named := ["doorward/crc.halves"], apart := false, laid := [("doorward/crc.halves", laid_doorward_crc_halves)], narrowed := true }
def WalPlaysUptoSaid : Prop := walPlaysUptoRow.holds Tryd.pinned (OpenSpec.upto walPlaysSpec)

/-- 'doorwardlaw10.SlotNobody', WHERE WHAT IT READS IS OF BULK AT MOST 1048576: true; the input reads as it did. -/
def slotNobodyUptoRow : OpenClaim := { program := "ytckihiiimomgfaadoor", sum := "e7c57b602f6e6b0975f4947998cecc8726266f87c74741fe7547cd5524c01d63", func := "doorward/doorwardlaw10.SlotNobody", spec := "slotNobody", named := ["doorward/crc.halves"], apart := false, laid := [("doorward/crc.halves", laid_doorward_crc_halves)], narrowed := true }
def SlotNobodyUptoSaid : Prop := slotNobodyUptoRow.holds Tryd.pinned (OpenSpec.upto slotNobodySpec)

end Rows
end Go.Proofs.YtckihiiimomgfaaDoor
