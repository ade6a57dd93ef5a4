/-
  NARROWER THAN 'FOR EVERY INPUT', by the rows' own cells (each row's printed sentence says how): CrcSums: laid · CrcPieces: laid · CrcTurns: laid · CrcSeen: laid · StampLays: laid · StampReads: laid · StampTorn: laid · StampTornEmpty: laid · StampJoins: laid · StampBack: laid.
  DERIVED. THE GIVEN ROWS OF THIS SEAT. 10 by the template 'for every input the law returns true; each argument reads behind the call as it read before'; 0 by the template 'total and deterministic' (their statements: YtpejfngkdkkfnaaDoorTotals.lean).
  GIVEN WITH THE SEED: the statements are not yours to turn. If you find one false, say at which input.
  Laid BY PROGRAM, IN A SANDBOX (cutbox-rows.mjs): the forced cells as the released guide's own fill.sh prints them over the translation 06adabdad9b26c76… (all of the seat's roots in one cut). By AI agents, Wed Nov 11 2026. No macro, syntax, notation, axiom, sorry.
-/
import Derived.Test.YtpejfngkdkkfnaaDoorChecked
import GoSem.Claim
import GoSem.ClaimJoined
import GoSem.ClaimMapViews
import Derived.JoinedTies
import Derived.KernelRfl
namespace Go.Proofs.YtpejfngkdkkfnaaDoor
/- THE CELL 'sum', in the pinned program and in every row, IS THE sha256 OF THE DUMP (.gsa) THAT YtpejfngkdkkfnaaDoorProg.lean LOADS. Nothing in Lean hashes anything: it is a label: what it is worth is what the hold of that sum in a sandbox is worth. -/
noncomputable def Tryd.pinned : Pinned := { name := "ytpejfngkdkkfnaadoor", sum := "06adabdad9b26c7637eae2093bb755a7d21f9d0611db6cd9a63d0d5ecfd15510", checked := Tryd.checked }
namespace Rows
def none {H : Type} : Left H := { results := [], args := [] }

/- WHAT THE LISTED PACKAGE-LEVEL VARIABLES READ AS WHEN THE CALL BEGINS. Each datum BY PROGRAM (the guide's laid-datum.mjs) off the statement by which the dump's own 'gosem.cut.vars' lays the variable. In a bare row this is a premise. The card (YtpejfngkdkkfnaaDoorCards.lean) ties it to the program's text. -/
def laid_doorward_crc_halves {H : Type} : DataW H := .agg [.lit (.int .u32 0), .lit (.int .u32 498536548), .lit (.int .u32 997073096), .lit (.int .u32 651767980), .lit (.int .u32 1994146192), .lit (.int .u32 1802195444), .lit (.int .u32 1303535960), .lit (.int .u32 1342533948), .lit (.int .u32 3988292384), .lit (.int .u32 4027552580), .lit (.int .u32 3604390888), .lit (.int .u32 3412177804), .lit (.int .u32 2607071920), .lit (.int .u32 2262029012), .lit (.int .u32 2685067896), .lit (.int .u32 3183342108)]

/-- 'doorwardlaw02.CrcSums': WHATEVER THE INPUT: true; the input reads as it did. -/
def crcSumsSpec : ChangeSpec := { name := "crcSums", fn := fun _ => fun
  | [d1, d2] => { results := [.lit (.bool true)], args := [d1, d2] }
  | _ => none }
def crcSumsRow : OpenClaim := { program := "ytpejfngkdkkfnaadoor", sum := "06adabdad9b26c7637eae2093bb755a7d21f9d0611db6cd9a63d0d5ecfd15510", func := "doorward/doorwardlaw02.CrcSums", spec := "crcSums", named := ["doorward/crc.halves"], apart := false, laid := [("doorward/crc.halves", laid_doorward_crc_halves)] }
def CrcSumsSaid : Prop := crcSumsRow.holds Tryd.pinned (OpenSpec.ofChange crcSumsSpec)

/-- ITS FALSE NEIGHBOUR: 'it returns false'. Refute it at one input. -/
def crcSumsWrong : ChangeSpec := { name := "crcSums", fn := fun _ => fun
  | [d1, d2] => { results := [.lit (.bool false)], args := [d1, d2] }
  | _ => none }
def CrcSumsWrongFalsely : Prop := crcSumsRow.holds Tryd.pinned (OpenSpec.ofChange crcSumsWrong)

/-- 'doorwardlaw02.CrcPieces': WHATEVER THE INPUT: true; the input reads as it did. -/
def crcPiecesSpec : ChangeSpec := { name := "crcPieces", fn := fun _ => fun
  | [d1, d2] => { results := [.lit (.bool true)], args := [d1, d2] }
  | _ => none }
def crcPiecesRow : OpenClaim := { program := "ytpejfngkdkkfnaadoor", sum := "06adabdad9b26c7637eae2093bb755a7d21f9d0611db6cd9a63d0d5ecfd15510", func := "doorward/doorwardlaw02.CrcPieces", spec := "crcPieces", named := ["doorward/crc.halves"], apart := false, laid := [("doorward/crc.halves", laid_doorward_crc_halves)] }
def CrcPiecesSaid : Prop := crcPiecesRow.holds Tryd.pinned (OpenSpec.ofChange crcPiecesSpec)

/-- ITS FALSE NEIGHBOUR: 'it returns false'. Refute it at one input. -/
def crcPiecesWrong : ChangeSpec := { name := "crcPieces", fn := fun _ => fun
  | [d1, d2] => { results := [.lit (.bool false)], args := [d1, d2] }
  | _ => none }
def CrcPiecesWrongFalsely : Prop := crcPiecesRow.holds Tryd.pinned (OpenSpec.ofChange crcPiecesWrong)

/-- 'doorwardlaw02.CrcTurns': WHATEVER THE INPUT: true; the input reads as it did. -/
def crcTurnsSpec : ChangeSpec := { name := "crcTurns", fn := fun _ => fun
  | [d1, d2, d3] => { results := [.lit (.bool true)], args := [d1, d2, d3] }
  | _ => none }
def crcTurnsRow : OpenClaim := { program := "ytpejfngkdkkfnaadoor", sum := "06adabdad9b26c7637eae2093bb755a7d21f9d0611db6cd9a63d0d5ecfd15510", func := "doorward/doorwardlaw02.CrcTurns", spec := "crcTurns", named := ["doorward/crc.halves"], apart := false, laid := [("doorward/crc.halves", laid_doorward_crc_halves)] }
def CrcTurnsSaid : Prop := crcTurnsRow.holds Tryd.pinned (OpenSpec.ofChange crcTurnsSpec)

/-- ITS FALSE NEIGHBOUR: 'it returns false'. Refute it at one input. -/
def crcTurnsWrong : ChangeSpec := { name := "crcTurns", fn := fun _ => fun
  | [d1, d2, d3] => { results := [.lit (.bool false)], args := [d1, d2, d3] }
  | _ => none }
def CrcTurnsWrongFalsely : Prop := crcTurnsRow.holds Tryd.pinned (OpenSpec.ofChange crcTurnsWrong)

/-- 'doorwardlaw02.CrcSeen': WHATEVER THE INPUT: true; the input reads as it did. -/
def crcSeenSpec : ChangeSpec := { name := "crcSeen", fn := fun _ => fun
  | [d1, d2, d3] => { results := [.lit (.bool true)], args := [d1, d2, d3] }
  | _ => none }
def crcSeenRow : OpenClaim := { program := "ytpejfngkdkkfnaadoor", sum := "06adabdad9b26c7637eae2093bb755a7d21f9d0611db6cd9a63d0d5ecfd15510", func := "doorward/doorwardlaw02.CrcSeen", spec := "crcSeen", named := ["doorward/crc.halves"], apart := false, laid := [("doorward/crc.halves", laid_doorward_crc_halves)] }
def CrcSeenSaid : Prop := crcSeenRow.holds Tryd.pinned (OpenSpec.ofChange crcSeenSpec)

/-- ITS FALSE NEIGHBOUR: 'it returns false'. Refute it at one input. -/
def crcSeenWrong : ChangeSpec := { name := "crcSeen", fn := fun _ => fun
  | [d1, d2, d3] => { results := [.lit (.bool false)], args := [d1, d2, d3] }
  | _ => none }
def CrcSeenWrongFalsely : Prop := crcSeenRow.holds Tryd.pinned (OpenSpec.ofChange crcSeenWrong)

/-- 'doorwardlaw08.StampLays': WHATEVER THE INPUT: true; the input reads as it did. -/
def stampLaysSpec : ChangeSpec := { name := "stampLays", fn := fun _ => fun
  | [d] => { results := [.lit (.bool true)], args := [d] }
  | _ => none }
def stampLaysRow : OpenClaim := { program := "ytpejfngkdkkfnaadoor", sum := "06adabdad9b26c7637eae2093bb755a7d21f9d0611db6cd9a63d0d5ecfd15510", func := "doorward/doorwardlaw08.StampLays", spec := "stampLays", named := ["doorward/crc.halves"], apart := false, laid := [("doorward/crc.halves", laid_doorward_crc_halves)] }
def StampLaysSaid : Prop := stampLaysRow.holds Tryd.pinned (OpenSpec.ofChange stampLaysSpec)

/-- ITS FALSE NEIGHBOUR: 'it returns false'. Refute it at one input. -/
def stampLaysWrong : ChangeSpec := { name := "stampLays", fn := fun _ => fun
  | [d] => { results := [.lit (.bool false)], args := [d] }
  | _ => none }
def StampLaysWrongFalsely : Prop := stampLaysRow.holds Tryd.pinned (OpenSpec.ofChange stampLaysWrong)

/-- 'doorwardlaw08.StampReads': WHATEVER THE INPUT: true; the input reads as it did. -/
def stampReadsSpec : ChangeSpec := { name := "stampReads", fn := fun _ => fun
  | [d] => { results := [.lit (.bool true)], args := [d] }
  | _ => none }
def stampReadsRow : OpenClaim := { program := "ytpejfngkdkkfnaadoor", sum := "06adabdad9b26c7637eae2093bb755a7d21f9d0611db6cd9a63d0d5ecfd15510", func := "doorward/doorwardlaw08.StampReads", spec := "stampReads", named := ["doorward/crc.halves"], apart := false, laid := [("doorward/crc.halves", laid_doorward_crc_halves)] }
def StampReadsSaid : Prop := stampReadsRow.holds Tryd.pinned (OpenSpec.ofChange stampReadsSpec)

/-- ITS FALSE NEIGHBOUR: 'it returns false'. Refute it at one input. -/
def stampReadsWrong : ChangeSpec := { name := "stampReads", fn := fun _ => fun
  | [d] => { results := [.lit (.bool false)], args := [d] }
  | _ => none }
def StampReadsWrongFalsely : Prop := stampReadsRow.holds Tryd.pinned (OpenSpec.ofChange stampReadsWrong)

/-- 'doorwardlaw08.StampTorn': WHATEVER THE INPUT: true; the input reads as it did. -/
def stampTornSpec : ChangeSpec := { name := "stampTorn", fn := fun _ => fun
  | [d1, d2, d3] => { results := [.lit (.bool true)], args := [d1, d2, d3] }
  | _ => none }
def stampTornRow : OpenClaim := { program := "ytpejfngkdkkfnaadoor", sum := "06adabdad9b26c7637eae2093bb755a7d21f9d0611db6cd9a63d0d5ecfd15510", func := "doorward/doorwardlaw08.StampTorn", spec := "stampTorn", named := ["doorward/crc.halves"], apart := false, laid := [("doorward/crc.halves", laid_doorward_crc_halves)] }
def StampTornSaid : Prop := stampTornRow.holds Tryd.pinned (OpenSpec.ofChange stampTornSpec)

/-- ITS FALSE NEIGHBOUR: 'it returns false'. Refute it at one input. -/
def stampTornWrong : ChangeSpec := { name := "stampTorn", fn := fun _ => fun
  | [d1, d2, d3] => { results := [.lit (.bool false)], args := [d1, d2, d3] }
  | _ => none }
def StampTornWrongFalsely : Prop := stampTornRow.holds Tryd.pinned (OpenSpec.ofChange stampTornWrong)

/-- 'doorwardlaw08.StampTornEmpty': WHATEVER THE INPUT: true; the input reads as it did. -/
def stampTornEmptySpec : ChangeSpec := { name := "stampTornEmpty", fn := fun _ => fun
  | [d1, d2, d3] => { results := [.lit (.bool true)], args := [d1, d2, d3] }
  | _ => none }
def stampTornEmptyRow : OpenClaim := { program := "ytpejfngkdkkfnaadoor", sum := "06adabdad9b26c7637eae2093bb755a7d21f9d0611db6cd9a63d0d5ecfd15510", func := "doorward/doorwardlaw08.StampTornEmpty", spec := "stampTornEmpty", named := ["doorward/crc.halves"], apart := false, laid := [("doorward/crc.halves", laid_doorward_crc_halves)] }
def StampTornEmptySaid : Prop := stampTornEmptyRow.holds Tryd.pinned (OpenSpec.ofChange stampTornEmptySpec)

/-- ITS FALSE NEIGHBOUR: 'it returns false'. Refute it at one input. -/
def stampTornEmptyWrong : ChangeSpec := { name := "stampTornEmpty", fn := fun _ => fun
  | [d1, d2, d3] => { results := [.lit (.bool false)], args := [d1, d2, d3] }
  | _ => none }
def StampTornEmptyWrongFalsely : Prop := stampTornEmptyRow.holds Tryd.pinned (OpenSpec.ofChange stampTornEmptyWrong)

/-- 'doorwardlaw08.StampJoins': WHATEVER THE INPUT: true; the input reads as it did. -/
def stampJoinsSpec : ChangeSpec := { name := "stampJoins", fn := fun _ => fun
  | [d] => { results := [.lit (.bool true)], args := [d] }
  | _ => none }
def stampJoinsRow : OpenClaim := { program := "ytpejfngkdkkfnaadoor", sum := "06adabdad9b26c7637eae2093bb755a7d21f9d0611db6cd9a63d0d5ecfd15510", func := "doorward/doorwardlaw08.StampJoins", spec := "stampJoins", named := ["doorward/crc.halves"], apart := false, laid := [("doorward/crc.halves", laid_doorward_crc_halves)] }
def StampJoinsSaid : Prop := stampJoinsRow.holds Tryd.pinned (OpenSpec.ofChange stampJoinsSpec)

/-- ITS FALSE NEIGHBOUR: 'it returns false'. Refute it at one input. -/
def stampJoinsWrong : ChangeSpec := { name := "stampJoins", fn := fun _ => fun
  | [d] => { results := [.lit (.bool false)], args := [d] }
  | _ => none }
def StampJoinsWrongFalsely : Prop := stampJoinsRow.holds Tryd.pinned (OpenSpec.ofChange stampJoinsWrong)

/-- 'doorwardlaw08.StampBack': WHATEVER THE INPUT: true; the input reads as it did. -/
def stampBackSpec : ChangeSpec := { name := "stampBack", fn := fun _ => fun
  | [d1, d2, d3] => { results := [.lit (.bool true)], args := [d1, d2, d3] }
  | _ => none }
def stampBackRow : OpenClaim := { program := "ytpejfngkdkkfnaadoor", sum := "06adabdad9b26c7637eae2093bb755a7d21f9d0611db6cd9a63d0d5ecfd15510", func := "doorward/doorwardlaw08.StampBack", spec := "stampBack", named := ["doorward/crc.halves"], apart := false, laid := [("doorward/crc.halves", laid_doorward_crc_halves)] }
def StampBackSaid : Prop := stampBackRow.holds Tryd.pinned (OpenSpec.ofChange stampBackSpec)

/-- ITS FALSE NEIGHBOUR: 'it returns false'. Refute it at one input. -/
def stampBackWrong : ChangeSpec := { name := "stampBack", fn := fun _ => fun
  | [d1, d2, d3] => { results := [.lit (.bool false)], args := [d1, d2, d3] }
  | _ => none }
def StampBackWrongFalsely : Prop := stampBackRow.holds Tryd.pinned (OpenSpec.ofChange stampBackWrong)

/- THE SECOND FORM. 'bulk': how many values and letters a reading holds, each counted each time it is reached (what is shared counts as often as it is met; a slice's spare places count too). A statement '..UptoSaid' is the law's where the arguments, and the package variables that the reading takes, are together of bulk at most 1048576: NARROWER than '..Said'. Prove '..Said' where nothing that the law and all that it calls make is longer than what came in: it says more and counts as full. Else prove '..UptoSaid'. A law counts once. -/
mutual
def uptoBulk {H : Type} : DataW H → Nat
  | .lit (.string bytes) => bytes.length + 1
  | .lit _ => 1
  | .nil => 1
  | .ptr d => uptoBulk d + 1
  | .slice elems spare => uptoBulkAll elems + uptoBulkAll spare + 1
  | .agg parts => uptoBulkAll parts + 1
  | .iface _ d => uptoBulk d + 1
  | .map entries => uptoBulkEntries entries + 1
  | .held _ => 1
def uptoBulkAll {H : Type} : List (DataW H) → Nat
  | [] => 0
  | d :: r => uptoBulk d + uptoBulkAll r
def uptoBulkEntries {H : Type} : List (Lit × DataW H) → Nat
  | [] => 0
  | x :: r => uptoBulkEntry x + uptoBulkEntries r
def uptoBulkEntry {H : Type} : Lit × DataW H → Nat
  | (.string bytes, d) => bytes.length + uptoBulk d + 1
  | (_, d) => uptoBulk d + 1
 end
def uptoSmall : (H : Type) → List (DataW H) → Bool := fun _ ds => decide (uptoBulkAll ds ≤ 1048576)
def OpenSpec.upto (s : _root_.Go.ChangeSpec) : _root_.Go.OpenSpec := { _root_.Go.OpenSpec.ofChange s with cond := some uptoSmall }

/-- 'doorwardlaw02.CrcSums', WHERE WHAT IT READS IS OF BULK AT MOST 1048576: true; the input reads as it did. -/
def crcSumsUptoRow : OpenClaim := { program := "ytpejfngkdkkfnaadoor", sum := "06adabdad9b26c7637eae2093bb755a7d21f9d0611db6cd9a63d0d5ecfd15510", func := "doorward/doorwardlaw02.CrcSums", spec := "crcSums", named := ["doorward/crc.halves"], apart := false, laid := [("doorward/crc.halves", laid_doorward_crc_halves)], narrowed := true }
def CrcSumsUptoSaid : Prop := crcSumsUptoRow.holds Tryd.pinned (OpenSpec.upto crcSumsSpec)

/-- 'doorwardlaw02.CrcPieces', WHERE WHAT IT READS IS OF BULK AT MOST 1048576: true; the input reads as it did. -/
def crcPiecesUptoRow : OpenClaim := { program := "ytpejfngkdkkfnaadoor", sum := "06adabdad9b26c7637eae2093bb755a7d21f9d0611db6cd9a63d0d5ecfd15510", func := "doorward/doorwardlaw02.CrcPieces", spec := "crcPieces", named := ["doorward/crc.halves"], apart := false, laid := [("doorward/crc.halves", laid_doorward_crc_halves)], narrowed := true }
def CrcPiecesUptoSaid : Prop := crcPiecesUptoRow.holds Tryd.pinned (OpenSpec.upto crcPiecesSpec)

/-- 'doorwardlaw02.CrcTurns', WHERE WHAT IT READS IS OF BULK AT MOST 1048576: true; the input reads as it did. -/
def crcTurnsUptoRow : OpenClaim := { program := "ytpejfngkdkkfnaadoor", sum := "06adabdad9b26c7637eae2093bb755a7d21f9d0611db6cd9a63d0d5ecfd15510", func := "doorward/doorwardlaw02.CrcTurns", spec := "crcTurns", named := ["doorward/crc.halves"], apart := false, laid := [("doorward/crc.halves", laid_doorward_crc_halves)], narrowed := true }
def CrcTurnsUptoSaid : Prop := crcTurnsUptoRow.holds Tryd.pinned (OpenSpec.upto crcTurnsSpec)

/-- 'doorwardlaw02.CrcSeen', WHERE WHAT IT READS IS OF BULK AT MOST 1048576: true; the input reads as it did. -/
def crcSeenUptoRow : OpenClaim := { program := "ytpejfngkdkkfnaadoor", sum := "06adabdad9b26c7637eae2093bb755a7d21f9d0611db6cd9a63d0d5ecfd15510", func := "doorward/doorwardlaw02.CrcSeen", spec := "crcSeen", named := ["doorward/crc.halves"], apart := false, laid := [("doorward/crc.halves", laid_doorward_crc_halves)], narrowed := true }
def CrcSeenUptoSaid : Prop := crcSeenUptoRow.holds Tryd.pinned (OpenSpec.upto crcSeenSpec)

/-- 'doorwardlaw08.StampLays', WHERE WHAT IT READS IS OF BULK AT MOST 1048576: true; the input reads as it did. -/
def stampLaysUptoRow : OpenClaim := { program := "ytpejfngkdkkfnaadoor", sum := "06adabdad9b26c7637eae2093bb755a7d21f9d0611db6cd9a63d0d5ecfd15510", func := "doorward/doorwardlaw08.StampLays", spec := "stampLays", named := ["doorward/crc.halves"], apart := false, laid := [("doorward/crc.halves", laid_doorward_crc_halves)], narrowed := true }
def StampLaysUptoSaid : Prop := stampLaysUptoRow.holds Tryd.pinned (OpenSpec.upto stampLaysSpec)

/-- 'doorwardlaw08.StampReads', WHERE WHAT IT READS IS OF BULK AT MOST 1048576: true; the input reads as it did. -/
def stampReadsUptoRow : OpenClaim := { program := "ytpejfngkdkkfnaadoor", sum := "06adabdad9b26c7637eae2093bb755a7d21f9d0611db6cd9a63d0d5ecfd15510", func := "doorward/doorwardlaw08.StampReads", spec := "stampReads", named := ["doorward/crc.halves"], apart := false, laid := [("doorward/crc.halves", laid_doorward_crc_halves)], narrowed := true }
def StampReadsUptoSaid : Prop := stampReadsUptoRow.holds Tryd.pinned (OpenSpec.upto stampReadsSpec)

/-- 'doorwardlaw08.StampTorn', WHERE WHAT IT READS IS OF BULK AT MOST 1048576: true; the input reads as it did. -/
def stampTornUptoRow : OpenClaim := { program := "ytpejfngkdkkfnaadoor", sum := "06adabdad9b26c7637eae2093bb755a7d21f9d0611db6cd9a63d0d5ecfd15510", func := "doorward/doorwardlaw08.StampTorn", spec := "stampTorn", named := ["doorward/crc.halves"], apart := false, laid := [("doorward/crc.halves", laid_doorward_crc_halves)], narrowed := true }
def StampTornUptoSaid : Prop := stampTornUptoRow.holds Tryd.pinned (OpenSpec.upto stampTornSpec)

/-- 'doorwardlaw08.StampTornEmpty', WHERE WHAT IT READS IS OF BULK AT MOST 1048576: true; the input reads as it did. -/
def stampTornEmptyUptoRow : OpenClaim := { program := "ytpejfngkdkkfnaadoor", sum := "06adabdad9b26c7637eae2093bb755a7d21f9d0611db6cd9a63d0d5ecfd15510", func := "doorward/doorwardlaw08.StampTornEmpty", spec := "stampTornEmpty", named := ["doorward/crc.halves"], apart := false, laid := [("doorward/crc.halves", laid_doorward_crc_halves)], narrowed := true }
def StampTornEmptyUptoSaid : Prop := stampTornEmptyUptoRow.holds Tryd.pinned (OpenSpec.upto stampTornEmptySpec)

/-- 'doorwardlaw08.StampJoins', WHERE WHAT IT READS IS OF BULK AT MOST 1048576: true; the input reads as it did. -/
def stampJoinsUptoRow : OpenClaim := { program := "ytpejfngkdkkfnaadoor", sum := "06adabdad9b26c7637eae2093bb755a7d21f9d0611db6cd9a63d0d5ecfd15510", func := "doorward/doorwardlaw08.StampJoins", spec := "stampJoins", named := ["doorward/crc.halves"], apart := false, laid := [("doorward/crc.halves", laid_doorward_crc_halves)], narrowed := true }
def StampJoinsUptoSaid : Prop := stampJoinsUptoRow.holds Tryd.pinned (OpenSpec.upto stampJoinsSpec)

/-- 'doorwardlaw08.StampBack', WHERE WHAT IT READS IS OF BULK AT MOST 1048576: true; the input reads as it did. -/
def stampBackUptoRow : OpenClaim := { program := "ytpejfngkdkkfnaadoor", sum := "06adabdad9b26c7637eae2093bb755a7d21f9d0611db6cd9a63d0d5ecfd15510", func := "doorward/doorwardlaw08.StampBack", spec := "stampBack", named := ["doorward/crc.halves"], apart := false, laid := [("doorward/crc.halves", laid_doorward_crc_halves)], narrowed := true }
def StampBackUptoSaid : Prop := stampBackUptoRow.holds Tryd.pinned (OpenSpec.upto stampBackSpec)

end Rows
end Go.Proofs.YtpejfngkdkkfnaaDoor
