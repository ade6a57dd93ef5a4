/-
  NARROWER THAN 'FOR EVERY INPUT', by the rows' own cells (each row's printed sentence says how): ZookieTexts: laid · ZookieBack: laid.
  DERIVED. THE GIVEN ROWS OF THIS SEAT. 2 by the template 'for every input the law returns true; each argument reads behind the call as it read before'; 0 by the template 'total and deterministic' (their statements: YtmaemlmbhldmkaaDoorTotals.lean).
  GIVEN WITH THE SEED: the statements are not yours to turn. If you find one false, say at which input.
  Laid BY PROGRAM, IN A SANDBOX (cutbox-rows.mjs): the forced cells as the released guide's own fill.sh prints them over the translation 1a4493bfda4cb50a… (all of the seat's roots in one cut). By AI agents, Wed Nov 11 2026. No macro, syntax, notation, axiom, sorry.
-/
import Derived.Test.YtmaemlmbhldmkaaDoorChecked
import GoSem.Claim
import GoSem.ClaimJoined
import GoSem.ClaimMapViews
import Derived.JoinedTies
import Derived.KernelRfl
namespace Go.Proofs.YtmaemlmbhldmkaaDoor
/- THE CELL 'sum', in the pinned program and in every row, IS THE sha256 OF THE DUMP (.gsa) THAT YtmaemlmbhldmkaaDoorProg.lean LOADS. Nothing in Lean hashes anything: it is a label: what it is worth is what the hold of that sum in a sandbox is worth. -/
noncomputable def Tryd.pinned : Pinned := { name := "ytmaemlmbhldmkaadoor", sum := "1a4493bfda4cb50aa3aa2f3d612ac5d94d61bd478f9fcb3555e4f29cd18fc536", checked := Tryd.checked }
namespace Rows
def none {H : Type} : Left H := { results := [], args := [] }

/- WHAT THE LISTED PACKAGE-LEVEL VARIABLES READ AS WHEN THE CALL BEGINS. Each datum BY PROGRAM (the guide's laid-datum.mjs) off the statement by which the dump's own 'gosem.cut.vars' lays the variable. In a bare row this is a premise. The card (YtmaemlmbhldmkaaDoorCards.lean) ties it to the program's text. -/
def laid_doorward_crc_halves {H : Type} : DataW H := .agg [.lit (.int .u32 0), .lit (.int .u32 498536548), .lit (.int .u32 997073096), .lit (.int .u32 651767980), .lit (.int .u32 1994146192), .lit (.int .u32 1802195444), .lit (.int .u32 1303535960), .lit (.int .u32 1342533948), .lit (.int .u32 3988292384), .lit (.int .u32 4027552580), .lit (.int .u32 3604390888), .lit (.int .u32 3412177804), .lit (.int .u32 2607071920), .lit (.int .u32 2262029012), .lit (.int .u32 2685067896), .lit (.int .u32 3183342108)]

/-- 'doorwardlaw14.ZookieTexts': WHATEVER THE INPUT: true; the input reads as it did. -/
def zookieTextsSpec : ChangeSpec := { name := "zookieTexts", fn := fun _ => fun
  | [d1, d2] => { results := [.lit (.bool true)], args := [d1, d2] }
  | _ => none }
def zookieTextsRow : OpenClaim := { program := "ytmaemlmbhldmkaadoor", sum := "1a4493bfda4cb50aa3aa2f3d612ac5d94d61bd478f9fcb3555e4f29cd18fc536", func := "doorward/doorwardlaw14.ZookieTexts", spec := "zookieTexts", inPlace := ["internal/bytealg.IndexByteString", "internal/abi.NoEscape"], recurses := true, named := ["doorward/crc.halves"], apart := false, laid := [("doorward/crc.halves", laid_doorward_crc_halves)] }
def ZookieTextsSaid : Prop := zookieTextsRow.holds Tryd.pinned (OpenSpec.ofChange zookieTextsSpec)

/-- ITS FALSE NEIGHBOUR: 'it returns false'. Refute it at one input. -/
def zookieTextsWrong : ChangeSpec := { name := "zookieTexts", fn := fun _ => fun
  | [d1, d2] => { results := [.lit (.bool false)], args := [d1, d2] }
  | _ => none }
def ZookieTextsWrongFalsely : Prop := zookieTextsRow.holds Tryd.pinned (OpenSpec.ofChange zookieTextsWrong)

/-- 'doorwardlaw14.ZookieBack': WHATEVER THE INPUT: true; the input reads as it did. -/
def zookieBackSpec : ChangeSpec := { name := "zookieBack", fn := fun _ => fun
  | [d1, d2, d3] => { results := [.lit (.bool true)], args := [d1, d2, d3] }
  | _ => none }
def zookieBackRow : OpenClaim := { program := "ytmaemlmbhldmkaadoor", sum := "1a4493bfda4cb50aa3aa2f3d612ac5d94d61bd478f9fcb3555e4f29cd18fc536", func := "doorward/doorwardlaw14.ZookieBack", spec := "zookieBack", inPlace := ["internal/abi.NoEscape", "internal/bytealg.IndexByteString"], named := ["doorward/crc.halves"], apart := false, laid := [("doorward/crc.halves", laid_doorward_crc_halves)] }
def ZookieBackSaid : Prop := zookieBackRow.holds Tryd.pinned (OpenSpec.ofChange zookieBackSpec)

/-- ITS FALSE NEIGHBOUR: 'it returns false'. Refute it at one input. -/
def zookieBackWrong : ChangeSpec := { name := "zookieBack", fn := fun _ => fun
  | [d1, d2, d3] => { results := [.lit (.bool false)], args := [d1, d2, d3] }
  | _ => none }
def ZookieBackWrongFalsely : Prop := zookieBackRow.holds Tryd.pinned (OpenSpec.ofChange zookieBackWrong)

/- THE SECOND FORM. 'bulk': how many values and letters a reading holds, each counted each time it is reached (what is shared counts as often as it is met; a slice's spare places count too). A statement '..UptoSaid' is the law's where the arguments, and the package variables that the reading takes, are together of bulk at most 1048576: NARROWER than '..Said'. Prove '..Said' where nothing that the law and all that it calls make is longer than what came in: it says more and counts as full. Else prove '..UptoSaid'. A law counts once. -/
mutual
def uptoBulk {H : Type} : DataW H → Nat
  | .lit (.string bytes) => bytes.length + 1
  | .lit _ => 1
  | .nil => 1
  | .ptr d => uptoBulk d + 1
  | .slice elems spare => uptoBulkAll elems + uptoBulkAll spare + 1
  | .agg parts => uptoBulkAll parts + 1
  | .iface _ d => uptoBulk d + 1
  | .map entries => uptoBulkEntries entries + 1
  | .held _ => 1
def uptoBulkAll {H : Type} : List (DataW H) → Nat
  | [] => 0
  | d :: r => uptoBulk d + uptoBulkAll r
def uptoBulkEntries {H : Type} : List (Lit × DataW H) → Nat
  | [] => 0
  | x :: r => uptoBulkEntry x + uptoBulkEntries r
def uptoBulkEntry {H : Type} : Lit × DataW H → Nat
  | (.string bytes, d) => bytes.length + uptoBulk d + 1
  | (_, d) => uptoBulk d + 1
 end
def uptoSmall : (H : Type) → List (DataW H) → Bool := fun _ ds => decide (uptoBulkAll ds ≤ 1048576)
def OpenSpec.upto (s : _root_.Go.ChangeSpec) : _root_.Go.OpenSpec := { _root_.Go.OpenSpec.ofChange s with cond := some uptoSmall }

/-- 'doorwardlaw14.ZookieTexts', WHERE WHAT IT READS IS OF BULK AT MOST 1048576: true; the input reads as it did. -/
def zookieTextsUptoRow : OpenClaim := { program := "ytmaemlmbhldmkaadoor", sum := "1a4493bfda4cb50aa3aa2f3d612ac5d94d61bd478f9fcb3555e4f29cd18fc536", func := "doorward/doorwardlaw14.ZookieTexts", spec := "zookieTexts", inPlace := ["internal/bytealg.IndexByteString", "internal/abi.NoEscape"], recurses := true, named := ["doorward/crc.halves"], apart := false, laid := [("doorward/crc.halves", laid_doorward_crc_halves)], narrowed := true }
def ZookieTextsUptoSaid : Prop := zookieTextsUptoRow.holds Tryd.pinned (OpenSpec.upto zookieTextsSpec)

/-- 'doorwardlaw14.ZookieBack', WHERE WHAT IT READS IS OF BULK AT MOST 1048576: true; the input reads as it did. -/
def zookieBackUptoRow : OpenClaim := { program := "ytmaemlmbhldmkaadoor", sum := "1a4493bfda4cb50aa3aa2f3d612ac5d94d61bd478f9fcb3555e4f29cd18fc536", func := "doorward/doorwardlaw14.ZookieBack", spec := "zookieBack", inPlace := ["internal/abi.NoEscape", "internal/bytealg.IndexByteString"], named := ["doorward/crc.halves"], apart := false, laid := [("doorward/crc.halves", laid_doorward_crc_halves)], narrowed := true }
def ZookieBackUptoSaid : Prop := zookieBackUptoRow.holds Tryd.pinned (OpenSpec.upto zookieBackSpec)

end Rows
end Go.Proofs.YtmaemlmbhldmkaaDoor
