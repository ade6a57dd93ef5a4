/-
  DERIVED. GIVEN WITH THE SEED: THE CARDS: each row of YtpejfngkdkkfnaaDoorRows.lean that lists a variable, with what it lists TIED to the program's text (the seventh form; the later family's looks); each row that meets fmt, with fmt's text TOLD by the authors' own Lean function (tested against real Go, not proved from fmt's source: count such statements apart). THE CARD IS WHAT COUNTS. Prove the row's statement (the work); the ties are given (YtpejfngkdkkfnaaDoorTie.lean); close each card by the builder's one call (the guide's Derived/Test/ToyasCard.lean, 'card_holds'). Laid BY PROGRAM, IN A SANDBOX (cutbox-door.mjs). By AI agents, Wed Nov 11 2026. No macro, syntax, notation, axiom, sorry.
-/
import Derived.Test.YtpejfngkdkkfnaaDoorRows
import GoSem.ClaimSeven
namespace Go.Proofs.YtpejfngkdkkfnaaDoor
namespace Rows

/-- THE TIED CARD OF 'doorwardlaw02.CrcSums'. -/
def crcSumsCard : Claim7 := { stood := { row := crcSumsRow, standIns := [], harness := (true, "f2f8b9ad865b48c356a1de284d22cc3c14b0115dd77a6456d458cee4105e15fe"), looks := false }, kinds := [], alts := [], laidByText := true, laidKinds := [.data], laidTests := true, laidLooks := .later }
def CrcSumsCardSaid : Prop := Claim7.holds Tryd.pinned (.plain (OpenSpec.ofChange crcSumsSpec)) crcSumsCard

/-- THE TIED CARD OF 'doorwardlaw02.CrcPieces'. -/
def crcPiecesCard : Claim7 := { stood := { row := crcPiecesRow, standIns := [], harness := (true, "f2f8b9ad865b48c356a1de284d22cc3c14b0115dd77a6456d458cee4105e15fe"), looks := false }, kinds := [], alts := [], laidByText := true, laidKinds := [.data], laidTests := true, laidLooks := .later }
def CrcPiecesCardSaid : Prop := Claim7.holds Tryd.pinned (.plain (OpenSpec.ofChange crcPiecesSpec)) crcPiecesCard

/-- THE TIED CARD OF 'doorwardlaw02.CrcTurns'. -/
def crcTurnsCard : Claim7 := { stood := { row := crcTurnsRow, standIns := [], harness := (true, "f2f8b9ad865b48c356a1de284d22cc3c14b0115dd77a6456d458cee4105e15fe"), looks := false }, kinds := [], alts := [], laidByText := true, laidKinds := [.data], laidTests := true, laidLooks := .later }
def CrcTurnsCardSaid : Prop := Claim7.holds Tryd.pinned (.plain (OpenSpec.ofChange crcTurnsSpec)) crcTurnsCard

/-- THE TIED CARD OF 'doorwardlaw02.CrcSeen'. -/
def crcSeenCard : Claim7 := { stood := { row := crcSeenRow, standIns := [], harness := (true, "f2f8b9ad865b48c356a1de284d22cc3c14b0115dd77a6456d458cee4105e15fe"), looks := false }, kinds := [], alts := [], laidByText := true, laidKinds := [.data], laidTests := true, laidLooks := .later }
def CrcSeenCardSaid : Prop := Claim7.holds Tryd.pinned (.plain (OpenSpec.ofChange crcSeenSpec)) crcSeenCard

/-- THE TIED CARD OF 'doorwardlaw08.StampLays'. -/
def stampLaysCard : Claim7 := { stood := { row := stampLaysRow, standIns := [], harness := (true, "f2f8b9ad865b48c356a1de284d22cc3c14b0115dd77a6456d458cee4105e15fe"), looks := false }, kinds := [], alts := [], laidByText := true, laidKinds := [.data], laidTests := true, laidLooks := .later }
def StampLaysCardSaid : Prop := Claim7.holds Tryd.pinned (.plain (OpenSpec.ofChange stampLaysSpec)) stampLaysCard

/-- THE TIED CARD OF 'doorwardlaw08.StampReads'. -/
def stampReadsCard : Claim7 := { stood := { row := stampReadsRow, standIns := [], harness := (true, "f2f8b9ad865b48c356a1de284d22cc3c14b0115dd77a6456d458cee4105e15fe"), looks := false }, kinds := [], alts := [], laidByText := true, laidKinds := [.data], laidTests := true, laidLooks := .later }
def StampReadsCardSaid : Prop := Claim7.holds Tryd.pinned (.plain (OpenSpec.ofChange stampReadsSpec)) stampReadsCard

/-- THE TIED CARD OF 'doorwardlaw08.StampTorn'. -/
def stampTornCard : Claim7 := { stood := { row := stampTornRow, standIns := [], harness := (true, "f2f8b9ad865b48c356a1de284d22cc3c14b0115dd77a6456d458cee4105e15fe"), looks := false }, kinds := [], alts := [], laidByText := true, laidKinds := [.data], laidTests := true, laidLooks := .later }
def StampTornCardSaid : Prop := Claim7.holds Tryd.pinned (.plain (OpenSpec.ofChange stampTornSpec)) stampTornCard

/-- THE TIED CARD OF 'doorwardlaw08.StampTornEmpty'. -/
def stampTornEmptyCard : Claim7 := { stood := { row := stampTornEmptyRow, standIns := [], harness := (true, "f2f8b9ad865b48c356a1de284d22cc3c14b0115dd77a6456d458cee4105e15fe"), looks := false }, kinds := [], alts := [], laidByText := true, laidKinds := [.data], laidTests := true, laidLooks := .later }
def StampTornEmptyCardSaid : Prop := Claim7.holds Tryd.pinned (.plain (OpenSpec.ofChange stampTornEmptySpec)) stampTornEmptyCard

/-- THE TIED CARD OF 'doorwardlaw08.StampJoins'. -/
def stampJoinsCard : Claim7 := { stood := { row := stampJoinsRow, standIns := [], harness := (true, "f2f8b9ad865b48c356a1de284d22cc3c14b0115dd77a6456d458cee4105e15fe"), looks := false }, kinds := [], alts := [], laidByText := true, laidKinds := [.data], laidTests := true, laidLooks := .later }
def StampJoinsCardSaid : Prop := Claim7.holds Tryd.pinned (.plain (OpenSpec.ofChange stampJoinsSpec)) stampJoinsCard

/-- THE TIED CARD OF 'doorwardlaw08.StampBack'. -/
def stampBackCard : Claim7 := { stood := { row := stampBackRow, standIns := [], harness := (true, "f2f8b9ad865b48c356a1de284d22cc3c14b0115dd77a6456d458cee4105e15fe"), looks := false }, kinds := [], alts := [], laidByText := true, laidKinds := [.data], laidTests := true, laidLooks := .later }
def StampBackCardSaid : Prop := Claim7.holds Tryd.pinned (.plain (OpenSpec.ofChange stampBackSpec)) stampBackCard

/-- THE SECOND FORM's CARD OF 'doorwardlaw02.CrcSums'. -/
def crcSumsUptoCard : Claim7 := { stood := { row := crcSumsUptoRow, standIns := [], harness := (true, "f2f8b9ad865b48c356a1de284d22cc3c14b0115dd77a6456d458cee4105e15fe"), looks := false }, kinds := [], alts := [], laidByText := true, laidKinds := [.data], laidTests := true, laidLooks := .later }
def CrcSumsUptoCardSaid : Prop := Claim7.holds Tryd.pinned (.plain (OpenSpec.upto crcSumsSpec)) crcSumsUptoCard

/-- THE SECOND FORM's CARD OF 'doorwardlaw02.CrcPieces'. -/
def crcPiecesUptoCard : Claim7 := { stood := { row := crcPiecesUptoRow, standIns := [], harness := (true, "f2f8b9ad865b48c356a1de284d22cc3c14b0115dd77a6456d458cee4105e15fe"), looks := false }, kinds := [], alts := [], laidByText := true, laidKinds := [.data], laidTests := true, laidLooks := .later }
def CrcPiecesUptoCardSaid : Prop := Claim7.holds Tryd.pinned (.plain (OpenSpec.upto crcPiecesSpec)) crcPiecesUptoCard

/-- THE SECOND FORM's CARD OF 'doorwardlaw02.CrcTurns'. -/
def crcTurnsUptoCard : Claim7 := { stood := { row := crcTurnsUptoRow, standIns := [], harness := (true, "f2f8b9ad865b48c356a1de284d22cc3c14b0115dd77a6456d458cee4105e15fe"), looks := false }, kinds := [], alts := [], laidByText := true, laidKinds := [.data], laidTests := true, laidLooks := .later }
def CrcTurnsUptoCardSaid : Prop := Claim7.holds Tryd.pinned (.plain (OpenSpec.upto crcTurnsSpec)) crcTurnsUptoCard

/-- THE SECOND FORM's CARD OF 'doorwardlaw02.CrcSeen'. -/
def crcSeenUptoCard : Claim7 := { stood := { row := crcSeenUptoRow, standIns := [], harness := (true, "f2f8b9ad865b48c356a1de284d22cc3c14b0115dd77a6456d458cee4105e15fe"), looks := false }, kinds := [], alts := [], laidByText := true, laidKinds := [.data], laidTests := true, laidLooks := .later }
def CrcSeenUptoCardSaid : Prop := Claim7.holds Tryd.pinned (.plain (OpenSpec.upto crcSeenSpec)) crcSeenUptoCard

/-- THE SECOND FORM's CARD OF 'doorwardlaw08.StampLays'. -/
def stampLaysUptoCard : Claim7 := { stood := { row := stampLaysUptoRow, standIns := [], harness := (true, "f2f8b9ad865b48c356a1de284d22cc3c14b0115dd77a6456d458cee4105e15fe"), looks := false }, kinds := [], alts := [], laidByText := true, laidKinds := [.data], laidTests := true, laidLooks := .later }
def StampLaysUptoCardSaid : Prop := Claim7.holds Tryd.pinned (.plain (OpenSpec.upto stampLaysSpec)) stampLaysUptoCard

/-- THE SECOND FORM's CARD OF 'doorwardlaw08.StampReads'. -/
def stampReadsUptoCard : Claim7 := { stood := { row := stampReadsUptoRow, standIns := [], harness := (true, "f2f8b9ad865b48c356a1de284d22cc3c14b0115dd77a6456d458cee4105e15fe"), looks := false }, kinds := [], alts := [], laidByText := true, laidKinds := [.data], laidTests := true, laidLooks := .later }
def StampReadsUptoCardSaid : Prop := Claim7.holds Tryd.pinned (.plain (OpenSpec.upto stampReadsSpec)) stampReadsUptoCard

/-- THE SECOND FORM's CARD OF 'doorwardlaw08.StampTorn'. -/
def stampTornUptoCard : Claim7 := { stood := { row := stampTornUptoRow, standIns := [], harness := (true, "f2f8b9ad865b48c356a1de284d22cc3c14b0115dd77a6456d458cee4105e15fe"), looks := false }, kinds := [], alts := [], laidByText := true, laidKinds := [.data], laidTests := true, laidLooks := .later }
def StampTornUptoCardSaid : Prop := Claim7.holds Tryd.pinned (.plain (OpenSpec.upto stampTornSpec)) stampTornUptoCard

/-- THE SECOND FORM's CARD OF 'doorwardlaw08.StampTornEmpty'. -/
def stampTornEmptyUptoCard : Claim7 := { stood := { row := stampTornEmptyUptoRow, standIns := [], harness := (true, "f2f8b9ad865b48c356a1de284d22cc3c14b0115dd77a6456d458cee4105e15fe"), looks := false }, kinds := [], alts := [], laidByText := true, laidKinds := [.data], laidTests := true, laidLooks := .later }
def StampTornEmptyUptoCardSaid : Prop := Claim7.holds Tryd.pinned (.plain (OpenSpec.upto stampTornEmptySpec)) stampTornEmptyUptoCard

/-- THE SECOND FORM's CARD OF 'doorwardlaw08.StampJoins'. -/
def stampJoinsUptoCard : Claim7 := { stood := { row := stampJoinsUptoRow, standIns := [], harness := (true, "f2f8b9ad865b48c356a1de284d22cc3c14b0115dd77a6456d458cee4105e15fe"), looks := false }, kinds := [], alts := [], laidByText := true, laidKinds := [.data], laidTests := true, laidLooks := .later }
def StampJoinsUptoCardSaid : Prop := Claim7.holds Tryd.pinned (.plain (OpenSpec.upto stampJoinsSpec)) stampJoinsUptoCard

/-- THE SECOND FORM's CARD OF 'doorwardlaw08.StampBack'. -/
def stampBackUptoCard : Claim7 := { stood := { row := stampBackUptoRow, standIns := [], harness := (true, "f2f8b9ad865b48c356a1de284d22cc3c14b0115dd77a6456d458cee4105e15fe"), looks := false }, kinds := [], alts := [], laidByText := true, laidKinds := [.data], laidTests := true, laidLooks := .later }
def StampBackUptoCardSaid : Prop := Claim7.holds Tryd.pinned (.plain (OpenSpec.upto stampBackSpec)) stampBackUptoCard
end Rows
end Go.Proofs.YtpejfngkdkkfnaaDoor
