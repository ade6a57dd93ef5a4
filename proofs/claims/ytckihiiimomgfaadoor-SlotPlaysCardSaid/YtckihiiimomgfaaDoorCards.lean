/-
  DERIVED. GIVEN WITH THE SEED: THE CARDS: each row of YtckihiiimomgfaaDoorRows.lean that lists a variable, with what it lists TIED to the program's text (the seventh form; the later family's looks); each row that meets fmt, with fmt's text TOLD by the authors' own Lean function (tested against real Go, not proved from fmt's source: count such statements apart). THE CARD IS WHAT COUNTS. Prove the row's statement (the work); the ties are given (YtckihiiimomgfaaDoorTie.lean); close each card by the builder's one call (the guide's Derived/Test/ToyasCard.lean, 'card_holds'). Laid BY PROGRAM, IN A SANDBOX (cutbox-door.mjs). By AI agents, Wed Nov 11 2026. No macro, syntax, notation, axiom, sorry.
-/
import Derived.Test.YtckihiiimomgfaaDoorRows
import GoSem.ClaimSeven
namespace Go.Proofs.YtckihiiimomgfaaDoor
namespace Rows

/-- THE TIED CARD OF 'doorwardlaw10.SlotKept'. -/
def slotKeptCard : Claim7 := { stood := { row := slotKeptRow, standIns := [], harness := (true, "3f7708c5882dee63d8cce48635afff8a061a489ef943b087c187661b9a019357"), looks := false }, kinds := [], alts := [], laidByText := true, laidKinds := [.data], laidTests := true, laidLooks := .later }
def SlotKeptCardSaid : Prop := Claim7.holds Tryd.pinned (.plain (OpenSpec.ofChange slotKeptSpec)) slotKeptCard

/-- THE TIED CARD OF 'doorwardlaw10.SlotPlays'. -/
def slotPlaysCard : Claim7 := { stood := { row := slotPlaysRow, standIns := [], harness := (true, "3f7708c5882dee63d8cce48635afff8a061a489ef943b087c187661b9a019357"), looks := false }, kinds := [], alts := [], laidByText := true, laidKinds := [.data], laidTests := true, laidLooks := .later }
def SlotPlaysCardSaid : Prop := Claim7.holds Tryd.pinned (.plain (OpenSpec.ofChange slotPlaysSpec)) slotPlaysCard

/-- THE TIED CARD OF 'doorwardlaw09.WalRoom'. -/
def walRoomCard : Claim7 := { stood := { row := walRoomRow, standIns := [], harness := (true, "3f7708c5882dee63d8cce48635afff8a061a489ef943b087c187661b9a019357"), looks := false }, kinds := [], alts := [], laidByText := true, laidKinds := [.data], laidTests := true, laidLooks := .later }
def WalRoomCardSaid : Prop := Claim7.holds Tryd.pinned (.plain (OpenSpec.ofChange walRoomSpec)) walRoomCard

/-- THE TIED CARD OF 'doorwardlaw09.WalNobody'. -/
def walNobodyCard : Claim7 := { stood := { row := walNobodyRow, standIns := [], harness := (true, "3f7708c5882dee63d8cce48635afff8a061a489ef943b087c187661b9a019357"), looks := false }, kinds := [], alts := [], laidByText := true, laidKinds := [.data], laidTests := true, laidLooks := .later }
def WalNobodyCardSaid : Prop := Claim7.holds Tryd.pinned (.plain (OpenSpec.ofChange walNobodySpec)) walNobodyCard

/-- THE TIED CARD OF 'doorwardlaw09.WalKept'. -/
def walKeptCard : Claim7 := { stood := { row := walKeptRow, standIns := [], harness := (true, "3f7708c5882dee63d8cce48635afff8a061a489ef943b087c187661b9a019357"), looks := false }, kinds := [], alts := [], laidByText := true, laidKinds := [.data], laidTests := true, laidLooks := .later }
def WalKeptCardSaid : Prop := Claim7.holds Tryd.pinned (.plain (OpenSpec.ofChange walKeptSpec)) walKeptCard

/-- THE TIED CARD OF 'doorwardlaw09.WalPlays'. -/
def walPlaysCard : Claim7 := { stood := { row := walPlaysRow, standIns := [], harness := (true, "3f7708c5882dee63d8cce48635afff8a061a489ef943b087c187661b9a019357"), looks := false }, kinds := [], alts := [], laidByText := true, laidKinds := [.data], laidTests := true, laidLooks := .later }
def WalPlaysCardSaid : Prop := Claim7.holds Tryd.pinned (.plain (OpenSpec.ofChange walPlaysSpec)) walPlaysCard

/-- THE TIED CARD OF 'doorwardlaw10.SlotNobody'. -/
def slotNobodyCard : Claim7 := { stood := { row := slotNobodyRow, standIns := [], harness := (true, "3f7708c5882dee63d8cce48635afff8a061a489ef943b087c187661b9a019357"), looks := false }, kinds := [], alts := [], laidByText := true, laidKinds := [.data], laidTests := true, laidLooks := .later }
def SlotNobodyCardSaid : Prop := Claim7.holds Tryd.pinned (.plain (OpenSpec.ofChange slotNobodySpec)) slotNobodyCard

/-- THE SECOND FORM's CARD OF 'doorwardlaw10.SlotKept'. -/
def slotKeptUptoCard : Claim7 := { stood := { row := slotKeptUptoRow, standIns := [], harness := (true, "3f7708c5882dee63d8cce48635afff8a061a489ef943b087c187661b9a019357"), looks := false }, kinds := [], alts := [], laidByText := true, laidKinds := [.data], laidTests := true, laidLooks := .later }
def SlotKeptUptoCardSaid : Prop := Claim7.holds Tryd.pinned (.plain (OpenSpec.upto slotKeptSpec)) slotKeptUptoCard

/-- THE SECOND FORM's CARD OF 'doorwardlaw10.SlotPlays'. -/
def slotPlaysUptoCard : Claim7 := { stood := { row := slotPlaysUptoRow, standIns := [], harness := (true, "3f7708c5882dee63d8cce48635afff8a061a489ef943b087c187661b9a019357"), looks := false }, kinds := [], alts := [], laidByText := true, laidKinds := [.data], laidTests := true, laidLooks := .later }
def SlotPlaysUptoCardSaid : Prop := Claim7.holds Tryd.pinned (.plain (OpenSpec.upto slotPlaysSpec)) slotPlaysUptoCard

/-- THE SECOND FORM's CARD OF 'doorwardlaw09.WalRoom'. -/
def walRoomUptoCard : Claim7 := { stood := { row := walRoomUptoRow, standIns := [], harness := (true, "3f7708c5882dee63d8cce48635afff8a061a489ef943b087c187661b9a019357"), looks := false }, kinds := [], alts := [], laidByText := true, laidKinds := [.data], laidTests := true, laidLooks := .later }
def WalRoomUptoCardSaid : Prop := Claim7.holds Tryd.pinned (.plain (OpenSpec.upto walRoomSpec)) walRoomUptoCard

/-- THE SECOND FORM's CARD OF 'doorwardlaw09.WalNobody'. -/
def walNobodyUptoCard : Claim7 := { stood := { row := walNobodyUptoRow, standIns := [], harness := (true, "3f7708c5882dee63d8cce48635afff8a061a489ef943b087c187661b9a019357"), looks := false }, kinds := [], alts := [], laidByText := true, laidKinds := [.data], laidTests := true, laidLooks := .later }
def WalNobodyUptoCardSaid : Prop := Claim7.holds Tryd.pinned (.plain (OpenSpec.upto walNobodySpec)) walNobodyUptoCard

/-- THE SECOND FORM's CARD OF 'doorwardlaw09.WalKept'. -/
def walKeptUptoCard : Claim7 := { stood := { row := walKeptUptoRow, standIns := [], harness := (true, "3f7708c5882dee63d8cce48635afff8a061a489ef943b087c187661b9a019357"), looks := false }, kinds := [], alts := [], laidByText := true, laidKinds := [.data], laidTests := true, laidLooks := .later }
def WalKeptUptoCardSaid : Prop := Claim7.holds Tryd.pinned (.plain (OpenSpec.upto walKeptSpec)) walKeptUptoCard

/-- THE SECOND FORM's CARD OF 'doorwardlaw09.WalPlays'. -/
def walPlaysUptoCard : Claim7 := { stood := { row := walPlaysUptoRow, standIns := [], harness := (true, "3f7708c5882dee63d8cce48635afff8a061a489ef943b087c187661b9a019357"), looks := false }, kinds := [], alts := [], laidByText := true, laidKinds := [.data], laidTests := true, laidLooks := .later }
def WalPlaysUptoCardSaid : Prop := Claim7.holds Tryd.pinned (.plain (OpenSpec.upto walPlaysSpec)) walPlaysUptoCard

/-- THE SECOND FORM's CARD OF 'doorwardlaw10.SlotNobody'. -/
def slotNobodyUptoCard : Claim7 := { stood := { row := slotNobodyUptoRow, standIns := [], harness := (true, "3f7708c5882dee63d8cce48635afff8a061a489ef943b087c187661b9a019357"), looks := false }, kinds := [], alts := [], laidByText := true, laidKinds := [.data], laidTests := true, laidLooks := .later }
def SlotNobodyUptoCardSaid : Prop := Claim7.holds Tryd.pinned (.plain (OpenSpec.upto slotNobodySpec)) slotNobodyUptoCard
end Rows
end Go.Proofs.YtckihiiimomgfaaDoor
