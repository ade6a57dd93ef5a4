/-
  DERIVED. GIVEN WITH THE SEED: THE CARDS: each row of YtnjkpoljcekjcaaDoorRows.lean that lists a variable, with what it lists TIED to the program's text (the seventh form; the later family's looks); each row that meets fmt, with fmt's text TOLD by the authors' own Lean function (tested against real Go, not proved from fmt's source: count such statements apart). THE CARD IS WHAT COUNTS. Prove the row's statement (the work); the ties are given (YtnjkpoljcekjcaaDoorTie.lean); close each card by the builder's one call (the guide's Derived/Test/ToyasCard.lean, 'card_holds'). Laid BY PROGRAM, IN A SANDBOX (cutbox-door.mjs). By AI agents, Wed Nov 11 2026. No macro, syntax, notation, axiom, sorry.
-/
import Derived.Test.YtnjkpoljcekjcaaDoorRows
import GoSem.ClaimSeven
namespace Go.Proofs.YtnjkpoljcekjcaaDoor
namespace Rows

/-- THE TIED CARD OF 'doorwardlaw03.ShaSums'. -/
def shaSumsCard : Claim7 := { stood := { row := shaSumsRow, standIns := [], harness := (true, "959ba54fe1c00d9d597644729e1ed8836ee546b91790b277f077247010c03b7c"), looks := false }, kinds := [], alts := [], laidByText := true, laidKinds := [.data], laidTests := true, laidLooks := .later }
def ShaSumsCardSaid : Prop := Claim7.holds Tryd.pinned (.plain (OpenSpec.ofChange shaSumsSpec)) shaSumsCard

/-- THE TIED CARD OF 'doorwardlaw03.ShaPieces'. -/
def shaPiecesCard : Claim7 := { stood := { row := shaPiecesRow, standIns := [], harness := (true, "959ba54fe1c00d9d597644729e1ed8836ee546b91790b277f077247010c03b7c"), looks := false }, kinds := [], alts := [], laidByText := true, laidKinds := [.data], laidTests := true, laidLooks := .later }
def ShaPiecesCardSaid : Prop := Claim7.holds Tryd.pinned (.plain (OpenSpec.ofChange shaPiecesSpec)) shaPiecesCard

/-- THE TIED CARD OF 'doorwardlaw03.ShaPlays'. -/
def shaPlaysCard : Claim7 := { stood := { row := shaPlaysRow, standIns := [], harness := (true, "959ba54fe1c00d9d597644729e1ed8836ee546b91790b277f077247010c03b7c"), looks := false }, kinds := [], alts := [], laidByText := true, laidKinds := [.data], laidTests := true, laidLooks := .later }
def ShaPlaysCardSaid : Prop := Claim7.holds Tryd.pinned (.plain (OpenSpec.ofChange shaPlaysSpec)) shaPlaysCard

/-- THE TIED CARD OF 'doorwardlaw03.ShaNobody'. -/
def shaNobodyCard : Claim7 := { stood := { row := shaNobodyRow, standIns := [], harness := (true, "959ba54fe1c00d9d597644729e1ed8836ee546b91790b277f077247010c03b7c"), looks := false }, kinds := [], alts := [], laidByText := true, laidKinds := [.data], laidTests := true, laidLooks := .later }
def ShaNobodyCardSaid : Prop := Claim7.holds Tryd.pinned (.plain (OpenSpec.ofChange shaNobodySpec)) shaNobodyCard

/-- THE TIED CARD OF 'doorwardlaw26.PkceMatches'. -/
def pkceMatchesCard : Claim7 := { stood := { row := pkceMatchesRow, standIns := [], harness := (true, "959ba54fe1c00d9d597644729e1ed8836ee546b91790b277f077247010c03b7c"), looks := false }, kinds := [], alts := [], laidByText := true, laidKinds := [.data], laidTests := true, laidLooks := .later }
def PkceMatchesCardSaid : Prop := Claim7.holds Tryd.pinned (.plain (OpenSpec.ofChange pkceMatchesSpec)) pkceMatchesCard

/-- THE TIED CARD OF 'doorwardlaw26.PkceTells'. -/
def pkceTellsCard : Claim7 := { stood := { row := pkceTellsRow, standIns := [], harness := (true, "959ba54fe1c00d9d597644729e1ed8836ee546b91790b277f077247010c03b7c"), looks := false }, kinds := [], alts := [], laidByText := true, laidKinds := [.data], laidTests := true, laidLooks := .later }
def PkceTellsCardSaid : Prop := Claim7.holds Tryd.pinned (.plain (OpenSpec.ofChange pkceTellsSpec)) pkceTellsCard

/-- THE TIED CARD OF 'doorwardlaw26.PkceBack'. -/
def pkceBackCard : Claim7 := { stood := { row := pkceBackRow, standIns := [], harness := (true, "959ba54fe1c00d9d597644729e1ed8836ee546b91790b277f077247010c03b7c"), looks := false }, kinds := [], alts := [], laidByText := true, laidKinds := [.data], laidTests := true, laidLooks := .later }
def PkceBackCardSaid : Prop := Claim7.holds Tryd.pinned (.plain (OpenSpec.ofChange pkceBackSpec)) pkceBackCard

/-- THE SECOND FORM's CARD OF 'doorwardlaw03.ShaSums'. -/
def shaSumsUptoCard : Claim7 := { stood := { row := shaSumsUptoRow, standIns := [], harness := (true, "959ba54fe1c00d9d597644729e1ed8836ee546b91790b277f077247010c03b7c"), looks := false }, kinds := [], alts := [], laidByText := true, laidKinds := [.data], laidTests := true, laidLooks := .later }
def ShaSumsUptoCardSaid : Prop := Claim7.holds Tryd.pinned (.plain (OpenSpec.upto shaSumsSpec)) shaSumsUptoCard

/-- THE SECOND FORM's CARD OF 'doorwardlaw03.ShaPieces'. -/
def shaPiecesUptoCard : Claim7 := { stood := { row := shaPiecesUptoRow, standIns := [], harness := (true, "959ba54fe1c00d9d597644729e1ed8836ee546b91790b277f077247010c03b7c"), looks := false }, kinds := [], alts := [], laidByText := true, laidKinds := [.data], laidTests := true, laidLooks := .later }
def ShaPiecesUptoCardSaid : Prop := Claim7.holds Tryd.pinned (.plain (OpenSpec.upto shaPiecesSpec)) shaPiecesUptoCard

/-- THE SECOND FORM's CARD OF 'doorwardlaw03.ShaPlays'. -/
def shaPlaysUptoCard : Claim7 := { stood := { row := shaPlaysUptoRow, standIns := [], harness := (true, "959ba54fe1c00d9d597644729e1ed8836ee546b91790b277f077247010c03b7c"), looks := false }, kinds := [], alts := [], laidByText := true, laidKinds := [.data], laidTests := true, laidLooks := .later }
def ShaPlaysUptoCardSaid : Prop := Claim7.holds Tryd.pinned (.plain (OpenSpec.upto shaPlaysSpec)) shaPlaysUptoCard

/-- THE SECOND FORM's CARD OF 'doorwardlaw03.ShaNobody'. -/
def shaNobodyUptoCard : Claim7 := { stood := { row := shaNobodyUptoRow, standIns := [], harness := (true, "959ba54fe1c00d9d597644729e1ed8836ee546b91790b277f077247010c03b7c"), looks := false }, kinds := [], alts := [], laidByText := true, laidKinds := [.data], laidTests := true, laidLooks := .later }
def ShaNobodyUptoCardSaid : Prop := Claim7.holds Tryd.pinned (.plain (OpenSpec.upto shaNobodySpec)) shaNobodyUptoCard

/-- THE SECOND FORM's CARD OF 'doorwardlaw26.PkceMatches'. -/
def pkceMatchesUptoCard : Claim7 := { stood := { row := pkceMatchesUptoRow, standIns := [], harness := (true, "959ba54fe1c00d9d597644729e1ed8836ee546b91790b277f077247010c03b7c"), looks := false }, kinds := [], alts := [], laidByText := true, laidKinds := [.data], laidTests := true, laidLooks := .later }
def PkceMatchesUptoCardSaid : Prop := Claim7.holds Tryd.pinned (.plain (OpenSpec.upto pkceMatchesSpec)) pkceMatchesUptoCard

/-- THE SECOND FORM's CARD OF 'doorwardlaw26.PkceTells'. -/
def pkceTellsUptoCard : Claim7 := { stood := { row := pkceTellsUptoRow, standIns := [], harness := (true, "959ba54fe1c00d9d597644729e1ed8836ee546b91790b277f077247010c03b7c"), looks := false }, kinds := [], alts := [], laidByText := true, laidKinds := [.data], laidTests := true, laidLooks := .later }
def PkceTellsUptoCardSaid : Prop := Claim7.holds Tryd.pinned (.plain (OpenSpec.upto pkceTellsSpec)) pkceTellsUptoCard

/-- THE SECOND FORM's CARD OF 'doorwardlaw26.PkceBack'. -/
def pkceBackUptoCard : Claim7 := { stood := { row := pkceBackUptoRow, standIns := [], harness := (true, "959ba54fe1c00d9d597644729e1ed8836ee546b91790b277f077247010c03b7c"), looks := false }, kinds := [], alts := [], laidByText := true, laidKinds := [.data], laidTests := true, laidLooks := .later }
def PkceBackUptoCardSaid : Prop := Claim7.holds Tryd.pinned (.plain (OpenSpec.upto pkceBackSpec)) pkceBackUptoCard
end Rows
end Go.Proofs.YtnjkpoljcekjcaaDoor
