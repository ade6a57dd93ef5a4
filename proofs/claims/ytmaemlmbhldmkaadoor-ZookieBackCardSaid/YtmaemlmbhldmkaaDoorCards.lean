/-
  DERIVED. GIVEN WITH THE SEED: THE CARDS: each row of YtmaemlmbhldmkaaDoorRows.lean that lists a variable, with what it lists TIED to the program's text (the seventh form; the later family's looks); each row that meets fmt, with fmt's text TOLD by the authors' own Lean function (tested against real Go, not proved from fmt's source: count such statements apart). THE CARD IS WHAT COUNTS. Prove the row's statement (the work); the ties are given (YtmaemlmbhldmkaaDoorTie.lean); close each card by the builder's one call (the guide's Derived/Test/ToyasCard.lean, 'card_holds'). Laid BY PROGRAM, IN A SANDBOX (cutbox-door.mjs). By AI agents, Wed Nov 11 2026. No macro, syntax, notation, axiom, sorry.
-/
import Derived.Test.YtmaemlmbhldmkaaDoorRows
import GoSem.ClaimSeven
namespace Go.Proofs.YtmaemlmbhldmkaaDoor
namespace Rows

/-- THE TIED CARD OF 'doorwardlaw14.ZookieTexts'. -/
def zookieTextsCard : Claim7 := { stood := { row := zookieTextsRow, standIns := [], harness := (true, "649ea8e5dd8667f9c0edda0e1e4c7c99b4d4c6767445cf2e66e111fb922546ad"), looks := false }, kinds := [], alts := [], laidByText := true, laidKinds := [.data], laidTests := true, laidLooks := .later }
def ZookieTextsCardSaid : Prop := Claim7.holds Tryd.pinned (.plain (OpenSpec.ofChange zookieTextsSpec)) zookieTextsCard

/-- THE TIED CARD OF 'doorwardlaw14.ZookieBack'. -/
def zookieBackCard : Claim7 := { stood := { row := zookieBackRow, standIns := [], harness := (true, "649ea8e5dd8667f9c0edda0e1e4c7c99b4d4c6767445cf2e66e111fb922546ad"), looks := false }, kinds := [], alts := [], laidByText := true, laidKinds := [.data], laidTests := true, laidLooks := .later }
def ZookieBackCardSaid : Prop := Claim7.holds Tryd.pinned (.plain (OpenSpec.ofChange zookieBackSpec)) zookieBackCard

/-- THE SECOND FORM's CARD OF 'doorwardlaw14.ZookieTexts'. -/
def zookieTextsUptoCard : Claim7 := { stood := { row := zookieTextsUptoRow, standIns := [], harness := (true, "649ea8e5dd8667f9c0edda0e1e4c7c99b4d4c6767445cf2e66e111fb922546ad"), looks := false }, kinds := [], alts := [], laidByText := true, laidKinds := [.data], laidTests := true, laidLooks := .later }
def ZookieTextsUptoCardSaid : Prop := Claim7.holds Tryd.pinned (.plain (OpenSpec.upto zookieTextsSpec)) zookieTextsUptoCard

/-- THE SECOND FORM's CARD OF 'doorwardlaw14.ZookieBack'. -/
def zookieBackUptoCard : Claim7 := { stood := { row := zookieBackUptoRow, standIns := [], harness := (true, "649ea8e5dd8667f9c0edda0e1e4c7c99b4d4c6767445cf2e66e111fb922546ad"), looks := false }, kinds := [], alts := [], laidByText := true, laidKinds := [.data], laidTests := true, laidLooks := .later }
def ZookieBackUptoCardSaid : Prop := Claim7.holds Tryd.pinned (.plain (OpenSpec.upto zookieBackSpec)) zookieBackUptoCard
end Rows
end Go.Proofs.YtmaemlmbhldmkaaDoor
