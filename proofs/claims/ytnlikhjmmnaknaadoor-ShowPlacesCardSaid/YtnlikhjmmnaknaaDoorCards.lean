/-
  DERIVED. GIVEN WITH THE SEED: THE CARDS: each row of YtnlikhjmmnaknaaDoorRows.lean that lists a variable, with what it lists TIED to the program's text (the seventh form; the later family's looks); each row that meets fmt, with fmt's text TOLD by the authors' own Lean function (tested against real Go, not proved from fmt's source: count such statements apart). THE CARD IS WHAT COUNTS. Prove the row's statement (the work); the ties are given (YtnlikhjmmnaknaaDoorTie.lean); close each card by the builder's one call (the guide's Derived/Test/ToyasCard.lean, 'card_holds'). Laid BY PROGRAM, IN A SANDBOX (cutbox-door.mjs). By AI agents, Wed Nov 11 2026. No macro, syntax, notation, axiom, sorry.
-/
import Derived.Test.YtnlikhjmmnaknaaDoorRows
import GoSem.ClaimSeven
namespace Go.Proofs.YtnlikhjmmnaknaaDoor
namespace Rows

/-- THE TIED CARD OF 'tompionlaw13.ShowExprs'. -/
def showExprsCard : Claim7 := { stood := { row := showExprsRow, standIns := [], harness := (true, "2caa2e5082cad981226795addaa2e442aa045db2a903a3fce82e9dc17ff34ec4"), looks := false }, kinds := [], alts := [], laidByText := true, laidKinds := [.data, .data, .data], laidTests := true, laidLooks := .later }
def ShowExprsCardSaid : Prop := Claim7.holds Tryd.pinned (.plain (OpenSpec.ofChange showExprsSpec)) showExprsCard

/-- THE TIED CARD OF 'tompionlaw13.ShowSources'. -/
def showSourcesCard : Claim7 := { stood := { row := showSourcesRow, standIns := [], harness := (true, "2caa2e5082cad981226795addaa2e442aa045db2a903a3fce82e9dc17ff34ec4"), looks := false }, kinds := [], alts := [], laidByText := true, laidKinds := [.data, .data, .data], laidTests := true, laidLooks := .later }
def ShowSourcesCardSaid : Prop := Claim7.holds Tryd.pinned (.plain (OpenSpec.ofChange showSourcesSpec)) showSourcesCard

/-- THE TIED CARD OF 'tompionlaw13.ShowPlaces'. -/
def showPlacesCard : Claim7 := { stood := { row := showPlacesRow, standIns := [], harness := (true, "2caa2e5082cad981226795addaa2e442aa045db2a903a3fce82e9dc17ff34ec4"), looks := false }, kinds := [], alts := [], laidByText := true, laidKinds := [.data, .data, .data], laidTests := true, laidLooks := .later }
def ShowPlacesCardSaid : Prop := Claim7.holds Tryd.pinned (.plain (OpenSpec.ofChange showPlacesSpec)) showPlacesCard

/-- THE SECOND FORM's CARD OF 'tompionlaw13.ShowExprs'. -/
def showExprsUptoCard : Claim7 := { stood := { row := showExprsUptoRow, standIns := [], harness := (true, "2caa2e5082cad981226795addaa2e442aa045db2a903a3fce82e9dc17ff34ec4"), looks := false }, kinds := [], alts := [], laidByText := true, laidKinds := [.data, .data, .data], laidTests := true, laidLooks := .later }
def ShowExprsUptoCardSaid : Prop := Claim7.holds Tryd.pinned (.plain (OpenSpec.upto showExprsSpec)) showExprsUptoCard

/-- THE SECOND FORM's CARD OF 'tompionlaw13.ShowSources'. -/
def showSourcesUptoCard : Claim7 := { stood := { row := showSourcesUptoRow, standIns := [], harness := (true, "2caa2e5082cad981226795addaa2e442aa045db2a903a3fce82e9dc17ff34ec4"), looks := false }, kinds := [], alts := [], laidByText := true, laidKinds := [.data, .data, .data], laidTests := true, laidLooks := .later }
def ShowSourcesUptoCardSaid : Prop := Claim7.holds Tryd.pinned (.plain (OpenSpec.upto showSourcesSpec)) showSourcesUptoCard

/-- THE SECOND FORM's CARD OF 'tompionlaw13.ShowPlaces'. -/
def showPlacesUptoCard : Claim7 := { stood := { row := showPlacesUptoRow, standIns := [], harness := (true, "2caa2e5082cad981226795addaa2e442aa045db2a903a3fce82e9dc17ff34ec4"), looks := false }, kinds := [], alts := [], laidByText := true, laidKinds := [.data, .data, .data], laidTests := true, laidLooks := .later }
def ShowPlacesUptoCardSaid : Prop := Claim7.holds Tryd.pinned (.plain (OpenSpec.upto showPlacesSpec)) showPlacesUptoCard
end Rows
end Go.Proofs.YtnlikhjmmnaknaaDoor
