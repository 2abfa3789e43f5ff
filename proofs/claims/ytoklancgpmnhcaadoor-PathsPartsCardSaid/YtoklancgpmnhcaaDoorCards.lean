/-
  DERIVED. GIVEN WITH THE SEED: THE CARDS: each row of YtoklancgpmnhcaaDoorRows.lean that lists a variable, with what it lists TIED to the program's text (the seventh form; the later family's looks); each row that meets fmt, with fmt's text TOLD by the authors' own Lean function (tested against real Go, not proved from fmt's source: count such statements apart). THE CARD IS WHAT COUNTS. Prove the row's statement (the work); the ties are given (YtoklancgpmnhcaaDoorTie.lean); close each card by the builder's one call (the guide's Derived/Test/ToyasCard.lean, 'card_holds'). Laid BY PROGRAM, IN A SANDBOX (cutbox-door.mjs). By AI agents, Wed Nov 11 2026. No macro, syntax, notation, axiom, sorry.
-/
import Derived.Test.YtoklancgpmnhcaaDoorRows
import GoSem.ClaimSeven
namespace Go.Proofs.YtoklancgpmnhcaaDoor
namespace Rows

/-- THE TIED CARD OF 'lighterlaw14.PathsParts'. -/
def pathsPartsCard : Claim7 := { stood := { row := pathsPartsRow, standIns := [], harness := (true, "4ce059e9a38b30a072dd72f9ecef07ed6984c05a17c38f6bbbd2f0f02fa76bbf"), looks := false }, kinds := [], alts := [], laidByText := true, laidKinds := [.data, .pinned], laidTests := true, laidLooks := .later }
def PathsPartsCardSaid : Prop := Claim7.holds Tryd.pinned (.plain (OpenSpec.ofChange pathsPartsSpec)) pathsPartsCard

/-- THE TIED CARD OF 'lighterlaw14.PathsWhite'. -/
def pathsWhiteCard : Claim7 := { stood := { row := pathsWhiteRow, standIns := [], harness := (true, "4ce059e9a38b30a072dd72f9ecef07ed6984c05a17c38f6bbbd2f0f02fa76bbf"), looks := false }, kinds := [], alts := [], laidByText := true, laidKinds := [.data, .pinned], laidTests := true, laidLooks := .later }
def PathsWhiteCardSaid : Prop := Claim7.holds Tryd.pinned (.plain (OpenSpec.ofChange pathsWhiteSpec)) pathsWhiteCard

/-- THE TIED CARD OF 'lighterlaw14.PathsTell'. -/
def pathsTellCard : Claim7 := { stood := { row := pathsTellRow, standIns := [], harness := (true, "4ce059e9a38b30a072dd72f9ecef07ed6984c05a17c38f6bbbd2f0f02fa76bbf"), looks := false }, kinds := [], alts := [], laidByText := true, laidKinds := [.data, .pinned], laidTests := true, laidLooks := .later }
def PathsTellCardSaid : Prop := Claim7.holds Tryd.pinned (.plain (OpenSpec.ofChange pathsTellSpec)) pathsTellCard

/-- THE TIED CARD OF 'lighterlaw14.PathsClean'. -/
def pathsCleanCard : Claim7 := { stood := { row := pathsCleanRow, standIns := [], harness := (true, "4ce059e9a38b30a072dd72f9ecef07ed6984c05a17c38f6bbbd2f0f02fa76bbf"), looks := false }, kinds := [], alts := [], laidByText := true, laidKinds := [.data, .pinned], laidTests := true, laidLooks := .later }
def PathsCleanCardSaid : Prop := Claim7.holds Tryd.pinned (.plain (OpenSpec.ofChange pathsCleanSpec)) pathsCleanCard

/-- THE TIED CARD OF 'lighterlaw14.PathsUnder'. -/
def pathsUnderCard : Claim7 := { stood := { row := pathsUnderRow, standIns := [], harness := (true, "4ce059e9a38b30a072dd72f9ecef07ed6984c05a17c38f6bbbd2f0f02fa76bbf"), looks := false }, kinds := [], alts := [], laidByText := true, laidKinds := [.data, .pinned], laidTests := true, laidLooks := .later }
def PathsUnderCardSaid : Prop := Claim7.holds Tryd.pinned (.plain (OpenSpec.ofChange pathsUnderSpec)) pathsUnderCard

/-- THE SECOND FORM's CARD OF 'lighterlaw14.PathsParts'. -/
def pathsPartsUptoCard : Claim7 := { stood := { row := pathsPartsUptoRow, standIns := [], harness := (true, "4ce059e9a38b30a072dd72f9ecef07ed6984c05a17c38f6bbbd2f0f02fa76bbf"), looks := false }, kinds := [], alts := [], laidByText := true, laidKinds := [.data, .pinned], laidTests := true, laidLooks := .later }
def PathsPartsUptoCardSaid : Prop := Claim7.holds Tryd.pinned (.plain (OpenSpec.upto pathsPartsSpec)) pathsPartsUptoCard

/-- THE SECOND FORM's CARD OF 'lighterlaw14.PathsWhite'. -/
def pathsWhiteUptoCard : Claim7 := { stood := { row := pathsWhiteUptoRow, standIns := [], harness := (true, "4ce059e9a38b30a072dd72f9ecef07ed6984c05a17c38f6bbbd2f0f02fa76bbf"), looks := false }, kinds := [], alts := [], laidByText := true, laidKinds := [.data, .pinned], laidTests := true, laidLooks := .later }
def PathsWhiteUptoCardSaid : Prop := Claim7.holds Tryd.pinned (.plain (OpenSpec.upto pathsWhiteSpec)) pathsWhiteUptoCard

/-- THE SECOND FORM's CARD OF 'lighterlaw14.PathsTell'. -/
def pathsTellUptoCard : Claim7 := { stood := { row := pathsTellUptoRow, standIns := [], harness := (true, "4ce059e9a38b30a072dd72f9ecef07ed6984c05a17c38f6bbbd2f0f02fa76bbf"), looks := false }, kinds := [], alts := [], laidByText := true, laidKinds := [.data, .pinned], laidTests := true, laidLooks := .later }
def PathsTellUptoCardSaid : Prop := Claim7.holds Tryd.pinned (.plain (OpenSpec.upto pathsTellSpec)) pathsTellUptoCard

/-- THE SECOND FORM's CARD OF 'lighterlaw14.PathsClean'. -/
def pathsCleanUptoCard : Claim7 := { stood := { row := pathsCleanUptoRow, standIns := [], harness := (true, "4ce059e9a38b30a072dd72f9ecef07ed6984c05a17c38f6bbbd2f0f02fa76bbf"), looks := false }, kinds := [], alts := [], laidByText := true, laidKinds := [.data, .pinned], laidTests := true, laidLooks := .later }
def PathsCleanUptoCardSaid : Prop := Claim7.holds Tryd.pinned (.plain (OpenSpec.upto pathsCleanSpec)) pathsCleanUptoCard

/-- THE SECOND FORM's CARD OF 'lighterlaw14.PathsUnder'. -/
def pathsUnderUptoCard : Claim7 := { stood := { row := pathsUnderUptoRow, standIns := [], harness := (true, "4ce059e9a38b30a072dd72f9ecef07ed6984c05a17c38f6bbbd2f0f02fa76bbf"), looks := false }, kinds := [], alts := [], laidByText := true, laidKinds := [.data, .pinned], laidTests := true, laidLooks := .later }
def PathsUnderUptoCardSaid : Prop := Claim7.holds Tryd.pinned (.plain (OpenSpec.upto pathsUnderSpec)) pathsUnderUptoCard
end Rows
end Go.Proofs.YtoklancgpmnhcaaDoor
