/-
  DERIVED. GIVEN WITH THE SEED: THE CARDS: each row of YtofcjkbgieenlaaDoorRows.lean that lists a variable, with what it lists TIED to the program's text (the seventh form; the later family's looks); each row that meets fmt, with fmt's text TOLD by the authors' own Lean function (tested against real Go, not proved from fmt's source: count such statements apart). THE CARD IS WHAT COUNTS. Prove the row's statement (the work); the ties are given (YtofcjkbgieenlaaDoorTie.lean); close each card by the builder's one call (the guide's Derived/Test/ToyasCard.lean, 'card_holds'). Laid BY PROGRAM, IN A SANDBOX (cutbox-door.mjs). By AI agents, Wed Nov 11 2026. No macro, syntax, notation, axiom, sorry.
-/
import Derived.Test.YtofcjkbgieenlaaDoorRows
import GoSem.ClaimSeven
namespace Go.Proofs.YtofcjkbgieenlaaDoor
namespace Rows

/-- THE TIED CARD OF 'lighterlaw12.RefsParse'. -/
def refsParseCard : Claim7 := { stood := { row := refsParseRow, standIns := [], harness := (true, "82a4a151df3e6d6ade058a53fa41b7ad17a4a67a9741089d5f5c6ce7a84a00d5"), looks := false }, kinds := [], alts := [], laidByText := true, laidKinds := [.data, .pinned], laidTests := true, laidLooks := .later }
def RefsParseCardSaid : Prop := Claim7.holds Tryd.pinned (.plain (OpenSpec.ofChange refsParseSpec)) refsParseCard

/-- THE TIED CARD OF 'lighterlaw12.RefsTell'. -/
def refsTellCard : Claim7 := { stood := { row := refsTellRow, standIns := [], harness := (true, "82a4a151df3e6d6ade058a53fa41b7ad17a4a67a9741089d5f5c6ce7a84a00d5"), looks := false }, kinds := [], alts := [], laidByText := true, laidKinds := [.data, .pinned], laidTests := true, laidLooks := .later }
def RefsTellCardSaid : Prop := Claim7.holds Tryd.pinned (.plain (OpenSpec.ofChange refsTellSpec)) refsTellCard

/-- THE TIED CARD OF 'lighterlaw12.RefsParts'. -/
def refsPartsCard : Claim7 := { stood := { row := refsPartsRow, standIns := [], harness := (true, "82a4a151df3e6d6ade058a53fa41b7ad17a4a67a9741089d5f5c6ce7a84a00d5"), looks := false }, kinds := [], alts := [], laidByText := true, laidKinds := [.data, .pinned], laidTests := true, laidLooks := .later }
def RefsPartsCardSaid : Prop := Claim7.holds Tryd.pinned (.plain (OpenSpec.ofChange refsPartsSpec)) refsPartsCard

/-- THE TIED CARD OF 'lighterlaw12.RefsBack'. -/
def refsBackCard : Claim7 := { stood := { row := refsBackRow, standIns := [], harness := (true, "82a4a151df3e6d6ade058a53fa41b7ad17a4a67a9741089d5f5c6ce7a84a00d5"), looks := false }, kinds := [], alts := [], laidByText := true, laidKinds := [.data, .pinned], laidTests := true, laidLooks := .later }
def RefsBackCardSaid : Prop := Claim7.holds Tryd.pinned (.plain (OpenSpec.ofChange refsBackSpec)) refsBackCard

/-- THE TIED CARD OF 'lighterlaw12.RefsMade'. -/
def refsMadeCard : Claim7 := { stood := { row := refsMadeRow, standIns := [], harness := (true, "82a4a151df3e6d6ade058a53fa41b7ad17a4a67a9741089d5f5c6ce7a84a00d5"), looks := false }, kinds := [], alts := [], laidByText := true, laidKinds := [.data, .pinned], laidTests := true, laidLooks := .later }
def RefsMadeCardSaid : Prop := Claim7.holds Tryd.pinned (.plain (OpenSpec.ofChange refsMadeSpec)) refsMadeCard

/-- THE SECOND FORM's CARD OF 'lighterlaw12.RefsParse'. -/
def refsParseUptoCard : Claim7 := { stood := { row := refsParseUptoRow, standIns := [], harness := (true, "82a4a151df3e6d6ade058a53fa41b7ad17a4a67a9741089d5f5c6ce7a84a00d5"), looks := false }, kinds := [], alts := [], laidByText := true, laidKinds := [.data, .pinned], laidTests := true, laidLooks := .later }
def RefsParseUptoCardSaid : Prop := Claim7.holds Tryd.pinned (.plain (OpenSpec.upto refsParseSpec)) refsParseUptoCard

/-- THE SECOND FORM's CARD OF 'lighterlaw12.RefsTell'. -/
def refsTellUptoCard : Claim7 := { stood := { row := refsTellUptoRow, standIns := [], harness := (true, "82a4a151df3e6d6ade058a53fa41b7ad17a4a67a9741089d5f5c6ce7a84a00d5"), looks := false }, kinds := [], alts := [], laidByText := true, laidKinds := [.data, .pinned], laidTests := true, laidLooks := .later }
def RefsTellUptoCardSaid : Prop := Claim7.holds Tryd.pinned (.plain (OpenSpec.upto refsTellSpec)) refsTellUptoCard

/-- THE SECOND FORM's CARD OF 'lighterlaw12.RefsParts'. -/
def refsPartsUptoCard : Claim7 := { stood := { row := refsPartsUptoRow, standIns := [], harness := (true, "82a4a151df3e6d6ade058a53fa41b7ad17a4a67a9741089d5f5c6ce7a84a00d5"), looks := false }, kinds := [], alts := [], laidByText := true, laidKinds := [.data, .pinned], laidTests := true, laidLooks := .later }
def RefsPartsUptoCardSaid : Prop := Claim7.holds Tryd.pinned (.plain (OpenSpec.upto refsPartsSpec)) refsPartsUptoCard

/-- THE SECOND FORM's CARD OF 'lighterlaw12.RefsBack'. -/
def refsBackUptoCard : Claim7 := { stood := { row := refsBackUptoRow, standIns := [], harness := (true, "82a4a151df3e6d6ade058a53fa41b7ad17a4a67a9741089d5f5c6ce7a84a00d5"), looks := false }, kinds := [], alts := [], laidByText := true, laidKinds := [.data, .pinned], laidTests := true, laidLooks := .later }
def RefsBackUptoCardSaid : Prop := Claim7.holds Tryd.pinned (.plain (OpenSpec.upto refsBackSpec)) refsBackUptoCard

/-- THE SECOND FORM's CARD OF 'lighterlaw12.RefsMade'. -/
def refsMadeUptoCard : Claim7 := { stood := { row := refsMadeUptoRow, standIns := [], harness := (true, "82a4a151df3e6d6ade058a53fa41b7ad17a4a67a9741089d5f5c6ce7a84a00d5"), looks := false }, kinds := [], alts := [], laidByText := true, laidKinds := [.data, .pinned], laidTests := true, laidLooks := .later }
def RefsMadeUptoCardSaid : Prop := Claim7.holds Tryd.pinned (.plain (OpenSpec.upto refsMadeSpec)) refsMadeUptoCard
end Rows
end Go.Proofs.YtofcjkbgieenlaaDoor
