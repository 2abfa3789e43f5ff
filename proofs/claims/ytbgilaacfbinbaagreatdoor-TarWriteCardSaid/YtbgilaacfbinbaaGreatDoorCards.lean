/-
  DERIVED. GIVEN WITH THE SEED: THE CARDS: each row of YtbgilaacfbinbaaGreatDoorRows.lean that lists a variable, with what it lists TIED to the program's text (the seventh form; the later family's looks); each row that meets fmt, with fmt's text TOLD by the authors' own Lean function (tested against real Go, not proved from fmt's source: count such statements apart). THE CARD IS WHAT COUNTS. Prove the row's statement (the work); the ties are given (YtbgilaacfbinbaaGreatDoorTie.lean); close each card by the builder's one call (the guide's Derived/Test/ToyasCard.lean, 'card_holds'). Laid BY PROGRAM, IN A SANDBOX (cutbox-door.mjs). By AI agents, Wed Nov 11 2026. No macro, syntax, notation, axiom, sorry.
-/
import Derived.Test.YtbgilaacfbinbaaGreatDoorRows
import GoSem.ClaimSeven
namespace Go.Proofs.YtbgilaacfbinbaaGreatDoor
namespace Rows

/-- THE TIED CARD OF 'lighterlaw15.TarWrite'. -/
def tarWriteCard : Claim7 := { stood := { row := tarWriteRow, standIns := [], harness := (true, "eacd93f84d71b552bd05e83f9743e8b27cbd4f95c50914dfc873492795d0b1ea"), looks := true }, kinds := [], alts := [], laidByText := true, laidKinds := [.data, .data, .data, .data, .sentinel, .sentinel, .data, .pinned], laidTests := true, laidLooks := .later }
def TarWriteCardSaid : Prop := Claim7.holds Tryz.pinned (.plain (OpenSpec.ofChange tarWriteSpec)) tarWriteCard

/-- THE TIED CARD OF 'lighterlaw15.TarSpoilt'. -/
def tarSpoiltCard : Claim7 := { stood := { row := tarSpoiltRow, standIns := [], harness := (true, "eacd93f84d71b552bd05e83f9743e8b27cbd4f95c50914dfc873492795d0b1ea"), looks := true }, kinds := [], alts := [], laidByText := true, laidKinds := [.data, .data, .data, .data, .sentinel, .sentinel, .data, .pinned], laidTests := true, laidLooks := .later }
def TarSpoiltCardSaid : Prop := Claim7.holds Tryz.pinned (.plain (OpenSpec.ofChange tarSpoiltSpec)) tarSpoiltCard

/-- THE TIED CARD OF 'lighterlaw15.TarBack'. -/
def tarBackCard : Claim7 := { stood := { row := tarBackRow, standIns := [], harness := (true, "eacd93f84d71b552bd05e83f9743e8b27cbd4f95c50914dfc873492795d0b1ea"), looks := true }, kinds := [], alts := [], laidByText := true, laidKinds := [.data, .data, .data, .data, .sentinel, .sentinel, .data, .pinned], laidTests := true, laidLooks := .later }
def TarBackCardSaid : Prop := Claim7.holds Tryz.pinned (.plain (OpenSpec.ofChange tarBackSpec)) tarBackCard

/-- THE TIED CARD OF 'lighterlaw15.TarSum'. -/
def tarSumCard : Claim7 := { stood := { row := tarSumRow, standIns := [], harness := (true, "eacd93f84d71b552bd05e83f9743e8b27cbd4f95c50914dfc873492795d0b1ea"), looks := true }, kinds := [], alts := [], laidByText := true, laidKinds := [.data, .data, .data, .data, .sentinel, .sentinel, .data, .pinned], laidTests := true, laidLooks := .later }
def TarSumCardSaid : Prop := Claim7.holds Tryz.pinned (.plain (OpenSpec.ofChange tarSumSpec)) tarSumCard

/-- THE TIED CARD OF 'lighterlaw15.TarParts'. -/
def tarPartsCard : Claim7 := { stood := { row := tarPartsRow, standIns := [], harness := (true, "eacd93f84d71b552bd05e83f9743e8b27cbd4f95c50914dfc873492795d0b1ea"), looks := true }, kinds := [], alts := [], laidByText := true, laidKinds := [.data, .data, .data, .data, .sentinel, .sentinel, .data, .pinned], laidTests := true, laidLooks := .later }
def TarPartsCardSaid : Prop := Claim7.holds Tryz.pinned (.plain (OpenSpec.ofChange tarPartsSpec)) tarPartsCard

/-- THE SECOND FORM's CARD OF 'lighterlaw15.TarWrite'. -/
def tarWriteUptoCard : Claim7 := { stood := { row := tarWriteUptoRow, standIns := [], harness := (true, "eacd93f84d71b552bd05e83f9743e8b27cbd4f95c50914dfc873492795d0b1ea"), looks := true }, kinds := [], alts := [], laidByText := true, laidKinds := [.data, .data, .data, .data, .sentinel, .sentinel, .data, .pinned], laidTests := true, laidLooks := .later }
def TarWriteUptoCardSaid : Prop := Claim7.holds Tryz.pinned (.plain (OpenSpec.upto tarWriteSpec)) tarWriteUptoCard

/-- THE SECOND FORM's CARD OF 'lighterlaw15.TarSpoilt'. -/
def tarSpoiltUptoCard : Claim7 := { stood := { row := tarSpoiltUptoRow, standIns := [], harness := (true, "eacd93f84d71b552bd05e83f9743e8b27cbd4f95c50914dfc873492795d0b1ea"), looks := true }, kinds := [], alts := [], laidByText := true, laidKinds := [.data, .data, .data, .data, .sentinel, .sentinel, .data, .pinned], laidTests := true, laidLooks := .later }
def TarSpoiltUptoCardSaid : Prop := Claim7.holds Tryz.pinned (.plain (OpenSpec.upto tarSpoiltSpec)) tarSpoiltUptoCard

/-- THE SECOND FORM's CARD OF 'lighterlaw15.TarBack'. -/
def tarBackUptoCard : Claim7 := { stood := { row := tarBackUptoRow, standIns := [], harness := (true, "eacd93f84d71b552bd05e83f9743e8b27cbd4f95c50914dfc873492795d0b1ea"), looks := true }, kinds := [], alts := [], laidByText := true, laidKinds := [.data, .data, .data, .data, .sentinel, .sentinel, .data, .pinned], laidTests := true, laidLooks := .later }
def TarBackUptoCardSaid : Prop := Claim7.holds Tryz.pinned (.plain (OpenSpec.upto tarBackSpec)) tarBackUptoCard

/-- THE SECOND FORM's CARD OF 'lighterlaw15.TarSum'. -/
def tarSumUptoCard : Claim7 := { stood := { row := tarSumUptoRow, standIns := [], harness := (true, "eacd93f84d71b552bd05e83f9743e8b27cbd4f95c50914dfc873492795d0b1ea"), looks := true }, kinds := [], alts := [], laidByText := true, laidKinds := [.data, .data, .data, .data, .sentinel, .sentinel, .data, .pinned], laidTests := true, laidLooks := .later }
def TarSumUptoCardSaid : Prop := Claim7.holds Tryz.pinned (.plain (OpenSpec.upto tarSumSpec)) tarSumUptoCard

/-- THE SECOND FORM's CARD OF 'lighterlaw15.TarParts'. -/
def tarPartsUptoCard : Claim7 := { stood := { row := tarPartsUptoRow, standIns := [], harness := (true, "eacd93f84d71b552bd05e83f9743e8b27cbd4f95c50914dfc873492795d0b1ea"), looks := true }, kinds := [], alts := [], laidByText := true, laidKinds := [.data, .data, .data, .data, .sentinel, .sentinel, .data, .pinned], laidTests := true, laidLooks := .later }
def TarPartsUptoCardSaid : Prop := Claim7.holds Tryz.pinned (.plain (OpenSpec.upto tarPartsSpec)) tarPartsUptoCard
end Rows
end Go.Proofs.YtbgilaacfbinbaaGreatDoor
