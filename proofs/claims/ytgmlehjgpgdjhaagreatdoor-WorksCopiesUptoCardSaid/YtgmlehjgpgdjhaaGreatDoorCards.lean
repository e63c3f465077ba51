/-
  DERIVED. GIVEN WITH THE SEED: THE CARDS: each row of YtgmlehjgpgdjhaaGreatDoorRows.lean that lists a variable, with what it lists TIED to the program's text (the seventh form; the later family's looks); each row that meets fmt, with fmt's text TOLD by the authors' own Lean function (tested against real Go, not proved from fmt's source: count such statements apart). THE CARD IS WHAT COUNTS. Prove the row's statement (the work); the ties are given (YtgmlehjgpgdjhaaGreatDoorTie.lean); close each card by the builder's one call (the guide's Derived/Test/ToyasCard.lean, 'card_holds'). Laid BY PROGRAM, IN A SANDBOX (cutbox-door.mjs). By AI agents, Wed Nov 11 2026. No macro, syntax, notation, axiom, sorry.
-/
import Derived.Test.YtgmlehjgpgdjhaaGreatDoorRows
import GoSem.ClaimSeven
namespace Go.Proofs.YtgmlehjgpgdjhaaGreatDoor
namespace Rows

/-- THE TIED CARD OF 'gantkeep2.WorksCopies'. -/
def worksCopiesCard : Claim7 := { stood := { row := worksCopiesRow, standIns := [], harness := (true, "de5672d0275e4a2a25d3406cf36df4482bc9c8caf3ff55d30ffbf2bee9916da6"), looks := false }, kinds := [], alts := [], laidByText := true, laidKinds := [.data], laidTests := true, laidLooks := .later }
def WorksCopiesCardSaid : Prop := Claim7.holds Tryz.pinned (.plain (OpenSpec.ofChange worksCopiesSpec)) worksCopiesCard

/-- THE TIED CARD OF 'gantkeep2.MoveHolds'. -/
def moveHoldsCard : Claim7 := { stood := { row := moveHoldsRow, standIns := [], harness := (true, "de5672d0275e4a2a25d3406cf36df4482bc9c8caf3ff55d30ffbf2bee9916da6"), looks := false }, kinds := [], alts := [], laidByText := true, laidKinds := [.data], laidTests := true, laidLooks := .later }
def MoveHoldsCardSaid : Prop := Claim7.holds Tryz.pinned (.plain (OpenSpec.ofChange moveHoldsSpec)) moveHoldsCard

/-- THE TIED CARD OF 'gantkeep2.GuardRange'. -/
def guardRangeCard : Claim7 := { stood := { row := guardRangeRow, standIns := [], harness := (true, "de5672d0275e4a2a25d3406cf36df4482bc9c8caf3ff55d30ffbf2bee9916da6"), looks := false }, kinds := [], alts := [], laidByText := true, laidKinds := [.data], laidTests := true, laidLooks := .later }
def GuardRangeCardSaid : Prop := Claim7.holds Tryz.pinned (.plain (OpenSpec.ofChange guardRangeSpec)) guardRangeCard

/-- THE SECOND FORM's CARD OF 'gantkeep2.WorksCopies'. -/
def worksCopiesUptoCard : Claim7 := { stood := { row := worksCopiesUptoRow, standIns := [], harness := (true, "de5672d0275e4a2a25d3406cf36df4482bc9c8caf3ff55d30ffbf2bee9916da6"), looks := false }, kinds := [], alts := [], laidByText := true, laidKinds := [.data], laidTests := true, laidLooks := .later }
def WorksCopiesUptoCardSaid : Prop := Claim7.holds Tryz.pinned (.plain (OpenSpec.upto worksCopiesSpec)) worksCopiesUptoCard

/-- THE SECOND FORM's CARD OF 'gantkeep2.MoveHolds'. -/
def moveHoldsUptoCard : Claim7 := { stood := { row := moveHoldsUptoRow, standIns := [], harness := (true, "de5672d0275e4a2a25d3406cf36df4482bc9c8caf3ff55d30ffbf2bee9916da6"), looks := false }, kinds := [], alts := [], laidByText := true, laidKinds := [.data], laidTests := true, laidLooks := .later }
def MoveHoldsUptoCardSaid : Prop := Claim7.holds Tryz.pinned (.plain (OpenSpec.upto moveHoldsSpec)) moveHoldsUptoCard

/-- THE SECOND FORM's CARD OF 'gantkeep2.GuardRange'. -/
def guardRangeUptoCard : Claim7 := { stood := { row := guardRangeUptoRow, standIns := [], harness := (true, "de5672d0275e4a2a25d3406cf36df4482bc9c8caf3ff55d30ffbf2bee9916da6"), looks := false }, kinds := [], alts := [], laidByText := true, laidKinds := [.data], laidTests := true, laidLooks := .later }
def GuardRangeUptoCardSaid : Prop := Claim7.holds Tryz.pinned (.plain (OpenSpec.upto guardRangeSpec)) guardRangeUptoCard
end Rows
end Go.Proofs.YtgmlehjgpgdjhaaGreatDoor
