/-
  DERIVED. GIVEN WITH THE SEED: THE CARDS: each row of YtpffebkbmcbmgaaGreatDoorRows.lean that lists a variable, with what it lists TIED to the program's text (the seventh form; the later family's looks); each row that meets fmt, with fmt's text TOLD by the authors' own Lean function (tested against real Go, not proved from fmt's source: count such statements apart). THE CARD IS WHAT COUNTS. Prove the row's statement (the work); the ties are given (YtpffebkbmcbmgaaGreatDoorTie.lean); close each card by the builder's one call (the guide's Derived/Test/ToyasCard.lean, 'card_holds'). Laid BY PROGRAM, IN A SANDBOX (cutbox-door.mjs). By AI agents, Wed Nov 11 2026. No macro, syntax, notation, axiom, sorry.
-/
import Derived.Test.YtpffebkbmcbmgaaGreatDoorRows
import GoSem.ClaimSeven
namespace Go.Proofs.YtpffebkbmcbmgaaGreatDoor
namespace Rows

/-- THE TIED CARD OF 'gantlaw2.GuardRanges'. -/
def guardRangesCard : Claim7 := { stood := { row := guardRangesRow, standIns := [], harness := (true, "5c9b6ddccba3dd568e46409c6cf6ac7991501249fde49421796ac8a197ab271f"), looks := false }, kinds := [], alts := [], laidByText := true, laidKinds := [.data, .data, .pinned], laidTests := true, laidLooks := .later }
def GuardRangesCardSaid : Prop := Claim7.holds Tryz.pinned (.plain (OpenSpec.ofChange guardRangesSpec)) guardRangesCard

/-- THE SECOND FORM's CARD OF 'gantlaw2.GuardRanges'. -/
def guardRangesUptoCard : Claim7 := { stood := { row := guardRangesUptoRow, standIns := [], harness := (true, "5c9b6ddccba3dd568e46409c6cf6ac7991501249fde49421796ac8a197ab271f"), looks := false }, kinds := [], alts := [], laidByText := true, laidKinds := [.data, .data, .pinned], laidTests := true, laidLooks := .later }
def GuardRangesUptoCardSaid : Prop := Claim7.holds Tryz.pinned (.plain (OpenSpec.upto guardRangesSpec)) guardRangesUptoCard
end Rows
end Go.Proofs.YtpffebkbmcbmgaaGreatDoor
