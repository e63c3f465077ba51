/-
  DERIVED. GIVEN WITH THE SEED: THE CARDS: each row of YtpnbklgbfhgknaaGreatDoorRows.lean that lists a variable, with what it lists TIED to the program's text (the seventh form; the later family's looks); each row that meets fmt, with fmt's text TOLD by the authors' own Lean function (tested against real Go, not proved from fmt's source: count such statements apart). THE CARD IS WHAT COUNTS. Prove the row's statement (the work); the ties are given (YtpnbklgbfhgknaaGreatDoorTie.lean); close each card by the builder's one call (the guide's Derived/Test/ToyasCard.lean, 'card_holds'). Laid BY PROGRAM, IN A SANDBOX (cutbox-door.mjs). By AI agents, Wed Nov 11 2026. No macro, syntax, notation, axiom, sorry.
-/
import Derived.Test.YtpnbklgbfhgknaaGreatDoorRows
import GoSem.ClaimSeven
namespace Go.Proofs.YtpnbklgbfhgknaaGreatDoor
namespace Rows

/-- THE TIED CARD OF 'gantlaw2.GuardJudges'. -/
def guardJudgesCard : Claim7 := { stood := { row := guardJudgesRow, standIns := [], harness := (true, "cc6bfe37984bf3c51ccf12083fbcd1e0224366cb4bebf85c25d5709abce70f4e"), looks := false }, kinds := [], alts := [], laidByText := true, laidKinds := [.data, .data, .pinned], laidTests := true, laidLooks := .later }
def GuardJudgesCardSaid : Prop := Claim7.holds Tryz.pinned (.plain (OpenSpec.ofChange guardJudgesSpec)) guardJudgesCard

/-- THE SECOND FORM's CARD OF 'gantlaw2.GuardJudges'. -/
def guardJudgesUptoCard : Claim7 := { stood := { row := guardJudgesUptoRow, standIns := [], harness := (true, "cc6bfe37984bf3c51ccf12083fbcd1e0224366cb4bebf85c25d5709abce70f4e"), looks := false }, kinds := [], alts := [], laidByText := true, laidKinds := [.data, .data, .pinned], laidTests := true, laidLooks := .later }
def GuardJudgesUptoCardSaid : Prop := Claim7.holds Tryz.pinned (.plain (OpenSpec.upto guardJudgesSpec)) guardJudgesUptoCard
end Rows
end Go.Proofs.YtpnbklgbfhgknaaGreatDoor
