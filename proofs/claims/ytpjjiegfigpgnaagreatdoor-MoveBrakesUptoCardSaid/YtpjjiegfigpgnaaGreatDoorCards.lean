/-
  DERIVED. GIVEN WITH THE SEED: THE CARDS: each row of YtpjjiegfigpgnaaGreatDoorRows.lean that lists a variable, with what it lists TIED to the program's text (the seventh form; the later family's looks); each row that meets fmt, with fmt's text TOLD by the authors' own Lean function (tested against real Go, not proved from fmt's source: count such statements apart). THE CARD IS WHAT COUNTS. Prove the row's statement (the work); the ties are given (YtpjjiegfigpgnaaGreatDoorTie.lean); close each card by the builder's one call (the guide's Derived/Test/ToyasCard.lean, 'card_holds'). Laid BY PROGRAM, IN A SANDBOX (cutbox-door.mjs). By AI agents, Wed Nov 11 2026. No macro, syntax, notation, axiom, sorry.
-/
import Derived.Test.YtpjjiegfigpgnaaGreatDoorRows
import GoSem.ClaimSeven
namespace Go.Proofs.YtpjjiegfigpgnaaGreatDoor
namespace Rows

/-- THE TIED CARD OF 'gantlaw2.WorksChecks'. -/
def worksChecksCard : Claim7 := { stood := { row := worksChecksRow, standIns := [], harness := (true, "7272d64ffe6d724e2d5173cd1c14e099c07a039c264a53d77033f2e2a5926cee"), looks := false }, kinds := [], alts := [], laidByText := true, laidKinds := [.data, .data, .pinned], laidTests := true, laidLooks := .later }
def WorksChecksCardSaid : Prop := Claim7.holds Tryz.pinned (.plain (OpenSpec.ofChange worksChecksSpec)) worksChecksCard

/-- THE TIED CARD OF 'gantkeep2.MoveBrakes'. -/
def moveBrakesCard : Claim7 := { stood := { row := moveBrakesRow, standIns := [], harness := (true, "7272d64ffe6d724e2d5173cd1c14e099c07a039c264a53d77033f2e2a5926cee"), looks := false }, kinds := [], alts := [], laidByText := true, laidKinds := [.data], laidTests := true, laidLooks := .later }
def MoveBrakesCardSaid : Prop := Claim7.holds Tryz.pinned (.plain (OpenSpec.ofChange moveBrakesSpec)) moveBrakesCard

/-- THE TIED CARD OF 'gantkeep2.MoveHolds'. -/
def moveHoldsCard : Claim7 := { stood := { row := moveHoldsRow, standIns := [], harness := (true, "7272d64ffe6d724e2d5173cd1c14e099c07a039c264a53d77033f2e2a5926cee"), looks := false }, kinds := [], alts := [], laidByText := true, laidKinds := [.data], laidTests := true, laidLooks := .later }
def MoveHoldsCardSaid : Prop := Claim7.holds Tryz.pinned (.plain (OpenSpec.ofChange moveHoldsSpec)) moveHoldsCard

/-- THE SECOND FORM's CARD OF 'gantlaw2.WorksChecks'. -/
def worksChecksUptoCard : Claim7 := { stood := { row := worksChecksUptoRow, standIns := [], harness := (true, "7272d64ffe6d724e2d5173cd1c14e099c07a039c264a53d77033f2e2a5926cee"), looks := false }, kinds := [], alts := [], laidByText := true, laidKinds := [.data, .data, .pinned], laidTests := true, laidLooks := .later }
def WorksChecksUptoCardSaid : Prop := Claim7.holds Tryz.pinned (.plain (OpenSpec.upto worksChecksSpec)) worksChecksUptoCard

/-- THE SECOND FORM's CARD OF 'gantkeep2.MoveBrakes'. -/
def moveBrakesUptoCard : Claim7 := { stood := { row := moveBrakesUptoRow, standIns := [], harness := (true, "7272d64ffe6d724e2d5173cd1c14e099c07a039c264a53d77033f2e2a5926cee"), looks := false }, kinds := [], alts := [], laidByText := true, laidKinds := [.data], laidTests := true, laidLooks := .later }
def MoveBrakesUptoCardSaid : Prop := Claim7.holds Tryz.pinned (.plain (OpenSpec.upto moveBrakesSpec)) moveBrakesUptoCard

/-- THE SECOND FORM's CARD OF 'gantkeep2.MoveHolds'. -/
def moveHoldsUptoCard : Claim7 := { stood := { row := moveHoldsUptoRow, standIns := [], harness := (true, "7272d64ffe6d724e2d5173cd1c14e099c07a039c264a53d77033f2e2a5926cee"), looks := false }, kinds := [], alts := [], laidByText := true, laidKinds := [.data], laidTests := true, laidLooks := .later }
def MoveHoldsUptoCardSaid : Prop := Claim7.holds Tryz.pinned (.plain (OpenSpec.upto moveHoldsSpec)) moveHoldsUptoCard
end Rows
end Go.Proofs.YtpjjiegfigpgnaaGreatDoor
