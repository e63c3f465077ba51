/-
  DERIVED. GIVEN WITH THE SEED: THE CARDS: each row of YtgpegbfnlkidjaaGreatDoorRows.lean that lists a variable, with what it lists TIED to the program's text (the seventh form; the later family's looks); each row that meets fmt, with fmt's text TOLD by the authors' own Lean function (tested against real Go, not proved from fmt's source: count such statements apart). THE CARD IS WHAT COUNTS. Prove the row's statement (the work); the ties are given (YtgpegbfnlkidjaaGreatDoorTie.lean); close each card by the builder's one call (the guide's Derived/Test/ToyasCard.lean, 'card_holds'). Laid BY PROGRAM, IN A SANDBOX (cutbox-door.mjs). By AI agents, Wed Nov 11 2026. No macro, syntax, notation, axiom, sorry.
-/
import Derived.Test.YtgpegbfnlkidjaaGreatDoorRows
import GoSem.ClaimSeven
namespace Go.Proofs.YtgpegbfnlkidjaaGreatDoor
namespace Rows

/-- THE TIED CARD OF 'gantkeep2.GuardFewer'. -/
def guardFewerCard : Claim7 := { stood := { row := guardFewerRow, standIns := [], harness := (true, "014c7502fc1eb3d922ae5a79eef37f95f5681030c9102ca4c61e84716641be12"), looks := false }, kinds := [], alts := [], laidByText := true, laidKinds := [.data], laidTests := true, laidLooks := .later }
def GuardFewerCardSaid : Prop := Claim7.holds Tryz.pinned (.plain (OpenSpec.ofChange guardFewerSpec)) guardFewerCard

/-- THE TIED CARD OF 'gantkeep2.GuardNobody'. -/
def guardNobodyCard : Claim7 := { stood := { row := guardNobodyRow, standIns := [], harness := (true, "014c7502fc1eb3d922ae5a79eef37f95f5681030c9102ca4c61e84716641be12"), looks := false }, kinds := [], alts := [], laidByText := true, laidKinds := [.data], laidTests := true, laidLooks := .later }
def GuardNobodyCardSaid : Prop := Claim7.holds Tryz.pinned (.plain (OpenSpec.ofChange guardNobodySpec)) guardNobodyCard

/-- THE SECOND FORM's CARD OF 'gantkeep2.GuardFewer'. -/
def guardFewerUptoCard : Claim7 := { stood := { row := guardFewerUptoRow, standIns := [], harness := (true, "014c7502fc1eb3d922ae5a79eef37f95f5681030c9102ca4c61e84716641be12"), looks := false }, kinds := [], alts := [], laidByText := true, laidKinds := [.data], laidTests := true, laidLooks := .later }
def GuardFewerUptoCardSaid : Prop := Claim7.holds Tryz.pinned (.plain (OpenSpec.upto guardFewerSpec)) guardFewerUptoCard

/-- THE SECOND FORM's CARD OF 'gantkeep2.GuardNobody'. -/
def guardNobodyUptoCard : Claim7 := { stood := { row := guardNobodyUptoRow, standIns := [], harness := (true, "014c7502fc1eb3d922ae5a79eef37f95f5681030c9102ca4c61e84716641be12"), looks := false }, kinds := [], alts := [], laidByText := true, laidKinds := [.data], laidTests := true, laidLooks := .later }
def GuardNobodyUptoCardSaid : Prop := Claim7.holds Tryz.pinned (.plain (OpenSpec.upto guardNobodySpec)) guardNobodyUptoCard
end Rows
end Go.Proofs.YtgpegbfnlkidjaaGreatDoor
