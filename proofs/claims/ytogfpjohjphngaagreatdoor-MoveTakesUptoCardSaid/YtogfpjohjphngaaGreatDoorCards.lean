/-
  DERIVED. GIVEN WITH THE SEED: THE CARDS: each row of YtogfpjohjphngaaGreatDoorRows.lean that lists a variable, with what it lists TIED to the program's text (the seventh form; the later family's looks); each row that meets fmt, with fmt's text TOLD by the authors' own Lean function (tested against real Go, not proved from fmt's source: count such statements apart). THE CARD IS WHAT COUNTS. Prove the row's statement (the work); the ties are given (YtogfpjohjphngaaGreatDoorTie.lean); close each card by the builder's one call (the guide's Derived/Test/ToyasCard.lean, 'card_holds'). Laid BY PROGRAM, IN A SANDBOX (cutbox-door.mjs). By AI agents, Wed Nov 11 2026. No macro, syntax, notation, axiom, sorry.
-/
import Derived.Test.YtogfpjohjphngaaGreatDoorRows
import GoSem.ClaimSeven
namespace Go.Proofs.YtogfpjohjphngaaGreatDoor
namespace Rows

/-- THE TIED CARD OF 'gantkeep2.DoneFirst'. -/
def doneFirstCard : Claim7 := { stood := { row := doneFirstRow, standIns := [], harness := (true, "da49b0896ea9349895908bc0062688b426070fffa267fbf9043b03e024708175"), looks := false }, kinds := [], alts := [], laidByText := true, laidKinds := [.data], laidTests := true, laidLooks := .later }
def DoneFirstCardSaid : Prop := Claim7.holds Tryz.pinned (.plain (OpenSpec.ofChange doneFirstSpec)) doneFirstCard

/-- THE TIED CARD OF 'gantlaw2.WorksChecks'. -/
def worksChecksCard : Claim7 := { stood := { row := worksChecksRow, standIns := [], harness := (true, "da49b0896ea9349895908bc0062688b426070fffa267fbf9043b03e024708175"), looks := false }, kinds := [], alts := [], laidByText := true, laidKinds := [.data, .data, .pinned], laidTests := true, laidLooks := .later }
def WorksChecksCardSaid : Prop := Claim7.holds Tryz.pinned (.plain (OpenSpec.ofChange worksChecksSpec)) worksChecksCard

/-- THE TIED CARD OF 'gantlaw2.WorldChecks'. -/
def worldChecksCard : Claim7 := { stood := { row := worldChecksRow, standIns := [], harness := (true, "da49b0896ea9349895908bc0062688b426070fffa267fbf9043b03e024708175"), looks := false }, kinds := [], alts := [], laidByText := true, laidKinds := [.data, .data, .pinned], laidTests := true, laidLooks := .later }
def WorldChecksCardSaid : Prop := Claim7.holds Tryz.pinned (.plain (OpenSpec.ofChange worldChecksSpec)) worldChecksCard

/-- THE TIED CARD OF 'gantlaw2.DoneSays'. -/
def doneSaysCard : Claim7 := { stood := { row := doneSaysRow, standIns := [], harness := (true, "da49b0896ea9349895908bc0062688b426070fffa267fbf9043b03e024708175"), looks := false }, kinds := [], alts := [], laidByText := true, laidKinds := [.data, .data, .pinned], laidTests := true, laidLooks := .later }
def DoneSaysCardSaid : Prop := Claim7.holds Tryz.pinned (.plain (OpenSpec.ofChange doneSaysSpec)) doneSaysCard

/-- THE TIED CARD OF 'gantlaw2.MoveSteps'. -/
def moveStepsCard : Claim7 := { stood := { row := moveStepsRow, standIns := [], harness := (true, "da49b0896ea9349895908bc0062688b426070fffa267fbf9043b03e024708175"), looks := false }, kinds := [], alts := [], laidByText := true, laidKinds := [.data, .data, .pinned], laidTests := true, laidLooks := .later }
def MoveStepsCardSaid : Prop := Claim7.holds Tryz.pinned (.plain (OpenSpec.ofChange moveStepsSpec)) moveStepsCard

/-- THE TIED CARD OF 'gantlaw2.MoveGates'. -/
def moveGatesCard : Claim7 := { stood := { row := moveGatesRow, standIns := [], harness := (true, "da49b0896ea9349895908bc0062688b426070fffa267fbf9043b03e024708175"), looks := false }, kinds := [], alts := [], laidByText := true, laidKinds := [.data, .data, .pinned], laidTests := true, laidLooks := .later }
def MoveGatesCardSaid : Prop := Claim7.holds Tryz.pinned (.plain (OpenSpec.ofChange moveGatesSpec)) moveGatesCard

/-- THE TIED CARD OF 'gantlaw2.MoveTakes'. -/
def moveTakesCard : Claim7 := { stood := { row := moveTakesRow, standIns := [], harness := (true, "da49b0896ea9349895908bc0062688b426070fffa267fbf9043b03e024708175"), looks := false }, kinds := [], alts := [], laidByText := true, laidKinds := [.data, .data, .pinned], laidTests := true, laidLooks := .later }
def MoveTakesCardSaid : Prop := Claim7.holds Tryz.pinned (.plain (OpenSpec.ofChange moveTakesSpec)) moveTakesCard

/-- THE SECOND FORM's CARD OF 'gantkeep2.DoneFirst'. -/
def doneFirstUptoCard : Claim7 := { stood := { row := doneFirstUptoRow, standIns := [], harness := (true, "da49b0896ea9349895908bc0062688b426070fffa267fbf9043b03e024708175"), looks := false }, kinds := [], alts := [], laidByText := true, laidKinds := [.data], laidTests := true, laidLooks := .later }
def DoneFirstUptoCardSaid : Prop := Claim7.holds Tryz.pinned (.plain (OpenSpec.upto doneFirstSpec)) doneFirstUptoCard

/-- THE SECOND FORM's CARD OF 'gantlaw2.WorksChecks'. -/
def worksChecksUptoCard : Claim7 := { stood := { row := worksChecksUptoRow, standIns := [], harness := (true, "da49b0896ea9349895908bc0062688b426070fffa267fbf9043b03e024708175"), looks := false }, kinds := [], alts := [], laidByText := true, laidKinds := [.data, .data, .pinned], laidTests := true, laidLooks := .later }
def WorksChecksUptoCardSaid : Prop := Claim7.holds Tryz.pinned (.plain (OpenSpec.upto worksChecksSpec)) worksChecksUptoCard

/-- THE SECOND FORM's CARD OF 'gantlaw2.WorldChecks'. -/
def worldChecksUptoCard : Claim7 := { stood := { row := worldChecksUptoRow, standIns := [], harness := (true, "da49b0896ea9349895908bc0062688b426070fffa267fbf9043b03e024708175"), looks := false }, kinds := [], alts := [], laidByText := true, laidKinds := [.data, .data, .pinned], laidTests := true, laidLooks := .later }
def WorldChecksUptoCardSaid : Prop := Claim7.holds Tryz.pinned (.plain (OpenSpec.upto worldChecksSpec)) worldChecksUptoCard

/-- THE SECOND FORM's CARD OF 'gantlaw2.DoneSays'. -/
def doneSaysUptoCard : Claim7 := { stood := { row := doneSaysUptoRow, standIns := [], harness := (true, "da49b0896ea9349895908bc0062688b426070fffa267fbf9043b03e024708175"), looks := false }, kinds := [], alts := [], laidByText := true, laidKinds := [.data, .data, .pinned], laidTests := true, laidLooks := .later }
def DoneSaysUptoCardSaid : Prop := Claim7.holds Tryz.pinned (.plain (OpenSpec.upto doneSaysSpec)) doneSaysUptoCard

/-- THE SECOND FORM's CARD OF 'gantlaw2.MoveSteps'. -/
def moveStepsUptoCard : Claim7 := { stood := { row := moveStepsUptoRow, standIns := [], harness := (true, "da49b0896ea9349895908bc0062688b426070fffa267fbf9043b03e024708175"), looks := false }, kinds := [], alts := [], laidByText := true, laidKinds := [.data, .data, .pinned], laidTests := true, laidLooks := .later }
def MoveStepsUptoCardSaid : Prop := Claim7.holds Tryz.pinned (.plain (OpenSpec.upto moveStepsSpec)) moveStepsUptoCard

/-- THE SECOND FORM's CARD OF 'gantlaw2.MoveGates'. -/
def moveGatesUptoCard : Claim7 := { stood := { row := moveGatesUptoRow, standIns := [], harness := (true, "da49b0896ea9349895908bc0062688b426070fffa267fbf9043b03e024708175"), looks := false }, kinds := [], alts := [], laidByText := true, laidKinds := [.data, .data, .pinned], laidTests := true, laidLooks := .later }
def MoveGatesUptoCardSaid : Prop := Claim7.holds Tryz.pinned (.plain (OpenSpec.upto moveGatesSpec)) moveGatesUptoCard

/-- THE SECOND FORM's CARD OF 'gantlaw2.MoveTakes'. -/
def moveTakesUptoCard : Claim7 := { stood := { row := moveTakesUptoRow, standIns := [], harness := (true, "da49b0896ea9349895908bc0062688b426070fffa267fbf9043b03e024708175"), looks := false }, kinds := [], alts := [], laidByText := true, laidKinds := [.data, .data, .pinned], laidTests := true, laidLooks := .later }
def MoveTakesUptoCardSaid : Prop := Claim7.holds Tryz.pinned (.plain (OpenSpec.upto moveTakesSpec)) moveTakesUptoCard
end Rows
end Go.Proofs.YtogfpjohjphngaaGreatDoor
