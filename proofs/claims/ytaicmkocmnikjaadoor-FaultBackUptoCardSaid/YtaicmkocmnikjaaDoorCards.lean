/-
  DERIVED. GIVEN WITH THE SEED: THE CARDS: each row of YtaicmkocmnikjaaDoorRows.lean that lists a variable, with what it lists TIED to the program's text (the seventh form; the later family's looks); each row that meets fmt, with fmt's text TOLD by the authors' own Lean function (tested against real Go, not proved from fmt's source: count such statements apart). THE CARD IS WHAT COUNTS. Prove the row's statement (the work); the ties are given (YtaicmkocmnikjaaDoorTie.lean); close each card by the builder's one call (the guide's Derived/Test/ToyasCard.lean, 'card_holds'). Laid BY PROGRAM, IN A SANDBOX (cutbox-door.mjs). By AI agents, Wed Nov 11 2026. No macro, syntax, notation, axiom, sorry.
-/
import Derived.Test.YtaicmkocmnikjaaDoorRows
import GoSem.ClaimSeven
namespace Go.Proofs.YtaicmkocmnikjaaDoor
namespace Rows

/-- THE TIED CARD OF 'gantlaw2.FaultChecks'. -/
def faultChecksCard : Claim7 := { stood := { row := faultChecksRow, standIns := [], harness := (true, "ffcef99b6a10ed0839362ea17eead0cc22f76664fd4ca2c4856f2e76b75a0172"), looks := true }, kinds := [], alts := [], laidByText := true, laidKinds := [.data, .data, .data], laidTests := true, laidLooks := .later }
def FaultChecksCardSaid : Prop := Claim7.holds Tryd.pinned (.plain (OpenSpec.ofChange faultChecksSpec)) faultChecksCard

/-- THE TIED CARD OF 'gantkeep2.FaultDown'. -/
def faultDownCard : Claim7 := { stood := { row := faultDownRow, standIns := [], harness := (true, "ffcef99b6a10ed0839362ea17eead0cc22f76664fd4ca2c4856f2e76b75a0172"), looks := true }, kinds := [], alts := [], laidByText := true, laidKinds := [.data, .data, .data], laidTests := true, laidLooks := .later }
def FaultDownCardSaid : Prop := Claim7.holds Tryd.pinned (.plain (OpenSpec.ofChange faultDownSpec)) faultDownCard

/-- THE TIED CARD OF 'gantlaw2.FaultTexts'. -/
def faultTextsCard : Claim7 := { stood := { row := faultTextsRow, standIns := [], harness := (true, "ffcef99b6a10ed0839362ea17eead0cc22f76664fd4ca2c4856f2e76b75a0172"), looks := true }, kinds := [], alts := [], laidByText := true, laidKinds := [.data, .data, .data, .data, .sentinel, .sentinel, .pinned], laidTests := true, laidLooks := .later }
def FaultTextsCardSaid : Prop := Claim7.holds Tryd.pinned (.plain (OpenSpec.ofChange faultTextsSpec)) faultTextsCard

/-- THE TIED CARD OF 'gantkeep2.FaultBack'. -/
def faultBackCard : Claim7 := { stood := { row := faultBackRow, standIns := [], harness := (true, "ffcef99b6a10ed0839362ea17eead0cc22f76664fd4ca2c4856f2e76b75a0172"), looks := true }, kinds := [], alts := [], laidByText := true, laidKinds := [.data, .data, .data, .data, .sentinel, .sentinel, .pinned], laidTests := true, laidLooks := .later }
def FaultBackCardSaid : Prop := Claim7.holds Tryd.pinned (.plain (OpenSpec.ofChange faultBackSpec)) faultBackCard

/-- THE SECOND FORM's CARD OF 'gantlaw2.FaultChecks'. -/
def faultChecksUptoCard : Claim7 := { stood := { row := faultChecksUptoRow, standIns := [], harness := (true, "ffcef99b6a10ed0839362ea17eead0cc22f76664fd4ca2c4856f2e76b75a0172"), looks := true }, kinds := [], alts := [], laidByText := true, laidKinds := [.data, .data, .data], laidTests := true, laidLooks := .later }
def FaultChecksUptoCardSaid : Prop := Claim7.holds Tryd.pinned (.plain (OpenSpec.upto faultChecksSpec)) faultChecksUptoCard

/-- THE SECOND FORM's CARD OF 'gantkeep2.FaultDown'. -/
def faultDownUptoCard : Claim7 := { stood := { row := faultDownUptoRow, standIns := [], harness := (true, "ffcef99b6a10ed0839362ea17eead0cc22f76664fd4ca2c4856f2e76b75a0172"), looks := true }, kinds := [], alts := [], laidByText := true, laidKinds := [.data, .data, .data], laidTests := true, laidLooks := .later }
def FaultDownUptoCardSaid : Prop := Claim7.holds Tryd.pinned (.plain (OpenSpec.upto faultDownSpec)) faultDownUptoCard

/-- THE SECOND FORM's CARD OF 'gantlaw2.FaultTexts'. -/
def faultTextsUptoCard : Claim7 := { stood := { row := faultTextsUptoRow, standIns := [], harness := (true, "ffcef99b6a10ed0839362ea17eead0cc22f76664fd4ca2c4856f2e76b75a0172"), looks := true }, kinds := [], alts := [], laidByText := true, laidKinds := [.data, .data, .data, .data, .sentinel, .sentinel, .pinned], laidTests := true, laidLooks := .later }
def FaultTextsUptoCardSaid : Prop := Claim7.holds Tryd.pinned (.plain (OpenSpec.upto faultTextsSpec)) faultTextsUptoCard

/-- THE SECOND FORM's CARD OF 'gantkeep2.FaultBack'. -/
def faultBackUptoCard : Claim7 := { stood := { row := faultBackUptoRow, standIns := [], harness := (true, "ffcef99b6a10ed0839362ea17eead0cc22f76664fd4ca2c4856f2e76b75a0172"), looks := true }, kinds := [], alts := [], laidByText := true, laidKinds := [.data, .data, .data, .data, .sentinel, .sentinel, .pinned], laidTests := true, laidLooks := .later }
def FaultBackUptoCardSaid : Prop := Claim7.holds Tryd.pinned (.plain (OpenSpec.upto faultBackSpec)) faultBackUptoCard
end Rows
end Go.Proofs.YtaicmkocmnikjaaDoor
