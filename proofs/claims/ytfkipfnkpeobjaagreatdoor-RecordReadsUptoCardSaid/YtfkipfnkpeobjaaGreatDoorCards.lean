/-
  DERIVED. GIVEN WITH THE SEED: THE CARDS: each row of YtfkipfnkpeobjaaGreatDoorRows.lean that lists a variable, with what it lists TIED to the program's text (the seventh form; the later family's looks); each row that meets fmt, with fmt's text TOLD by the authors' own Lean function (tested against real Go, not proved from fmt's source: count such statements apart). THE CARD IS WHAT COUNTS. Prove the row's statement (the work); the ties are given (YtfkipfnkpeobjaaGreatDoorTie.lean); close each card by the builder's one call (the guide's Derived/Test/ToyasCard.lean, 'card_holds'). Laid BY PROGRAM, IN A SANDBOX (cutbox-door.mjs). By AI agents, Wed Nov 11 2026. No macro, syntax, notation, axiom, sorry.
-/
import Derived.Test.YtfkipfnkpeobjaaGreatDoorRows
import GoSem.ClaimSeven
namespace Go.Proofs.YtfkipfnkpeobjaaGreatDoor
namespace Rows

/-- THE TIED CARD OF 'gantlaw2.RecordReads'. -/
def recordReadsCard : Claim7 := { stood := { row := recordReadsRow, standIns := [], harness := (true, "5ddcb023fb030de0e67c427ba86d1183a9a0fcbcb5d4f015961acd27d70f5b87"), looks := false }, kinds := [], alts := [], laidByText := true, laidKinds := [.data, .data, .pinned], laidTests := true, laidLooks := .later }
def RecordReadsCardSaid : Prop := Claim7.holds Tryz.pinned (.plain (OpenSpec.ofChange recordReadsSpec)) recordReadsCard

/-- THE SECOND FORM's CARD OF 'gantlaw2.RecordReads'. -/
def recordReadsUptoCard : Claim7 := { stood := { row := recordReadsUptoRow, standIns := [], harness := (true, "5ddcb023fb030de0e67c427ba86d1183a9a0fcbcb5d4f015961acd27d70f5b87"), looks := false }, kinds := [], alts := [], laidByText := true, laidKinds := [.data, .data, .pinned], laidTests := true, laidLooks := .later }
def RecordReadsUptoCardSaid : Prop := Claim7.holds Tryz.pinned (.plain (OpenSpec.upto recordReadsSpec)) recordReadsUptoCard
end Rows
end Go.Proofs.YtfkipfnkpeobjaaGreatDoor
