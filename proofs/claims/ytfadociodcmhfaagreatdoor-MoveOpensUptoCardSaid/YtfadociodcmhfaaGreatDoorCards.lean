/-
  DERIVED. GIVEN WITH THE SEED: THE CARDS: each row of YtfadociodcmhfaaGreatDoorRows.lean that lists a variable, with what it lists TIED to the program's text (the seventh form; the later family's looks); each row that meets fmt, with fmt's text TOLD by the authors' own Lean function (tested against real Go, not proved from fmt's source: count such statements apart). THE CARD IS WHAT COUNTS. Prove the row's statement (the work); the ties are given (YtfadociodcmhfaaGreatDoorTie.lean); close each card by the builder's one call (the guide's Derived/Test/ToyasCard.lean, 'card_holds'). Laid BY PROGRAM, IN A SANDBOX (cutbox-door.mjs). By AI agents, Wed Nov 11 2026. No macro, syntax, notation, axiom, sorry.
-/
import Derived.Test.YtfadociodcmhfaaGreatDoorRows
import GoSem.ClaimSeven
namespace Go.Proofs.YtfadociodcmhfaaGreatDoor
namespace Rows

/-- THE TIED CARD OF 'gantkeep2.WorksCopies'. -/
def worksCopiesCard : Claim7 := { stood := { row := worksCopiesRow, standIns := [], harness := (true, "ef184312fdab8cf1b1017bbe2014c2449c1d9a107599f13d999ac829c80158c3"), looks := false }, kinds := [], alts := [], laidByText := true, laidKinds := [.data], laidTests := true, laidLooks := .later }
def WorksCopiesCardSaid : Prop := Claim7.holds Tryz.pinned (.plain (OpenSpec.ofChange worksCopiesSpec)) worksCopiesCard

/-- THE TIED CARD OF 'gantkeep2.MoveOpens'. -/
def moveOpensCard : Claim7 := { stood := { row := moveOpensRow, standIns := [], harness := (true, "ef184312fdab8cf1b1017bbe2014c2449c1d9a107599f13d999ac829c80158c3"), looks := false }, kinds := [], alts := [], laidByText := true, laidKinds := [.data], laidTests := true, laidLooks := .later }
def MoveOpensCardSaid : Prop := Claim7.holds Tryz.pinned (.plain (OpenSpec.ofChange moveOpensSpec)) moveOpensCard

/-- THE TIED CARD OF 'gantkeep2.DoneFirst'. -/
def doneFirstCard : Claim7 := { stood := { row := doneFirstRow, standIns := [], harness := (true, "ef184312fdab8cf1b1017bbe2014c2449c1d9a107599f13d999ac829c80158c3"), looks := false }, kinds := [], alts := [], laidByText := true, laidKinds := [.data], laidTests := true, laidLooks := .later }
def DoneFirstCardSaid : Prop := Claim7.holds Tryz.pinned (.plain (OpenSpec.ofChange doneFirstSpec)) doneFirstCard

/-- THE TIED CARD OF 'gantkeep2.WorldCopies'. -/
def worldCopiesCard : Claim7 := { stood := { row := worldCopiesRow, standIns := [], harness := (true, "ef184312fdab8cf1b1017bbe2014c2449c1d9a107599f13d999ac829c80158c3"), looks := false }, kinds := [], alts := [], laidByText := true, laidKinds := [.data], laidTests := true, laidLooks := .later }
def WorldCopiesCardSaid : Prop := Claim7.holds Tryz.pinned (.plain (OpenSpec.ofChange worldCopiesSpec)) worldCopiesCard

/-- THE TIED CARD OF 'gantlaw2.WorksChecks'. -/
def worksChecksCard : Claim7 := { stood := { row := worksChecksRow, standIns := [], harness := (true, "ef184312fdab8cf1b1017bbe2014c2449c1d9a107599f13d999ac829c80158c3"), looks := false }, kinds := [], alts := [], laidByText := true, laidKinds := [.data, .data, .pinned], laidTests := true, laidLooks := .later }
def WorksChecksCardSaid : Prop := Claim7.holds Tryz.pinned (.plain (OpenSpec.ofChange worksChecksSpec)) worksChecksCard

/-- THE TIED CARD OF 'gantlaw2.WorldChecks'. -/
def worldChecksCard : Claim7 := { stood := { row := worldChecksRow, standIns := [], harness := (true, "ef184312fdab8cf1b1017bbe2014c2449c1d9a107599f13d999ac829c80158c3"), looks := false }, kinds := [], alts := [], laidByText := true, laidKinds := [.data, .data, .pinned], laidTests := true, laidLooks := .later }
def WorldChecksCardSaid : Prop := Claim7.holds Tryz.pinned (.plain (OpenSpec.ofChange worldChecksSpec)) worldChecksCard

/-- THE SECOND FORM's CARD OF 'gantkeep2.WorksCopies'. -/
def worksCopiesUptoCard : Claim7 := { stood := { row := worksCopiesUptoRow, standIns := [], harness := (true, "ef184312fdab8cf1b1017bbe2014c2449c1d9a107599f13d999ac829c80158c3"), looks := false }, kinds := [], alts := [], laidByText := true, laidKinds := [.data], laidTests := true, laidLooks := .later }
def WorksCopiesUptoCardSaid : Prop := Claim7.holds Tryz.pinned (.plain (OpenSpec.upto worksCopiesSpec)) worksCopiesUptoCard

/-- THE SECOND FORM's CARD OF 'gantkeep2.MoveOpens'. -/
def moveOpensUptoCard : Claim7 := { stood := { row := moveOpensUptoRow, standIns := [], harness := (true, "ef184312fdab8cf1b1017bbe2014c2449c1d9a107599f13d999ac829c80158c3"), looks := false }, kinds := [], alts := [], laidByText := true, laidKinds := [.data], laidTests := true, laidLooks := .later }
def MoveOpensUptoCardSaid : Prop := Claim7.holds Tryz.pinned (.plain (OpenSpec.upto moveOpensSpec)) moveOpensUptoCard

/-- THE SECOND FORM's CARD OF 'gantkeep2.DoneFirst'. -/
def doneFirstUptoCard : Claim7 := { stood := { row := doneFirstUptoRow, standIns := [], harness := (true, "ef184312fdab8cf1b1017bbe2014c2449c1d9a107599f13d999ac829c80158c3"), looks := false }, kinds := [], alts := [], laidByText := true, laidKinds := [.data], laidTests := true, laidLooks := .later }
def DoneFirstUptoCardSaid : Prop := Claim7.holds Tryz.pinned (.plain (OpenSpec.upto doneFirstSpec)) doneFirstUptoCard

/-- THE SECOND FORM's CARD OF 'gantkeep2.WorldCopies'. -/
def worldCopiesUptoCard : Claim7 := { stood := { row := worldCopiesUptoRow, standIns := [], harness := (true, "ef184312fdab8cf1b1017bbe2014c2449c1d9a107599f13d999ac829c80158c3"), looks := false }, kinds := [], alts := [], laidByText := true, laidKinds := [.data], laidTests := true, laidLooks := .later }
def WorldCopiesUptoCardSaid : Prop := Claim7.holds Tryz.pinned (.plain (OpenSpec.upto worldCopiesSpec)) worldCopiesUptoCard

/-- THE SECOND FORM's CARD OF 'gantlaw2.WorksChecks'. -/
def worksChecksUptoCard : Claim7 := { stood := { row := worksChecksUptoRow, standIns := [], harness := (true, "ef184312fdab8cf1b1017bbe2014c2449c1d9a107599f13d999ac829c80158c3"), looks := false }, kinds := [], alts := [], laidByText := true, laidKinds := [.data, .data, .pinned], laidTests := true, laidLooks := .later }
def WorksChecksUptoCardSaid : Prop := Claim7.holds Tryz.pinned (.plain (OpenSpec.upto worksChecksSpec)) worksChecksUptoCard

/-- THE SECOND FORM's CARD OF 'gantlaw2.WorldChecks'. -/
def worldChecksUptoCard : Claim7 := { stood := { row := worldChecksUptoRow, standIns := [], harness := (true, "ef184312fdab8cf1b1017bbe2014c2449c1d9a107599f13d999ac829c80158c3"), looks := false }, kinds := [], alts := [], laidByText := true, laidKinds := [.data, .data, .pinned], laidTests := true, laidLooks := .later }
def WorldChecksUptoCardSaid : Prop := Claim7.holds Tryz.pinned (.plain (OpenSpec.upto worldChecksSpec)) worldChecksUptoCard
end Rows
end Go.Proofs.YtfadociodcmhfaaGreatDoor
