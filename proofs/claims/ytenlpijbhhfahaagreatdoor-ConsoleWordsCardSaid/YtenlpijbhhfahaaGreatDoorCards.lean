/-
  DERIVED. GIVEN WITH THE SEED: THE CARDS: each row of YtenlpijbhhfahaaGreatDoorRows.lean that lists a variable, with what it lists TIED to the program's text (the seventh form; the later family's looks); each row that meets fmt, with fmt's text TOLD by the authors' own Lean function (tested against real Go, not proved from fmt's source: count such statements apart). THE CARD IS WHAT COUNTS. Prove the row's statement (the work); the ties are given (YtenlpijbhhfahaaGreatDoorTie.lean); close each card by the builder's one call (the guide's Derived/Test/ToyasCard.lean, 'card_holds'). Laid BY PROGRAM, IN A SANDBOX (cutbox-door.mjs). By AI agents, Wed Nov 11 2026. No macro, syntax, notation, axiom, sorry.
-/
import Derived.Test.YtenlpijbhhfahaaGreatDoorRows
import GoSem.ClaimSeven
namespace Go.Proofs.YtenlpijbhhfahaaGreatDoor
namespace Rows

/-- THE TIED CARD OF 'pomacelaw20.ConsoleWords'. -/
def consoleWordsCard : Claim7 := { stood := { row := consoleWordsRow, standIns := [], harness := (true, "16d61516f6c1a21213ed3eea50345cd0351f5ae8f341104af99b10ccfd320552"), looks := true }, kinds := [], alts := [], laidByText := true, laidKinds := [.data, .pinned], laidTests := true, laidLooks := .later }
def ConsoleWordsCardSaid : Prop := Claim7.holds Tryz.pinned (.plain (OpenSpec.ofChange consoleWordsSpec)) consoleWordsCard

/-- THE TIED CARD OF 'pomacelaw20.ConsoleTells'. -/
def consoleTellsCard : Claim7 := { stood := { row := consoleTellsRow, standIns := [], harness := (true, "16d61516f6c1a21213ed3eea50345cd0351f5ae8f341104af99b10ccfd320552"), looks := true }, kinds := [], alts := [], laidByText := true, laidKinds := [.data, .pinned], laidTests := true, laidLooks := .later }
def ConsoleTellsCardSaid : Prop := Claim7.holds Tryz.pinned (.plain (OpenSpec.ofChange consoleTellsSpec)) consoleTellsCard

/-- THE TIED CARD OF 'pomacelaw20.ConsoleCompares'. -/
def consoleComparesCard : Claim7 := { stood := { row := consoleComparesRow, standIns := [], harness := (true, "16d61516f6c1a21213ed3eea50345cd0351f5ae8f341104af99b10ccfd320552"), looks := true }, kinds := [], alts := [], laidByText := true, laidKinds := [.data, .pinned], laidTests := true, laidLooks := .later }
def ConsoleComparesCardSaid : Prop := Claim7.holds Tryz.pinned (.plain (OpenSpec.ofChange consoleComparesSpec)) consoleComparesCard

/-- THE SECOND FORM's CARD OF 'pomacelaw20.ConsoleWords'. -/
def consoleWordsUptoCard : Claim7 := { stood := { row := consoleWordsUptoRow, standIns := [], harness := (true, "16d61516f6c1a21213ed3eea50345cd0351f5ae8f341104af99b10ccfd320552"), looks := true }, kinds := [], alts := [], laidByText := true, laidKinds := [.data, .pinned], laidTests := true, laidLooks := .later }
def ConsoleWordsUptoCardSaid : Prop := Claim7.holds Tryz.pinned (.plain (OpenSpec.upto consoleWordsSpec)) consoleWordsUptoCard

/-- THE SECOND FORM's CARD OF 'pomacelaw20.ConsoleTells'. -/
def consoleTellsUptoCard : Claim7 := { stood := { row := consoleTellsUptoRow, standIns := [], harness := (true, "16d61516f6c1a21213ed3eea50345cd0351f5ae8f341104af99b10ccfd320552"), looks := true }, kinds := [], alts := [], laidByText := true, laidKinds := [.data, .pinned], laidTests := true, laidLooks := .later }
def ConsoleTellsUptoCardSaid : Prop := Claim7.holds Tryz.pinned (.plain (OpenSpec.upto consoleTellsSpec)) consoleTellsUptoCard

/-- THE SECOND FORM's CARD OF 'pomacelaw20.ConsoleCompares'. -/
def consoleComparesUptoCard : Claim7 := { stood := { row := consoleComparesUptoRow, standIns := [], harness := (true, "16d61516f6c1a21213ed3eea50345cd0351f5ae8f341104af99b10ccfd320552"), looks := true }, kinds := [], alts := [], laidByText := true, laidKinds := [.data, .pinned], laidTests := true, laidLooks := .later }
def ConsoleComparesUptoCardSaid : Prop := Claim7.holds Tryz.pinned (.plain (OpenSpec.upto consoleComparesSpec)) consoleComparesUptoCard
end Rows
end Go.Proofs.YtenlpijbhhfahaaGreatDoor
