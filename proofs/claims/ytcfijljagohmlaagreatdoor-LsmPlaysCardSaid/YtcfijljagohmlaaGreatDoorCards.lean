/-
  DERIVED. GIVEN WITH THE SEED: THE CARDS: each row of YtcfijljagohmlaaGreatDoorRows.lean that lists a variable, with what it lists TIED to the program's text (the seventh form; the later family's looks); each row that meets fmt, with fmt's text TOLD by the authors' own Lean function (tested against real Go, not proved from fmt's source: count such statements apart). THE CARD IS WHAT COUNTS. Prove the row's statement (the work); the ties are given (YtcfijljagohmlaaGreatDoorTie.lean); close each card by the builder's one call (the guide's Derived/Test/ToyasCard.lean, 'card_holds'). Laid BY PROGRAM, IN A SANDBOX (cutbox-door.mjs). By AI agents, Wed Nov 11 2026. No macro, syntax, notation, axiom, sorry.
-/
import Derived.Test.YtcfijljagohmlaaGreatDoorRows
import GoSem.ClaimSeven
namespace Go.Proofs.YtcfijljagohmlaaGreatDoor
namespace Rows

/-- THE TIED CARD OF 'weirlaw2.KeyedWholes'. -/
def keyedWholesCard : Claim7 := { stood := { row := keyedWholesRow, standIns := [], harness := (true, "211f21c4ff6a75957c7206c601456a2b956f1f7fe192c62af7cc0674329a2b5c"), looks := true }, kinds := [], alts := [], laidByText := true, laidKinds := [.handle], laidTests := true, laidLooks := .later }
def KeyedWholesCardSaid : Prop := Claim7.holds Tryz.pinned (.plain (OpenSpec.ofChange keyedWholesSpec)) keyedWholesCard

/-- THE TIED CARD OF 'weirlaw2.KeyedPlays'. -/
def keyedPlaysCard : Claim7 := { stood := { row := keyedPlaysRow, standIns := [], harness := (true, "211f21c4ff6a75957c7206c601456a2b956f1f7fe192c62af7cc0674329a2b5c"), looks := true }, kinds := [], alts := [], laidByText := true, laidKinds := [.handle], laidTests := true, laidLooks := .later }
def KeyedPlaysCardSaid : Prop := Claim7.holds Tryz.pinned (.plain (OpenSpec.ofChange keyedPlaysSpec)) keyedPlaysCard

/-- THE TIED CARD OF 'weirlaw2.LsmPlays'. -/
def lsmPlaysCard : Claim7 := { stood := { row := lsmPlaysRow, standIns := [], harness := (true, "211f21c4ff6a75957c7206c601456a2b956f1f7fe192c62af7cc0674329a2b5c"), looks := true }, kinds := [], alts := [], laidByText := true, laidKinds := [.handle], laidTests := true, laidLooks := .later }
def LsmPlaysCardSaid : Prop := Claim7.holds Tryz.pinned (.plain (OpenSpec.ofChange lsmPlaysSpec)) lsmPlaysCard

/-- THE SECOND FORM's CARD OF 'weirlaw2.KeyedWholes'. -/
def keyedWholesUptoCard : Claim7 := { stood := { row := keyedWholesUptoRow, standIns := [], harness := (true, "211f21c4ff6a75957c7206c601456a2b956f1f7fe192c62af7cc0674329a2b5c"), looks := true }, kinds := [], alts := [], laidByText := true, laidKinds := [.handle], laidTests := true, laidLooks := .later }
def KeyedWholesUptoCardSaid : Prop := Claim7.holds Tryz.pinned (.plain (OpenSpec.upto keyedWholesSpec)) keyedWholesUptoCard

/-- THE SECOND FORM's CARD OF 'weirlaw2.KeyedPlays'. -/
def keyedPlaysUptoCard : Claim7 := { stood := { row := keyedPlaysUptoRow, standIns := [], harness := (true, "211f21c4ff6a75957c7206c601456a2b956f1f7fe192c62af7cc0674329a2b5c"), looks := true }, kinds := [], alts := [], laidByText := true, laidKinds := [.handle], laidTests := true, laidLooks := .later }
def KeyedPlaysUptoCardSaid : Prop := Claim7.holds Tryz.pinned (.plain (OpenSpec.upto keyedPlaysSpec)) keyedPlaysUptoCard

/-- THE SECOND FORM's CARD OF 'weirlaw2.LsmPlays'. -/
def lsmPlaysUptoCard : Claim7 := { stood := { row := lsmPlaysUptoRow, standIns := [], harness := (true, "211f21c4ff6a75957c7206c601456a2b956f1f7fe192c62af7cc0674329a2b5c"), looks := true }, kinds := [], alts := [], laidByText := true, laidKinds := [.handle], laidTests := true, laidLooks := .later }
def LsmPlaysUptoCardSaid : Prop := Claim7.holds Tryz.pinned (.plain (OpenSpec.upto lsmPlaysSpec)) lsmPlaysUptoCard
end Rows
end Go.Proofs.YtcfijljagohmlaaGreatDoor
