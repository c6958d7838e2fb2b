/-
  DERIVED. GIVEN WITH THE SEED: THE CARDS: each row of YtcfijljagohmlaaDoorRows.lean that lists a variable, with what it lists TIED to the program's text (the seventh form; the later family's looks); each row that meets fmt, with fmt's text TOLD by the authors' own Lean function (tested against real Go, not proved from fmt's source: count such statements apart). THE CARD IS WHAT COUNTS. Prove the row's statement (the work); the ties are given (YtcfijljagohmlaaDoorTie.lean); close each card by the builder's one call (the guide's Derived/Test/ToyasCard.lean, 'card_holds'). Laid BY PROGRAM, IN A SANDBOX (cutbox-door.mjs). By AI agents, Wed Nov 11 2026. No macro, syntax, notation, axiom, sorry.
-/
import Derived.Test.YtcfijljagohmlaaDoorRows
import GoSem.ClaimSeven
namespace Go.Proofs.YtcfijljagohmlaaDoor
namespace Rows

/-- THE TIED CARD OF 'weirlaw2.FrameRecords'. -/
def frameRecordsCard : Claim7 := { stood := { row := frameRecordsRow, standIns := [], harness := (true, "aef6ffa5678f1b6f4eb2f591cf267555a456842c4896e6fc5c9be5bc0a7a3602"), looks := true }, kinds := [], alts := [], laidByText := true, laidKinds := [.handle], laidTests := true, laidLooks := .later }
def FrameRecordsCardSaid : Prop := Claim7.holds Tryd.pinned (.plain (OpenSpec.ofChange frameRecordsSpec)) frameRecordsCard

/-- THE TIED CARD OF 'weirlaw2.FrameHelds'. -/
def frameHeldsCard : Claim7 := { stood := { row := frameHeldsRow, standIns := [], harness := (true, "aef6ffa5678f1b6f4eb2f591cf267555a456842c4896e6fc5c9be5bc0a7a3602"), looks := true }, kinds := [], alts := [], laidByText := true, laidKinds := [.handle], laidTests := true, laidLooks := .later }
def FrameHeldsCardSaid : Prop := Claim7.holds Tryd.pinned (.plain (OpenSpec.ofChange frameHeldsSpec)) frameHeldsCard

/-- THE TIED CARD OF 'weirlaw2.TableReads'. -/
def tableReadsCard : Claim7 := { stood := { row := tableReadsRow, standIns := [], harness := (true, "aef6ffa5678f1b6f4eb2f591cf267555a456842c4896e6fc5c9be5bc0a7a3602"), looks := true }, kinds := [], alts := [], laidByText := true, laidKinds := [.handle], laidTests := true, laidLooks := .later }
def TableReadsCardSaid : Prop := Claim7.holds Tryd.pinned (.plain (OpenSpec.ofChange tableReadsSpec)) tableReadsCard

/-- THE TIED CARD OF 'weirlaw2.TableMerges'. -/
def tableMergesCard : Claim7 := { stood := { row := tableMergesRow, standIns := [], harness := (true, "aef6ffa5678f1b6f4eb2f591cf267555a456842c4896e6fc5c9be5bc0a7a3602"), looks := true }, kinds := [], alts := [], laidByText := true, laidKinds := [.handle], laidTests := true, laidLooks := .later }
def TableMergesCardSaid : Prop := Claim7.holds Tryd.pinned (.plain (OpenSpec.ofChange tableMergesSpec)) tableMergesCard

/-- THE TIED CARD OF 'weirlaw2.TableGarbles'. -/
def tableGarblesCard : Claim7 := { stood := { row := tableGarblesRow, standIns := [], harness := (true, "aef6ffa5678f1b6f4eb2f591cf267555a456842c4896e6fc5c9be5bc0a7a3602"), looks := true }, kinds := [], alts := [], laidByText := true, laidKinds := [.handle], laidTests := true, laidLooks := .later }
def TableGarblesCardSaid : Prop := Claim7.holds Tryd.pinned (.plain (OpenSpec.ofChange tableGarblesSpec)) tableGarblesCard

/-- THE SECOND FORM's CARD OF 'weirlaw2.FrameRecords'. -/
def frameRecordsUptoCard : Claim7 := { stood := { row := frameRecordsUptoRow, standIns := [], harness := (true, "aef6ffa5678f1b6f4eb2f591cf267555a456842c4896e6fc5c9be5bc0a7a3602"), looks := true }, kinds := [], alts := [], laidByText := true, laidKinds := [.handle], laidTests := true, laidLooks := .later }
def FrameRecordsUptoCardSaid : Prop := Claim7.holds Tryd.pinned (.plain (OpenSpec.upto frameRecordsSpec)) frameRecordsUptoCard

/-- THE SECOND FORM's CARD OF 'weirlaw2.FrameHelds'. -/
def frameHeldsUptoCard : Claim7 := { stood := { row := frameHeldsUptoRow, standIns := [], harness := (true, "aef6ffa5678f1b6f4eb2f591cf267555a456842c4896e6fc5c9be5bc0a7a3602"), looks := true }, kinds := [], alts := [], laidByText := true, laidKinds := [.handle], laidTests := true, laidLooks := .later }
def FrameHeldsUptoCardSaid : Prop := Claim7.holds Tryd.pinned (.plain (OpenSpec.upto frameHeldsSpec)) frameHeldsUptoCard

/-- THE SECOND FORM's CARD OF 'weirlaw2.TableReads'. -/
def tableReadsUptoCard : Claim7 := { stood := { row := tableReadsUptoRow, standIns := [], harness := (true, "aef6ffa5678f1b6f4eb2f591cf267555a456842c4896e6fc5c9be5bc0a7a3602"), looks := true }, kinds := [], alts := [], laidByText := true, laidKinds := [.handle], laidTests := true, laidLooks := .later }
def TableReadsUptoCardSaid : Prop := Claim7.holds Tryd.pinned (.plain (OpenSpec.upto tableReadsSpec)) tableReadsUptoCard

/-- THE SECOND FORM's CARD OF 'weirlaw2.TableMerges'. -/
def tableMergesUptoCard : Claim7 := { stood := { row := tableMergesUptoRow, standIns := [], harness := (true, "aef6ffa5678f1b6f4eb2f591cf267555a456842c4896e6fc5c9be5bc0a7a3602"), looks := true }, kinds := [], alts := [], laidByText := true, laidKinds := [.handle], laidTests := true, laidLooks := .later }
def TableMergesUptoCardSaid : Prop := Claim7.holds Tryd.pinned (.plain (OpenSpec.upto tableMergesSpec)) tableMergesUptoCard

/-- THE SECOND FORM's CARD OF 'weirlaw2.TableGarbles'. -/
def tableGarblesUptoCard : Claim7 := { stood := { row := tableGarblesUptoRow, standIns := [], harness := (true, "aef6ffa5678f1b6f4eb2f591cf267555a456842c4896e6fc5c9be5bc0a7a3602"), looks := true }, kinds := [], alts := [], laidByText := true, laidKinds := [.handle], laidTests := true, laidLooks := .later }
def TableGarblesUptoCardSaid : Prop := Claim7.holds Tryd.pinned (.plain (OpenSpec.upto tableGarblesSpec)) tableGarblesUptoCard
end Rows
end Go.Proofs.YtcfijljagohmlaaDoor
