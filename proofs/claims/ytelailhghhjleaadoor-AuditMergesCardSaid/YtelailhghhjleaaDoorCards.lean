/-
  DERIVED. GIVEN WITH THE SEED: THE CARDS: each row of YtelailhghhjleaaDoorRows.lean that lists a variable, with what it lists TIED to the program's text (the seventh form; the later family's looks); each row that meets fmt, with fmt's text TOLD by the authors' own Lean function (tested against real Go, not proved from fmt's source: count such statements apart). THE CARD IS WHAT COUNTS. Prove the row's statement (the work); the ties are given (YtelailhghhjleaaDoorTie.lean); close each card by the builder's one call (the guide's Derived/Test/ToyasCard.lean, 'card_holds'). Laid BY PROGRAM, IN A SANDBOX (cutbox-door.mjs). By AI agents, Wed Nov 11 2026. No macro, syntax, notation, axiom, sorry.
-/
import Derived.Test.YtelailhghhjleaaDoorRows
import GoSem.ClaimSeven
namespace Go.Proofs.YtelailhghhjleaaDoor
namespace Rows

/-- THE TIED CARD OF 'weirlaw4.WindowMarks'. -/
def windowMarksCard : Claim7 := { stood := { row := windowMarksRow, standIns := [], harness := (true, "833650199a8ff7596f20712f43db58410d0d74c6614b7e1e4d5fb41de7e55ead"), looks := true }, kinds := [], alts := [], laidByText := true, laidKinds := [.handle], laidTests := true, laidLooks := .later }
def WindowMarksCardSaid : Prop := Claim7.holds Tryd.pinned (.plain (OpenSpec.ofChange windowMarksSpec)) windowMarksCard

/-- THE TIED CARD OF 'weirlaw4.SpreadAll'. -/
def spreadAllCard : Claim7 := { stood := { row := spreadAllRow, standIns := [], harness := (true, "833650199a8ff7596f20712f43db58410d0d74c6614b7e1e4d5fb41de7e55ead"), looks := true }, kinds := [], alts := [], laidByText := true, laidKinds := [.handle], laidTests := true, laidLooks := .later }
def SpreadAllCardSaid : Prop := Claim7.holds Tryd.pinned (.plain (OpenSpec.ofChange spreadAllSpec)) spreadAllCard

/-- THE TIED CARD OF 'weirlaw4.SpreadLoads'. -/
def spreadLoadsCard : Claim7 := { stood := { row := spreadLoadsRow, standIns := [], harness := (true, "833650199a8ff7596f20712f43db58410d0d74c6614b7e1e4d5fb41de7e55ead"), looks := true }, kinds := [], alts := [], laidByText := true, laidKinds := [.handle], laidTests := true, laidLooks := .later }
def SpreadLoadsCardSaid : Prop := Claim7.holds Tryd.pinned (.plain (OpenSpec.ofChange spreadLoadsSpec)) spreadLoadsCard

/-- THE TIED CARD OF 'weirlaw4.WindowSessions'. -/
def windowSessionsCard : Claim7 := { stood := { row := windowSessionsRow, standIns := [], harness := (true, "833650199a8ff7596f20712f43db58410d0d74c6614b7e1e4d5fb41de7e55ead"), looks := true }, kinds := [], alts := [], laidByText := true, laidKinds := [.handle], laidTests := true, laidLooks := .later }
def WindowSessionsCardSaid : Prop := Claim7.holds Tryd.pinned (.plain (OpenSpec.ofChange windowSessionsSpec)) windowSessionsCard

/-- THE TIED CARD OF 'weirlaw4.WindowSlides'. -/
def windowSlidesCard : Claim7 := { stood := { row := windowSlidesRow, standIns := [], harness := (true, "833650199a8ff7596f20712f43db58410d0d74c6614b7e1e4d5fb41de7e55ead"), looks := true }, kinds := [], alts := [], laidByText := true, laidKinds := [.handle], laidTests := true, laidLooks := .later }
def WindowSlidesCardSaid : Prop := Claim7.holds Tryd.pinned (.plain (OpenSpec.ofChange windowSlidesSpec)) windowSlidesCard

/-- THE TIED CARD OF 'weirlaw4.AuditMerges'. -/
def auditMergesCard : Claim7 := { stood := { row := auditMergesRow, standIns := [], harness := (true, "833650199a8ff7596f20712f43db58410d0d74c6614b7e1e4d5fb41de7e55ead"), looks := true }, kinds := [], alts := [], laidByText := true, laidKinds := [.handle], laidTests := true, laidLooks := .later }
def AuditMergesCardSaid : Prop := Claim7.holds Tryd.pinned (.plain (OpenSpec.ofChange auditMergesSpec)) auditMergesCard

/-- THE TIED CARD OF 'weirlaw4.AuditJudges'. -/
def auditJudgesCard : Claim7 := { stood := { row := auditJudgesRow, standIns := [], harness := (true, "833650199a8ff7596f20712f43db58410d0d74c6614b7e1e4d5fb41de7e55ead"), looks := true }, kinds := [], alts := [], laidByText := true, laidKinds := [.handle], laidTests := true, laidLooks := .later }
def AuditJudgesCardSaid : Prop := Claim7.holds Tryd.pinned (.plain (OpenSpec.ofChange auditJudgesSpec)) auditJudgesCard

/-- THE SECOND FORM's CARD OF 'weirlaw4.WindowMarks'. -/
def windowMarksUptoCard : Claim7 := { stood := { row := windowMarksUptoRow, standIns := [], harness := (true, "833650199a8ff7596f20712f43db58410d0d74c6614b7e1e4d5fb41de7e55ead"), looks := true }, kinds := [], alts := [], laidByText := true, laidKinds := [.handle], laidTests := true, laidLooks := .later }
def WindowMarksUptoCardSaid : Prop := Claim7.holds Tryd.pinned (.plain (OpenSpec.upto windowMarksSpec)) windowMarksUptoCard

/-- THE SECOND FORM's CARD OF 'weirlaw4.SpreadAll'. -/
def spreadAllUptoCard : Claim7 := { stood := { row := spreadAllUptoRow, standIns := [], harness := (true, "833650199a8ff7596f20712f43db58410d0d74c6614b7e1e4d5fb41de7e55ead"), looks := true }, kinds := [], alts := [], laidByText := true, laidKinds := [.handle], laidTests := true, laidLooks := .later }
def SpreadAllUptoCardSaid : Prop := Claim7.holds Tryd.pinned (.plain (OpenSpec.upto spreadAllSpec)) spreadAllUptoCard

/-- THE SECOND FORM's CARD OF 'weirlaw4.SpreadLoads'. -/
def spreadLoadsUptoCard : Claim7 := { stood := { row := spreadLoadsUptoRow, standIns := [], harness := (true, "833650199a8ff7596f20712f43db58410d0d74c6614b7e1e4d5fb41de7e55ead"), looks := true }, kinds := [], alts := [], laidByText := true, laidKinds := [.handle], laidTests := true, laidLooks := .later }
def SpreadLoadsUptoCardSaid : Prop := Claim7.holds Tryd.pinned (.plain (OpenSpec.upto spreadLoadsSpec)) spreadLoadsUptoCard

/-- THE SECOND FORM's CARD OF 'weirlaw4.WindowSessions'. -/
def windowSessionsUptoCard : Claim7 := { stood := { row := windowSessionsUptoRow, standIns := [], harness := (true, "833650199a8ff7596f20712f43db58410d0d74c6614b7e1e4d5fb41de7e55ead"), looks := true }, kinds := [], alts := [], laidByText := true, laidKinds := [.handle], laidTests := true, laidLooks := .later }
def WindowSessionsUptoCardSaid : Prop := Claim7.holds Tryd.pinned (.plain (OpenSpec.upto windowSessionsSpec)) windowSessionsUptoCard

/-- THE SECOND FORM's CARD OF 'weirlaw4.WindowSlides'. -/
def windowSlidesUptoCard : Claim7 := { stood := { row := windowSlidesUptoRow, standIns := [], harness := (true, "833650199a8ff7596f20712f43db58410d0d74c6614b7e1e4d5fb41de7e55ead"), looks := true }, kinds := [], alts := [], laidByText := true, laidKinds := [.handle], laidTests := true, laidLooks := .later }
def WindowSlidesUptoCardSaid : Prop := Claim7.holds Tryd.pinned (.plain (OpenSpec.upto windowSlidesSpec)) windowSlidesUptoCard

/-- THE SECOND FORM's CARD OF 'weirlaw4.AuditMerges'. -/
def auditMergesUptoCard : Claim7 := { stood := { row := auditMergesUptoRow, standIns := [], harness := (true, "833650199a8ff7596f20712f43db58410d0d74c6614b7e1e4d5fb41de7e55ead"), looks := true }, kinds := [], alts := [], laidByText := true, laidKinds := [.handle], laidTests := true, laidLooks := .later }
def AuditMergesUptoCardSaid : Prop := Claim7.holds Tryd.pinned (.plain (OpenSpec.upto auditMergesSpec)) auditMergesUptoCard

/-- THE SECOND FORM's CARD OF 'weirlaw4.AuditJudges'. -/
def auditJudgesUptoCard : Claim7 := { stood := { row := auditJudgesUptoRow, standIns := [], harness := (true, "833650199a8ff7596f20712f43db58410d0d74c6614b7e1e4d5fb41de7e55ead"), looks := true }, kinds := [], alts := [], laidByText := true, laidKinds := [.handle], laidTests := true, laidLooks := .later }
def AuditJudgesUptoCardSaid : Prop := Claim7.holds Tryd.pinned (.plain (OpenSpec.upto auditJudgesSpec)) auditJudgesUptoCard
end Rows
end Go.Proofs.YtelailhghhjleaaDoor
