/-
  NARROWER THAN 'FOR EVERY INPUT', by the rows' own cells (each row's printed sentence says how): WindowMarks: laid · SpreadAll: laid · SpreadLoads: laid · WindowSessions: laid · WindowSlides: laid · AuditMerges: laid · AuditJudges: laid.
  DERIVED. THE GIVEN ROWS OF THIS SEAT. 7 by the template 'for every input the law returns true; each argument reads behind the call as it read before'; 0 by the template 'total and deterministic' (their statements: YtelailhghhjleaaDoorTotals.lean).
  GIVEN WITH THE SEED: the statements are not yours to turn. If you find one false, say at which input.
  Laid BY PROGRAM, IN A SANDBOX (cutbox-rows.mjs): the forced cells as the released guide's own fill.sh prints them over the translation 7b704b98f8edf3ad… (all of the seat's roots in one cut). By AI agents, Wed Nov 11 2026. No macro, syntax, notation, axiom, sorry.
-/
import Derived.Test.YtelailhghhjleaaDoorChecked
import GoSem.Claim
import GoSem.ClaimJoined
import GoSem.ClaimMapViews
import Derived.JoinedTies
import Derived.KernelRfl
namespace Go.Proofs.YtelailhghhjleaaDoor
/- THE CELL 'sum', in the pinned program and in every row, IS THE sha256 OF THE DUMP (.gsa) THAT YtelailhghhjleaaDoorProg.lean LOADS. Nothing in Lean hashes anything: it is a label: what it is worth is what the hold of that sum in a sandbox is worth. -/
noncomputable def Tryd.pinned : Pinned := { name := "ytelailhghhjleaadoor", sum := "7b704b98f8edf3adccc10df9dde800c735bdef55a756823a570f21fd5f688bcb", checked := Tryd.checked }
namespace Rows
def none {H : Type} : Left H := { results := [], args := [] }

/- WHAT THE LISTED PACKAGE-LEVEL VARIABLES READ AS WHEN THE CALL BEGINS. Each datum BY PROGRAM (the guide's laid-datum.mjs) off the statement by which the dump's own 'gosem.cut.vars' lays the variable. In a bare row this is a premise. The card (YtelailhghhjleaaDoorCards.lean) ties it to the program's text. -/
def laid_errors_errorType {H : Type} : DataW H := .iface "internal/reflectlite.rtype" (.agg [.ptr (.lit (.string [101, 114, 114, 111, 114]))])

/-- 'weirlaw4.WindowMarks': WHATEVER THE INPUT: true; the input reads as it did. -/
def windowMarksSpec : ChangeSpec := { name := "windowMarks", fn := fun _ => fun
  | [d1, d2] => { results := [.lit (.bool true)], args := [d1, d2] }
  | _ => none }
def windowMarksRow : OpenClaim := { program := "ytelailhghhjleaadoor", sum := "7b704b98f8edf3adccc10df9dde800c735bdef55a756823a570f21fd5f688bcb", func := "weirgate/weirlaw4.WindowMarks", spec := "windowMarks", inPlace := ["internal/reflectlite.ValueOf", "(internal/reflectlite.Value).Type", "(internal/reflectlite.Value).IsNil", "internal/reflectlite.TypeOf", "(internal/reflectlite.Value).Elem", "(internal/reflectlite.Value).Set"], unfollowed := true, recurses := true, named := ["errors.errorType"], plainKeys := false, apart := false, laid := [("errors.errorType", laid_errors_errorType)] }
def WindowMarksSaid : Prop := windowMarksRow.holds Tryd.pinned (OpenSpec.ofChange windowMarksSpec)

/-- ITS FALSE NEIGHBOUR: 'it returns false'. Refute it at one input. -/
def windowMarksWrong : ChangeSpec := { name := "windowMarks", fn := fun _ => fun
  | [d1, d2] => { results := [.lit (.bool false)], args := [d1, d2] }
  | _ => none }
def WindowMarksWrongFalsely : Prop := windowMarksRow.holds Tryd.pinned (OpenSpec.ofChange windowMarksWrong)

/-- 'weirlaw4.SpreadAll': WHATEVER THE INPUT: true; the input reads as it did. -/
def spreadAllSpec : ChangeSpec := { name := "spreadAll", fn := fun _ => fun
  | [d1, d2, d3] => { results := [.lit (.bool true)], args := [d1, d2, d3] }
  | _ => none }
def spreadAllRow : OpenClaim := { program := "ytelailhghhjleaadoor", sum := "7b704b98f8edf3adccc10df9dde800c735bdef55a756823a570f21fd5f688bcb", func := "weirgate/weirlaw4.SpreadAll", spec := "spreadAll", inPlace := ["internal/reflectlite.ValueOf", "(internal/reflectlite.Value).Type", "(internal/reflectlite.Value).IsNil", "internal/reflectlite.TypeOf", "(internal/reflectlite.Value).Elem", "(internal/reflectlite.Value).Set"], unfollowed := true, recurses := true, named := ["errors.errorType"], plainKeys := false, apart := false, laid := [("errors.errorType", laid_errors_errorType)] }
def SpreadAllSaid : Prop := spreadAllRow.holds Tryd.pinned (OpenSpec.ofChange spreadAllSpec)

/-- ITS FALSE NEIGHBOUR: 'it returns false'. Refute it at one input. -/
def spreadAllWrong : ChangeSpec := { name := "spreadAll", fn := fun _ => fun
  | [d1, d2, d3] => { results := [.lit (.bool false)], args := [d1, d2, d3] }
  | _ => none }
def SpreadAllWrongFalsely : Prop := spreadAllRow.holds Tryd.pinned (OpenSpec.ofChange spreadAllWrong)

/-- 'weirlaw4.SpreadLoads': WHATEVER THE INPUT: true; the input reads as it did. -/
def spreadLoadsSpec : ChangeSpec := { name := "spreadLoads", fn := fun _ => fun
  | [d1, d2] => { results := [.lit (.bool true)], args := [d1, d2] }
  | _ => none }
def spreadLoadsRow : OpenClaim := { program := "ytelailhghhjleaadoor", sum := "7b704b98f8edf3adccc10df9dde800c735bdef55a756823a570f21fd5f688bcb", func := "weirgate/weirlaw4.SpreadLoads", spec := "spreadLoads", inPlace := ["internal/reflectlite.ValueOf", "(internal/reflectlite.Value).Type", "(internal/reflectlite.Value).IsNil", "internal/reflectlite.TypeOf", "(internal/reflectlite.Value).Elem", "(internal/reflectlite.Value).Set"], unfollowed := true, recurses := true, named := ["errors.errorType"], plainKeys := false, apart := false, laid := [("errors.errorType", laid_errors_errorType)] }
def SpreadLoadsSaid : Prop := spreadLoadsRow.holds Tryd.pinned (OpenSpec.ofChange spreadLoadsSpec)

/-- ITS FALSE NEIGHBOUR: 'it returns false'. Refute it at one input. -/
def spreadLoadsWrong : ChangeSpec := { name := "spreadLoads", fn := fun _ => fun
  | [d1, d2] => { results := [.lit (.bool false)], args := [d1, d2] }
  | _ => none }
def SpreadLoadsWrongFalsely : Prop := spreadLoadsRow.holds Tryd.pinned (OpenSpec.ofChange spreadLoadsWrong)

/-- 'weirlaw4.WindowSessions': WHATEVER THE INPUT: true; the input reads as it did. -/
def windowSessionsSpec : ChangeSpec := { name := "windowSessions", fn := fun _ => fun
  | [d1, d2] => { results := [.lit (.bool true)], args := [d1, d2] }
  | _ => none }
def windowSessionsRow : OpenClaim := { program := "ytelailhghhjleaadoor", sum := "7b704b98f8edf3adccc10df9dde800c735bdef55a756823a570f21fd5f688bcb", func := "weirgate/weirlaw4.WindowSessions", spec := "windowSessions", inPlace := ["internal/reflectlite.ValueOf", "(internal/reflectlite.Value).Type", "(internal/reflectlite.Value).IsNil", "internal/reflectlite.TypeOf", "(internal/reflectlite.Value).Elem", "(internal/reflectlite.Value).Set"], unfollowed := true, recurses := true, named := ["errors.errorType"], plainKeys := false, apart := false, laid := [("errors.errorType", laid_errors_errorType)] }
def WindowSessionsSaid : Prop := windowSessionsRow.holds Tryd.pinned (OpenSpec.ofChange windowSessionsSpec)

/-- ITS FALSE NEIGHBOUR: 'it returns false'. Refute it at one input. -/
def windowSessionsWrong : ChangeSpec := { name := "windowSessions", fn := fun _ => fun
  | [d1, d2] => { results := [.lit (.bool false)], args := [d1, d2] }
  | _ => none }
def WindowSessionsWrongFalsely : Prop := windowSessionsRow.holds Tryd.pinned (OpenSpec.ofChange windowSessionsWrong)

/-- 'weirlaw4.WindowSlides': WHATEVER THE INPUT: true; the input reads as it did. -/
def windowSlidesSpec : ChangeSpec := { name := "windowSlides", fn := fun _ => fun
  | [d1, d2, d3, d4] => { results := [.lit (.bool true)], args := [d1, d2, d3, d4] }
  | _ => none }
def windowSlidesRow : OpenClaim := { program := "ytelailhghhjleaadoor", sum := "7b704b98f8edf3adccc10df9dde800c735bdef55a756823a570f21fd5f688bcb", func := "weirgate/weirlaw4.WindowSlides", spec := "windowSlides", inPlace := ["internal/reflectlite.ValueOf", "(internal/reflectlite.Value).Type", "(internal/reflectlite.Value).IsNil", "internal/reflectlite.TypeOf", "(internal/reflectlite.Value).Elem", "(internal/reflectlite.Value).Set"], unfollowed := true, recurses := true, named := ["errors.errorType"], plainKeys := false, apart := false, laid := [("errors.errorType", laid_errors_errorType)] }
def WindowSlidesSaid : Prop := windowSlidesRow.holds Tryd.pinned (OpenSpec.ofChange windowSlidesSpec)

/-- ITS FALSE NEIGHBOUR: 'it returns false'. Refute it at one input. -/
def windowSlidesWrong : ChangeSpec := { name := "windowSlides", fn := fun _ => fun
  | [d1, d2, d3, d4] => { results := [.lit (.bool false)], args := [d1, d2, d3, d4] }
  | _ => none }
def WindowSlidesWrongFalsely : Prop := windowSlidesRow.holds Tryd.pinned (OpenSpec.ofChange windowSlidesWrong)

/-- 'weirlaw4.AuditMerges': WHATEVER THE INPUT: true; the input reads as it did. -/
def auditMergesSpec : ChangeSpec := { name := "auditMerges", fn := fun _ => fun
  | [d1, d2] => { results := [.lit (.bool true)], args := [d1, d2] }
  | _ => none }
def auditMergesRow : OpenClaim := { program := "ytelailhghhjleaadoor", sum := "7b704b98f8edf3adccc10df9dde800c735bdef55a756823a570f21fd5f688bcb", func := "weirgate/weirlaw4.AuditMerges", spec := "auditMerges", inPlace := ["internal/reflectlite.ValueOf", "(internal/reflectlite.Value).Type", "(internal/reflectlite.Value).IsNil", "internal/reflectlite.TypeOf", "(internal/reflectlite.Value).Elem", "(internal/reflectlite.Value).Set"], unfollowed := true, recurses := true, named := ["errors.errorType"], plainKeys := false, apart := false, laid := [("errors.errorType", laid_errors_errorType)] }
def AuditMergesSaid : Prop := auditMergesRow.holds Tryd.pinned (OpenSpec.ofChange auditMergesSpec)

/-- ITS FALSE NEIGHBOUR: 'it returns false'. Refute it at one input. -/
def auditMergesWrong : ChangeSpec := { name := "auditMerges", fn := fun _ => fun
  | [d1, d2] => { results := [.lit (.bool false)], args := [d1, d2] }
  | _ => none }
def AuditMergesWrongFalsely : Prop := auditMergesRow.holds Tryd.pinned (OpenSpec.ofChange auditMergesWrong)

/-- 'weirlaw4.AuditJudges': WHATEVER THE INPUT: true; the input reads as it did. -/
def auditJudgesSpec : ChangeSpec := { name := "auditJudges", fn := fun _ => fun
  | [d1, d2] => { results := [.lit (.bool true)], args := [d1, d2] }
  | _ => none }
def auditJudgesRow : OpenClaim := { program := "ytelailhghhjleaadoor", sum := "7b704b98f8edf3adccc10df9dde800c735bdef55a756823a570f21fd5f688bcb", func := "weirgate/weirlaw4.AuditJudges", spec := "auditJudges", inPlace := ["internal/reflectlite.ValueOf", "(internal/reflectlite.Value).Type", "(internal/reflectlite.Value).IsNil", "internal/reflectlite.TypeOf", "(internal/reflectlite.Value).Elem", "(internal/reflectlite.Value).Set", "internal/bytealg.abigen_runtime_cmpstring"], unfollowed := true, recurses := true, named := ["errors.errorType"], plainKeys := false, apart := false, laid := [("errors.errorType", laid_errors_errorType)] }
def AuditJudgesSaid : Prop := auditJudgesRow.holds Tryd.pinned (OpenSpec.ofChange auditJudgesSpec)

/-- ITS FALSE NEIGHBOUR: 'it returns false'. Refute it at one input. -/
def auditJudgesWrong : ChangeSpec := { name := "auditJudges", fn := fun _ => fun
  | [d1, d2] => { results := [.lit (.bool false)], args := [d1, d2] }
  | _ => none }
def AuditJudgesWrongFalsely : Prop := auditJudgesRow.holds Tryd.pinned (OpenSpec.ofChange auditJudgesWrong)

/- THE SECOND FORM. 'bulk': how many values and letters a reading holds, each counted each time it is reached (what is shared counts as often as it is met; a slice's spare places count too). A statement '..UptoSaid' is the law's where the arguments, and the package variables that the reading takes, are together of bulk at most 1048576: NARROWER than '..Said'. Prove '..Said' where nothing that the law and all that it calls make is longer than what came in: it says more and counts as full. Else prove '..UptoSaid'. A law counts once. -/
mutual
def uptoBulk {H : Type} : DataW H → Nat
  | .lit (.string bytes) => bytes.length + 1
  | .lit _ => 1
  | .nil => 1
  | .ptr d => uptoBulk d + 1
  | .slice elems spare => uptoBulkAll elems + uptoBulkAll spare + 1
  | .agg parts => uptoBulkAll parts + 1
  | .iface _ d => uptoBulk d + 1
  | .map entries => uptoBulkEntries entries + 1
  | .held _ => 1
def uptoBulkAll {H : Type} : List (DataW H) → Nat
  | [] => 0
  | d :: r => uptoBulk d + uptoBulkAll r
def uptoBulkEntries {H : Type} : List (Lit × DataW H) → Nat
  | [] => 0
  | x :: r => uptoBulkEntry x + uptoBulkEntries r
def uptoBulkEntry {H : Type} : Lit × DataW H → Nat
  | (.string bytes, d) => bytes.length + uptoBulk d + 1
  | (_, d) => uptoBulk d + 1
 end
def uptoSmall : (H : Type) → List (DataW H) → Bool := fun _ ds => decide (uptoBulkAll ds ≤ 1048576)
def OpenSpec.upto (s : _root_.Go.ChangeSpec) : _root_.Go.OpenSpec := { _root_.Go.OpenSpec.ofChange s with cond := some uptoSmall }

/-- 'weirlaw4.WindowMarks', WHERE WHAT IT READS IS OF BULK AT MOST 1048576: true; the input reads as it did. -/
def windowMarksUptoRow : OpenClaim := { program := "ytelailhghhjleaadoor", sum := "7b704b98f8edf3adccc10df9dde800c735bdef55a756823a570f21fd5f688bcb", func := "weirgate/weirlaw4.WindowMarks", spec := "windowMarks", inPlace := ["internal/reflectlite.ValueOf", "(internal/reflectlite.Value).Type", "(internal/reflectlite.Value).IsNil", "internal/reflectlite.TypeOf", "(internal/reflectlite.Value).Elem", "(internal/reflectlite.Value).Set"], unfollowed := true, recurses := true, named := ["errors.errorType"], plainKeys := false, apart := false, laid := [("errors.errorType", laid_errors_errorType)], narrowed := true }
def WindowMarksUptoSaid : Prop := windowMarksUptoRow.holds Tryd.pinned (OpenSpec.upto windowMarksSpec)

/-- 'weirlaw4.SpreadAll', WHERE WHAT IT READS IS OF BULK AT MOST 1048576: true; the input reads as it did. -/
def spreadAllUptoRow : OpenClaim := { program := "ytelailhghhjleaadoor", sum := "7b704b98f8edf3adccc10df9dde800c735bdef55a756823a570f21fd5f688bcb", func := "weirgate/weirlaw4.SpreadAll", spec := "spreadAll", inPlace := ["internal/reflectlite.ValueOf", "(internal/reflectlite.Value).Type", "(internal/reflectlite.Value).IsNil", "internal/reflectlite.TypeOf", "(internal/reflectlite.Value).Elem", "(internal/reflectlite.Value).Set"], unfollowed := true, recurses := true, named := ["errors.errorType"], plainKeys := false, apart := false, laid := [("errors.errorType", laid_errors_errorType)], narrowed := true }
def SpreadAllUptoSaid : Prop := spreadAllUptoRow.holds Tryd.pinned (OpenSpec.upto spreadAllSpec)

/-- 'weirlaw4.SpreadLoads', WHERE WHAT IT READS IS OF BULK AT MOST 1048576: true; the input reads as it did. -/
def spreadLoadsUptoRow : OpenClaim := { program := "ytelailhghhjleaadoor", sum := "7b704b98f8edf3adccc10df9dde800c735bdef55a756823a570f21fd5f688bcb", func := "weirgate/weirlaw4.SpreadLoads", spec := "spreadLoads", inPlace := ["internal/reflectlite.ValueOf", "(internal/reflectlite.Value).Type", "(internal/reflectlite.Value).IsNil", "internal/reflectlite.TypeOf", "(internal/reflectlite.Value).Elem", "(internal/reflectlite.Value).Set"], unfollowed := true, recurses := true, named := ["errors.errorType"], plainKeys := false, apart := false, laid := [("errors.errorType", laid_errors_errorType)], narrowed := true }
def SpreadLoadsUptoSaid : Prop := spreadLoadsUptoRow.holds Tryd.pinned (OpenSpec.upto spreadLoadsSpec)

/-- 'weirlaw4.WindowSessions', WHERE WHAT IT READS IS OF BULK AT MOST 1048576: true; the input reads as it did. -/
def windowSessionsUptoRow : OpenClaim := { program := "ytelailhghhjleaadoor", sum := "7b704b98f8edf3adccc10df9dde800c735bdef55a756823a570f21fd5f688bcb", func := "weirgate/weirlaw4.WindowSessions", spec := "windowSessions", inPlace := ["internal/reflectlite.ValueOf", "(internal/reflectlite.Value).Type", "(internal/reflectlite.Value).IsNil", "internal/reflectlite.TypeOf", "(internal/reflectlite.Value).Elem", "(internal/reflectlite.Value).Set"], unfollowed := true, recurses := true, named := ["errors.errorType"], plainKeys := false, apart := false, laid := [("errors.errorType", laid_errors_errorType)], narrowed := true }
def WindowSessionsUptoSaid : Prop := windowSessionsUptoRow.holds Tryd.pinned (OpenSpec.upto windowSessionsSpec)

/-- 'weirlaw4.WindowSlides', WHERE WHAT IT READS IS OF BULK AT MOST 1048576: true; the input reads as it did. -/
def windowSlidesUptoRow : OpenClaim := { program := "ytelailhghhjleaadoor", sum := "7b704b98f8edf3adccc10df9dde800c735bdef55a756823a570f21fd5f688bcb", func := "weirgate/weirlaw4.WindowSlides", spec := "windowSlides", inPlace := ["internal/reflectlite.ValueOf", "(internal/reflectlite.Value).Type", "(internal/reflectlite.Value).IsNil", "internal/reflectlite.TypeOf", "(internal/reflectlite.Value).Elem", "(internal/reflectlite.Value).Set"], unfollowed := true, recurses := true, named := ["errors.errorType"], plainKeys := false, apart := false, laid := [("errors.errorType", laid_errors_errorType)], narrowed := true }
def WindowSlidesUptoSaid : Prop := windowSlidesUptoRow.holds Tryd.pinned (OpenSpec.upto windowSlidesSpec)

/-- 'weirlaw4.AuditMerges', WHERE WHAT IT READS IS OF BULK AT MOST 1048576: true; the input reads as it did. -/
def auditMergesUptoRow : OpenClaim := { program := "ytelailhghhjleaadoor", sum := "7b704b98f8edf3adccc10df9dde800c735bdef55a756823a570f21fd5f688bcb", func := "weirgate/weirlaw4.AuditMerges", spec := "auditMerges", inPlace := ["internal/reflectlite.ValueOf", "(internal/reflectlite.Value).Type", "(internal/reflectlite.Value).IsNil", "internal/reflectlite.TypeOf", "(internal/reflectlite.Value).Elem", "(internal/reflectlite.Value).Set"], unfollowed := true, recurses := true, named := ["errors.errorType"], plainKeys := false, apart := false, laid := [("errors.errorType", laid_errors_errorType)], narrowed := true }
def AuditMergesUptoSaid : Prop := auditMergesUptoRow.holds Tryd.pinned (OpenSpec.upto auditMergesSpec)

/-- 'weirlaw4.AuditJudges', WHERE WHAT IT READS IS OF BULK AT MOST 1048576: true; the input reads as it did. -/
def auditJudgesUptoRow : OpenClaim := { program := "ytelailhghhjleaadoor", sum := "7b704b98f8edf3adccc10df9dde800c735bdef55a756823a570f21fd5f688bcb", func := "weirgate/weirlaw4.AuditJudges", spec := "auditJudges", inPlace := ["internal/reflectlite.ValueOf", "(internal/reflectlite.Value).Type", "(internal/reflectlite.Value).IsNil", "internal/reflectlite.TypeOf", "(internal/reflectlite.Value).Elem", "(internal/reflectlite.Value).Set", "internal/bytealg.abigen_runtime_cmpstring"], unfollowed := true, recurses := true, named := ["errors.errorType"], plainKeys := false, apart := false, laid := [("errors.errorType", laid_errors_errorType)], narrowed := true }
def AuditJudgesUptoSaid : Prop := auditJudgesUptoRow.holds Tryd.pinned (OpenSpec.upto auditJudgesSpec)

end Rows
end Go.Proofs.YtelailhghhjleaaDoor
