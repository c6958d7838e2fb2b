/-
  No cell of these rows narrows 'for every input' (looked for: loops, veiled, ifaces, maps, wideKeys, modest, calm, conditions, laid).
  DERIVED. THE GIVEN ROWS OF THIS SEAT. 5 by the template 'for every input the law returns true; each argument reads behind the call as it read before'; 0 by the template 'total and deterministic' (their statements: YtelailhghhjleaaTotals.lean).
  GIVEN WITH THE SEED: the statements are not yours to turn. If you find one false, say at which input.
  Laid BY PROGRAM, IN A SANDBOX (cutbox-rows.mjs): the forced cells as the released guide's own fill.sh prints them over the translation a52d07c383946ea6… (all of the seat's roots in one cut). By AI agents, Wed Nov 11 2026. No macro, syntax, notation, axiom, sorry.
-/
import Derived.Test.YtelailhghhjleaaChecked
import GoSem.Claim
import GoSem.ClaimJoined
import GoSem.ClaimMapViews
import Derived.JoinedTies
import Derived.KernelRfl
namespace Go.Proofs.Ytelailhghhjleaa
/- THE CELL 'sum', in the pinned program and in every row, IS THE sha256 OF THE DUMP (.gsa) THAT YtelailhghhjleaaProg.lean LOADS. Nothing in Lean hashes anything: it is a label: what it is worth is what the hold of that sum in a sandbox is worth. -/
noncomputable def Try.pinned : Pinned := { name := "ytelailhghhjleaa", sum := "a52d07c383946ea6c2ba4268cbb93d8c6ffe9e820d71954689bcfdf94b3e1f3c", checked := Try.checked }
namespace Rows
def none {H : Type} : Left H := { results := [], args := [] }

/-- 'weirlaw4.WindowGaps': WHATEVER THE INPUT: true; the input reads as it did. -/
def windowGapsSpec : ChangeSpec := { name := "windowGaps", fn := fun _ => fun
  | [d1, d2, d3] => { results := [.lit (.bool true)], args := [d1, d2, d3] }
  | _ => none }
def windowGapsRow : OpenClaim := { program := "ytelailhghhjleaa", sum := "a52d07c383946ea6c2ba4268cbb93d8c6ffe9e820d71954689bcfdf94b3e1f3c", func := "weirgate/weirlaw4.WindowGaps", spec := "windowGaps", unfollowed := true, recurses := true, plainKeys := false, apart := false }
def WindowGapsSaid : Prop := windowGapsRow.holds Try.pinned (OpenSpec.ofChange windowGapsSpec)

/-- ITS FALSE NEIGHBOUR: 'it returns false'. Refute it at one input. -/
def windowGapsWrong : ChangeSpec := { name := "windowGaps", fn := fun _ => fun
  | [d1, d2, d3] => { results := [.lit (.bool false)], args := [d1, d2, d3] }
  | _ => none }
def WindowGapsWrongFalsely : Prop := windowGapsRow.holds Try.pinned (OpenSpec.ofChange windowGapsWrong)

/-- 'weirlaw4.SpreadGraham': WHATEVER THE INPUT: true; the input reads as it did. -/
def spreadGrahamSpec : ChangeSpec := { name := "spreadGraham", fn := fun _ => fun
  | [d1, d2, d3, d4, d5] => { results := [.lit (.bool true)], args := [d1, d2, d3, d4, d5] }
  | _ => none }
def spreadGrahamRow : OpenClaim := { program := "ytelailhghhjleaa", sum := "a52d07c383946ea6c2ba4268cbb93d8c6ffe9e820d71954689bcfdf94b3e1f3c", func := "weirgate/weirlaw4.SpreadGraham", spec := "spreadGraham", unfollowed := true, recurses := true, plainKeys := false, apart := false }
def SpreadGrahamSaid : Prop := spreadGrahamRow.holds Try.pinned (OpenSpec.ofChange spreadGrahamSpec)

/-- ITS FALSE NEIGHBOUR: 'it returns false'. Refute it at one input. -/
def spreadGrahamWrong : ChangeSpec := { name := "spreadGraham", fn := fun _ => fun
  | [d1, d2, d3, d4, d5] => { results := [.lit (.bool false)], args := [d1, d2, d3, d4, d5] }
  | _ => none }
def SpreadGrahamWrongFalsely : Prop := spreadGrahamRow.holds Try.pinned (OpenSpec.ofChange spreadGrahamWrong)

/-- 'weirlaw4.WindowCounts': WHATEVER THE INPUT: true; the input reads as it did. -/
def windowCountsSpec : ChangeSpec := { name := "windowCounts", fn := fun _ => fun
  | [d1, d2, d3] => { results := [.lit (.bool true)], args := [d1, d2, d3] }
  | _ => none }
def windowCountsRow : OpenClaim := { program := "ytelailhghhjleaa", sum := "a52d07c383946ea6c2ba4268cbb93d8c6ffe9e820d71954689bcfdf94b3e1f3c", func := "weirgate/weirlaw4.WindowCounts", spec := "windowCounts", unfollowed := true, recurses := true, plainKeys := false, apart := false }
def WindowCountsSaid : Prop := windowCountsRow.holds Try.pinned (OpenSpec.ofChange windowCountsSpec)

/-- ITS FALSE NEIGHBOUR: 'it returns false'. Refute it at one input. -/
def windowCountsWrong : ChangeSpec := { name := "windowCounts", fn := fun _ => fun
  | [d1, d2, d3] => { results := [.lit (.bool false)], args := [d1, d2, d3] }
  | _ => none }
def WindowCountsWrongFalsely : Prop := windowCountsRow.holds Try.pinned (OpenSpec.ofChange windowCountsWrong)

/-- 'weirlaw4.AuditFinds': WHATEVER THE INPUT: true; the input reads as it did. -/
def auditFindsSpec : ChangeSpec := { name := "auditFinds", fn := fun _ => fun
  | [d1, d2, d3] => { results := [.lit (.bool true)], args := [d1, d2, d3] }
  | _ => none }
def auditFindsRow : OpenClaim := { program := "ytelailhghhjleaa", sum := "a52d07c383946ea6c2ba4268cbb93d8c6ffe9e820d71954689bcfdf94b3e1f3c", func := "weirgate/weirlaw4.AuditFinds", spec := "auditFinds", inPlace := ["internal/bytealg.abigen_runtime_cmpstring"], unfollowed := true, recurses := true, plainKeys := false, apart := false }
def AuditFindsSaid : Prop := auditFindsRow.holds Try.pinned (OpenSpec.ofChange auditFindsSpec)

/-- ITS FALSE NEIGHBOUR: 'it returns false'. Refute it at one input. -/
def auditFindsWrong : ChangeSpec := { name := "auditFinds", fn := fun _ => fun
  | [d1, d2, d3] => { results := [.lit (.bool false)], args := [d1, d2, d3] }
  | _ => none }
def AuditFindsWrongFalsely : Prop := auditFindsRow.holds Try.pinned (OpenSpec.ofChange auditFindsWrong)

/-- 'weirlaw4.AuditPrefix': WHATEVER THE INPUT: true; the input reads as it did. -/
def auditPrefixSpec : ChangeSpec := { name := "auditPrefix", fn := fun _ => fun
  | [d1, d2] => { results := [.lit (.bool true)], args := [d1, d2] }
  | _ => none }
def auditPrefixRow : OpenClaim := { program := "ytelailhghhjleaa", sum := "a52d07c383946ea6c2ba4268cbb93d8c6ffe9e820d71954689bcfdf94b3e1f3c", func := "weirgate/weirlaw4.AuditPrefix", spec := "auditPrefix", inPlace := ["internal/bytealg.abigen_runtime_cmpstring"], unfollowed := true, recurses := true, plainKeys := false, apart := false }
def AuditPrefixSaid : Prop := auditPrefixRow.holds Try.pinned (OpenSpec.ofChange auditPrefixSpec)

/-- ITS FALSE NEIGHBOUR: 'it returns false'. Refute it at one input. -/
def auditPrefixWrong : ChangeSpec := { name := "auditPrefix", fn := fun _ => fun
  | [d1, d2] => { results := [.lit (.bool false)], args := [d1, d2] }
  | _ => none }
def AuditPrefixWrongFalsely : Prop := auditPrefixRow.holds Try.pinned (OpenSpec.ofChange auditPrefixWrong)

/- THE SECOND FORM. 'bulk': how many values and letters a reading holds, each counted each time it is reached (what is shared counts as often as it is met; a slice's spare places count too). A statement '..UptoSaid' is the law's where the arguments, and the package variables that the reading takes, are together of bulk at most 1048576: NARROWER than '..Said'. Prove '..Said' where nothing that the law and all that it calls make is longer than what came in: it says more and counts as full. Else prove '..UptoSaid'. A law counts once. -/
mutual
def uptoBulk {H : Type} : DataW H → Nat
  | .lit (.string bytes) => bytes.length + 1
  | .lit _ => 1
  | .nil => 1
  | .ptr d => uptoBulk d + 1
  | .slice elems spare => uptoBulkAll elems + uptoBulkAll spare + 1
  | .agg parts => uptoBulkAll parts + 1
  | .iface _ d => uptoBulk d + 1
  | .map entries => uptoBulkEntries entries + 1
  | .held _ => 1
def uptoBulkAll {H : Type} : List (DataW H) → Nat
  | [] => 0
  | d :: r => uptoBulk d + uptoBulkAll r
def uptoBulkEntries {H : Type} : List (Lit × DataW H) → Nat
  | [] => 0
  | x :: r => uptoBulkEntry x + uptoBulkEntries r
def uptoBulkEntry {H : Type} : Lit × DataW H → Nat
  | (.string bytes, d) => bytes.length + uptoBulk d + 1
  | (_, d) => uptoBulk d + 1
 end
def uptoSmall : (H : Type) → List (DataW H) → Bool := fun _ ds => decide (uptoBulkAll ds ≤ 1048576)
def OpenSpec.upto (s : _root_.Go.ChangeSpec) : _root_.Go.OpenSpec := { _root_.Go.OpenSpec.ofChange s with cond := some uptoSmall }

/-- 'weirlaw4.WindowGaps', WHERE WHAT IT READS IS OF BULK AT MOST 1048576: true; the input reads as it did. -/
def windowGapsUptoRow : OpenClaim := { program := "ytelailhghhjleaa", sum := "a52d07c383946ea6c2ba4268cbb93d8c6ffe9e820d71954689bcfdf94b3e1f3c", func := "weirgate/weirlaw4.WindowGaps", spec := "windowGaps", unfollowed := true, recurses := true, plainKeys := false, apart := false, narrowed := true }
def WindowGapsUptoSaid : Prop := windowGapsUptoRow.holds Try.pinned (OpenSpec.upto windowGapsSpec)

/-- 'weirlaw4.SpreadGraham', WHERE WHAT IT READS IS OF BULK AT MOST 1048576: true; the input reads as it did. -/
def spreadGrahamUptoRow : OpenClaim := { program := "ytelailhghhjleaa", sum := "a52d07c383946ea6c2ba4268cbb93d8c6ffe9e820d71954689bcfdf94b3e1f3c", func := "weirgate/weirlaw4.SpreadGraham", spec := "spreadGraham", unfollowed := true, recurses := true, plainKeys := false, apart := false, narrowed := true }
def SpreadGrahamUptoSaid : Prop := spreadGrahamUptoRow.holds Try.pinned (OpenSpec.upto spreadGrahamSpec)

/-- 'weirlaw4.WindowCounts', WHERE WHAT IT READS IS OF BULK AT MOST 1048576: true; the input reads as it did. -/
def windowCountsUptoRow : OpenClaim := { program := "ytelailhghhjleaa", sum := "a52d07c383946ea6c2ba4268cbb93d8c6ffe9e820d71954689bcfdf94b3e1f3c", func := "weirgate/weirlaw4.WindowCounts", spec := "windowCounts", unfollowed := true, recurses := true, plainKeys := false, apart := false, narrowed := true }
def WindowCountsUptoSaid : Prop := windowCountsUptoRow.holds Try.pinned (OpenSpec.upto windowCountsSpec)

/-- 'weirlaw4.AuditFinds', WHERE WHAT IT READS IS OF BULK AT MOST 1048576: true; the input reads as it did. -/
def auditFindsUptoRow : OpenClaim := { program := "ytelailhghhjleaa", sum := "a52d07c383946ea6c2ba4268cbb93d8c6ffe9e820d71954689bcfdf94b3e1f3c", func := "weirgate/weirlaw4.AuditFinds", spec := "auditFinds", inPlace := ["internal/bytealg.abigen_runtime_cmpstring"], unfollowed := true, recurses := true, plainKeys := false, apart := false, narrowed := true }
def AuditFindsUptoSaid : Prop := auditFindsUptoRow.holds Try.pinned (OpenSpec.upto auditFindsSpec)

/-- 'weirlaw4.AuditPrefix', WHERE WHAT IT READS IS OF BULK AT MOST 1048576: true; the input reads as it did. -/
def auditPrefixUptoRow : OpenClaim := { program := "ytelailhghhjleaa", sum := "a52d07c383946ea6c2ba4268cbb93d8c6ffe9e820d71954689bcfdf94b3e1f3c", func := "weirgate/weirlaw4.AuditPrefix", spec := "auditPrefix", inPlace := ["internal/bytealg.abigen_runtime_cmpstring"], unfollowed := true, recurses := true, plainKeys := false, apart := false, narrowed := true }
def AuditPrefixUptoSaid : Prop := auditPrefixUptoRow.holds Try.pinned (OpenSpec.upto auditPrefixSpec)

end Rows
end Go.Proofs.Ytelailhghhjleaa
