/-
  No cell of these rows narrows 'for every input' (looked for: loops, veiled, ifaces, maps, wideKeys, modest, calm, conditions, laid).
  DERIVED. THE GIVEN ROWS OF THIS SEAT. 4 by the template 'for every input the law returns true; each argument reads behind the call as it read before'; 0 by the template 'total and deterministic' (their statements: YtcfijljagohmlaaTotals.lean).
  GIVEN WITH THE SEED: the statements are not yours to turn. If you find one false, say at which input.
  Laid BY PROGRAM, IN A SANDBOX (cutbox-rows.mjs): the forced cells as the released guide's own fill.sh prints them over the translation 7ab559123555a44c… (all of the seat's roots in one cut). By AI agents, Wed Nov 11 2026. No macro, syntax, notation, axiom, sorry.
-/
import Derived.Test.YtcfijljagohmlaaChecked
import GoSem.Claim
import GoSem.ClaimJoined
import GoSem.ClaimMapViews
import Derived.JoinedTies
import Derived.KernelRfl
namespace Go.Proofs.Ytcfijljagohmlaa
/- THE CELL 'sum', in the pinned program and in every row, IS THE sha256 OF THE DUMP (.gsa) THAT YtcfijljagohmlaaProg.lean LOADS. Nothing in Lean hashes anything: it is a label: what it is worth is what the hold of that sum in a sandbox is worth. -/
noncomputable def Try.pinned : Pinned := { name := "ytcfijljagohmlaa", sum := "7ab559123555a44c32d627a8a2130d2d7e68dba03b0da9648a57087ba4f18b03", checked := Try.checked }
namespace Rows
def none {H : Type} : Left H := { results := [], args := [] }

/-- 'weirlaw2.FrameNums': WHATEVER THE INPUT: true; the input reads as it did. -/
def frameNumsSpec : ChangeSpec := { name := "frameNums", fn := fun _ => fun
  | [d1, d2, d3] => { results := [.lit (.bool true)], args := [d1, d2, d3] }
  | _ => none }
def frameNumsRow : OpenClaim := { program := "ytcfijljagohmlaa", sum := "7ab559123555a44c32d627a8a2130d2d7e68dba03b0da9648a57087ba4f18b03", func := "weirgate/weirlaw2.FrameNums", spec := "frameNums", plainKeys := false, apart := false }
def FrameNumsSaid : Prop := frameNumsRow.holds Try.pinned (OpenSpec.ofChange frameNumsSpec)

/-- ITS FALSE NEIGHBOUR: 'it returns false'. Refute it at one input. -/
def frameNumsWrong : ChangeSpec := { name := "frameNums", fn := fun _ => fun
  | [d1, d2, d3] => { results := [.lit (.bool false)], args := [d1, d2, d3] }
  | _ => none }
def FrameNumsWrongFalsely : Prop := frameNumsRow.holds Try.pinned (OpenSpec.ofChange frameNumsWrong)

/-- 'weirlaw2.FrameBack': WHATEVER THE INPUT: true; the input reads as it did. -/
def frameBackSpec : ChangeSpec := { name := "frameBack", fn := fun _ => fun
  | [d1, d2, d3, d4] => { results := [.lit (.bool true)], args := [d1, d2, d3, d4] }
  | _ => none }
def frameBackRow : OpenClaim := { program := "ytcfijljagohmlaa", sum := "7ab559123555a44c32d627a8a2130d2d7e68dba03b0da9648a57087ba4f18b03", func := "weirgate/weirlaw2.FrameBack", spec := "frameBack", plainKeys := false, apart := false }
def FrameBackSaid : Prop := frameBackRow.holds Try.pinned (OpenSpec.ofChange frameBackSpec)

/-- ITS FALSE NEIGHBOUR: 'it returns false'. Refute it at one input. -/
def frameBackWrong : ChangeSpec := { name := "frameBack", fn := fun _ => fun
  | [d1, d2, d3, d4] => { results := [.lit (.bool false)], args := [d1, d2, d3, d4] }
  | _ => none }
def FrameBackWrongFalsely : Prop := frameBackRow.holds Try.pinned (OpenSpec.ofChange frameBackWrong)

/-- 'weirlaw2.KeyedMoves': WHATEVER THE INPUT: true; the input reads as it did. -/
def keyedMovesSpec : ChangeSpec := { name := "keyedMoves", fn := fun _ => fun
  | [d1, d2, d3] => { results := [.lit (.bool true)], args := [d1, d2, d3] }
  | _ => none }
def keyedMovesRow : OpenClaim := { program := "ytcfijljagohmlaa", sum := "7ab559123555a44c32d627a8a2130d2d7e68dba03b0da9648a57087ba4f18b03", func := "weirgate/weirlaw2.KeyedMoves", spec := "keyedMoves", unfollowed := true, recurses := true, plainKeys := false, apart := false }
def KeyedMovesSaid : Prop := keyedMovesRow.holds Try.pinned (OpenSpec.ofChange keyedMovesSpec)

/-- ITS FALSE NEIGHBOUR: 'it returns false'. Refute it at one input. -/
def keyedMovesWrong : ChangeSpec := { name := "keyedMoves", fn := fun _ => fun
  | [d1, d2, d3] => { results := [.lit (.bool false)], args := [d1, d2, d3] }
  | _ => none }
def KeyedMovesWrongFalsely : Prop := keyedMovesRow.holds Try.pinned (OpenSpec.ofChange keyedMovesWrong)

/-- 'weirlaw2.LsmOpens': WHATEVER THE INPUT: true; the input reads as it did. -/
def lsmOpensSpec : ChangeSpec := { name := "lsmOpens", fn := fun _ => fun
  | [d1, d2, d3] => { results := [.lit (.bool true)], args := [d1, d2, d3] }
  | _ => none }
def lsmOpensRow : OpenClaim := { program := "ytcfijljagohmlaa", sum := "7ab559123555a44c32d627a8a2130d2d7e68dba03b0da9648a57087ba4f18b03", func := "weirgate/weirlaw2.LsmOpens", spec := "lsmOpens", inPlace := ["internal/bytealg.abigen_runtime_cmpstring", "slices.overlaps[[]byte]", "slices.overlaps[[]weirgate/api.Entry]"], unfollowed := true, recurses := true, plainKeys := false, apart := false }
def LsmOpensSaid : Prop := lsmOpensRow.holds Try.pinned (OpenSpec.ofChange lsmOpensSpec)

/-- ITS FALSE NEIGHBOUR: 'it returns false'. Refute it at one input. -/
def lsmOpensWrong : ChangeSpec := { name := "lsmOpens", fn := fun _ => fun
  | [d1, d2, d3] => { results := [.lit (.bool false)], args := [d1, d2, d3] }
  | _ => none }
def LsmOpensWrongFalsely : Prop := lsmOpensRow.holds Try.pinned (OpenSpec.ofChange lsmOpensWrong)

/- THE SECOND FORM. 'bulk': how many values and letters a reading holds, each counted each time it is reached (what is shared counts as often as it is met; a slice's spare places count too). A statement '..UptoSaid' is the law's where the arguments, and the package variables that the reading takes, are together of bulk at most 1048576: NARROWER than '..Said'. Prove '..Said' where nothing that the law and all that it calls make is longer than what came in: it says more and counts as full. Else prove '..UptoSaid'. A law counts once. -/
mutual
def uptoBulk {H : Type} : DataW H → Nat
  | .lit (.string bytes) => bytes.length + 1
  | .lit _ => 1
  | .nil => 1
  | .ptr d => uptoBulk d + 1
  | .slice elems spare => uptoBulkAll elems + uptoBulkAll spare + 1
  | .agg parts => uptoBulkAll parts + 1
  | .iface _ d => uptoBulk d + 1
  | .map entries => uptoBulkEntries entries + 1
  | .held _ => 1
def uptoBulkAll {H : Type} : List (DataW H) → Nat
  | [] => 0
  | d :: r => uptoBulk d + uptoBulkAll r
def uptoBulkEntries {H : Type} : List (Lit × DataW H) → Nat
  | [] => 0
  | x :: r => uptoBulkEntry x + uptoBulkEntries r
def uptoBulkEntry {H : Type} : Lit × DataW H → Nat
  | (.string bytes, d) => bytes.length + uptoBulk d + 1
  | (_, d) => uptoBulk d + 1
 end
def uptoSmall : (H : Type) → List (DataW H) → Bool := fun _ ds => decide (uptoBulkAll ds ≤ 1048576)
def OpenSpec.upto (s : _root_.Go.ChangeSpec) : _root_.Go.OpenSpec := { _root_.Go.OpenSpec.ofChange s with cond := some uptoSmall }

/-- 'weirlaw2.FrameNums', WHERE WHAT IT READS IS OF BULK AT MOST 1048576: true; the input reads as it did. -/
def frameNumsUptoRow : OpenClaim := { program := "ytcfijljagohmlaa", sum := "7ab559123555a44c32d627a8a2130d2d7e68dba03b0da9648a57087ba4f18b03", func := "weirgate/weirlaw2.FrameNums", spec := "frameNums", plainKeys := false, apart := false, narrowed := true }
def FrameNumsUptoSaid : Prop := frameNumsUptoRow.holds Try.pinned (OpenSpec.upto frameNumsSpec)

/-- 'weirlaw2.FrameBack', WHERE WHAT IT READS IS OF BULK AT MOST 1048576: true; the input reads as it did. -/
def frameBackUptoRow : OpenClaim := { program := "ytcfijljagohmlaa", sum := "7ab559123555a44c32d627a8a2130d2d7e68dba03b0da9648a57087ba4f18b03", func := "weirgate/weirlaw2.FrameBack", spec := "frameBack", plainKeys := false, apart := false, narrowed := true }
def FrameBackUptoSaid : Prop := frameBackUptoRow.holds Try.pinned (OpenSpec.upto frameBackSpec)

/-- 'weirlaw2.KeyedMoves', WHERE WHAT IT READS IS OF BULK AT MOST 1048576: true; the input reads as it did. -/
def keyedMovesUptoRow : OpenClaim := { program := "ytcfijljagohmlaa", sum := "7ab559123555a44c32d627a8a2130d2d7e68dba03b0da9648a57087ba4f18b03", func := "weirgate/weirlaw2.KeyedMoves", spec := "keyedMoves", unfollowed := true, recurses := true, plainKeys := false, apart := false, narrowed := true }
def KeyedMovesUptoSaid : Prop := keyedMovesUptoRow.holds Try.pinned (OpenSpec.upto keyedMovesSpec)

/-- 'weirlaw2.LsmOpens', WHERE WHAT IT READS IS OF BULK AT MOST 1048576: true; the input reads as it did. -/
def lsmOpensUptoRow : OpenClaim := { program := "ytcfijljagohmlaa", sum := "7ab559123555a44c32d627a8a2130d2d7e68dba03b0da9648a57087ba4f18b03", func := "weirgate/weirlaw2.LsmOpens", spec := "lsmOpens", inPlace := ["internal/bytealg.abigen_runtime_cmpstring", "slices.overlaps[[]byte]", "slices.overlaps[[]weirgate/api.Entry]"], unfollowed := true, recurses := true, plainKeys := false, apart := false, narrowed := true }
def LsmOpensUptoSaid : Prop := lsmOpensUptoRow.holds Try.pinned (OpenSpec.upto lsmOpensSpec)

end Rows
end Go.Proofs.Ytcfijljagohmlaa
