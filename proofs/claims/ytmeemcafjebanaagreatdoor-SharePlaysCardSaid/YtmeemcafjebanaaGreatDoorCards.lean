/-
  DERIVED. GIVEN WITH THE SEED: THE CARDS: each row of YtmeemcafjebanaaGreatDoorRows.lean that lists a variable, with what it lists TIED to the program's text (the seventh form; the later family's looks); each row that meets fmt, with fmt's text TOLD by the authors' own Lean function (tested against real Go, not proved from fmt's source: count such statements apart). THE CARD IS WHAT COUNTS. Prove the row's statement (the work); the ties are given (YtmeemcafjebanaaGreatDoorTie.lean); close each card by the builder's one call (the guide's Derived/Test/ToyasCard.lean, 'card_holds'). Laid BY PROGRAM, IN A SANDBOX (cutbox-door.mjs). By AI agents, Wed Nov 11 2026. No macro, syntax, notation, axiom, sorry.
-/
import Derived.Test.YtmeemcafjebanaaGreatDoorRows
import GoSem.ClaimSeven
namespace Go.Proofs.YtmeemcafjebanaaGreatDoor
namespace Rows

/-- THE TIED CARD OF 'weirlaw2.SharePlays'. -/
def sharePlaysCard : Claim7 := { stood := { row := sharePlaysRow, standIns := [], harness := (true, "20a27b1ada1af76602b5b62af6aeffaebd4382317b4206d265e2021fe6f72bb0"), looks := true }, kinds := [], alts := [], laidByText := true, laidKinds := [.data, .handle, .pinned], laidTests := true, laidLooks := .later }
def SharePlaysCardSaid : Prop := Claim7.holds Tryz.pinned (.plain (OpenSpec.ofChange sharePlaysSpec)) sharePlaysCard

/-- THE TIED CARD OF 'weirlaw2.DiskPlays'. -/
def diskPlaysCard : Claim7 := { stood := { row := diskPlaysRow, standIns := [], harness := (true, "20a27b1ada1af76602b5b62af6aeffaebd4382317b4206d265e2021fe6f72bb0"), looks := true }, kinds := [], alts := [], laidByText := true, laidKinds := [.data, .handle, .pinned], laidTests := true, laidLooks := .later }
def DiskPlaysCardSaid : Prop := Claim7.holds Tryz.pinned (.plain (OpenSpec.ofChange diskPlaysSpec)) diskPlaysCard

/-- THE SECOND FORM's CARD OF 'weirlaw2.SharePlays'. -/
def sharePlaysUptoCard : Claim7 := { stood := { row := sharePlaysUptoRow, standIns := [], harness := (true, "20a27b1ada1af76602b5b62af6aeffaebd4382317b4206d265e2021fe6f72bb0"), looks := true }, kinds := [], alts := [], laidByText := true, laidKinds := [.data, .handle, .pinned], laidTests := true, laidLooks := .later }
def SharePlaysUptoCardSaid : Prop := Claim7.holds Tryz.pinned (.plain (OpenSpec.upto sharePlaysSpec)) sharePlaysUptoCard

/-- THE SECOND FORM's CARD OF 'weirlaw2.DiskPlays'. -/
def diskPlaysUptoCard : Claim7 := { stood := { row := diskPlaysUptoRow, standIns := [], harness := (true, "20a27b1ada1af76602b5b62af6aeffaebd4382317b4206d265e2021fe6f72bb0"), looks := true }, kinds := [], alts := [], laidByText := true, laidKinds := [.data, .handle, .pinned], laidTests := true, laidLooks := .later }
def DiskPlaysUptoCardSaid : Prop := Claim7.holds Tryz.pinned (.plain (OpenSpec.upto diskPlaysSpec)) diskPlaysUptoCard
end Rows
end Go.Proofs.YtmeemcafjebanaaGreatDoor
