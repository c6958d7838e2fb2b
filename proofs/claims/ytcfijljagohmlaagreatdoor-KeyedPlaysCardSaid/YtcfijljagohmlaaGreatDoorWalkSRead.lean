/- The walk of the reference's ReadRecords. -/
import Derived.Test.YtcfijljagohmlaaGreatDoorWalkSRec
namespace Go.Proofs.YtcfijljagohmlaaGreatDoor
open Go.RowKit

/-- What is owned stays owned where another block is written. -/
theorem own_setc {w : World} {base : Nat} {e : TypeId} {size n : Nat} {v : Value} {xs : List Value} (h : w.ownsRow base e size v n xs) {g : Nat} (hne : ∀ k, v.ownBlock = some k → k ≠ g) (i : Nat) (u : Value) : (w.setCell ⟨g, i, none⟩ u).ownsRow base e size v n xs :=
  own_far h (only_set (only_refl w (some g)) i u) fun k hk e => hne k hk (by injection e with e; exact e.symm)
theorem recsS_none2 (l : List UInt8) (m : Nat) : (recsS l m none).2 = none := by
  cases m with
  | zero => rfl
  | succ m =>
    have : (recS l none).2 = none := by
      have h1 : (textS l 40 none) = ([], none) := rfl
      simp only [recS, h1, numS]; rfl
    rw [recsS_bad this]
/-- What has been read so far, and that what was wrong stays so. -/
def Reads4 (l : List UInt8) (N : Nat) (s0 : Option Nat) (acc : List Rec) (k : Nat) (s : Option Nat) : Prop := (s.isSome = true → Reads2 l N s0 acc k s) ∧ (s = none → (recsS l N s0).2 = none)
theorem Reads4.start (l : List UInt8) (N : Nat) (s0 : Option Nat) : Reads4 l N s0 [] 0 s0 := ⟨fun _ => Reads2.start _ _ _, fun h => by subst h; exact recsS_none2 _ _⟩
theorem Reads4.next {l : List UInt8} {N k a : Nat} {s0 s4 : Option Nat} {acc : List Rec} {r : Rec} (h : Reads4 l N s0 acc k (some a)) (hk : k < N) (hr : recS l (some a) = (r, s4)) : Reads4 l N s0 (acc ++ [r]) (k + 1) s4 := by
  refine ⟨fun hs => ?_, fun hs => ?_⟩
  · rcases s4 with _ | b
    · cases hs
    · exact (h.1 rfl).step hk hr
  · subst hs; rw [(h.1 rfl).bad hk hr]

end Go.Proofs.YtcfijljagohmlaaGreatDoor
