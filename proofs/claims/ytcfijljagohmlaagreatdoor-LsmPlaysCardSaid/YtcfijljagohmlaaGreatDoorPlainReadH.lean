/- Plain laws of states read out of bytes. No program in sight. -/
import Derived.Test.YtcfijljagohmlaaGreatDoorPlainHelds
namespace Go.Proofs.YtcfijljagohmlaaGreatDoor
open Go.RowKit

/-- A state out of bytes, and where the reader stands behind it, what stands ahead of it not yet looked at. -/
def hldS (l : List UInt8) (s : Option Nat) : Hld × Option Nat :=
  (⟨(uptoS l 11 s).1, ⟨(textS l 40 (uptoS l 11 s).2).1.toArray⟩, (numS l (textS l 40 (uptoS l 11 s).2).2).1, (numS l (numS l (textS l 40 (uptoS l 11 s).2).2).2).1⟩, (numS l (numS l (textS l 40 (uptoS l 11 s).2).2).2).2)
/-- The reader behind the look at what stands ahead. -/
def riseS (p : Option Hld) (h : Hld) (s : Option Nat) : Option Nat := if notAfter p h = true then none else s
/-- So many states, up to the first fault. -/
def hldsS (l : List UInt8) : Nat → Option Hld → Option Nat → List Hld × Option Nat
  | 0, _, s => ([], s)
  | m + 1, p, s => match riseS p (hldS l s).1 (hldS l s).2 with
    | none => ([], none)
    | some a => ((hldS l s).1 :: (hldsS l m (some (hldS l s).1) (some a)).1, (hldsS l m (some (hldS l s).1) (some a)).2)
/-- The states that some bytes are, if they are any. -/
def readHelds (l : List UInt8) : Option (List Hld) :=
  let r := hldsS l (uptoS l 400 (some 0)).1.toNat none (uptoS l 400 (some 0)).2
  if endS l r.2 then some r.1 else none
def rhE (l : List UInt8) : Nat := if (readHelds l).isSome then 0 else 9
theorem rhE_none {l : List UInt8} (h : readHelds l = none) : rhE l = 9 := by rw [rhE, h]; rfl
theorem rhE_some {l : List UInt8} {r : List Hld} (h : readHelds l = some r) : rhE l = 0 := by rw [rhE, h]; rfl

theorem hldsS_bad {l : List UInt8} {m : Nat} {p : Option Hld} {s : Option Nat} (h : riseS p (hldS l s).1 (hldS l s).2 = none) : hldsS l (m + 1) p s = ([], none) := by rw [hldsS, h]
theorem hldsS_good {l : List UInt8} {m a : Nat} {p : Option Hld} {s : Option Nat} (h : riseS p (hldS l s).1 (hldS l s).2 = some a) :
    hldsS l (m + 1) p s = ((hldS l s).1 :: (hldsS l m (some (hldS l s).1) (some a)).1, (hldsS l m (some (hldS l s).1) (some a)).2) := by rw [hldsS, h]

theorem hldCells_snoc (acc : List Hld) (r : Hld) : hldCells (acc ++ [r]) = hldCells acc ++ r.cells := by simp [hldCells]

/-- What stands last. -/
def lastOf (acc : List Hld) : Option Hld := acc.getLast?
theorem lastOf_snoc (acc : List Hld) (r : Hld) : lastOf (acc ++ [r]) = some r := by simp [lastOf]
theorem lastOf_nil : lastOf [] = none := rfl

theorem hld_parts (l : List UInt8) (s : Option Nat) (h : Stands l s) :
    ∃ (nd : Int) (s1 : Option Nat) (kb : List UInt8) (s2 : Option Nat) (a : Int) (s3 : Option Nat) (b : Int) (s4 : Option Nat),
      uptoS l 11 s = (nd, s1) ∧ textS l 40 s1 = (kb, s2) ∧ numS l s2 = (a, s3) ∧ numS l s3 = (b, s4) ∧ hldS l s = (⟨nd, ⟨kb.toArray⟩, a, b⟩, s4) ∧
      Stands l s1 ∧ Stands l s2 ∧ Stands l s3 ∧ Stands l s4 ∧ kb.length ≤ 40 ∧ 0 ≤ nd ∧ nd ≤ 11 ∧ -9223372036854775808 ≤ a ∧ a ≤ 9223372036854775807 ∧ -9223372036854775808 ≤ b ∧ b ≤ 9223372036854775807 := by
  have h1 := uptoS_bd l 11 s h (by omega)
  have h2 := textS_bd l 40 _ h1.1 (by omega)
  have h3 := numS_bd l _ h2.1
  have h4 := numS_bd l _ h3.1
  exact ⟨_, _, (textS l 40 (uptoS l 11 s).2).1, _, _, _, _, _, rfl, rfl, rfl, rfl, rfl, h1.1, h2.1, h3.1, h4.1, by omega, h1.2.1, h1.2.2, h3.2.1, h3.2.2, h4.2.1, h4.2.2⟩

/-- The loop's form: what has been read, and what is still to be read. -/
def Reads3 (l : List UInt8) (N : Nat) (s0 : Option Nat) (acc : List Hld) (k : Nat) (s : Option Nat) : Prop :=
  hldsS l N none s0 = (acc ++ (hldsS l (N - k) (lastOf acc) s).1, (hldsS l (N - k) (lastOf acc) s).2)
theorem Reads3.start (l : List UInt8) (N : Nat) (s0 : Option Nat) : Reads3 l N s0 [] 0 s0 := by simp [Reads3, lastOf_nil]
theorem Reads3.step {l : List UInt8} {N k : Nat} {s0 s s4 : Option Nat} {acc : List Hld} {r : Hld} {a : Nat} (h : Reads3 l N s0 acc k s) (hk : k < N) (hr : hldS l s = (r, s4)) (hs : riseS (lastOf acc) r s4 = some a) : Reads3 l N s0 (acc ++ [r]) (k + 1) (some a) := by
  have e : N - k = (N - (k + 1)) + 1 := by omega
  unfold Reads3 at *
  rw [h, e, hldsS_good (by rw [hr]; exact hs), hr, lastOf_snoc]
  simp
theorem Reads3.bad {l : List UInt8} {N k : Nat} {s0 s s4 : Option Nat} {acc : List Hld} {r : Hld} (h : Reads3 l N s0 acc k s) (hk : k < N) (hr : hldS l s = (r, s4)) (hs : riseS (lastOf acc) r s4 = none) : hldsS l N none s0 = (acc, none) := by
  have e : N - k = (N - (k + 1)) + 1 := by omega
  unfold Reads3 at h
  rw [h, e, hldsS_bad (by rw [hr]; exact hs)]
  simp
theorem Reads3.done {l : List UInt8} {N k : Nat} {s0 s : Option Nat} {acc : List Hld} (h : Reads3 l N s0 acc k s) (hk : N ≤ k) : hldsS l N none s0 = (acc, s) := by
  unfold Reads3 at h
  rw [h, show N - k = 0 from by omega]
  simp [hldsS]
end Go.Proofs.YtcfijljagohmlaaGreatDoor
