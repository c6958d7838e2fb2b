/- Plain laws of records read out of bytes, part two. -/
import Derived.Test.YtmeemcafjebanaaGreatDoorPlainRead
namespace Go.Proofs.YtmeemcafjebanaaGreatDoor
open Go.RowKit

theorem rec_parts (l : List UInt8) (s : Option Nat) (h : Stands l s) :
    ∃ (kb : List UInt8) (s2 : Option Nat) (n : Int) (s3 : Option Nat) (tm : Int) (s4 : Option Nat), textS l 40 s = (kb, s2) ∧ numS l s2 = (n, s3) ∧ uptoS l 1000000 s3 = (tm, s4) ∧ recS l s = (⟨⟨kb.toArray⟩, n, tm⟩, s4) ∧
      Stands l s2 ∧ Stands l s3 ∧ Stands l s4 ∧ kb.length ≤ 40 ∧ -9223372036854775808 ≤ n ∧ n ≤ 9223372036854775807 ∧ 0 ≤ tm ∧ tm ≤ 1000000 := by
  have h1 := textS_bd l 40 s h (by omega)
  have h2 := numS_bd l _ h1.1
  have h3 := uptoS_bd l 1000000 _ h2.1 (by omega)
  exact ⟨(textS l 40 s).1, (textS l 40 s).2, _, _, _, _, rfl, rfl, rfl, rfl, h1.1, h2.1, h3.1, by omega, h2.2.1, h2.2.2, h3.2.1, h3.2.2⟩

/-- The loop's form: what has been read, and what is still to be read. -/
def Reads2 (l : List UInt8) (N : Nat) (s0 : Option Nat) (acc : List Rec) (k : Nat) (s : Option Nat) : Prop :=
  recsS l N s0 = (acc ++ (recsS l (N - k) s).1, (recsS l (N - k) s).2)
theorem Reads2.start (l : List UInt8) (N : Nat) (s0 : Option Nat) : Reads2 l N s0 [] 0 s0 := by simp [Reads2]
theorem Reads2.step {l : List UInt8} {N k : Nat} {s0 s : Option Nat} {acc : List Rec} {r : Rec} {a : Nat} (h : Reads2 l N s0 acc k s) (hk : k < N) (hr : recS l s = (r, some a)) : Reads2 l N s0 (acc ++ [r]) (k + 1) (some a) := by
  have e : N - k = (N - (k + 1)) + 1 := by omega
  unfold Reads2 at *
  rw [h, e, recsS_good (by rw [hr]), hr]
  simp
theorem Reads2.bad {l : List UInt8} {N k : Nat} {s0 s : Option Nat} {acc : List Rec} {r : Rec} (h : Reads2 l N s0 acc k s) (hk : k < N) (hr : recS l s = (r, none)) : recsS l N s0 = (acc, none) := by
  have e : N - k = (N - (k + 1)) + 1 := by omega
  unfold Reads2 at h
  rw [h, e, recsS_bad (by rw [hr])]
  simp
theorem Reads2.done {l : List UInt8} {N k : Nat} {s0 s : Option Nat} {acc : List Rec} (h : Reads2 l N s0 acc k s) (hk : N ≤ k) : recsS l N s0 = (acc, s) := by
  unfold Reads2 at h
  rw [h, show N - k = 0 from by omega]
  simp [recsS]

/-- The fault of bytes as records. -/
def rrE (l : List UInt8) : Nat := if (readRecs l).isSome then 0 else 9
theorem rrE_none {l : List UInt8} (h : readRecs l = none) : rrE l = 9 := by rw [rrE, h]; rfl
theorem rrE_some {l : List UInt8} {r : List Rec} (h : readRecs l = some r) : rrE l = 0 := by rw [rrE, h]; rfl
end Go.Proofs.YtmeemcafjebanaaGreatDoor
