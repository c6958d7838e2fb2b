/- What is read as a table is one: its entries are in order. No program in sight. -/
import Derived.Test.YtcfijljagohmlaaGreatDoorPlainTab
namespace Go.Proofs.YtcfijljagohmlaaGreatDoor
open Go.RowKit

theorem entsS_go (l : List UInt8) : ∀ (m : Nat) (p : Option Ent) (s : Option Nat), (entsS l m p s).2 ≠ none → entsGo p (entsS l m p s).1 = 0 ∧ (entsS l m p s).1.length = m := by
  intro m
  induction m with
  | zero => intro p s _; exact ⟨rfl, rfl⟩
  | succ m ih =>
    intro p s h
    rw [entsS] at h ⊢
    rcases hl : lookS p (entS l s).1 (entS l s).2 with _ | a
    · rw [hl] at h; exact absurd rfl h
    · rw [hl] at h
      simp only at h ⊢
      have hlk : stuck p (entS l s).1 = false ∧ entE (entS l s).1 = 0 := by
        rw [lookS] at hl
        split at hl
        · cases hl
        · rename_i hn
          have h1 : ¬ stuck p (entS l s).1 = true := fun e => hn (.inl e)
          have h2 : ¬ entE (entS l s).1 ≠ 0 := fun e => hn (.inr e)
          exact ⟨by simpa using h1, Classical.not_not.1 h2⟩
      obtain ⟨i1, i2⟩ := ih (some (entS l s).1) (some a) h
      refine ⟨?_, by rw [List.length_cons, i2]⟩
      rw [entsGo, if_neg (by rw [hlk.2]; simp), if_neg (by rw [hlk.1]; simp)]
      exact i1
theorem readIn_ok {i : List UInt8} {l : List Ent} (h : readIn i = some l) : entsE l = 0 := by
  unfold readIn at h
  dsimp only at h
  split at h
  · rename_i he
    injection h with h
    have hne : (entsS i (uptoS i 400 (some 0)).1.toNat none (uptoS i 400 (some 0)).2).2 ≠ none := by
      intro e
      rw [e] at he
      simp [endS] at he
    obtain ⟨h1, h2⟩ := entsS_go i _ _ _ hne
    have hu := uptoS_bd i 400 (some 0) (by simp [Stands]) (by omega)
    rw [h] at h1 h2
    exact entsE_of (by omega) h1
  · cases h
theorem readTab_ok {b : List UInt8} {l : List Ent} (h : readTab b = some l) : entsE l = 0 := by
  rw [readTab] at h
  split at h
  · cases h
  · split at h
    · exact readIn_ok h
    · cases h
end Go.Proofs.YtcfijljagohmlaaGreatDoor
