/- What is read as a table is built again as these bytes. No program in sight. -/
import Derived.Test.YtcfijljagohmlaaDoorPlainTabOk
namespace Go.Proofs.YtcfijljagohmlaaDoor
open Go.RowKit

theorem byteS_none (l : List UInt8) : (byteS l none).2 = none := rfl
theorem byteS_back {l : List UInt8} {a b : Nat} {d : Bool} (hlt : a < l.length) (h : byteS l (some a) = (d, some b)) : Rest l a ([deadB d] ++ l.drop b) ∧ b ≤ l.length := by
  rw [byteS, if_pos hlt] at h
  split at h
  · cases h
  · rename_i h1
    simp only [Prod.mk.injEq, Option.some.injEq] at h
    obtain ⟨rfl, rfl⟩ := h
    refine ⟨⟨by omega, ?_⟩, by omega⟩
    rw [drop_byte hlt]
    have h2 : l.getD a 0 = deadB ((l.getD a 0).toNat == 1) := by
      by_cases e : (l.getD a 0).toNat = 1
      · rw [e]
        apply UInt8.toNat_inj.1
        rw [e]; rfl
      · have e0 : (l.getD a 0).toNat = 0 := by omega
        rw [e0]
        apply UInt8.toNat_inj.1
        rw [e0]; rfl
    rw [← h2]; rfl
theorem textS_end {l : List UInt8} {a : Nat} (m : Int) (ha : l.length ≤ a) : (textS l m (some a)).2 = none := by
  have hd : l.drop a = [] := List.drop_of_length_le ha
  have hn : numS l (some a) = (0, none) := by simp [numS, hd, rdNum, vrd]
  have hu : (uptoS l m (some a)).2 = none := by unfold uptoS; rw [hn]; split <;> rfl
  unfold textS
  split
  · rfl
  · rename_i h; rw [h] at hu; cases hu
theorem entS_back {l : List UInt8} {a b : Nat} {x : Ent} (ha : a ≤ l.length) (h : entS l (some a) = (x, some b)) : Rest l a (entB x ++ l.drop b) ∧ b ≤ l.length := by
  unfold entS at h
  rcases e1 : textS l 120 (some a) with ⟨kb, s1⟩
  rw [e1] at h
  simp only at h
  rcases s1 with _ | a1
  · rcases e2 : byteS l none with ⟨d, s2⟩
    have hb := byteS_none l
    rw [e2] at hb h
    simp only at hb h
    subst hb
    rw [textS_none] at h
    cases h
  · obtain ⟨r1, l1, k1⟩ := textS_back ha e1
    rcases e2 : byteS l (some a1) with ⟨d, s2⟩
    rw [e2] at h
    simp only at h
    rcases s2 with _ | a2
    · rw [textS_none] at h; cases h
    · rcases e3 : textS l 120 (some a2) with ⟨vb, s3⟩
      rw [e3] at h
      simp only [Prod.mk.injEq] at h
      obtain ⟨rfl, rfl⟩ := h
      rcases Nat.lt_or_ge a1 l.length with hlt | hge
      · obtain ⟨r2, l2⟩ := byteS_back hlt e2
        obtain ⟨r3, l3, k3⟩ := textS_back l2 e3
        refine ⟨⟨ha, ?_⟩, l3⟩
        rw [r1.2, r2.2, r3.2]; simp [entB]
      · rw [byteS, if_neg (by omega)] at e2
        simp only [Prod.mk.injEq, Option.some.injEq] at e2
        obtain ⟨_, rfl⟩ := e2
        have := textS_end 120 hge
        rw [e3] at this
        cases this
theorem entsS_back {l : List UInt8} : ∀ (m : Nat) (p : Option Ent) (s : Option Nat) (a b : Nat) (xs : List Ent), s = some a → a ≤ l.length → entsS l m p s = (xs, some b) → Rest l a (xs.flatMap entB ++ l.drop b) ∧ b ≤ l.length ∧ xs.length = m := by
  intro m
  induction m with
  | zero => intro p s a b xs hs ha h; subst hs; simp only [entsS, Prod.mk.injEq, Option.some.injEq] at h; obtain ⟨rfl, rfl⟩ := h; exact ⟨⟨ha, rfl⟩, ha, rfl⟩
  | succ m ih =>
    intro p s a b xs hs ha h
    subst hs
    rcases hk : lookS p (entS l (some a)).1 (entS l (some a)).2 with _ | a'
    · rw [entsS_bad hk] at h; cases h
    · rw [entsS_good hk] at h
      rcases e : entS l (some a) with ⟨x, s'⟩
      rw [e] at h hk
      simp only [Prod.mk.injEq] at h
      obtain ⟨rfl, h2⟩ := h
      have hs' : s' = some a' := by
        simp only [lookS] at hk
        split at hk
        · cases hk
        · exact hk
      subst hs'
      obtain ⟨r1, l1⟩ := entS_back ha e
      obtain ⟨r2, l2, e2⟩ := ih (some x) (some a') a' b (entsS l m (some x) (some a')).1 rfl l1 (by rw [← h2])
      refine ⟨⟨ha, ?_⟩, l2, by simp [e2]⟩
      rw [r1.2, r2.2]; simp
theorem readIn_back {i : List UInt8} {xs : List Ent} (h : readIn i = some xs) : tabIn xs = i := by
  unfold readIn at h
  rcases e1 : uptoS i 400 (some 0) with ⟨n, s⟩
  rw [e1] at h
  simp only at h
  split at h
  · rename_i hend
    injection h with h
    rcases hs : (entsS i n.toNat none s).2 with _ | b
    · rw [hs] at hend; cases hend
    · rw [hs] at hend
      simp only [endS, decide_eq_true_eq] at hend
      rcases s with _ | a
      · have hn : n = 0 := by
          have h1 : (uptoS i 400 (some 0)) = (n, none) := e1
          unfold uptoS at h1
          split at h1
          · injection h1 with h1 _; exact h1.symm
          · rcases hr : rdNum (i.drop 0) with _ | ⟨v, k⟩
            · simp only [numS, hr] at h1; injection h1 with h1 _; exact h1.symm
            · simp only [numS, hr] at h1; cases h1
        subst hn
        simp [entsS] at hs
      · obtain ⟨r1, l1, n0, n1⟩ := uptoS_back (Nat.zero_le _) e1
        obtain ⟨r2, l2, e2⟩ := entsS_back n.toNat none (some a) a b xs rfl l1 (by rw [← h, ← hs])
        have hl0 := r1.2
        simp only [List.drop_zero] at hl0
        rw [tabIn, e2, Int.toNat_of_nonneg n0, hl0, r2.2, hend]
        simp
  · cases h
theorem open_back {l i : List UInt8} (h : openS l = some (i, l.length)) : sealB i = l := by
  unfold openS at h
  split at h
  · cases h
  · rename_i n k hr
    split at h
    · cases h
    · rename_i hn
      split at h
      · rename_i hs
        simp only [Option.some.injEq, Prod.mk.injEq] at h
        obtain ⟨hi, hk⟩ := h
        obtain ⟨h1, _⟩ := numB_rdNum hr
        have hb := (rdNum_bd hr).2.1
        have hil : i.length = n.toNat := by rw [← hi]; simp; omega
        rw [hi] at hs
        rw [sealB, hil, Int.toNat_of_nonneg (by omega), ← hs]
        conv => rhs; rw [h1]
        rw [← hi, List.append_assoc]
        congr 1
        have h4 : (l.drop (k + n.toNat)).take 4 = l.drop (k + n.toNat) := List.take_of_length_le (by rw [List.length_drop]; omega)
        rw [h4, ← List.drop_drop, List.take_append_drop]
      · cases h
/-- What is read of bytes is built again as these bytes. -/
theorem tab_back {b : List UInt8} {l : List Ent} (h : readTab b = some l) : tabB l = b := by
  have hE := readTab_ok h
  rw [tabB_good hE]
  unfold readTab at h
  split at h
  · cases h
  · rename_i i n ho
    split at h
    · rename_i hn
      subst hn
      rw [readIn_back h]
      exact open_back ho
    · cases h
end Go.Proofs.YtcfijljagohmlaaDoor
