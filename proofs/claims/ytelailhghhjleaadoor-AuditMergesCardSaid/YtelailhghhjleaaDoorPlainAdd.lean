/- Where a number goes among lines. No program in sight. -/
import Derived.Test.YtelailhghhjleaaDoorPlainMerge
namespace Go.Proofs.YtelailhghhjleaaDoor
open Go.RowKit

theorem lnAdd_at {k : ByteArray} {ns : List Int} : ∀ {L : List Ln} {i : Nat} {x : Ln}, (∀ (j : Nat) (y : Ln), j < i → L[j]? = some y → klt y.key k = true) → L[i]? = some x → x.key = k → lnAdd k ns L = L.set i ⟨k, x.nums ++ ns⟩ := by
  intro L
  induction L with
  | nil => intro i x _ h; simp at h
  | cons y ys ih =>
    intro i x h1 h2 h3
    rw [lnAdd]
    cases i with
    | zero =>
      simp at h2
      subst h2
      rw [if_neg (by rw [h3]; simp [klt_irrefl]), if_pos h3]; rfl
    | succ i =>
      rw [if_pos (h1 0 y (by omega) rfl), ih (i := i) (x := x) (fun j z hj hz => h1 (j + 1) z (by omega) (by simpa using hz)) (by simpa using h2) h3]; rfl
theorem lnAdd_ins {k : ByteArray} {ns : List Int} : ∀ {L : List Ln} {i : Nat}, i ≤ L.length → (∀ (j : Nat) (y : Ln), j < i → L[j]? = some y → klt y.key k = true) → (∀ y, L[i]? = some y → klt y.key k = false ∧ y.key ≠ k) → lnAdd k ns L = L.take i ++ [⟨k, ns⟩] ++ L.drop i := by
  intro L
  induction L with
  | nil => intro i h _ _; simp at h; subst h; rfl
  | cons y ys ih =>
    intro i h h1 h2
    rw [lnAdd]
    cases i with
    | zero =>
      obtain ⟨h3, h4⟩ := h2 y rfl
      rw [if_neg (by rw [h3]; simp), if_neg h4]; rfl
    | succ i =>
      rw [if_pos (h1 0 y (by omega) rfl), ih (i := i) (by simpa using h) (fun j z hj hz => h1 (j + 1) z (by omega) (by simpa using hz)) (fun z hz => h2 z (by simpa using hz))]; rfl
theorem set_mid {α : Type} {a b : List α} {x y : α} {i : Nat} (h : a.length = i) : (a ++ [x] ++ b).set i y = a ++ [y] ++ b := by
  subst h
  simp
end Go.Proofs.YtelailhghhjleaaDoor
