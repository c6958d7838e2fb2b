/- Plain laws of two rows being the same. No program in sight. -/
import Derived.Test.YtcfijljagohmlaaGreatDoorPlainReadH
import Derived.Test.YtcfijljagohmlaaGreatDoorPlainRead2
namespace Go.Proofs.YtcfijljagohmlaaGreatDoor
open Go.RowKit

/-- The first k of two rows agree. -/
def Agree {α : Type} (x y : List α) (k : Nat) : Prop := ∀ j, j < k → x[j]? = y[j]?
theorem Agree.zero {α : Type} (x y : List α) : Agree x y 0 := fun _ h => absurd h (Nat.not_lt_zero _)
theorem Agree.step {α : Type} {x y : List α} {k : Nat} {a b : α} (h : Agree x y k) (hx : x[k]? = some a) (hy : y[k]? = some b) (e : a = b) : Agree x y (k + 1) := fun j hj => by
  by_cases hjk : j = k
  · subst hjk; rw [hx, hy, e]
  · exact h j (by omega)
theorem Agree.done {α : Type} {x y : List α} {k : Nat} (h : Agree x y k) (hx : x.length ≤ k) (hl : x.length = y.length) : x = y := by
  apply List.ext_getElem? 
  intro j
  by_cases hj : j < k
  · exact h j hj
  · rw [List.getElem?_eq_none (by omega), List.getElem?_eq_none (by omega)]
theorem agree_ne {α : Type} {x y : List α} {k : Nat} {a b : α} (hx : x[k]? = some a) (hy : y[k]? = some b) (e : a ≠ b) : x ≠ y := fun h => by
  subst h; rw [hx] at hy; injection hy with hy; exact e hy
end Go.Proofs.YtcfijljagohmlaaGreatDoor
