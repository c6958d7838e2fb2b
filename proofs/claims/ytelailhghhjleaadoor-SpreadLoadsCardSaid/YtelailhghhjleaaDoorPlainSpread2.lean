/- More on things spread in turn, and on another way to give loads out, as plain data. -/
import Derived.Test.YtelailhghhjleaaDoorWalkJoin
import Derived.Test.YtelailhghhjleaaDoorPlainLeast2
import Derived.IntWalk
import Derived.OpenShut
namespace Go.Proofs.YtelailhghhjleaaDoor
open Go.RowKit

theorem rows_getD {l : List ByteArray} {q n i : Nat} (h : i < q) : (rowsAt l q n).getD i [] = pick l q i n := by rw [List.getD_eq_getElem?_getD, rowsAt_get h]; rfl
theorem flat_more (l : List ByteArray) (q n : Nat) : ∀ k, k ≤ q → (flatTo (rowsAt l q (n + 1)) k).length = (flatTo (rowsAt l q n) k).length + (if n % q < k then 1 else 0) := by
  intro k
  induction k with
  | zero => intro _; simp [flatTo]
  | succ k ih =>
    intro hk
    have h1 := ih (by omega)
    rw [flatTo, flatTo, List.length_append, List.length_append, h1, rows_getD (by omega), rows_getD (by omega), pick, List.length_append]
    by_cases e : n % q = k
    · rw [if_neg (by omega), if_pos e, if_pos (by omega)]; simp; omega
    · rw [if_neg e]
      by_cases e2 : n % q < k
      · rw [if_pos e2, if_pos (by omega)]; simp; omega
      · rw [if_neg e2, if_neg (by omega)]; simp
theorem flat_rows {l : List ByteArray} {q : Nat} (hq : 0 < q) : ∀ n, (flatTo (rowsAt l q n) q).length = n := by
  intro n
  induction n with
  | zero =>
    have : ∀ k, k ≤ q → flatTo (rowsAt l q 0) k = [] := by
      intro k
      induction k with
      | zero => intro _; rfl
      | succ k ih => intro hk; rw [flatTo, ih (by omega), rows_getD (by omega)]; rfl
    rw [this q (Nat.le_refl _)]; rfl
  | succ n ih => rw [flat_more l q n q (Nat.le_refl _), ih, if_pos (Nat.mod_lt _ hq)]
theorem flat_one (l : List ByteArray) : flatTo [l] 1 = l := by simp [flatTo]

/-! ### Another way -/
/-- The number that tells the way, ahead of each load. -/
def wayTo (way : Int) (p : Nat) : Nat → Int
  | 0 => way
  | i + 1 => wrap64 ((wayTo way p i).tdiv p + i)
/-- Who gets the load. -/
def wayK (way : Int) (p i : Nat) : Nat := (((wayTo way p i).tmod p + p).tmod p).toNat
theorem wayTo_bd {way : Int} {p : Nat} (h0 : -9223372036854775808 ≤ way) (h1 : way ≤ 9223372036854775807) : ∀ i, -9223372036854775808 ≤ wayTo way p i ∧ wayTo way p i ≤ 9223372036854775807 := by
  intro i
  cases i with
  | zero => exact ⟨h0, h1⟩
  | succ i =>
    rw [wayTo]
    unfold wrap64
    omega
theorem wayK_lt {way : Int} {p i : Nat} (hp : 0 < p) (hp2 : p ≤ 16) : wayK way p i < p ∧ (wrap64 ((wayTo way p i).tmod p + p)).tmod p = (wayK way p i : Nat) := by
  have h1 : -(p : Int) < (wayTo way p i).tmod p := Int.lt_tmod_of_pos _ (by omega)
  have h2 : 0 ≤ ((wayTo way p i).tmod p + p).tmod p := Int.tmod_nonneg _ (by omega)
  have h3 : ((wayTo way p i).tmod p + p).tmod p < p := Int.tmod_lt_of_pos _ (by omega)
  have h4 : (wayTo way p i).tmod p < p := Int.tmod_lt_of_pos _ (by omega)
  have h5 : wrap64 ((wayTo way p i).tmod p + p) = (wayTo way p i).tmod p + p := by unfold wrap64; omega
  rw [h5]
  unfold wayK
  exact ⟨by omega, by omega⟩
end Go.Proofs.YtelailhghhjleaaDoor
