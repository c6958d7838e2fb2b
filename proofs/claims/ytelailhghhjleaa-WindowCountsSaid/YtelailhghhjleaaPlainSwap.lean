/- Two runs that change places, one pair a step; as plain lists. No program in sight. -/
import Derived.Test.YtelailhghhjleaaPlainStable
namespace Go.Proofs.Ytelailhghhjleaa
open Go.Sort

section
variable {α : Type} [Inhabited α]
/-- After i pairs. -/
def swR (x u z v y : List α) (i : Nat) : Array α := (x ++ (v.take i ++ (u.drop i ++ (z ++ (u.take i ++ (v.drop i ++ y)))))).toArray
omit [Inhabited α] in
theorem swR_zero (x u z v y : List α) : swR x u z v y 0 = (x ++ (u ++ (z ++ (v ++ y)))).toArray := by simp [swR]
omit [Inhabited α] in
theorem swR_end {x u z v y : List α} {n : Nat} (hu : u.length = n) (hv : v.length = n) : swR x u z v y n = (x ++ (v ++ (z ++ (u ++ y)))).toArray := by
  subst hu; simp [swR, List.take_of_length_le (Nat.le_of_eq hv), List.drop_of_length_le (Nat.le_of_eq hv)]
omit [Inhabited α] in
theorem swR_size {x u z v y : List α} {n : Nat} (hu : u.length = n) (hv : v.length = n) (i : Nat) : (swR x u z v y i).size = x.length + n + z.length + n + y.length := by
  simp [swR]; omega
theorem swR_step {x u z v y : List α} {n a b : Nat} (hu : u.length = n) (hv : v.length = n) {i : Nat} (hi : i < n) (ha : a = x.length) (hb : b = x.length + n + z.length) :
    swp (swR x u z v y i) (a + i) (b + i) = swR x u z v y (i + 1) := by
  subst ha hb
  have e1 : u.drop i = u[i] :: u.drop (i + 1) := List.drop_eq_getElem_cons (by omega)
  have e2 : v.drop i = v[i] :: v.drop (i + 1) := List.drop_eq_getElem_cons (by omega)
  have e3 : u.take (i + 1) = u.take i ++ [u[i]] := by rw [List.take_add_one, List.getElem?_eq_getElem (by omega)]; rfl
  have e4 : v.take (i + 1) = v.take i ++ [v[i]] := by rw [List.take_add_one, List.getElem?_eq_getElem (by omega)]; rfl
  have := swp_list (x ++ v.take i) (u.drop (i + 1) ++ (z ++ u.take i)) (v.drop (i + 1) ++ y) u[i] v[i]
  unfold swR
  rw [e1, e2, e3, e4]
  have h1 : (x ++ v.take i).length = x.length + i := by simp; omega
  have h2 : (x ++ v.take i).length + 1 + (u.drop (i + 1) ++ (z ++ u.take i)).length = x.length + n + z.length + i := by simp; omega
  rw [h1] at this h2
  rw [h2] at this
  simp only [List.append_assoc, List.cons_append, List.nil_append] at this ⊢
  exact this
end
end Go.Proofs.Ytelailhghhjleaa
