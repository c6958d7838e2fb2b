/- The marks of inputs side by side, as plain data. No program in sight. -/
import Derived.Test.YtelailhghhjleaaDoorPlainRec
namespace Go.Proofs.YtelailhghhjleaaDoor
open Go.RowKit

def totL (ls : List (List Rec)) : Nat := (ls.map List.length).sum
def allOk (ls : List (List Rec)) : Bool := ls.all fun l => l.all recOk
def marksE (ls : List (List Rec)) (slack : Int) : Nat := if 4 < ls.length ∨ 400 < totL ls then 4 else if allOk ls = false then 1 else if slack < 0 ∨ 1000000 < slack then 1 else 0
def inp (ls : List (List Rec)) (j : Nat) : List Rec := ls.getD j []
/-- The mark of some records. -/
def markOf (slack : Int) (l : List Rec) : Int := l.foldl (fun a r => max a (r.time - slack)) 0
/-- The mark of input j after some of its records came. -/
def mk (ls : List (List Rec)) (slack : Int) (j came : Nat) : Int := markOf slack ((inp ls j).take came)
/-- The least of marks of inputs from j on that have something; -1: none yet. -/
def leastFrom (ls : List (List Rec)) (f : Nat → Int) : Nat → Nat → Int → Int
  | 0, _, a => a
  | m + 1, j, a => leastFrom ls f m (j + 1) (if 0 < (inp ls j).length ∧ (a < 0 ∨ f j < a) then f j else a)
def leastM (ls : List (List Rec)) (f : Nat → Int) : Int := leastFrom ls f ls.length 0 (-1)
/-- How many of input j came where the k-th of input i has just come. -/
def cameAt (k i j : Nat) : Nat := if j ≤ i then k + 1 else k
def outAt (ls : List (List Rec)) (slack : Int) (k i : Nat) : List Int := if k < (inp ls i).length then [leastM ls fun j => mk ls slack j (cameAt k i j)] else []
def rowTo (ls : List (List Rec)) (slack : Int) (k i : Nat) : List Int := (List.range i).flatMap (outAt ls slack k)
def outsTo (ls : List (List Rec)) (slack : Int) (k : Nat) : List Int := (List.range k).flatMap fun q => rowTo ls slack q ls.length
def marksL (ls : List (List Rec)) (slack : Int) : List Int := if marksE ls slack = 0 then outsTo ls slack 400 else []

theorem rowTo_succ (ls : List (List Rec)) (slack : Int) (k i : Nat) : rowTo ls slack k (i + 1) = rowTo ls slack k i ++ outAt ls slack k i := by
  simp [rowTo, List.range_succ]
theorem outsTo_succ (ls : List (List Rec)) (slack : Int) (k : Nat) : outsTo ls slack (k + 1) = outsTo ls slack k ++ rowTo ls slack k ls.length := by
  simp [outsTo, List.range_succ]
theorem markOf_snoc (slack : Int) (l : List Rec) (r : Rec) : markOf slack (l ++ [r]) = max (markOf slack l) (r.time - slack) := by simp [markOf]
theorem mk_zero (ls : List (List Rec)) (slack : Int) (j : Nat) : mk ls slack j 0 = 0 := by simp [mk, markOf]
theorem mk_succ {ls : List (List Rec)} {slack : Int} {j k : Nat} {r : Rec} (h : (inp ls j)[k]? = some r) : mk ls slack j (k + 1) = max (mk ls slack j k) (r.time - slack) := by
  rw [mk, List.take_add_one, h]
  exact markOf_snoc _ _ _
theorem mk_stop {ls : List (List Rec)} {slack : Int} {j k : Nat} (h : (inp ls j).length ≤ k) : mk ls slack j (k + 1) = mk ls slack j k := by
  rw [mk, mk, List.take_of_length_le h, List.take_of_length_le (by omega)]
theorem markOf_le (slack : Int) (h0 : 0 ≤ slack) : ∀ (l : List Rec) (a : Int), 0 ≤ a ∧ a ≤ 1000000 → (∀ r ∈ l, recOk r = true) → 0 ≤ l.foldl (fun a r => max a (r.time - slack)) a ∧ l.foldl (fun a r => max a (r.time - slack)) a ≤ 1000000 := by
  intro l
  induction l with
  | nil => intro a h _; exact h
  | cons r l ih =>
    intro a h hr
    have h1 := hr r (List.mem_cons_self ..)
    simp only [recOk, Bool.and_eq_true, decide_eq_true_eq] at h1
    exact ih (max a (r.time - slack)) (by omega) fun x hx => hr x (List.mem_cons_of_mem _ hx)
theorem allOk_inp {ls : List (List Rec)} (h : allOk ls = true) (j : Nat) : ∀ r ∈ inp ls j, recOk r = true := by
  intro r hr
  unfold inp at hr
  rw [List.getD_eq_getElem?_getD] at hr
  by_cases hj : j < ls.length
  · rw [List.getElem?_eq_getElem hj] at hr
    exact List.all_eq_true.1 (List.all_eq_true.1 h _ (List.getElem_mem hj)) r hr
  · rw [List.getElem?_eq_none (by omega)] at hr; cases hr
theorem mk_le {ls : List (List Rec)} {slack : Int} (h : allOk ls = true) (h0 : 0 ≤ slack) (j came : Nat) : 0 ≤ mk ls slack j came ∧ mk ls slack j came ≤ 1000000 :=
  markOf_le slack h0 _ 0 (by omega) fun r hr => allOk_inp h j r (List.mem_of_mem_take hr)
theorem mem_le_sum {l : List Nat} {x : Nat} (h : x ∈ l) : x ≤ l.sum := by
  induction l with
  | nil => cases h
  | cons y l ih =>
    rw [List.sum_cons]
    rcases List.mem_cons.1 h with rfl | h
    · omega
    · have := ih h; omega
theorem inp_le {ls : List (List Rec)} (j : Nat) : (inp ls j).length ≤ totL ls := by
  unfold inp
  rw [List.getD_eq_getElem?_getD]
  by_cases hj : j < ls.length
  · rw [List.getElem?_eq_getElem hj]
    exact mem_le_sum (List.mem_map_of_mem (f := List.length) (List.getElem_mem hj))
  · rw [List.getElem?_eq_none (by omega)]; simp

/-! ### How many -/
theorem range_getD {β : Type} (g : List Rec → β) (ls : List (List Rec)) : (List.range ls.length).map (fun i => g (inp ls i)) = ls.map g := by
  apply List.ext_getElem?
  intro i
  rw [List.getElem?_map, List.getElem?_map]
  by_cases hi : i < ls.length
  · rw [List.getElem?_range hi, List.getElem?_eq_getElem hi]
    simp [inp, List.getD_eq_getElem?_getD, List.getElem?_eq_getElem hi]
  · rw [List.getElem?_eq_none (by simp; omega), List.getElem?_eq_none (by omega)]; rfl
theorem rowTo_len (ls : List (List Rec)) (slack : Int) (k : Nat) : (rowTo ls slack k ls.length).length = (ls.map fun l => if k < l.length then 1 else 0).sum := by
  rw [rowTo, List.length_flatMap, ← range_getD]
  congr 1
  apply List.map_congr_left
  intro i _
  unfold outAt
  split <;> rfl
theorem sum_min (ls : List (List Rec)) (k : Nat) : (ls.map fun l => min (k + 1) l.length).sum = (ls.map fun l => min k l.length).sum + (ls.map fun l => if k < l.length then 1 else 0).sum := by
  induction ls with
  | nil => rfl
  | cons l ls ih =>
    simp only [List.map_cons, List.sum_cons]
    rw [ih]
    split <;> omega
theorem outsTo_len (ls : List (List Rec)) (slack : Int) : ∀ k, (outsTo ls slack k).length = (ls.map fun l => min k l.length).sum := by
  intro k
  induction k with
  | zero =>
    have : ∀ ls : List (List Rec), (ls.map fun l => min 0 l.length).sum = 0 := by
      intro ls
      induction ls with
      | nil => rfl
      | cons l ls ih => simp only [List.map_cons, List.sum_cons]; rw [ih]; omega
    rw [this]; rfl
  | succ k ih => rw [outsTo_succ, List.length_append, ih, rowTo_len, sum_min]
theorem outsTo_full {ls : List (List Rec)} (slack : Int) (h : ∀ l ∈ ls, l.length ≤ 400) : (outsTo ls slack 400).length = totL ls := by
  rw [outsTo_len, totL]
  congr 1
  apply List.map_congr_left
  intro l hl
  have := h l hl
  omega
theorem outsTo_pre (ls : List (List Rec)) (slack : Int) (k : Nat) : ∀ d, ∃ r, outsTo ls slack (k + d) = outsTo ls slack k ++ r := by
  intro d
  induction d with
  | zero => exact ⟨[], by simp⟩
  | succ d ih =>
    obtain ⟨r, hr⟩ := ih
    exact ⟨r ++ rowTo ls slack (k + d) ls.length, by rw [show k + (d + 1) = k + d + 1 from rfl, outsTo_succ, hr, List.append_assoc]⟩
theorem lens_le {ls : List (List Rec)} (h : totL ls ≤ 400) : ∀ l ∈ ls, l.length ≤ 400 := fun l hl => by
  have := mem_le_sum (List.mem_map_of_mem (f := List.length) hl)
  unfold totL at h; omega
/-- As many as there are: all. -/
theorem outsTo_done {ls : List (List Rec)} {slack : Int} {k : Nat} (ht : totL ls ≤ 400) (hk : k ≤ 400) (h : totL ls ≤ (outsTo ls slack k).length) : outsTo ls slack k = outsTo ls slack 400 := by
  obtain ⟨r, hr⟩ := outsTo_pre ls slack k (400 - k)
  rw [show k + (400 - k) = 400 from by omega] at hr
  have h1 := outsTo_full slack (lens_le ht)
  rw [hr, List.length_append] at h1
  have : r = [] := List.eq_nil_of_length_eq_zero (by omega)
  rw [hr, this, List.append_nil]
theorem outsTo_more {ls : List (List Rec)} {slack : Int} {k : Nat} (ht : totL ls ≤ 400) (h : (outsTo ls slack k).length < totL ls) : k < 400 := by
  apply Classical.byContradiction
  intro hk
  obtain ⟨r, hr⟩ := outsTo_pre ls slack 400 (k - 400)
  rw [show 400 + (k - 400) = k from by omega] at hr
  have h1 := outsTo_full slack (lens_le ht)
  rw [hr, List.length_append] at h
  omega
theorem outsTo_le (ls : List (List Rec)) (slack : Int) (k : Nat) : (outsTo ls slack k).length ≤ totL ls := by
  rw [outsTo_len, totL]

  induction ls with
  | nil => simp
  | cons l ls ih => simp only [List.map_cons, List.sum_cons]; omega
end Go.Proofs.YtelailhghhjleaaDoor
