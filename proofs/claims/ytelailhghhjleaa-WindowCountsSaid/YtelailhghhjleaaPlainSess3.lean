/- The reference's rounds as lists. No program in sight. -/
import Derived.Test.YtelailhghhjleaaPlainSess2
namespace Go.Proofs.Ytelailhghhjleaa
open Go.RowKit Go.Sort Go.Shelf

def Pane.arr (p : Pane) : Array Value := #[.string p.key, .int .i64 p.lo, .int .i64 p.hi, .int .i64 p.many, .int .i64 p.sum, .int .i64 p.late]
theorem arr_cells (p : Pane) : p.arr.toList = p.cells := rfl
theorem manyOf_cons (p : Pane) (o : List Pane) : manyOf (p :: o) = p.many + manyOf o := by simp [manyOf]
theorem manyOf_append (a b : List Pane) : manyOf (a ++ b) = manyOf a + manyOf b := by simp [manyOf, List.sum_append]
theorem manyOf_len : ∀ (o : List Pane), (∀ q ∈ o, 1 ≤ q.many) → (o.length : Int) ≤ manyOf o := by
  intro o
  induction o with
  | nil => intro _; simp [manyOf]
  | cons p o ih =>
    intro h
    have := ih fun q hq => h q (List.mem_cons_of_mem _ hq)
    have := h p (List.mem_cons_self ..)
    rw [manyOf_cons, List.length_cons]; omega
/-- What is counted while a pane is laid over the others. -/
structure Cnt (k j : Nat) (P : List Pane) (p : Pane) (N : List Pane) : Prop where
  sum : p.many + manyOf N + manyOf (P.drop j) = k + 1
  one : 1 ≤ p.many
  nall : ∀ q ∈ N, 1 ≤ q.many
  pall : ∀ q ∈ P, 1 ≤ q.many
theorem Cnt.start {k : Nat} {P : List Pane} {p : Pane} (h1 : ∀ q ∈ P, 1 ≤ q.many) (h2 : manyOf P = k) (hp : p.many = 1) : Cnt k 0 P p [] :=
  ⟨by simp [manyOf] at *; omega, by omega, (fun q hq => by cases hq), h1⟩
theorem drop_at {P : List Pane} {j : Nat} {q : Pane} (hq : P[j]? = some q) : P.drop j = q :: P.drop (j + 1) := by
  obtain ⟨hj, rfl⟩ := List.getElem?_eq_some_iff.1 hq
  exact List.drop_eq_getElem_cons hj
theorem Cnt.bd {k j : Nat} {P : List Pane} {p q : Pane} {N : List Pane} (h : Cnt k j P p N) (hq : P[j]? = some q) : 1 ≤ p.many ∧ 1 ≤ q.many ∧ p.many + q.many ≤ k + 1 ∧ N.length ≤ k := by
  have h1 := h.sum
  rw [drop_at hq, manyOf_cons] at h1
  have h2 := manyOf_len N h.nall
  have h3 := manyOf_len (P.drop (j + 1)) fun x hx => h.pall x (List.mem_of_mem_drop hx)
  have h4 := h.pall q (List.mem_of_getElem? hq)
  have h5 := h.one
  omega
theorem Cnt.yes {k j : Nat} {P : List Pane} {p q : Pane} {N : List Pane} (h : Cnt k j P p N) (hq : P[j]? = some q) : Cnt k (j + 1) P (absorb1 p q) N := by
  have h1 := h.sum
  have h2 := h.bd hq
  rw [drop_at hq, manyOf_cons] at h1
  exact ⟨by simp only [absorb1]; omega, by simp only [absorb1]; omega, h.nall, h.pall⟩
theorem Cnt.no {k j : Nat} {P : List Pane} {p q : Pane} {N : List Pane} (h : Cnt k j P p N) (hq : P[j]? = some q) : Cnt k (j + 1) P p (N ++ [q]) := by
  have h1 := h.sum
  have h2 := h.bd hq
  rw [drop_at hq, manyOf_cons] at h1
  refine ⟨?_, h.one, fun x hx => ?_, h.pall⟩
  · rw [manyOf_append, manyOf_cons]; simp [manyOf] at *; omega
  · rcases List.mem_append.1 hx with hx | hx
    · exact h.nall x hx
    · obtain rfl := List.mem_singleton.1 hx; omega
theorem Cnt.done {k : Nat} {P : List Pane} {p : Pane} {N : List Pane} (h : Cnt k P.length P p N) : (∀ q ∈ place p N, 1 ≤ q.many) ∧ manyOf (place p N) = (k + 1 : Nat) ∧ N.length ≤ k := by
  have h1 := h.sum
  rw [List.drop_length] at h1
  have h2 := manyOf_len N h.nall
  have h3 := h.one
  have e : manyOf ([] : List Pane) = 0 := rfl
  rw [e] at h1
  refine ⟨fun q hq => ?_, ?_, by omega⟩
  · rcases mem_place.1 hq with rfl | hq
    · exact h.one
    · exact h.nall q hq
  · rw [place, manyOf_append, manyOf_cons]
    have : manyOf (N.takeWhile (before p)) + manyOf (N.dropWhile (before p)) = manyOf N := by rw [← manyOf_append, List.takeWhile_append_dropWhile]
    omega
theorem absorb_take {P : List Pane} {j : Nat} {q : Pane} (s : Pane × List Pane) (hq : P[j]? = some q) : (P.take (j + 1)).foldl absorb s = absorb ((P.take j).foldl absorb s) q := by
  rw [List.take_add_one, hq, List.foldl_append]; rfl
theorem refSess_take {gap : Int} {l : List Rec} {k : Nat} {r : Rec} (h : l[k]? = some r) : refSess gap (l.take (k + 1)) = refStep gap (refSess gap (l.take k)) r := by
  rw [refSess, refSess, List.take_add_one, h, List.foldl_append]; rfl
theorem place_len (p : Pane) (N : List Pane) : (place p N).length = N.length + 1 := by
  have : (N.takeWhile (before p)).length + (N.dropWhile (before p)).length = N.length := by rw [← List.length_append, List.takeWhile_append_dropWhile]
  rw [place, List.length_append, List.length_cons]; omega
/-- How far the new pane goes. -/
def spot (p : Pane) (N : List Pane) : Nat := (N.takeWhile (before p)).length
theorem spot_take (p : Pane) (N : List Pane) : N.take (spot p N) = N.takeWhile (before p) ∧ N.drop (spot p N) = N.dropWhile (before p) := by
  have h : N.takeWhile (before p) ++ N.dropWhile (before p) = N := List.takeWhile_append_dropWhile
  have e1 := congrArg (List.take (N.takeWhile (before p)).length) h
  have e2 := congrArg (List.drop (N.takeWhile (before p)).length) h
  rw [List.take_left] at e1
  rw [List.drop_left] at e2
  exact ⟨e1.symm, e2.symm⟩
theorem spot_is {p : Pane} : ∀ {N : List Pane} {t : Nat}, t ≤ N.length → (∀ (j : Nat) (q : Pane), j < t → N[j]? = some q → before p q = true) → (∀ q, N[t]? = some q → before p q = false) → spot p N = t
  | [], t, h, _, _ => by simp at h; subst h; rfl
  | q :: N, 0, _, _, h2 => by
    have := h2 q rfl
    rw [spot, List.takeWhile_cons, if_neg (by simp [this])]; rfl
  | q :: N, t + 1, h, h1, h2 => by
    have e := h1 0 q (by omega) rfl
    have := spot_is (p := p) (N := N) (t := t) (by simpa using h) (fun j x hj hx => h1 (j + 1) x (by omega) (by simpa using hx)) (fun x hx => h2 x (by simpa using hx))
    rw [spot, List.takeWhile_cons, if_pos e, List.length_cons]
    rw [spot] at this; omega
theorem paneCells_append (a b : List Pane) : paneCells (a ++ b) = paneCells a ++ paneCells b := by simp [paneCells]
theorem paneCells_take (N : List Pane) (t : Nat) : (paneCells N).take (t * 6) = paneCells (N.take t) := by
  induction N generalizing t with
  | nil => simp [paneCells]
  | cons p N ih =>
    cases t with
    | zero => simp [paneCells]
    | succ t =>
      have e : paneCells (p :: N) = p.cells ++ paneCells N := by simp [paneCells]
      rw [List.take_succ_cons, e, show paneCells (p :: N.take t) = p.cells ++ paneCells (N.take t) from by simp [paneCells], show (t + 1) * 6 = p.cells.length + t * 6 from by show _ = 6 + _; omega, List.take_append, ← ih, List.take_of_length_le (by omega)]
      simp
theorem paneCells_drop (N : List Pane) (t : Nat) : (paneCells N).drop (t * 6) = paneCells (N.drop t) := by
  induction N generalizing t with
  | nil => simp [paneCells]
  | cons p N ih =>
    cases t with
    | zero => simp
    | succ t =>
      have e : paneCells (p :: N) = p.cells ++ paneCells N := by simp [paneCells]
      rw [List.drop_succ_cons, e, show (t + 1) * 6 = p.cells.length + t * 6 from by show _ = 6 + _; omega, List.drop_append, ← ih]
      simp
theorem pane_one (p : Pane) : p.cells.all Value.oneCell' = true := rfl
theorem paneCells_one (l : List Pane) : ∀ u ∈ paneCells l, u.oneCell' = true := by
  intro u hu
  obtain ⟨p, _, hp⟩ := List.mem_flatMap.1 hu
  exact List.all_eq_true.1 (pane_one p) u hp
end Go.Proofs.Ytelailhghhjleaa
