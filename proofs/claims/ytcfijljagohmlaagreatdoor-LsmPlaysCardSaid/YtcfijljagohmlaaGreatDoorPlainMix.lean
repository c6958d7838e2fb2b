/- Lists of entries put together: of each key the entry of the first, as plain data. No program in sight. -/
import Derived.Test.YtcfijljagohmlaaGreatDoorPlainTab
import Derived.Test.YtcfijljagohmlaaGreatDoorPlainLow
namespace Go.Proofs.YtcfijljagohmlaaGreatDoor
open Go.RowKit

/-- An entry among some that rise, if its key is not there. -/
def entPut (e : Ent) : List Ent → List Ent
  | [] => [e]
  | x :: xs => if klt x.key e.key = true then x :: entPut e xs else if x.key = e.key then x :: xs else e :: x :: xs
abbrev riseE (l : List Ent) : Prop := l.Pairwise fun a b => klt a.key b.key = true
def entOf (l : List Ent) (k : ByteArray) : Option Ent := l.find? fun x => decide (x.key = k)
theorem entOf_cons {x : Ent} {xs : List Ent} {k : ByteArray} : entOf (x :: xs) k = if x.key = k then some x else entOf xs k := by
  rw [entOf, List.find?_cons]
  by_cases h : x.key = k
  · rw [if_pos h]; simp [h]
  · rw [if_neg h]; simp [h, entOf]
theorem entOf_none {l : List Ent} {k : ByteArray} : entOf l k = none ↔ ∀ x ∈ l, x.key ≠ k := by
  rw [entOf, List.find?_eq_none]
  simp
theorem entOf_mem {l : List Ent} {x : Ent} (h : riseE l) (hx : x ∈ l) : entOf l x.key = some x := by
  induction l with
  | nil => cases hx
  | cons y ys ih =>
    rw [riseE, List.pairwise_cons] at h
    rw [entOf_cons]
    rcases List.mem_cons.1 hx with rfl | hx
    · rw [if_pos rfl]
    · rw [if_neg (klt_ne (h.1 x hx))]
      exact ih h.2 hx
theorem entOf_some {l : List Ent} {k : ByteArray} {x : Ent} (h : entOf l k = some x) : x ∈ l ∧ x.key = k := ⟨List.mem_of_find?_eq_some h, by simpa using List.find?_some h⟩
theorem entPut_mem {e : Ent} : ∀ {l : List Ent} {y : Ent}, y ∈ entPut e l → y = e ∨ y ∈ l := by
  intro l
  induction l with
  | nil => intro y hy; left; exact List.mem_singleton.1 hy
  | cons x xs ih =>
    intro y hy
    rw [entPut] at hy
    split at hy
    · rcases List.mem_cons.1 hy with rfl | hy
      · exact .inr List.mem_cons_self
      · rcases ih hy with h | h
        · exact .inl h
        · exact .inr (List.mem_cons_of_mem _ h)
    · split at hy
      · exact .inr hy
      · rcases List.mem_cons.1 hy with rfl | hy
        · exact .inl rfl
        · exact .inr hy
theorem entPut_rise {e : Ent} : ∀ {l : List Ent}, riseE l → riseE (entPut e l) := by
  intro l
  induction l with
  | nil => intro _; exact List.pairwise_singleton _ _
  | cons x xs ih =>
    intro h
    rw [riseE, List.pairwise_cons] at h
    rw [entPut]
    split
    · rename_i hx
      refine .cons (fun y hy => ?_) (ih h.2)
      rcases entPut_mem hy with e | e
      · rw [e]; exact hx
      · exact h.1 y e
    · rename_i hx
      split
      · exact .cons h.1 h.2
      · rename_i hne
        have hkx : klt e.key x.key = true := by
          rcases klt_tri x.key e.key with t | t | t
          · exact absurd t hx
          · exact absurd t hne
          · exact t
        refine .cons (fun y hy => ?_) (.cons h.1 h.2)
        rcases List.mem_cons.1 hy with rfl | hy
        · exact hkx
        · exact klt_trans hkx (h.1 y hy)
theorem entPut_len {e : Ent} : ∀ (l : List Ent), (entPut e l).length ≤ l.length + 1 := by
  intro l
  induction l with
  | nil => exact Nat.le_refl _
  | cons x xs ih =>
    rw [entPut]
    split
    · simp; exact ih
    · split <;> simp
theorem entPut_of {e : Ent} : ∀ {l : List Ent}, riseE l → ∀ k, entOf (entPut e l) k = if k = e.key then some ((entOf l k).getD e) else entOf l k := by
  intro l
  induction l with
  | nil =>
    intro _ k
    rw [entPut, entOf_cons]
    by_cases h : k = e.key
    · rw [if_pos h, if_pos h.symm]; simp [entOf]
    · rw [if_neg h, if_neg (fun e => h e.symm)]
  | cons x xs ih =>
    intro h k
    rw [riseE, List.pairwise_cons] at h
    rw [entPut]
    split
    · rename_i hx
      have hne := klt_ne hx
      rw [entOf_cons, ih h.2, entOf_cons]
      by_cases h1 : x.key = k
      · rw [if_pos h1, if_neg (fun e => hne (h1.trans e)), if_pos h1]
      · rw [if_neg h1, if_neg h1]
    · rename_i hx
      split
      · rename_i e1
        rw [entOf_cons]
        by_cases h1 : x.key = k
        · rw [if_pos h1, if_pos (by rw [← h1, e1])]; rfl
        · rw [if_neg h1, if_neg (fun e => h1 (by rw [e, e1]))]
      · rename_i hne
        have hkx : klt e.key x.key = true := by
          rcases klt_tri x.key e.key with t | t | t
          · exact absurd t hx
          · exact absurd t hne
          · exact t
        have hno : entOf xs e.key = none := entOf_none.2 fun y hy e2 => klt_ne (klt_trans hkx (h.1 y hy)) e2.symm
        rw [entOf_cons]
        by_cases h1 : e.key = k
        · rw [if_pos h1, if_pos h1.symm, entOf_cons, ← h1, if_neg hne, hno]; rfl
        · rw [if_neg h1, if_neg (fun e => h1 e.symm)]
/-- Of each key the entry of the first. -/
def mixL (l : List Ent) : List Ent := l.foldl (fun o e => entPut e o) []
theorem mix_next {l : List Ent} {i : Nat} {x : Ent} (h : l[i]? = some x) : mixL (l.take (i + 1)) = entPut x (mixL (l.take i)) := by
  rw [List.take_add_one, h, mixL, List.foldl_append]; rfl
theorem mix_fold_rise : ∀ (l o : List Ent), riseE o → riseE (l.foldl (fun o e => entPut e o) o) := by
  intro l
  induction l with
  | nil => intro o h; exact h
  | cons x xs ih => intro o h; exact ih _ (entPut_rise h)
theorem mix_rise (l : List Ent) : riseE (mixL l) := mix_fold_rise l [] .nil
theorem mix_len (l : List Ent) : (mixL l).length ≤ l.length := by
  have : ∀ (l o : List Ent), (l.foldl (fun o e => entPut e o) o).length ≤ o.length + l.length := by
    intro l
    induction l with
    | nil => intro o; exact Nat.le_refl _
    | cons x xs ih => intro o; have := ih (entPut x o); have := entPut_len (e := x) o; simp at *; omega
  have := this l []; rw [List.length_nil, Nat.zero_add] at this; exact this
theorem mix_mem {l : List Ent} : ∀ {y : Ent}, y ∈ mixL l → y ∈ l := by
  have : ∀ (l o : List Ent) (y : Ent), y ∈ l.foldl (fun o e => entPut e o) o → y ∈ o ∨ y ∈ l := by
    intro l
    induction l with
    | nil => intro o y h; exact .inl h
    | cons x xs ih =>
      intro o y h
      rcases ih _ _ h with h | h
      · rcases entPut_mem h with h | h
        · exact .inr (by rw [h]; exact List.mem_cons_self)
        · exact .inl h
      · exact .inr (List.mem_cons_of_mem _ h)
  intro y hy
  rcases this l [] y hy with h | h
  · cases h
  · exact h
/-- What rises, and is the same but for the order, is the same. -/
theorem up_riseE : ∀ {s L : List Ent}, s.Perm L → riseE L → (s.Pairwise fun a b => klt b.key a.key = false) → s = L := by
  intro s
  induction s with
  | nil => intro L h _ _; exact (List.nil_perm.1 h).symm
  | cons x xs ih =>
    intro L h hr hu
    cases L with
    | nil => exact absurd h.length_eq (by simp)
    | cons y ys =>
      rw [riseE, List.pairwise_cons] at hr
      rw [List.pairwise_cons] at hu
      have e : x = y := by
        rcases List.mem_cons.1 (h.mem_iff.1 List.mem_cons_self) with e | e
        · exact e
        · rcases List.mem_cons.1 (h.mem_iff.2 List.mem_cons_self) with e2 | e2
          · exact e2.symm
          · have := hu.1 y e2; rw [hr.1 x e] at this; cases this
      subst e
      rw [ih (List.Perm.cons_inv h) hr.2 hu.2]
end Go.Proofs.YtcfijljagohmlaaGreatDoor
