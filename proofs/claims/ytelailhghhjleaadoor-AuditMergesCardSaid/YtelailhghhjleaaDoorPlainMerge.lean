/- Lines put behind others, and beginnings of lines, as plain data. No program in sight. -/
import Derived.Test.YtelailhghhjleaaDoorPlainLines
import Derived.Test.YtelailhghhjleaaDoorPlainRec
namespace Go.Proofs.YtelailhghhjleaaDoor
open Go.RowKit

/-- Numbers put to their key's line. -/
def lnAdd (k : ByteArray) (ns : List Int) : List Ln → List Ln
  | [] => [⟨k, ns⟩]
  | x :: xs => if klt x.key k = true then x :: lnAdd k ns xs else if x.key = k then ⟨k, x.nums ++ ns⟩ :: xs else ⟨k, ns⟩ :: x :: xs
abbrev riseL (l : List Ln) : Prop := l.Pairwise fun a b => klt a.key b.key = true
theorem lnAdd_mem {k : ByteArray} {ns : List Int} : ∀ {l : List Ln} {y : Ln}, y ∈ lnAdd k ns l → y.key = k ∨ y ∈ l := by
  intro l
  induction l with
  | nil => intro y hy; left; rw [List.mem_singleton.1 hy]
  | cons x xs ih =>
    intro y hy
    rw [lnAdd] at hy
    split at hy
    · rcases List.mem_cons.1 hy with rfl | hy
      · exact .inr List.mem_cons_self
      · rcases ih hy with h | h
        · exact .inl h
        · exact .inr (List.mem_cons_of_mem _ h)
    · split at hy
      · rcases List.mem_cons.1 hy with rfl | hy
        · exact .inl rfl
        · exact .inr (List.mem_cons_of_mem _ hy)
      · rcases List.mem_cons.1 hy with rfl | hy
        · exact .inl rfl
        · exact .inr hy
theorem lnAdd_rise {k : ByteArray} {ns : List Int} : ∀ {l : List Ln}, riseL l → riseL (lnAdd k ns l) := by
  intro l
  induction l with
  | nil => intro _; exact List.pairwise_singleton _ _
  | cons x xs ih =>
    intro h
    rw [riseL, List.pairwise_cons] at h
    rw [lnAdd]
    split
    · rename_i hx
      refine .cons (fun y hy => ?_) (ih h.2)
      rcases lnAdd_mem hy with e | e
      · rw [e]; exact hx
      · exact h.1 y e
    · rename_i hx
      split
      · rename_i e
        subst e
        exact .cons (fun y hy => h.1 y hy) h.2
      · rename_i hne
        have hkx : klt k x.key = true := by
          rcases klt_tri x.key k with t | t | t
          · exact absurd t hx
          · exact absurd t hne
          · exact t
        refine .cons (fun y hy => ?_) (.cons h.1 h.2)
        rcases List.mem_cons.1 hy with rfl | hy
        · exact hkx
        · exact klt_trans hkx (h.1 y hy)
theorem lnAdd_len {k : ByteArray} {ns : List Int} : ∀ (l : List Ln), (lnAdd k ns l).length ≤ l.length + 1 := by
  intro l
  induction l with
  | nil => exact Nat.le_refl _
  | cons x xs ih =>
    rw [lnAdd]
    split
    · simp; exact ih
    · split <;> simp
theorem lnAdd_append {k : ByteArray} {a b : List Int} : ∀ (l : List Ln), lnAdd k (a ++ b) l = lnAdd k b (lnAdd k a l) := by
  intro l
  induction l with
  | nil => simp [lnAdd, klt_irrefl]
  | cons x xs ih =>
    rw [lnAdd]
    split
    · rename_i h; conv => rhs; rw [lnAdd, if_pos h, lnAdd, if_pos h]
      rw [ih]
    · rename_i h
      split
      · rename_i e
        conv => rhs; rw [lnAdd, if_neg h, if_pos e, lnAdd, if_neg (by simp [klt_irrefl]), if_pos rfl]
        simp
      · rename_i e
        conv => rhs; rw [lnAdd, if_neg h, if_neg e, lnAdd, if_neg (by simp [klt_irrefl]), if_pos rfl]
theorem numsOf_cons {x : Ln} {xs : List Ln} {k : ByteArray} : numsOf (x :: xs) k = if x.key = k then some x.nums else numsOf xs k := by
  rw [numsOf, List.find?_cons]
  by_cases h : x.key = k
  · rw [if_pos h]; simp [h]
  · rw [if_neg h]; simp [h, numsOf]
theorem lnAdd_nums {k : ByteArray} {ns : List Int} : ∀ {l : List Ln}, riseL l → ∀ k', numsOf (lnAdd k ns l) k' = if k' = k then some ((numsOf l k).getD [] ++ ns) else numsOf l k' := by
  intro l
  induction l with
  | nil =>
    intro _ k'
    rw [lnAdd, numsOf_cons]
    by_cases h : k' = k
    · rw [if_pos h, if_pos h.symm]; simp [numsOf]
    · rw [if_neg h, if_neg (fun e => h e.symm)]
  | cons x xs ih =>
    intro h k'
    rw [riseL, List.pairwise_cons] at h
    rw [lnAdd]
    split
    · rename_i hx
      have hne := klt_ne hx
      rw [numsOf_cons, ih h.2, numsOf_cons, numsOf_cons, if_neg hne]
      by_cases h1 : x.key = k'
      · rw [if_pos h1, if_neg (fun e => hne (h1.trans e)), if_pos h1]
      · rw [if_neg h1, if_neg h1]
    · rename_i hx
      split
      · rename_i e
        subst e
        rw [numsOf_cons, numsOf_cons, numsOf_cons, if_pos rfl]
        by_cases h1 : x.key = k'
        · rw [if_pos h1, if_pos h1.symm]; rfl
        · rw [if_neg h1, if_neg (fun e => h1 e.symm), if_neg h1]
      · rename_i hne
        have hkx : klt k x.key = true := by
          rcases klt_tri x.key k with t | t | t
          · exact absurd t hx
          · exact absurd t hne
          · exact t
        have hno : numsOf xs k = none := numsOf_none.2 fun y hy e => by
          have := klt_ne (klt_trans hkx (h.1 y hy))
          exact this e.symm
        rw [numsOf_cons]
        by_cases h1 : k = k'
        · rw [if_pos h1, if_pos h1.symm, numsOf_cons, if_neg hne, hno]; rfl
        · rw [if_neg h1, if_neg (fun e => h1 e.symm)]
/-- What lines come to, key by key. -/
def mergeL (l : List Ln) : List Ln := l.foldl (fun o x => lnAdd x.key x.nums o) []
theorem merge_next {l : List Ln} {i : Nat} {x : Ln} (h : l[i]? = some x) : mergeL (l.take (i + 1)) = lnAdd x.key x.nums (mergeL (l.take i)) := by
  rw [List.take_add_one, h, mergeL, List.foldl_append]; rfl
theorem fold_rise : ∀ (l o : List Ln), riseL o → riseL (l.foldl (fun o x => lnAdd x.key x.nums o) o) := by
  intro l
  induction l with
  | nil => intro o h; exact h
  | cons x xs ih => intro o h; exact ih _ (lnAdd_rise h)
theorem merge_rise (l : List Ln) : riseL (mergeL l) := fold_rise l [] .nil
theorem fold_len : ∀ (l o : List Ln), (l.foldl (fun o x => lnAdd x.key x.nums o) o).length ≤ o.length + l.length := by
  intro l
  induction l with
  | nil => intro o; exact Nat.le_refl _
  | cons x xs ih => intro o; have := ih (lnAdd x.key x.nums o); have := lnAdd_len (k := x.key) (ns := x.nums) o; simp at *; omega
theorem merge_len (l : List Ln) : (mergeL l).length ≤ l.length := by have := fold_len l []; rw [List.length_nil, Nat.zero_add] at this; exact this
/-- A line's records. -/
def recsOf (x : Ln) : List Rec := x.nums.map fun n => ⟨x.key, n, 0⟩
/-- The lines of records, one by one. -/
def linesOf (l : List Rec) : List Ln := l.foldl (fun o r => lnAdd r.key [r.num] o) []
theorem linesOf_next {l : List Rec} {i : Nat} {r : Rec} (h : l[i]? = some r) : linesOf (l.take (i + 1)) = lnAdd r.key [r.num] (linesOf (l.take i)) := by
  rw [List.take_add_one, h, linesOf, List.foldl_append]; rfl
theorem linesOf_rise (l : List Rec) : riseL (linesOf l) := by
  have : ∀ (l : List Rec) (o : List Ln), riseL o → riseL (l.foldl (fun o r => lnAdd r.key [r.num] o) o) := by
    intro l
    induction l with
    | nil => intro o h; exact h
    | cons x xs ih => intro o h; exact ih _ (lnAdd_rise h)
  exact this l [] .nil
theorem linesOf_len (l : List Rec) : (linesOf l).length ≤ l.length := by
  have : ∀ (l : List Rec) (o : List Ln), (l.foldl (fun o r => lnAdd r.key [r.num] o) o).length ≤ o.length + l.length := by
    intro l
    induction l with
    | nil => intro o; exact Nat.le_refl _
    | cons x xs ih => intro o; have := ih (lnAdd x.key [x.num] o); have := lnAdd_len (k := x.key) (ns := [x.num]) o; simp at *; omega
  have := this l []; rw [List.length_nil, Nat.zero_add] at this; exact this
theorem lnAdd_many (k : ByteArray) : ∀ (ns : List Int) (o : List Ln), ns ≠ [] → (ns.map fun n => (⟨k, n, 0⟩ : Rec)).foldl (fun o r => lnAdd r.key [r.num] o) o = lnAdd k ns o := by
  intro ns
  induction ns with
  | nil => intro o h; exact absurd rfl h
  | cons n ns ih =>
    intro o _
    rw [List.map_cons, List.foldl_cons]
    cases ns with
    | nil => rfl
    | cons m ms => rw [ih _ (by simp), ← lnAdd_append]; rfl
theorem linesOf_all {l : List Ln} (h : ∀ x ∈ l, 0 < x.nums.length) : linesOf (l.flatMap recsOf) = mergeL l := by
  have : ∀ (l : List Ln) (o : List Ln), (∀ x ∈ l, 0 < x.nums.length) → (l.flatMap recsOf).foldl (fun o r => lnAdd r.key [r.num] o) o = l.foldl (fun o x => lnAdd x.key x.nums o) o := by
    intro l
    induction l with
    | nil => intro o _; rfl
    | cons x xs ih =>
      intro o h
      have h1 := h x List.mem_cons_self
      rw [List.flatMap_cons, List.foldl_append, recsOf, lnAdd_many _ _ _ (fun e => by rw [e] at h1; simp at h1), List.foldl_cons]
      exact ih _ fun y hy => h y (List.mem_cons_of_mem _ hy)
  exact this l [] h
/-- No line longer than all there is. -/
theorem merge_nums {l : List Ln} {y : Ln} (hy : y ∈ mergeL l) : y.nums.length ≤ (l.map fun x => x.nums.length).sum := by
  have : ∀ (l o : List Ln) (b : Nat), (∀ y ∈ o, y.nums.length ≤ b) → ∀ y ∈ l.foldl (fun o x => lnAdd x.key x.nums o) o, y.nums.length ≤ b + (l.map fun x => x.nums.length).sum := by
    intro l
    induction l with
    | nil => intro o b h y hy; simpa using h y hy
    | cons x xs ih =>
      intro o b h y hy
      have := ih _ (b + x.nums.length) (fun z hz => ?_) y hy
      · simp; omega
      · have hadd : ∀ (o : List Ln), (∀ y ∈ o, y.nums.length ≤ b) → ∀ z ∈ lnAdd x.key x.nums o, z.nums.length ≤ b + x.nums.length := by
          intro o
          induction o with
          | nil => intro _ z hz; rw [List.mem_singleton.1 hz]; simp
          | cons q qs ihq =>
            intro hq z hz
            rw [lnAdd] at hz
            split at hz
            · rcases List.mem_cons.1 hz with rfl | hz
              · have := hq z List.mem_cons_self; omega
              · exact ihq (fun y hy => hq y (List.mem_cons_of_mem _ hy)) z hz
            · split at hz
              · rcases List.mem_cons.1 hz with rfl | hz
                · have := hq q List.mem_cons_self; simp; omega
                · have := hq z (List.mem_cons_of_mem _ hz); omega
              · rcases List.mem_cons.1 hz with rfl | hz
                · simp
                · have := hq z hz; omega
        exact hadd o h z hz
  simpa using this l [] 0 (fun _ h => absurd h List.not_mem_nil) y hy
/-- The fault of either. -/
def bothL (a b : List Ln) : Nat := if linesE a ≠ 0 then linesE a else linesE b
/-- A merge: lines and the fault. -/
def mergeE (a b : List Ln) : Nat := if bothL a b ≠ 0 then bothL a b else if linesE (mergeL (a ++ b)) ≠ 0 then 4 else 0
def mergeO (a b : List Ln) : List Ln := if mergeE a b = 0 then mergeL (a ++ b) else []
/-- Are lines the beginning of others? -/
def prefB (a b : List Ln) : Bool := a.all fun x => match numsOf b x.key with | none => false | some v => decide (x.nums.length ≤ v.length) && decide (v.take x.nums.length = x.nums)
def lessE (a b : List Ln) : Nat := if bothL a b ≠ 0 then bothL a b else if prefB b a = true then 0 else 7
def sumL (l : List Ln) : Nat := (l.map fun x => x.nums.length).sum
def lessV (a b : List Ln) : Int := if lessE a b = 0 then (sumL a : Int) - sumL b else 0
theorem sumL_next {l : List Ln} {i : Nat} {x : Ln} (h : l[i]? = some x) : sumL (l.take (i + 1)) = sumL (l.take i) + x.nums.length := by
  rw [List.take_add_one, h]; simp [sumL]
theorem sumL_le {l : List Ln} (h : LnsOk l) : sumL l ≤ 160000 := by
  have : ∀ l : List Ln, (∀ x ∈ l, x.nums.length ≤ 400) → sumL l ≤ 400 * l.length := by
    intro l
    induction l with
    | nil => intro _; simp [sumL]
    | cons x xs ih => intro h; have := ih fun y hy => h y (List.mem_cons_of_mem _ hy); have := h x List.mem_cons_self; simp [sumL] at *; omega
  have := this l h.few
  have := h.len
  omega
theorem sumL_take_le (l : List Ln) (i : Nat) : sumL (l.take i) ≤ sumL l := by
  have : ∀ (a b : List Ln), sumL a ≤ sumL (a ++ b) := fun a b => by simp [sumL]
  have h := this (l.take i) (l.drop i)
  rwa [List.take_append_drop] at h
/-! ### Where a key stands -/
def idxL (k : ByteArray) : List Ln → Nat
  | [] => 0
  | x :: xs => if x.key = k then 0 else idxL k xs + 1
theorem idxL_le (k : ByteArray) : ∀ (l : List Ln), idxL k l ≤ l.length := by
  intro l
  induction l with
  | nil => exact Nat.le_refl _
  | cons x xs ih => rw [idxL]; split <;> simp; exact ih
theorem idxL_is {k : ByteArray} : ∀ {l : List Ln} {i : Nat}, i ≤ l.length → (∀ (j : Nat) (x : Ln), j < i → l[j]? = some x → x.key ≠ k) → (∀ x, l[i]? = some x → x.key = k) → idxL k l = i := by
  intro l
  induction l with
  | nil => intro i h _ _; simp at h; rw [h]; rfl
  | cons y ys ih =>
    intro i h h1 h2
    rw [idxL]
    cases i with
    | zero => rw [if_pos (h2 y rfl)]
    | succ i =>
      rw [if_neg (h1 0 y (by omega) rfl), ih (i := i) (by simpa using h) (fun j x hj hx => h1 (j + 1) x (by omega) (by simpa using hx)) (fun x hx => h2 x (by simpa using hx))]
theorem idxL_at {k : ByteArray} : ∀ {l : List Ln}, idxL k l < l.length → ∃ x, l[idxL k l]? = some x ∧ x.key = k ∧ numsOf l k = some x.nums := by
  intro l
  induction l with
  | nil => intro h; simp [idxL] at h
  | cons y ys ih =>
    intro h
    rw [idxL] at h ⊢
    by_cases e : y.key = k
    · rw [if_pos e]; exact ⟨y, rfl, e, by rw [numsOf_cons, if_pos e]⟩
    · rw [if_neg e] at h ⊢
      obtain ⟨x, h1, h2, h3⟩ := ih (by simpa using h)
      exact ⟨x, by simpa using h1, h2, by rw [numsOf_cons, if_neg e]; exact h3⟩
theorem idxL_none {k : ByteArray} : ∀ {l : List Ln}, idxL k l = l.length → numsOf l k = none := by
  intro l
  induction l with
  | nil => intro _; rfl
  | cons y ys ih =>
    intro h
    rw [idxL] at h
    split at h
    · simp at h
    · rename_i e
      rw [numsOf_cons, if_neg e]; exact ih (by simpa using h)
/-- One line of a beginning. -/
def pref1 (b : List Ln) (x : Ln) : Bool := match numsOf b x.key with | none => false | some v => decide (x.nums.length ≤ v.length) && decide (v.take x.nums.length = x.nums)
theorem prefB_all (a b : List Ln) : prefB a b = a.all (pref1 b) := rfl
theorem prefB_fail {a b : List Ln} {i : Nat} {x : Ln} (hx : a[i]? = some x) (h : pref1 b x = false) : prefB a b = false := by
  rw [prefB_all, List.all_eq_false]
  exact ⟨x, List.mem_of_getElem? hx, by rw [h]; simp⟩
theorem prefB_good {a b : List Ln} (h : ∀ (i : Nat) (x : Ln), a[i]? = some x → pref1 b x = true) : prefB a b = true := by
  rw [prefB_all, List.all_eq_true]
  intro x hx
  obtain ⟨i, hi⟩ := List.mem_iff_getElem?.1 hx
  exact h i x hi
theorem pref1_none {b : List Ln} {x : Ln} (h : idxL x.key b = b.length) : pref1 b x = false := by rw [pref1, idxL_none h]
theorem pref1_short {b : List Ln} {x y : Ln} (hy : numsOf b x.key = some y.nums) (h : y.nums.length < x.nums.length) : pref1 b x = false := by
  rw [pref1, hy]; simp; intro h2; omega
theorem pref1_is {b : List Ln} {x y : Ln} (hy : numsOf b x.key = some y.nums) (h : x.nums.length ≤ y.nums.length) : pref1 b x = decide (x.nums = y.nums.take x.nums.length) := by
  rw [pref1, hy]; simp [h, eq_comm]
end Go.Proofs.YtelailhghhjleaaDoor
