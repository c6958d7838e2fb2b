/- One line of some turned into another one: how that is judged; as plain data. No program in sight. -/
import Derived.Test.YtelailhghhjleaaPlainWithin
namespace Go.Proofs.Ytelailhghhjleaa
open Go.RowKit

/-- Lines, the i-th of them with other numbers (none: it is left out). -/
def turnTo (l : List Ln) (i : Nat) (v : List Int) : Nat → List Ln
  | 0 => []
  | k + 1 => turnTo l i v k ++ (if k = i then (if v.length = 0 then [] else [⟨(l.getD k default).key, v⟩]) else [l.getD k default])
def turnL (l : List Ln) (i : Nat) (v : List Int) : List Ln := turnTo l i v l.length
theorem turnTo_len (l : List Ln) (i : Nat) (v : List Int) (k : Nat) : (turnTo l i v k).length ≤ k := by
  induction k with
  | zero => exact Nat.le_refl _
  | succ k ih =>
    rw [turnTo, List.length_append]
    split
    · split
      · simp; omega
      · simp; omega
    · simp; omega
theorem turnTo_mem {l : List Ln} {i : Nat} {v : List Int} {k : Nat} {y : Ln} (hk : k ≤ l.length) : y ∈ turnTo l i v k ↔ (∃ j, j < k ∧ j ≠ i ∧ l[j]? = some y) ∨ (i < k ∧ v.length ≠ 0 ∧ ∃ x, l[i]? = some x ∧ y = ⟨x.key, v⟩) := by
  induction k with
  | zero => simp [turnTo]
  | succ k ih =>
    have hx : l[k]? = some (l.getD k default) := by rw [List.getD_eq_getElem?_getD, List.getElem?_eq_getElem (by omega)]; rfl
    rw [turnTo, List.mem_append, ih (by omega)]
    by_cases hki : k = i
    · subst hki
      rw [if_pos rfl]
      by_cases hv : v.length = 0
      · rw [if_pos hv]
        constructor
        · rintro ((⟨j, h1, h2, h3⟩ | ⟨h1, _⟩) | h)
          · exact .inl ⟨j, by omega, h2, h3⟩
          · omega
          · cases h
        · rintro (⟨j, h1, h2, h3⟩ | ⟨_, h, _⟩)
          · exact .inl (.inl ⟨j, by omega, h2, h3⟩)
          · exact absurd hv h
      · rw [if_neg hv]
        constructor
        · rintro ((⟨j, h1, h2, h3⟩ | ⟨h1, _⟩) | h)
          · exact .inl ⟨j, by omega, h2, h3⟩
          · omega
          · exact .inr ⟨by omega, hv, _, hx, List.mem_singleton.1 h⟩
        · rintro (⟨j, h1, h2, h3⟩ | ⟨_, _, x, h, rfl⟩)
          · exact .inl (.inl ⟨j, by omega, h2, h3⟩)
          · rw [hx] at h
            injection h with h
            subst h
            exact .inr (List.mem_singleton.2 rfl)
    · rw [if_neg hki]
      constructor
      · rintro ((⟨j, h1, h2, h3⟩ | ⟨h1, h2⟩) | h)
        · exact .inl ⟨j, by omega, h2, h3⟩
        · exact .inr ⟨by omega, h2⟩
        · exact .inl ⟨k, by omega, hki, by rw [List.mem_singleton.1 h]; exact hx⟩
      · rintro (⟨j, h1, h2, h3⟩ | ⟨h1, h2⟩)
        · by_cases hjk : j = k
          · subst hjk
            rw [hx] at h3
            injection h3 with h3
            exact .inr (List.mem_singleton.2 h3.symm)
          · exact .inl (.inl ⟨j, by omega, h2, h3⟩)
        · exact .inl (.inr ⟨by omega, h2⟩)
theorem ln_below {l : List Ln} (h : l.Pairwise fun a b => klt a.key b.key = true) {i j : Nat} {x y : Ln} (hi : l[i]? = some x) (hj : l[j]? = some y) (hij : i < j) : klt x.key y.key = true := by
  obtain ⟨h1, rfl⟩ := List.getElem?_eq_some_iff.1 hi
  obtain ⟨h2, rfl⟩ := List.getElem?_eq_some_iff.1 hj
  exact List.pairwise_iff_getElem.1 h i j h1 h2 hij
theorem turnTo_rise {l : List Ln} {i : Nat} {v : List Int} (h : l.Pairwise fun a b => klt a.key b.key = true) : ∀ {k : Nat}, k ≤ l.length → (turnTo l i v k).Pairwise fun a b => klt a.key b.key = true := by
  intro k
  induction k with
  | zero => intro _; exact .nil
  | succ k ih =>
    intro hk
    have hx : l[k]? = some (l.getD k default) := by rw [List.getD_eq_getElem?_getD, List.getElem?_eq_getElem (by omega)]; rfl
    have hb : ∀ a ∈ turnTo l i v k, klt a.key (l.getD k default).key = true := by
      intro a ha
      rcases (turnTo_mem (by omega)).1 ha with ⟨j, h1, _, h3⟩ | ⟨h1, _, x, h3, rfl⟩
      · exact ln_below h h3 hx h1
      · exact ln_below (x := x) h h3 hx h1
    rw [turnTo, List.pairwise_append]
    refine ⟨ih (by omega), ?_, fun a ha b hbm => ?_⟩
    · split
      · split
        · exact .nil
        · exact List.pairwise_singleton _ _
      · exact List.pairwise_singleton _ _
    · split at hbm
      · split at hbm
        · cases hbm
        · rw [List.mem_singleton.1 hbm]; exact hb a ha
      · rw [List.mem_singleton.1 hbm]; exact hb a ha
theorem turn_ok {l : List Ln} (h : LnsOk l) {i : Nat} {v : List Int} (hv : v.length ≤ 400) : LnsOk (turnL l i v) := by
  refine ⟨Nat.le_trans (turnTo_len l i v l.length) h.len, turnTo_rise h.pw (Nat.le_refl _), fun y hy => ?_, fun y hy => ?_⟩
  · rcases (turnTo_mem (Nat.le_refl _)).1 hy with ⟨j, _, _, h3⟩ | ⟨_, h2, x, _, rfl⟩
    · exact h.some_ y (List.mem_of_getElem? h3)
    · exact Nat.pos_of_ne_zero h2
  · rcases (turnTo_mem (Nat.le_refl _)).1 hy with ⟨j, _, _, h3⟩ | ⟨_, _, x, _, rfl⟩
    · exact h.few y (List.mem_of_getElem? h3)
    · exact hv
/-- Over keys that are there in both, up to the first that is not fine. -/
theorem judge_within {want got : List Ln} (hw : LnsOk want) (hg : LnsOk got) (h : ∀ g ∈ got, ∃ w ∈ want, w.key = g.key) : judge want got = judgeOver want got (want.map Ln.key) := by
  have e : mergeK want got = want.map Ln.key := by
    refine rise_unique (mergeK_rise want got hw.pw hg.pw) (rise_keys hw.pw) fun k => ?_
    rw [mergeK_mem]
    constructor
    · rintro (h1 | h1)
      · exact h1
      · obtain ⟨g, hgm, rfl⟩ := List.mem_map.1 h1
        obtain ⟨w, hwm, e⟩ := h g hgm
        exact List.mem_map.2 ⟨w, hwm, e⟩
    · exact .inl
  rw [judge, e]
theorem over_skip {want got : List Ln} : ∀ (ks : List ByteArray) (rest : List ByteArray), (∀ k ∈ ks, (lineO (numsOf want k) ((numsOf got k).getD [])).1 = 0) → judgeOver want got (ks ++ rest) = judgeOver want got rest := by
  intro ks
  induction ks with
  | nil => intro rest _; rfl
  | cons k ks ih =>
    intro rest h
    rw [List.cons_append, judgeOver_cons, if_neg (by simp [h k List.mem_cons_self])]
    exact ih rest fun x hx => h x (List.mem_cons_of_mem _ hx)
theorem line_same (w : List Int) : lineJ w w = (0, 0) := by
  rw [line_end (i := w.length) (fun _ _ => rfl) (by omega), if_neg (by omega), if_neg (by omega)]
theorem judge_self {l : List Ln} (h : LnsOk l) : judge l l = (0, ⟨#[]⟩, 0) := by
  rw [judge_within h h (fun g hg => ⟨g, hg, rfl⟩)]
  have := over_skip (want := l) (got := l) (l.map Ln.key) [] (fun k hk => by
    obtain ⟨x, hx, rfl⟩ := List.mem_map.1 hk
    rw [numsOf_mem h.pw hx]
    show (lineJ x.nums x.nums).1 = 0
    rw [line_same])
  rw [List.append_nil] at this
  rw [this]; rfl
/-- What is turned is found. -/
theorem judge_turn {l : List Ln} (h : LnsOk l) {i : Nat} {x : Ln} (hx : l[i]? = some x) {v : List Int} (hv : v.length ≤ 400) {kd pt : Nat} (hj : lineJ x.nums v = (kd, pt)) (hk : kd ≠ 0) : judge l (turnL l i v) = (kd, x.key, pt) := by
  have hil := (List.getElem?_eq_some_iff.1 hx).1
  have hok := turn_ok h (i := i) hv
  rw [judge_within h hok (fun g hg => by
    rcases (turnTo_mem (Nat.le_refl _)).1 hg with ⟨j, _, _, h3⟩ | ⟨_, _, y, h3, rfl⟩
    · exact ⟨g, List.mem_of_getElem? h3, rfl⟩
    · exact ⟨y, List.mem_of_getElem? h3, rfl⟩)]
  have hkeys : l.map Ln.key = (l.take i).map Ln.key ++ (x.key :: (l.drop (i + 1)).map Ln.key) := by
    rw [← List.map_cons (f := Ln.key), ← drop_ln hx, ← List.map_append, List.take_append_drop]
  rw [hkeys, over_skip]
  · rw [judgeOver_cons]
    have h1 : numsOf l x.key = some x.nums := numsOf_mem h.pw (List.mem_of_getElem? hx)
    have h2 : (numsOf (turnL l i v) x.key).getD [] = v := by
      by_cases hv0 : v.length = 0
      · have hve : v = [] := List.eq_nil_of_length_eq_zero hv0
        have hno : numsOf (turnL l i v) x.key = none := by
          rw [numsOf_none]
          intro y hy e
          rcases (turnTo_mem (Nat.le_refl _)).1 hy with ⟨j, _, hji, h3⟩ | ⟨_, h2, _⟩
          · rcases Nat.lt_or_gt_of_ne hji with hlt | hlt
            · exact klt_ne (ln_below h.pw h3 hx hlt) e
            · exact klt_ne (ln_below h.pw hx h3 hlt) e.symm
          · exact h2 hv0
        rw [hno, hve]; rfl
      · have hm : (⟨x.key, v⟩ : Ln) ∈ turnL l i v := (turnTo_mem (Nat.le_refl _)).2 (.inr ⟨hil, hv0, x, hx, rfl⟩)
        have := numsOf_mem hok.pw hm
        rw [show numsOf (turnL l i v) x.key = some v from this]; rfl
    rw [h1, h2, show lineO (some x.nums) v = (kd, pt) from hj, if_pos hk]
  · intro k hkm
    obtain ⟨y, hy, rfl⟩ := List.mem_map.1 hkm
    obtain ⟨j, hj1⟩ := List.mem_iff_getElem?.1 hy
    rw [List.getElem?_take] at hj1
    split at hj1
    · rename_i hji
      have hyt : y ∈ turnL l i v := (turnTo_mem (Nat.le_refl _)).2 (.inl ⟨j, (List.getElem?_eq_some_iff.1 hj1).1, by omega, hj1⟩)
      rw [numsOf_mem h.pw (List.mem_of_getElem? hj1), numsOf_mem hok.pw hyt]
      show (lineJ y.nums y.nums).1 = 0
      rw [line_same]
    · cases hj1
theorem line_more (w : List Int) (z : Int) : lineJ w (w ++ [z]) = (2, w.length) := by
  rw [line_end (i := w.length) (fun j hj => (List.getElem?_append_left hj).symm) (by simp), if_pos (by simp)]
theorem line_less {w : List Int} (h : 0 < w.length) : lineJ w (w.take (w.length - 1)) = (1, w.length - 1) := by
  rw [line_end (i := w.length - 1) (fun j hj => by rw [List.getElem?_take, if_pos hj]) (by simp), if_neg (by simp), if_pos (by omega)]
/-- Two neighbours exchanged. -/
def swapN (w : List Int) (j : Nat) : List Int := (w.set j (atD w (j + 1))).set (j + 1) (atD w j)
theorem swapN_len (w : List Int) (j : Nat) : (swapN w j).length = w.length := by simp [swapN]
theorem drop_swap {w : List Int} {j : Nat} (h : j + 1 < w.length) : w.drop j = atD w j :: atD w (j + 1) :: w.drop (j + 2) ∧ (swapN w j).drop j = atD w (j + 1) :: atD w j :: w.drop (j + 2) := by
  have e1 : atD w j = w[j] := by rw [atD, List.getElem?_eq_getElem (by omega)]; rfl
  have e2 : atD w (j + 1) = w[j + 1] := by rw [atD, List.getElem?_eq_getElem h]; rfl
  constructor
  · rw [List.drop_eq_getElem_cons (by omega), List.drop_eq_getElem_cons h, e1, e2]
  · have hl : (swapN w j).length = w.length := swapN_len w j
    apply List.ext_getElem?
    intro i
    rw [List.getElem?_drop, swapN]
    rcases i with _ | _ | i
    · rw [List.getElem?_set_ne (by omega)]
      show (w.set j _)[j]? = _
      rw [List.getElem?_set_self (by omega)]; rfl
    · rw [show j + (0 + 1) = j + 1 by omega, List.getElem?_set_self (by simp; omega)]; rfl
    · rw [List.getElem?_set_ne (by omega), List.getElem?_set_ne (by omega)]
      simp only [List.getElem?_cons_succ, List.getElem?_drop]
      congr 1; omega
theorem line_swap {w : List Int} {j : Nat} (h : j + 1 < w.length) (hne : atD w j ≠ atD w (j + 1)) : lineJ w (swapN w j) = (4, j) := by
  obtain ⟨d1, d2⟩ := drop_swap h
  have hl := swapN_len w j
  have e0 : w[j]? = some (atD w j) := by rw [atD, List.getElem?_eq_getElem (by omega)]; rfl
  have e1 : (swapN w j)[j]? = some (atD w (j + 1)) := by rw [swapN, List.getElem?_set_ne (by omega), List.getElem?_set_self (by omega)]
  have hL : lcp w (swapN w j) = j := line_far (fun i hi => by rw [swapN, List.getElem?_set_ne (by omega), List.getElem?_set_ne (by omega)]) (by omega) (by omega) (by rw [e0, e1]; simpa using hne)
  refine line_cross hL (by omega) (by omega) ?_
  rw [d1, d2, withinB, List.all_eq_true]
  intro x _
  have hp : (atD w (j + 1) :: atD w j :: w.drop (j + 2)).Perm (atD w j :: atD w (j + 1) :: w.drop (j + 2)) := .swap _ _ _
  rw [hp.count_eq]
  simp
/-- What the program tries first. -/
def factA : List Ln := [⟨⟨#[97]⟩, [1]⟩]
theorem factA_ok : linesE factA = 0 := by rw [linesE]; decide
theorem factA_judge : judge factA [] = (1, ⟨#[97]⟩, 0) := by
  rw [judge, factA, mergeK, List.map_cons, List.map_nil, judgeOver]
  simp only [numsOf, List.find?_cons, decide_true, Option.map_some, List.find?_nil, Option.map_none, Option.getD_none]
  decide
end Go.Proofs.Ytelailhghhjleaa
