/- The symmetric merge, as plain lists. No program in sight. -/
import Derived.Test.YtelailhghhjleaaPlainSwap
namespace Go.Proofs.Ytelailhghhjleaa
open Go.Sort

section
variable {α : Type} [Inhabited α] {lt : α → α → Bool}
/-- One among others, s of them ahead of it. -/
def shf (x V y : List α) (p : α) (s : Nat) : Array α := (x ++ (V.take s ++ (p :: (V.drop s ++ y)))).toArray
omit [Inhabited α] in
theorem shf_zero (x V y : List α) (p : α) : shf x V y p 0 = (x ++ ([p] ++ (V ++ y))).toArray := by simp [shf]
omit [Inhabited α] in
theorem shf_full (x V y : List α) (p : α) : shf x V y p V.length = (x ++ (V ++ ([p] ++ y))).toArray := by simp [shf]
omit [Inhabited α] in
theorem shf_at (x V y : List α) (p : α) (s : Nat) : shf x V y p s = (x ++ ((V.take s ++ (p :: V.drop s)) ++ y)).toArray := by simp [shf]
omit [Inhabited α] in
theorem shf_size (x V y : List α) (p : α) (s : Nat) : (shf x V y p s).size = x.length + V.length + 1 + y.length := by simp [shf]; omega
theorem shf_up {x V y : List α} {p : α} {s : Nat} (hs : s < V.length) : swp (shf x V y p s) (x.length + s) (x.length + s + 1) = shf x V y p (s + 1) := by
  have e1 : V.drop s = V[s] :: V.drop (s + 1) := List.drop_eq_getElem_cons hs
  have e2 : V.take (s + 1) = V.take s ++ [V[s]] := by rw [List.take_add_one, List.getElem?_eq_getElem hs]; rfl
  have := swp_next (x ++ V.take s) (V.drop (s + 1) ++ y) p V[s]
  rw [show (x ++ V.take s).length = x.length + s from by simp; omega] at this
  unfold shf
  rw [e1, e2]
  simp only [List.append_assoc, List.cons_append, List.nil_append] at this ⊢
  exact this
theorem shf_down {x V y : List α} {p : α} {s : Nat} (hs : s < V.length) : swp (shf x V y p (s + 1)) (x.length + s + 1) (x.length + s) = shf x V y p s := by
  have e1 : V.drop s = V[s] :: V.drop (s + 1) := List.drop_eq_getElem_cons hs
  have e2 : V.take (s + 1) = V.take s ++ [V[s]] := by rw [List.take_add_one, List.getElem?_eq_getElem hs]; rfl
  have := swp_back (x ++ V.take s) (V.drop (s + 1) ++ y) V[s] p
  rw [show (x ++ V.take s).length = x.length + s from by simp; omega] at this
  unfold shf
  rw [e1, e2]
  simp only [List.append_assoc, List.cons_append, List.nil_append] at this ⊢
  exact this

/-- What is merged: sorted, and by steps. -/
structure MergedTo (lt : α → α → Bool) (x U V y W : List α) : Prop where
  up : Up lt W
  steps : Steps lt (x ++ (U ++ (V ++ y))) (x ++ (W ++ y))
omit [Inhabited α] in
theorem MergedTo.perm {x U V y W : List α} (h : MergedTo lt x U V y W) : (U ++ V).Perm W := by
  have := h.steps.perm
  rw [List.perm_append_left_iff, ← List.append_assoc, List.perm_append_right_iff] at this
  exact this
omit [Inhabited α] in
theorem MergedTo.len {x U V y W : List α} (h : MergedTo lt x U V y W) : W.length = U.length + V.length := by
  have := h.perm.length_eq; simp at this; omega

theorem merged_left (h : SWO lt) {x V y : List α} {p : α} {m b i : Nat} (hV : Up lt V) (hm : m = x.length + 1) (hb : b = m + V.length) (hi : m ≤ i) (_hib : i ≤ b)
    (hf : Found (fun t => lt (x ++ ([p] ++ (V ++ y))).toArray[t]! p) m b i i) : MergedTo lt x [p] V y (V.take (i - m) ++ (p :: V.drop (i - m))) := by
  have get : ∀ s (hs : s < V.length), (x ++ ([p] ++ (V ++ y))).toArray[m + s]! = V[s] := fun s hs => by
    have := get_mid (x := x ++ [p]) (U := V) (y := y) hs
    rw [show (x ++ [p]).length + s = m + s from by simp; omega] at this
    simpa using this
  have h1 : ∀ v ∈ V.take (i - m), lt v p = true := by
    intro v hv
    obtain ⟨s, h2, h3, rfl⟩ := take_mem hv
    have := hf.1 (m + s) (by omega) (by omega)
    simp only [get s h3] at this
    exact this
  have h2 : ∀ v ∈ V.drop (i - m), lt v p = false := by
    intro v hv
    obtain ⟨s, h2, h3, rfl⟩ := drop_mem hv
    have := hf.2 (m + s) (by omega) (by omega)
    simp only [get s h3] at this
    exact this
  refine ⟨one_left h (by rw [List.take_append_drop]; exact hV) h1 h2, ?_⟩
  have := steps_left (x := x) (y := y) (V2 := V.drop (i - m)) h1
  rwa [List.take_append_drop] at this
theorem merged_right (h : SWO lt) {x U y : List α} {p : α} {a m i : Nat} (hU : Up lt U) (ha : a = x.length) (hm : m = a + U.length) (hi : a ≤ i) (_him : i ≤ m)
    (hf : Found (fun t => !lt p (x ++ (U ++ ([p] ++ y))).toArray[t]!) a m i i) : MergedTo lt x U [p] y (U.take (i - a) ++ (p :: U.drop (i - a))) := by
  have get : ∀ s (hs : s < U.length), (x ++ (U ++ ([p] ++ y))).toArray[a + s]! = U[s] := fun s hs => by
    rw [ha]; exact get_mid (x := x) (U := U) (y := [p] ++ y) hs
  have h1 : ∀ u ∈ U.take (i - a), lt p u = false := by
    intro v hv
    obtain ⟨s, h2, h3, rfl⟩ := take_mem hv
    have := hf.1 (a + s) (by omega) (by omega)
    simp only [get s h3, Bool.not_eq_true'] at this
    exact this
  have h2 : ∀ u ∈ U.drop (i - a), lt p u = true := by
    intro v hv
    obtain ⟨s, h2, h3, rfl⟩ := drop_mem hv
    have := hf.2 (a + s) (by omega) (by omega)
    simp only [get s h3, Bool.not_eq_false'] at this
    exact this
  refine ⟨one_right h (by rw [List.take_append_drop]; exact hU) h1 h2, ?_⟩
  have := steps_right (x := x) (y := y) (U1 := U.take (i - a)) h2
  rwa [List.take_append_drop] at this
/-- What the search of the symmetric merge has found: s, and the other end n - s. -/
structure SymAt (lt : α → α → Bool) (U V : List α) (a m b s e : Nat) : Prop where
  las : a ≤ s
  lsm : s ≤ m
  lme : m ≤ e
  leb : e ≤ b
  h1 : ∀ u ∈ U.drop (s - a), ∀ v ∈ V.take (e - m), lt v u = true
  h2 : ∀ u ∈ U.take (s - a), ∀ v ∈ V.drop (e - m), lt v u = false
theorem symAt_of (h : SWO lt) {x U V y : List α} {a m b n lo hi s : Nat} (hU : Up lt U) (hV : Up lt V) (ha : a = x.length) (hm : m = a + U.length) (hb : b = m + V.length) (hn : n = (a + b) / 2 + m) (hlt : a < m) (hlt2 : m < b)
    (hlo : lo = if (a + b) / 2 < m then n - b else a) (hhi : hi = if (a + b) / 2 < m then (a + b) / 2 else m) (hs0 : lo ≤ s) (hs1 : s ≤ hi)
    (hf : Found (fun c => !lt (x ++ (U ++ (V ++ y))).toArray[n - 1 - c]! (x ++ (U ++ (V ++ y))).toArray[c]!) lo hi s s) : SymAt lt U V a m b s (n - s) := by
  obtain ⟨d, hd⟩ : ∃ d, d = (x ++ (U ++ (V ++ y))).toArray := ⟨_, rfl⟩
  rw [← hd] at hf
  have sU : SortedIn lt a m d := by rw [hd]; exact sortedIn_of_up hU ha (by omega)
  have sV : SortedIn lt m b d := by
    have := sortedIn_of_up (x := x ++ U) (y := y) hV (a := m) (b := b) (by simp; omega) (by simp; omega)
    rw [List.append_assoc] at this
    rw [hd]; exact this
  have gU : ∀ t (ht : t < U.length), d[a + t]! = U[t] := fun t ht => by rw [hd, ha]; exact get_mid ht
  have gV : ∀ t (ht : t < V.length), d[m + t]! = V[t] := fun t ht => by
    have := get_mid (x := x ++ U) (U := V) (y := y) ht
    rw [show (x ++ U).length + t = m + t from by simp; omega, List.append_assoc] at this
    rw [hd]; exact this
  clear hd
  have le_ : ∀ {i j : Nat}, m ≤ i → i ≤ j → j < b → lt d[j]! d[i]! = false := fun {i j} h1 h2 h3 => by
    rcases Nat.lt_or_ge i j with h4 | h4
    · exact sV i j h1 h4 h3
    · obtain rfl : i = j := by omega
      exact h.irrefl _
  have leU : ∀ {i j : Nat}, a ≤ i → i ≤ j → j < m → lt d[j]! d[i]! = false := fun {i j} h1 h2 h3 => by
    rcases Nat.lt_or_ge i j with h4 | h4
    · exact sU i j h1 h4 h3
    · obtain rfl : i = j := by omega
      exact h.irrefl _
  have las : a ≤ s := by split at hlo <;> omega
  have lsm : s ≤ m := by split at hhi <;> omega
  have lme : m ≤ n - s := by split at hhi <;> omega
  have leb : n - s ≤ b := by split at hlo <;> omega
  refine ⟨las, lsm, lme, leb, fun u hu v hv => ?_, fun u hu v hv => ?_⟩
  · obtain ⟨t, h3, h4, rfl⟩ := drop_mem hu
    obtain ⟨r, h5, h6, rfl⟩ := take_mem hv
    rw [← gU t h4, ← gV r h6]
    have hsh : s < hi := by split at hhi <;> omega
    have hq := hf.2 s (Nat.le_refl _) hsh
    simp only [Bool.not_eq_false'] at hq
    cases hc : lt d[m + r]! d[a + t]!
    · have e1 := le_ (i := m + r) (j := n - 1 - s) (by omega) (by omega) (by omega)
      have e2 := leU (i := s) (j := a + t) (by omega) (by omega) (by omega)
      have := h.ntrans _ _ _ (h.ntrans _ _ _ e1 hc) e2
      rw [this] at hq; cases hq
    · rfl
  · obtain ⟨t, h3, h4, rfl⟩ := take_mem hu
    obtain ⟨r, h5, h6, rfl⟩ := drop_mem hv
    rw [← gU t h4, ← gV r h6]
    have hsl : lo < s := by split at hlo <;> omega
    have hq := hf.1 (s - 1) (by omega) (by omega)
    simp only [Bool.not_eq_true'] at hq
    rw [show n - 1 - (s - 1) = n - s from by omega] at hq
    have e1 := le_ (i := n - s) (j := m + r) (by omega) (by omega) (by omega)
    have e2 := leU (i := a + t) (j := s - 1) (by omega) (by omega) (by omega)
    exact h.ntrans _ _ _ (h.ntrans _ _ _ e1 hq) e2
omit [Inhabited α] in
/-- The two halves merged. -/
theorem merged_halves (h : SWO lt) {x U V y W1 W2 : List α} {a m b s e : Nat} (hU : Up lt U) (hV : Up lt V) (hs : SymAt lt U V a m b s e)
    (m1 : MergedTo lt x (U.take (s - a)) (V.take (e - m)) (U.drop (s - a) ++ (V.drop (e - m) ++ y)) W1)
    (m2 : MergedTo lt (x ++ W1) (U.drop (s - a)) (V.drop (e - m)) y W2) : MergedTo lt x U V y (W1 ++ W2) := by
  refine ⟨two_halves h (U1 := U.take (s - a)) (V1 := V.take (e - m)) (by rw [List.take_append_drop]; exact hU) (by rw [List.take_append_drop]; exact hV) hs.h1 hs.h2 m1.up m2.up m1.perm m2.perm, ?_⟩
  have e1 := steps_halves (x := x) (U1 := U.take (s - a)) (V2 := V.drop (e - m)) (y := y) hs.h1
  rw [List.take_append_drop, List.take_append_drop, List.append_assoc (U.drop (s - a))] at e1
  have e2 := m2.steps
  rw [List.append_assoc, List.append_assoc] at e2
  have e3 := (e1.trans m1.steps).trans e2
  rw [List.append_assoc]
  exact e3
omit [Inhabited α] in
/-- Nothing to merge. -/
theorem merged_none {x U V y : List α} (hU : Up lt U) (hV : Up lt V) (h : U = [] ∨ V = []) : MergedTo lt x U V y (U ++ V) := by
  rcases h with rfl | rfl
  · exact ⟨by simpa using hV, by simpa using Steps.refl⟩
  · exact ⟨by simpa using hU, by simpa using Steps.refl⟩
omit [Inhabited α] in
theorem up_take {l : List α} (h : Up lt l) (k : Nat) : Up lt (l.take k) := h.sublist (List.take_sublist k l)
omit [Inhabited α] in
theorem up_drop {l : List α} (h : Up lt l) (k : Nat) : Up lt (l.drop k) := h.sublist (List.drop_sublist k l)
end
end Go.Proofs.Ytelailhghhjleaa
