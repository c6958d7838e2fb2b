/- What a stable sort does, as plain lists: blocks change places where all of the later one is less. No program in sight. -/
import Derived.Sort.LotA
namespace Go.Proofs.YtmeemcafjebanaaGreatDoor
open Go.Sort

section
variable {α : Type} {lt : α → α → Bool}

/-- Blocks change places, where all of the later one is less than all of the other. -/
inductive Steps (lt : α → α → Bool) (l : List α) : List α → Prop
  | refl : Steps lt l l
  | swap {x u v y : List α} : Steps lt l (x ++ (u ++ (v ++ y))) → (∀ p ∈ u, ∀ q ∈ v, lt q p = true) → Steps lt l (x ++ (v ++ (u ++ y)))

theorem Steps.trans {a b c : List α} (h : Steps lt a b) (k : Steps lt b c) : Steps lt a c := by
  induction k with
  | refl => exact h
  | swap _ hv ih => exact .swap ih hv
theorem Steps.perm {l l' : List α} (h : Steps lt l l') : l.Perm l' := by
  induction h with
  | refl => exact .refl _
  | swap _ _ ih =>
    refine ih.trans (List.Perm.append_left _ ?_)
    rw [← List.append_assoc, ← List.append_assoc]
    exact List.Perm.append_right _ List.perm_append_comm
theorem Steps.pairwise {R : α → α → Prop} (hR : ∀ q p, lt q p = true → R q p) {l l' : List α} (h : Steps lt l l') (hl : l.Pairwise R) : l'.Pairwise R := by
  induction h with
  | refl => exact hl
  | swap _ hv ih =>
    simp only [List.pairwise_append, List.mem_append] at ih ⊢
    obtain ⟨h1, ⟨h2, ⟨h3, h4, h5⟩, h6⟩, h7⟩ := ih
    refine ⟨h1, ⟨h3, ⟨h2, h4, fun a ha b hb => h6 a ha b (.inr hb)⟩, ?_⟩, ?_⟩
    · rintro a ha b (hb | hb)
      · exact hR _ _ (hv b hb a ha)
      · exact h5 a ha b hb
    · rintro a ha b (hb | hb | hb)
      · exact h7 a ha b (.inr (.inl hb))
      · exact h7 a ha b (.inl hb)
      · exact h7 a ha b (.inr (.inr hb))

/-- Ascending: no later one is less. -/
def Up (lt : α → α → Bool) (l : List α) : Prop := l.Pairwise fun x y => lt y x = false
theorem up_append {l r : List α} : Up lt (l ++ r) ↔ Up lt l ∧ Up lt r ∧ ∀ a ∈ l, ∀ b ∈ r, lt b a = false := List.pairwise_append

/-- One on the left goes behind those that are less. -/
theorem one_left (h : SWO lt) {p : α} {V1 V2 : List α} (hV : Up lt (V1 ++ V2)) (h1 : ∀ v ∈ V1, lt v p = true) (h2 : ∀ v ∈ V2, lt v p = false) : Up lt (V1 ++ (p :: V2)) := by
  rw [up_append] at hV ⊢
  refine ⟨hV.1, ?_, ?_⟩
  · exact List.pairwise_cons.2 ⟨h2, hV.2.1⟩
  · intro a ha b hb
    rcases List.mem_cons.1 hb with rfl | hb
    · have := h1 a ha
      cases hc : lt b a
      · rfl
      · have := h.trans _ _ _ (h1 a ha) hc
        rw [h.irrefl] at this; cases this
    · exact hV.2.2 a ha b hb
theorem steps_left {p : α} {x V1 V2 y : List α} (h1 : ∀ v ∈ V1, lt v p = true) : Steps lt (x ++ ([p] ++ ((V1 ++ V2) ++ y))) (x ++ ((V1 ++ (p :: V2)) ++ y)) := by
  have := Steps.swap (lt := lt) (l := x ++ ([p] ++ (V1 ++ (V2 ++ y)))) (x := x) (u := [p]) (v := V1) (y := V2 ++ y) (.refl) (by simpa using h1)
  simpa using this
/-- One on the right goes ahead of those that it is less than. -/
theorem one_right (h : SWO lt) {p : α} {U1 U2 : List α} (hU : Up lt (U1 ++ U2)) (h1 : ∀ u ∈ U1, lt p u = false) (h2 : ∀ u ∈ U2, lt p u = true) : Up lt (U1 ++ (p :: U2)) := by
  rw [up_append] at hU ⊢
  refine ⟨hU.1, ?_, ?_⟩
  · refine List.pairwise_cons.2 ⟨fun u hu => ?_, hU.2.1⟩
    cases hc : lt u p
    · rfl
    · have := h.trans _ _ _ (h2 u hu) hc
      rw [h.irrefl] at this; cases this
  · intro a ha b hb
    rcases List.mem_cons.1 hb with rfl | hb
    · exact h1 a ha
    · exact hU.2.2 a ha b hb
theorem steps_right {p : α} {x U1 U2 y : List α} (h2 : ∀ u ∈ U2, lt p u = true) : Steps lt (x ++ ((U1 ++ U2) ++ ([p] ++ y))) (x ++ ((U1 ++ (p :: U2)) ++ y)) := by
  have := Steps.swap (lt := lt) (l := (x ++ U1) ++ (U2 ++ ([p] ++ y))) (x := x ++ U1) (u := U2) (v := [p]) (y := y) (.refl) (by simpa using h2)
  simpa using this
/-- Two halves. -/
theorem two_halves (h : SWO lt) {U1 U2 V1 V2 W1 W2 : List α} (hU : Up lt (U1 ++ U2)) (hV : Up lt (V1 ++ V2)) (h1 : ∀ u ∈ U2, ∀ v ∈ V1, lt v u = true) (h2 : ∀ u ∈ U1, ∀ v ∈ V2, lt v u = false)
    (hW1 : Up lt W1) (hW2 : Up lt W2) (p1 : (U1 ++ V1).Perm W1) (p2 : (U2 ++ V2).Perm W2) : Up lt (W1 ++ W2) := by
  rw [up_append] at hU hV ⊢
  refine ⟨hW1, hW2, fun a ha b hb => ?_⟩
  rcases List.mem_append.1 (p1.mem_iff.2 ha) with ha | ha <;> rcases List.mem_append.1 (p2.mem_iff.2 hb) with hb | hb
  · exact hU.2.2 a ha b hb
  · exact h2 a ha b hb
  · cases hc : lt b a
    · rfl
    · have := h.trans _ _ _ (h1 b hb a ha) hc
      rw [h.irrefl] at this; cases this
  · exact hV.2.2 a ha b hb
theorem steps_halves {U1 U2 V1 V2 x y : List α} (h1 : ∀ u ∈ U2, ∀ v ∈ V1, lt v u = true) : Steps lt (x ++ ((U1 ++ U2) ++ ((V1 ++ V2) ++ y))) (x ++ (U1 ++ (V1 ++ ((U2 ++ V2) ++ y)))) := by
  have := Steps.swap (lt := lt) (l := (x ++ U1) ++ (U2 ++ (V1 ++ (V2 ++ y)))) (x := x ++ U1) (u := U2) (v := V1) (y := V2 ++ y) (.refl) h1
  simpa using this

/-! ### Places -/
variable [Inhabited α]
theorem get_mid {x U y : List α} {t : Nat} (ht : t < U.length) : (x ++ (U ++ y)).toArray[x.length + t]! = U[t] := by
  rw [getElem!_pos _ _ (by simp; omega)]
  simp [List.getElem_append_right, List.getElem_append_left, ht]
theorem swp_list (x z y : List α) (p q : α) : swp (x ++ (p :: (z ++ (q :: y)))).toArray x.length (x.length + 1 + z.length) = (x ++ (q :: (z ++ (p :: y)))).toArray := by
  have e1 : (x ++ (p :: (z ++ (q :: y)))).toArray[x.length]! = p := by
    exact get_mid (x := x) (U := [p]) (y := z ++ (q :: y)) (t := 0) (by simp)
  have e2 : (x ++ (p :: (z ++ (q :: y)))).toArray[x.length + 1 + z.length]! = q := by
    rw [getElem!_pos _ _ (by simp; omega)]
    simp [List.getElem_append_right, Nat.add_assoc, Nat.add_comm 1]
  unfold swp
  rw [e1, e2]
  apply Array.ext'
  simp only [Array.toList_setIfInBounds]
  have a1 : (x ++ (p :: (z ++ (q :: y)))).set x.length q = x ++ (q :: (z ++ (q :: y))) := by simp
  rw [a1]
  rw [show x ++ (q :: (z ++ (q :: y))) = (x ++ (q :: z)) ++ (q :: y) from by simp, List.set_append]
  rw [if_neg (by simp; omega)]
  rw [show x.length + 1 + z.length - (x ++ (q :: z)).length = 0 from by simp; omega]
  simp
theorem swp_comm (d : Array α) (i j : Nat) : swp d i j = swp d j i := by
  unfold swp
  by_cases h : i = j
  · subst h; rfl
  · exact Array.setIfInBounds_comm _ _ h
/-- Neighbours. -/
theorem swp_next (x y : List α) (p q : α) : swp (x ++ (p :: (q :: y))).toArray x.length (x.length + 1) = (x ++ (q :: (p :: y))).toArray := by
  have := swp_list x [] y p q
  simpa using this
theorem swp_back (x y : List α) (p q : α) : swp (x ++ (p :: (q :: y))).toArray (x.length + 1) x.length = (x ++ (q :: (p :: y))).toArray := by
  rw [swp_comm, swp_next]

/-! ### The insertion sort takes such steps -/
theorem steps_swp {d : Array α} {j : Nat} (hj : j + 1 < d.size) (h : lt d[j + 1]! d[j]! = true) : Steps lt d.toList (swp d (j + 1) j).toList := by
  have hd : d.toList = d.toList.take j ++ (d[j]! :: (d[j + 1]! :: d.toList.drop (j + 2))) := by
    rw [getElem!_pos d j (by omega), getElem!_pos d (j + 1) hj, ← Array.getElem_toList, ← Array.getElem_toList, ← List.drop_eq_getElem_cons, ← List.drop_eq_getElem_cons, List.take_append_drop]
  have hl : (d.toList.take j).length = j := by simp; omega
  obtain ⟨p, hp⟩ : ∃ p, p = d[j]! := ⟨_, rfl⟩
  obtain ⟨q, hq⟩ : ∃ q, q = d[j + 1]! := ⟨_, rfl⟩
  rw [← hp, ← hq] at hd h
  have e : d = (d.toList.take j ++ (p :: (q :: d.toList.drop (j + 2)))).toArray := by rw [← hd]
  obtain ⟨x, hx⟩ : ∃ x, x = d.toList.take j := ⟨_, rfl⟩
  obtain ⟨y, hy⟩ : ∃ y, y = d.toList.drop (j + 2) := ⟨_, rfl⟩
  rw [← hx, ← hy] at e
  rw [← hx] at hl
  clear hd hp hq hx hy
  subst e
  subst hl
  rw [swp_back, List.toList_toArray, List.toList_toArray]
  have := Steps.swap (lt := lt) (l := x ++ ([p] ++ ([q] ++ y))) (x := x) (u := [p]) (v := [q]) (y := y) .refl (by simpa using h)
  simpa using this
theorem steps_insInner (a : Nat) : ∀ (j : Nat) (d : Array α), j < d.size → Steps lt d.toList (insInner lt a j d).toList ∧ (insInner lt a j d).size = d.size := by
  intro j
  induction j with
  | zero => intro d _; exact ⟨.refl, rfl⟩
  | succ j ih =>
    intro d hj
    rw [insInner]
    split
    · rename_i hc
      simp only [Bool.and_eq_true, decide_eq_true_eq] at hc
      have h1 := steps_swp (lt := lt) hj hc.2
      have h2 := ih (swp d (j + 1) j) (by rw [size_swp]; omega)
      exact ⟨h1.trans h2.1, h2.2.trans (size_swp _ _ _)⟩
    · exact ⟨.refl, rfl⟩
theorem steps_insOuter (a b : Nat) : ∀ (n i : Nat) (d : Array α), b - i = n → b ≤ d.size → Steps lt d.toList (insOuter lt a b i d).toList ∧ (insOuter lt a b i d).size = d.size := by
  intro n
  induction n with
  | zero => intro i d h hb; rw [insOuter, if_neg (by omega)]; exact ⟨.refl, rfl⟩
  | succ n ih =>
    intro i d h hb
    rw [insOuter, if_pos (by omega)]
    have h1 := steps_insInner (lt := lt) a i d (by omega)
    have h2 := ih (i + 1) (insInner lt a i d) (by omega) (by rw [h1.2]; exact hb)
    exact ⟨h1.1.trans h2.1, h2.2.trans h1.2⟩
theorem steps_ins (d : Array α) (a b : Nat) (hb : b ≤ d.size) : Steps lt d.toList (insertionSort lt d a b).toList := (steps_insOuter a b _ (a + 1) d rfl hb).1
theorem size_ins (d : Array α) (a b : Nat) (hb : b ≤ d.size) : (insertionSort lt d a b).size = d.size := (steps_insOuter (lt := lt) a b _ (a + 1) d rfl hb).2

/-! ### Binary search -/
/-- True up to a place, and from there on false. -/
def Falls (Q : Nat → Bool) (lo hi : Nat) : Prop := ∀ s t, lo ≤ s → s ≤ t → t < hi → Q t = true → Q s = true
/-- What a search has found. -/
def Found (Q : Nat → Bool) (lo hi i j : Nat) : Prop := (∀ t, lo ≤ t → t < i → Q t = true) ∧ (∀ t, j ≤ t → t < hi → Q t = false)
theorem Found.start (Q : Nat → Bool) (lo hi : Nat) : Found Q lo hi lo hi := ⟨fun t a b => by omega, fun t a b => by omega⟩
theorem Found.up {Q : Nat → Bool} {lo hi i j h : Nat} (hm : Falls Q lo hi) (hf : Found Q lo hi i j) (hh : h < hi) (hq : Q h = true) : Found Q lo hi (h + 1) j :=
  ⟨fun t a b => hm t h a (by omega) hh hq, hf.2⟩
theorem Found.down {Q : Nat → Bool} {lo hi i j h : Nat} (hm : Falls Q lo hi) (hf : Found Q lo hi i j) (hl : lo ≤ h) (hq : Q h = false) : Found Q lo hi i h :=
  ⟨hf.1, fun t a b => by
    cases hc : Q t
    · rfl
    · rw [hm h t hl a b hc] at hq; cases hq⟩

theorem falls_one {d : Array α} (h : SWO lt) {p : α} {m b : Nat} (hs : SortedIn lt m b d) : Falls (fun t => lt d[t]! p) m b := by
  intro s t a b1 c hq
  rcases Nat.lt_or_ge s t with hlt | hge
  · cases hc : lt d[s]! p
    · have := h.ntrans _ _ _ (hs s t a hlt c) hc
      simp only at hq
      rw [this] at hq; cases hq
    · exact hc
  · obtain rfl : s = t := by omega
    exact hq
theorem falls_two {d : Array α} (h : SWO lt) {p : α} {a m : Nat} (hs : SortedIn lt a m d) : Falls (fun t => !lt p d[t]!) a m := by
  intro s t a b1 c hq
  rcases Nat.lt_or_ge s t with hlt | hge
  · simp only [Bool.not_eq_true'] at hq ⊢
    exact h.ntrans _ _ _ hq (hs s t a hlt c)
  · obtain rfl : s = t := by omega
    exact hq
theorem falls_sym {d : Array α} (h : SWO lt) {a m b p lo hi : Nat} (hU : SortedIn lt a m d) (hV : SortedIn lt m b d) (hlo : a ≤ lo) (hhi : hi ≤ m) (h1 : hi + m ≤ p + 1) (h2 : p < lo + b) : Falls (fun c => !lt d[p - c]! d[c]!) lo hi := by
  intro s t c1 b1 c hq
  rcases Nat.lt_or_ge s t with hlt | hge
  · simp only [Bool.not_eq_true'] at hq ⊢
    refine h.ntrans _ _ _ (hV (p - t) (p - s) (by omega) (by omega) (by omega)) (h.ntrans _ _ _ hq (hU s t (by omega) hlt (by omega)))
  · obtain rfl : s = t := by omega
    exact hq

/-! ### Parts of an array as lists -/
omit [Inhabited α] in
theorem take_mem {U : List α} {k : Nat} {v : α} (h : v ∈ U.take k) : ∃ s, s < k ∧ ∃ hs : s < U.length, U[s] = v := by
  obtain ⟨s, hs, e⟩ := List.mem_iff_getElem.1 h
  rw [List.length_take] at hs
  refine ⟨s, by omega, by omega, ?_⟩
  rw [← e, List.getElem_take]
omit [Inhabited α] in
theorem drop_mem {U : List α} {k : Nat} {v : α} (h : v ∈ U.drop k) : ∃ s, k ≤ s ∧ ∃ hs : s < U.length, U[s] = v := by
  obtain ⟨s, hs, e⟩ := List.mem_iff_getElem.1 h
  rw [List.length_drop] at hs
  refine ⟨k + s, by omega, by omega, ?_⟩
  rw [← e, List.getElem_drop]
theorem sortedIn_of_up {x U y : List α} (h : Up lt U) {a b : Nat} (ha : a = x.length) (hb : b = x.length + U.length) : SortedIn lt a b (x ++ (U ++ y)).toArray := by
  intro i j h1 h2 h3
  have e1 := get_mid (x := x) (U := U) (y := y) (t := i - x.length) (by omega)
  have e2 := get_mid (x := x) (U := U) (y := y) (t := j - x.length) (by omega)
  rw [show x.length + (i - x.length) = i from by omega] at e1
  rw [show x.length + (j - x.length) = j from by omega] at e2
  rw [e1, e2]
  exact List.pairwise_iff_getElem.1 h _ _ _ _ (by omega)
theorem up_of_sortedIn {x U y : List α} (h : SortedIn lt x.length (x.length + U.length) (x ++ (U ++ y)).toArray) : Up lt U := by
  refine List.pairwise_iff_getElem.2 fun i j hi hj hij => ?_
  have := h (x.length + i) (x.length + j) (by omega) (by omega) (by omega)
  rw [get_mid hi, get_mid hj] at this
  exact this
omit [Inhabited α] in
theorem cut3 (d : Array α) {a b : Nat} (h1 : a ≤ b) (h2 : b ≤ d.size) : ∃ x U y : List α, d = (x ++ (U ++ y)).toArray ∧ x.length = a ∧ U.length = b - a := by
  refine ⟨d.toList.take a, (d.toList.drop a).take (b - a), d.toList.drop b, ?_, by simp; omega, by simp; omega⟩
  apply Array.ext'
  rw [List.toList_toArray]
  have : d.toList.drop b = (d.toList.drop a).drop (b - a) := by rw [List.drop_drop]; congr 1; omega
  rw [this, List.take_append_drop, List.take_append_drop]
omit [Inhabited α] in
theorem cut4 (d : Array α) {a m b : Nat} (h0 : a ≤ m) (h1 : m ≤ b) (h2 : b ≤ d.size) : ∃ x U V y : List α, d = (x ++ (U ++ (V ++ y))).toArray ∧ x.length = a ∧ U.length = m - a ∧ V.length = b - m := by
  obtain ⟨x, U, y, e, h3, h4⟩ := cut3 d (a := a) (b := m) h0 (by omega)
  have hs : d.size = x.length + (U.length + y.length) := by rw [e]; simp
  refine ⟨x, U, y.take (b - m), y.drop (b - m), by rw [List.take_append_drop]; exact e, h3, h4, by simp; omega⟩

/-- A part merged. -/
structure Merged (lt : α → α → Bool) (a b : Nat) (d d' : Array α) : Prop where
  size : d'.size = d.size
  steps : Steps lt d.toList d'.toList
  out : ∀ i, i < a ∨ b ≤ i → d'[i]! = d[i]!
  up : SortedIn lt a b d'
omit [Inhabited α] in
theorem steps_len {l l' : List α} (h : Steps lt l l') : l'.length = l.length := h.perm.length_eq.symm
theorem get_out {x U W y : List α} (h : W.length = U.length) {i : Nat} (hi : i < x.length ∨ x.length + U.length ≤ i) : (x ++ (W ++ y)).toArray[i]! = (x ++ (U ++ y)).toArray[i]! := by
  simp only [List.getElem!_toArray, List.getElem!_eq_getElem?_getD]
  congr 1
  rcases hi with hi | hi
  · rw [List.getElem?_append_left hi, List.getElem?_append_left hi]
  · rw [List.getElem?_append_right (by omega), List.getElem?_append_right (by omega), List.getElem?_append_right (by omega), List.getElem?_append_right (by omega), h]
theorem merged_of {x U W y : List α} (hs : Steps lt (x ++ (U ++ y)) (x ++ (W ++ y))) (hW : Up lt W) {a b : Nat} (ha : a = x.length) (hb : b = x.length + U.length) : Merged lt a b (x ++ (U ++ y)).toArray (x ++ (W ++ y)).toArray := by
  have hl : W.length = U.length := by have := steps_len hs; simp at this; omega
  refine ⟨by simp [hl], hs, fun i hi => get_out hl (by omega), sortedIn_of_up hW ha (by omega)⟩
theorem merged_ins (h : SWO lt) {d : Array α} {a b : Nat} (hab : a ≤ b) (hb : b ≤ d.size) : Merged lt a b d (insertionSort lt d a b) := by
  obtain ⟨h1, h2⟩ := insertionSort_holds (lt := lt) h d a b hab hb
  exact ⟨h1.1, steps_ins d a b hb, h1.2.1, h2⟩
theorem sortedIn_keep {a b c e : Nat} {d d' : Array α} (hs : SortedIn lt a b d) (ho : ∀ i, i < c ∨ e ≤ i → d'[i]! = d[i]!) (h : b ≤ c ∨ e ≤ a) : SortedIn lt a b d' := by
  intro i j h1 h2 h3
  rw [ho i (by omega), ho j (by omega)]
  exact hs i j h1 h2 h3

/-! ### Blocks -/
def BlkS (lt : α → α → Bool) (bs n : Nat) (d : Array α) : Prop := ∀ k, SortedIn lt (k * bs) (min (k * bs + bs) n) d
def Ph (lt : α → α → Bool) (bs c : Nat) (d : Array α) : Prop := ∀ k, k < c → SortedIn lt (k * bs) (k * bs + bs) d
def Mid (lt : α → α → Bool) (bs n c : Nat) (d : Array α) : Prop := (∀ k, k < c → SortedIn lt (k * (2 * bs)) (k * (2 * bs) + 2 * bs) d) ∧ (∀ k, 2 * c ≤ k → SortedIn lt (k * bs) (min (k * bs + bs) n) d)
omit [Inhabited α] in
theorem mul_lt {k c bs : Nat} (h : k < c) : k * bs + bs ≤ c * bs := by
  have := Nat.mul_le_mul_right bs (show k + 1 ≤ c from h)
  rwa [Nat.succ_mul] at this
theorem Ph.step {bs c a b : Nat} {d d' : Array α} (h : Ph lt bs c d) (ha : a = c * bs) (hb : b = c * bs + bs) (hm : Merged lt a b d d') : Ph lt bs (c + 1) d' := by
  subst ha hb
  intro k hk
  rcases Nat.lt_or_ge k c with h1 | h1
  · exact sortedIn_keep (h k h1) hm.out (.inl (mul_lt h1))
  · obtain rfl : k = c := by omega
    exact hm.up
theorem Ph.last {bs c a n : Nat} {d d' : Array α} (h : Ph lt bs c d) (ha : a = c * bs) (hn : n < a + bs) (hcn : c * bs ≤ n) (hm : Merged lt a n d d') : BlkS lt bs n d' := by
  subst ha
  intro k
  rcases Nat.lt_trichotomy k c with h1 | rfl | h1
  · have := mul_lt (bs := bs) h1
    rw [Nat.min_eq_left (by omega)]
    exact sortedIn_keep (h k h1) hm.out (.inl this)
  · rw [Nat.min_eq_right (by omega)]
    exact hm.up
  · have := mul_lt (bs := bs) h1
    intro i j a1 a2 a3
    omega
theorem Mid.start {bs n : Nat} {d : Array α} (h : BlkS lt bs n d) : Mid lt bs n 0 d := ⟨fun k hk => by omega, fun k _ => h k⟩
omit [Inhabited α] in
theorem two_mul {c bs : Nat} : c * (2 * bs) = (2 * c) * bs := by rw [← Nat.mul_assoc, Nat.mul_comm c 2]
omit [Inhabited α] in
theorem two_next {c bs : Nat} : (2 * c + 1) * bs = (2 * c) * bs + bs := by rw [Nat.succ_mul]
theorem Mid.step {bs n c a b : Nat} {d d' : Array α} (h : Mid lt bs n c d) (ha : a = c * (2 * bs)) (hb : b = c * (2 * bs) + 2 * bs) (hm : Merged lt a b d d') : Mid lt bs n (c + 1) d' := by
  subst ha hb
  refine ⟨fun k hk => ?_, fun k hk => ?_⟩
  · rcases Nat.lt_or_ge k c with h1 | h1
    · exact sortedIn_keep (h.1 k h1) hm.out (.inl (mul_lt h1))
    · obtain rfl : k = c := by omega
      exact hm.up
  · have h1 := mul_lt (bs := bs) (show 2 * c + 1 < k from by omega)
    have h2 := two_mul (c := c) (bs := bs)
    have h3 := two_next (c := c) (bs := bs)
    exact sortedIn_keep (h.2 k (by omega)) hm.out (.inr (by omega))
/-- The two blocks at the place. -/
theorem Mid.pair {bs n c : Nat} {d : Array α} (h : Mid lt bs n c d) : SortedIn lt (c * (2 * bs)) (min (c * (2 * bs) + bs) n) d ∧ SortedIn lt (c * (2 * bs) + bs) (min (c * (2 * bs) + 2 * bs) n) d := by
  have h2 := two_mul (c := c) (bs := bs)
  have h3 := two_next (c := c) (bs := bs)
  have h4 := h.2 (2 * c) (Nat.le_refl _)
  have h5 := h.2 (2 * c + 1) (by omega)
  rw [h3] at h5
  rw [h2]
  exact ⟨h4, by rw [show 2 * c * bs + 2 * bs = 2 * c * bs + bs + bs from by omega]; exact h5⟩
theorem Mid.ends {bs n c a : Nat} {d d' : Array α} (h : Mid lt bs n c d) (ha : a = c * (2 * bs)) (hn : n < a + 2 * bs) (hm : Merged lt a n d d') : BlkS lt (2 * bs) n d' := by
  subst ha
  intro k
  rcases Nat.lt_trichotomy k c with h1 | rfl | h1
  · have := mul_lt (bs := 2 * bs) h1
    by_cases hcn : c * (2 * bs) ≤ n
    · rw [Nat.min_eq_left (by omega)]
      exact sortedIn_keep (h.1 k h1) hm.out (.inl this)
    · have e : SortedIn lt (k * (2 * bs)) (k * (2 * bs) + 2 * bs) d' := sortedIn_keep (c := c * (2 * bs)) (e := c * (2 * bs)) (h.1 k h1) (fun i hi => hm.out i (by omega)) (.inl this)
      intro i j a1 a2 a3
      exact e i j a1 a2 (by omega)
  · rw [Nat.min_eq_right (by omega)]
    exact hm.up
  · have := mul_lt (bs := 2 * bs) h1
    intro i j a1 a2 a3
    omega
theorem Mid.rest {bs n c a : Nat} {d : Array α} (h : Mid lt bs n c d) (ha : a = c * (2 * bs)) (hn : n ≤ a + bs) : BlkS lt (2 * bs) n d := by
  subst ha
  have hp := h.pair.1
  intro k
  rcases Nat.lt_trichotomy k c with h1 | rfl | h1
  · have := mul_lt (bs := 2 * bs) h1
    intro i j a1 a2 a3
    exact h.1 k h1 i j a1 a2 (by omega)
  · intro i j a1 a2 a3
    exact hp i j a1 a2 (by omega)
  · have := mul_lt (bs := 2 * bs) h1
    intro i j a1 a2 a3
    omega
theorem BlkS.done {bs n : Nat} {d : Array α} (h : BlkS lt bs n d) (hn : n ≤ bs) : SortedIn lt 0 n d := by
  have := h 0
  simp only [Nat.zero_mul, Nat.zero_add] at this
  rwa [Nat.min_eq_right hn] at this
end
end Go.Proofs.YtmeemcafjebanaaGreatDoor
