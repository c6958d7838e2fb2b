/- Loads given one by one to who has the least. Plain lists, no program in sight. -/
import Derived.Test.YtelailhghhjleaaDoorPlainGraham
namespace Go.Proofs.YtelailhghhjleaaDoor

theorem snoc_ind {α : Type} {P : List α → Prop} (nil : P []) (snoc : ∀ l a, P l → P (l ++ [a])) (l : List α) : P l := by
  have h : ∀ l : List α, P l.reverse := by
    intro l
    induction l with
    | nil => exact nil
    | cons a l ih => rw [List.reverse_cons]; exact snoc _ _ ih
  have := h l.reverse
  rwa [List.reverse_reverse] at this
def atD (l : List Int) (i : Nat) : Int := l[i]?.getD 0
/-- The first who has the least. -/
def leastTo (s : List Int) : Nat → Nat
  | 0 => 0
  | i + 1 => if atD s i < atD s (leastTo s i) then i else leastTo s i
def leastAt (s : List Int) : Nat := leastTo s s.length
structure IsLeast (s : List Int) (n k : Nat) : Prop where
  lt : k < n
  le : ∀ j, j < n → atD s k ≤ atD s j
  first : ∀ j, j < k → atD s k < atD s j
theorem IsLeast.unique {s : List Int} {n k k' : Nat} (h : IsLeast s n k) (h' : IsLeast s n k') : k = k' := by
  rcases Nat.lt_trichotomy k k' with e | e | e
  · have := h'.first k e; have := h.le k' h'.lt; omega
  · exact e
  · have := h.first k' e; have := h'.le k h.lt; omega
theorem IsLeast.step {s : List Int} {n k : Nat} (h : IsLeast s n k) : IsLeast s (n + 1) (if atD s n < atD s k then n else k) := by
  split
  · rename_i hl
    refine ⟨by omega, fun j hj => ?_, fun j hj => ?_⟩
    · rcases Nat.lt_or_ge j n with e | e
      · have := h.le j e; omega
      · obtain rfl : j = n := by omega
        exact Int.le_refl _
    · have := h.le j hj; omega
  · refine ⟨by have := h.lt; omega, fun j hj => ?_, h.first⟩
    rcases Nat.lt_or_ge j n with e | e
    · exact h.le j e
    · obtain rfl : j = n := by omega
      omega
theorem isLeast_one (s : List Int) : IsLeast s 1 0 := by
  refine ⟨by omega, fun j hj => ?_, fun j hj => by omega⟩
  obtain rfl : j = 0 := by omega
  exact Int.le_refl _
theorem leastTo_is (s : List Int) : ∀ n, 0 < n → IsLeast s n (leastTo s n) := by
  intro n
  induction n with
  | zero => intro h; omega
  | succ n ih =>
    intro _
    rcases Nat.eq_zero_or_pos n with rfl | hn
    · have : leastTo s (0 + 1) = 0 := by rw [leastTo, leastTo, if_neg (by omega)]
      rw [this]; exact isLeast_one s
    · exact (ih hn).step
theorem leastAt_is {s : List Int} (h : 0 < s.length) : IsLeast s s.length (leastAt s) := leastTo_is s _ h

def give (l : List Int) (st : List Int × List Int) (i : Nat) : List Int × List Int :=
  (st.1.set (leastAt st.1) (atD st.1 (leastAt st.1) + atD l i), st.2.set i (leastAt st.1 : Nat))
def gives (l : List Int) (m : Nat) (ord : List Nat) : List Int × List Int := ord.foldl (give l) (List.replicate m 0, List.replicate l.length 0)
theorem gives_snoc (l : List Int) (m : Nat) (ord : List Nat) (i : Nat) : gives l m (ord ++ [i]) = give l (gives l m ord) i := by rw [gives, List.foldl_append]; rfl
theorem gives_take {l : List Int} {m : Nat} {ord : List Nat} {k i : Nat} (h : ord[k]? = some i) : gives l m (ord.take (k + 1)) = give l (gives l m (ord.take k)) i := by
  rw [List.take_add_one, h]; exact gives_snoc l m _ i
theorem gives_len (l : List Int) (m : Nat) : ∀ (ord : List Nat), (gives l m ord).1.length = m ∧ (gives l m ord).2.length = l.length := by
  intro ord
  induction ord using snoc_ind with
  | nil => simp [gives]
  | snoc ord i ih => rw [gives_snoc]; simp [give, ih.1, ih.2]
theorem atD_set (s : List Int) (k : Nat) (x : Int) (j : Nat) (hk : k < s.length) : atD (s.set k x) j = if k = j then x else atD s j := by
  unfold atD
  by_cases h : k = j
  · subst h; rw [if_pos rfl, List.getElem?_set_self hk]; rfl
  · rw [if_neg h, List.getElem?_set_ne h]
/-- What is ahead. -/
def aheadL (l : List Int) (i j : Nat) : Prop := atD l j < atD l i ∨ (atD l i = atD l j ∧ i < j)
structure OrdOf (l : List Int) (ord : List Nat) : Prop where
  perm : ord.Perm (List.range l.length)
  pw : ord.Pairwise (aheadL l)
theorem OrdOf.lt {l : List Int} {ord : List Nat} (h : OrdOf l ord) : ∀ i ∈ ord, i < l.length := fun _ hi => List.mem_range.1 (h.perm.subset hi)
theorem OrdOf.nodup {l : List Int} {ord : List Nat} (h : OrdOf l ord) : ord.Nodup := h.perm.nodup_iff.2 List.nodup_range
theorem OrdOf.len {l : List Int} {ord : List Nat} (h : OrdOf l ord) : ord.length = l.length := by rw [h.perm.length_eq, List.length_range]
/-- Who has a thing, of an answer. -/
def whoOf (out : List Int) (i : Nat) : Nat := (atD out i).toNat
theorem gives_given {l : List Int} {m : Nat} (hm : 0 < m) : ∀ (ord : List Nat), ord.Nodup → (∀ i ∈ ord, i < l.length) →
    Given (atD l) m (whoOf (gives l m ord).2) ord.reverse ∧ (∀ k, k < m → atD (gives l m ord).1 k = part (atD l) (whoOf (gives l m ord).2) k ord.reverse) ∧ ∀ i ∈ ord, 0 ≤ atD (gives l m ord).2 i ∧ atD (gives l m ord).2 i < m := by
  intro ord
  induction ord using snoc_ind with
  | nil =>
    intro _ _
    refine ⟨.nil, fun k hk => ?_, fun i hi => by cases hi⟩
    rw [List.reverse_nil, part_nil]
    show (List.replicate m (0 : Int))[k]?.getD 0 = 0
    rw [List.getElem?_replicate, if_pos hk]; rfl
  | snoc ord i ih =>
    intro hn hl
    have hn' := List.nodup_append.1 hn
    obtain ⟨h1, h2, h3⟩ := ih hn'.1 fun x hx => hl x (List.mem_append_left _ hx)
    have hi := hl i (by simp)
    obtain ⟨e1, e2⟩ := gives_len l m ord
    have hL := leastAt_is (s := (gives l m ord).1) (by omega)
    rw [e1] at hL
    have hcg : ∀ j ∈ ord.reverse, whoOf (gives l m ord).2 j = whoOf (gives l m (ord ++ [i])).2 j := by
      intro j hj
      have hne : i ≠ j := fun e => by
        subst e
        exact hn'.2.2 i (List.mem_reverse.1 hj) i (by simp) rfl
      rw [gives_snoc, give, whoOf, whoOf, atD_set _ _ _ _ (by omega), if_neg hne]
    have hwi : whoOf (gives l m (ord ++ [i])).2 i = leastAt (gives l m ord).1 := by
      rw [gives_snoc, give, whoOf, atD_set _ _ _ _ (by omega), if_pos rfl]; omega
    rw [List.reverse_append]
    have hr : [i].reverse ++ ord.reverse = i :: ord.reverse := rfl
    rw [hr]
    refine ⟨.cons (h1.cg hcg) (by rw [hwi]; exact hL.lt) fun k hk => ?_, fun k hk => ?_, fun j hj => ?_⟩
    · rw [hwi, ← part_cg hcg, ← part_cg hcg, ← h2 _ hL.lt, ← h2 k hk]
      exact hL.le k hk
    · rw [part_cons, hwi, ← part_cg hcg, ← h2 k hk, gives_snoc, give, atD_set _ _ _ _ (by have := hL.lt; omega)]
      split
      · rename_i e; rw [e]; omega
      · omega
    · rw [gives_snoc, give, atD_set _ _ _ _ (by omega)]
      split
      · have := hL.lt; omega
      · rename_i hne
        rcases List.mem_append.1 hj with hj | hj
        · exact h3 j hj
        · exact absurd (List.mem_singleton.1 hj).symm hne
theorem gives_bd {l : List Int} {m : Nat} (hm : 0 < m) (hl : ∀ x ∈ l, 0 ≤ x ∧ x ≤ 1000000) : ∀ (ord : List Nat) (k : Nat), 0 ≤ atD (gives l m ord).1 k ∧ atD (gives l m ord).1 k ≤ 1000000 * ord.length := by
  have ha : ∀ i, 0 ≤ atD l i ∧ atD l i ≤ 1000000 := by
    intro i
    unfold atD
    rcases hi : l[i]? with _ | x
    · exact ⟨by simp, by simp⟩
    · exact hl x (List.mem_of_getElem? hi)
  intro ord
  induction ord using snoc_ind with
  | nil =>
    intro k
    have : atD (gives l m []).1 k = 0 := by
      show (List.replicate m (0 : Int))[k]?.getD 0 = 0
      rw [List.getElem?_replicate]; split <;> rfl
    rw [this]; simp
  | snoc ord i ih =>
    intro k
    obtain ⟨e1, e2⟩ := gives_len l m ord
    have hL := leastAt_is (s := (gives l m ord).1) (by omega)
    have h1 := ih k
    have h2 := ih (leastAt (gives l m ord).1)
    have h3 := ha i
    rw [gives_snoc, give, atD_set _ _ _ _ hL.lt, List.length_append, List.length_singleton]
    split <;> omega
/-- What is written once stays. -/
theorem gives_at {l : List Int} {m : Nat} : ∀ (ord : List Nat) (r i : Nat), ord.Nodup → (∀ j ∈ ord, j < l.length) → ord[r]? = some i → atD (gives l m ord).2 i = (leastAt (gives l m (ord.take r)).1 : Nat) := by
  intro ord
  induction ord using snoc_ind with
  | nil => intro r i _ _ h; simp at h
  | snoc ord j ih =>
    intro r i hn hl h
    have hn' := List.nodup_append.1 hn
    obtain ⟨e1, e2⟩ := gives_len l m ord
    have hj := hl j (by simp)
    rcases Nat.lt_or_ge r ord.length with hr | hr
    · rw [List.getElem?_append_left hr] at h
      rw [List.take_append_of_le_length (by omega), ← ih r i hn'.1 (fun x hx => hl x (List.mem_append_left _ hx)) h, gives_snoc, give, atD_set _ _ _ _ (by omega), if_neg]
      intro e
      subst e
      exact hn'.2.2 j (List.mem_of_getElem? h) j (by simp) rfl
    · rw [List.getElem?_append_right hr] at h
      have hr0 : r - ord.length = 0 := by
        have := (List.getElem?_eq_some_iff.1 h).1
        simpa using this
      rw [hr0] at h
      obtain rfl : j = i := by simpa using h
      obtain rfl : r = ord.length := by omega
      rw [List.take_left', gives_snoc, give, atD_set _ _ _ _ (by omega), if_pos rfl]
      rfl
/-- The greatest that is left, of what is done so far. -/
theorem OrdOf.best {l : List Int} {ord : List Nat} (h : OrdOf l ord) {r i : Nat} (hi : ord[r]? = some i) {j : Nat} (hj : j < l.length) (hd : j ∉ ord.take r) : j = i ∨ aheadL l i j := by
  have hm : j ∈ ord := h.perm.symm.subset (List.mem_range.2 hj)
  obtain ⟨q, hq, rfl⟩ := List.mem_iff_getElem.1 hm
  obtain ⟨hr, rfl⟩ := List.getElem?_eq_some_iff.1 hi
  rcases Nat.lt_trichotomy q r with e | e | e
  · exact absurd (List.mem_take_iff_getElem.2 ⟨q, by omega, rfl⟩) hd
  · subst e; exact .inl rfl
  · exact .inr (List.pairwise_iff_getElem.1 h.pw r q hr hq e)
theorem aheadL_irrefl {l : List Int} {i : Nat} (h : aheadL l i i) : False := by
  rcases h with h | h <;> omega
theorem aheadL_asymm {l : List Int} {i j : Nat} (h : aheadL l i j) (k : aheadL l j i) : False := by
  rcases h with h | h <;> rcases k with k | k <;> omega

/-! ### Graham's bound at an answer -/
theorem gives_graham {l : List Int} {m : Nat} (hm : 1 ≤ m) (hl : ∀ x ∈ l, 0 ≤ x) {ord : List Nat} (ho : OrdOf l ord) {b : Nat → Nat} (hb : ∀ j, j < l.length → b j < m) {best : Int} (h0 : 0 ≤ best)
    (hB : ∀ k, k < m → part (atD l) b k (List.range l.length) ≤ best) : ∀ k, k < m → 3 * (m * part (atD l) (whoOf (gives l m ord).2) k (List.range l.length)) ≤ (4 * m - 1) * best := by
  intro k hk
  have hg := (gives_given (l := l) (m := m) (by omega) ord ho.nodup ho.lt).1
  have hp : ord.reverse.Perm (List.range l.length) := (List.reverse_perm ord).trans ho.perm
  rw [← part_perm hp]
  have ha : ∀ i, 0 ≤ atD l i := by
    intro i
    unfold atD
    rcases hi : l[i]? with _ | x
    · simp
    · exact hl x (List.mem_of_getElem? hi)
  refine graham hm hg h0 (fun j _ => ha j) ?_ (fun j hj => hb j (ho.lt j (List.mem_reverse.1 hj))) (fun k' hk' => by rw [part_perm hp]; exact hB k' hk') k hk
  rw [List.pairwise_reverse]
  refine ho.pw.imp fun {x y} hxy => ?_
  rcases hxy with e | e <;> omega
end Go.Proofs.YtelailhghhjleaaDoor
