/- PlainGraham PlainLeast in one text. -/

/- Longest first is nearly best: loads given one by one to who has the least, from the greatest on. Plain lists, no program in sight. -/
namespace Go.Proofs.YtmeemcafjebanaaGreatDoor

/-- What worker k has of some things. -/
def part (f : Nat → Int) (a : Nat → Nat) (k : Nat) (J : List Nat) : Int := ((J.filter fun j => a j == k).map f).sum
def over (m : Nat) (g : Nat → Int) : Int := ((List.range m).map g).sum
theorem part_nil (f : Nat → Int) (a : Nat → Nat) (k : Nat) : part f a k [] = 0 := rfl
theorem part_cons (f : Nat → Int) (a : Nat → Nat) (k j : Nat) (J : List Nat) : part f a k (j :: J) = (if a j = k then f j else 0) + part f a k J := by
  unfold part
  by_cases h : a j = k
  · rw [List.filter_cons_of_pos (by simpa using h), List.map_cons, List.sum_cons, if_pos h]
  · rw [List.filter_cons_of_neg (by simpa using h), if_neg h]; omega
theorem over_zero (g : Nat → Int) : over 0 g = 0 := rfl
theorem over_succ (m : Nat) (g : Nat → Int) : over (m + 1) g = over m g + g m := by simp [over, List.range_succ, List.sum_append]
theorem over_add (m : Nat) (g h : Nat → Int) : over m (fun k => g k + h k) = over m g + over m h := by
  induction m with
  | zero => rfl
  | succ m ih => rw [over_succ, over_succ, over_succ, ih]; omega
theorem over_cg {m : Nat} {g h : Nat → Int} (e : ∀ k, k < m → g k = h k) : over m g = over m h := by
  induction m with
  | zero => rfl
  | succ m ih => rw [over_succ, over_succ, ih fun k hk => e k (by omega), e m (by omega)]
theorem over_one (m c : Nat) (x : Int) : over m (fun k => if c = k then x else 0) = if c < m then x else 0 := by
  induction m with
  | zero => simp [over_zero]
  | succ m ih =>
    rw [over_succ, ih]
    by_cases h : c < m
    · rw [if_pos h, if_neg (by omega), if_pos (by omega)]; omega
    · rw [if_neg h]
      by_cases h2 : c = m
      · rw [if_pos h2, if_pos (by omega)]; omega
      · rw [if_neg h2, if_neg (by omega)]; omega
theorem over_part {m : Nat} (f : Nat → Int) (a : Nat → Nat) : ∀ (J : List Nat), (∀ j ∈ J, a j < m) → over m (fun k => part f a k J) = (J.map f).sum := by
  intro J
  induction J with
  | nil =>
    intro _
    have : ∀ m, over m (fun k => part f a k []) = 0 := by
      intro m
      induction m with
      | zero => rfl
      | succ m ih => rw [over_succ, ih, part_nil]; rfl
    exact this m
  | cons j J ih =>
    intro h
    rw [over_cg (fun k _ => part_cons f a k j J), over_add, over_one, if_pos (h j (List.mem_cons_self ..)), ih fun x hx => h x (List.mem_cons_of_mem _ hx), List.map_cons, List.sum_cons]
theorem over_le {m : Nat} {g : Nat → Int} {c : Int} (h : ∀ k, k < m → g k ≤ c) : over m g ≤ m * c := by
  induction m with
  | zero => simp [over_zero]
  | succ m ih =>
    have := ih fun k hk => h k (by omega)
    have := h m (by omega)
    rw [over_succ, Int.natCast_succ, Int.add_mul]; omega
theorem over_ge {m : Nat} {g : Nat → Int} {c : Int} (h : ∀ k, k < m → c ≤ g k) : m * c ≤ over m g := by
  induction m with
  | zero => simp [over_zero]
  | succ m ih =>
    have := ih fun k hk => h k (by omega)
    have := h m (by omega)
    rw [over_succ, Int.natCast_succ, Int.add_mul]; omega
theorem sum_nonneg {f : Nat → Int} : ∀ {J : List Nat}, (∀ j ∈ J, 0 ≤ f j) → 0 ≤ (J.map f).sum := by
  intro J
  induction J with
  | nil => intro _; simp
  | cons j J ih =>
    intro h
    have := ih fun x hx => h x (List.mem_cons_of_mem _ hx)
    have := h j (List.mem_cons_self ..)
    rw [List.map_cons, List.sum_cons]; omega
theorem part_nonneg {f : Nat → Int} {a : Nat → Nat} {k : Nat} {J : List Nat} (h : ∀ j ∈ J, 0 ≤ f j) : 0 ≤ part f a k J := sum_nonneg fun j hj => h j (List.mem_filter.1 hj).1

/-- What is counted: a thing counts twice if nothing that is as great as p can stand with it. -/
def phi (f : Nat → Int) (p best : Int) (j : Nat) : Int := if best < f j + p then 2 else 1
theorem phi_bd (f : Nat → Int) (p best : Int) (j : Nat) : 1 ≤ phi f p best j ∧ phi f p best j ≤ 2 := by unfold phi; split <;> omega
theorem phi_most {f : Nat → Int} {a : Nat → Nat} {k : Nat} {J : List Nat} {p best : Int} (hp : ∀ j ∈ J, p ≤ f j) (h3 : best < 3 * p) (h0 : 0 ≤ p) (hb : part f a k J ≤ best) : part (phi f p best) a k J ≤ 2 := by
  have hF : ∀ j ∈ J.filter (fun j => a j == k), p ≤ f j := fun j hj => hp j (List.mem_filter.1 hj).1
  unfold part at *
  generalize J.filter (fun j => a j == k) = F at *
  match F, hF, hb with
  | [], _, _ => simp
  | [x], _, _ => have := phi_bd f p best x; simp; omega
  | [x, y], hF, hb =>
    have h1 := hF x (by simp)
    have h2 := hF y (by simp)
    simp only [List.map_cons, List.map_nil, List.sum_cons, List.sum_nil] at hb ⊢
    unfold phi
    rw [if_neg (by omega), if_neg (by omega)]; omega
  | x :: y :: z :: F, hF, hb =>
    have h1 := hF x (by simp)
    have h2 := hF y (by simp)
    have h3 := hF z (by simp)
    have h4 : 0 ≤ (F.map f).sum := sum_nonneg fun j hj => by have := hF j (by simp [hj]); omega
    simp only [List.map_cons, List.sum_cons] at hb
    omega
theorem phi_least {f : Nat → Int} {a : Nat → Nat} {k : Nat} {J : List Nat} {p best L : Int} (hL : best < L + p) (h0 : p ≤ best) (hb : L ≤ part f a k J) : 2 ≤ part (phi f p best) a k J := by
  unfold part at *
  generalize J.filter (fun j => a j == k) = F at *
  match F, hb with
  | [], hb => simp at hb; omega
  | [x], hb =>
    simp only [List.map_cons, List.map_nil, List.sum_cons, List.sum_nil] at hb ⊢
    unfold phi
    rw [if_pos (by omega)]; omega
  | x :: y :: F, _ =>
    have h1 := phi_bd f p best x
    have h2 := phi_bd f p best y
    have h4 : 0 ≤ (F.map (phi f p best)).sum := sum_nonneg fun j _ => by have := phi_bd f p best j; omega
    simp only [List.map_cons, List.sum_cons]
    omega
theorem part_one {f : Nat → Int} {a : Nat → Nat} {k i : Nat} {J : List Nat} (h : ∀ j ∈ J, 0 ≤ f j) (hi : a i = k) : f i ≤ part f a k (i :: J) := by
  rw [part_cons, if_pos hi]
  have := part_nonneg (a := a) (k := k) h
  omega

theorem graham_step {m : Nat} (hm : 1 ≤ m) {f : Nat → Int} {a b : Nat → Nat} {i : Nat} {J : List Nat} {best L : Int} (h0 : 0 ≤ f i) (hp : ∀ j ∈ J, f i ≤ f j) (ha : ∀ j ∈ J, a j < m) (hb : ∀ j ∈ i :: J, b j < m)
    (hL : ∀ k, k < m → L ≤ part f a k J) (hB : ∀ k, k < m → part f b k (i :: J) ≤ best) : 3 * (m * (L + f i)) ≤ (4 * m - 1) * best := by
  have hnn : ∀ j ∈ J, 0 ≤ f j := fun j hj => by have := hp j hj; omega
  have hpb : f i ≤ best := by
    have := part_one (a := b) (i := i) (J := J) hnn rfl
    have := hB (b i) (hb i (List.mem_cons_self ..))
    omega
  have t1 := over_part (m := m) f a J ha
  have t2 := over_part (m := m) f b (i :: J) hb
  rw [List.map_cons, List.sum_cons] at t2
  have e1 : 3 * ((m : Int) * (L + f i)) = 3 * (m * L) + 3 * (m * f i) := by rw [Int.mul_add]; omega
  have e2 : (4 * (m : Int) - 1) * best = 4 * (m * best) - best := by rw [Int.sub_mul, Int.mul_assoc]; omega
  rw [e1, e2]
  obtain ⟨d, rfl⟩ : ∃ d, m = d + 1 := ⟨m - 1, by omega⟩
  have x1 := over_ge hL
  have x2 := over_le hB
  rw [t1] at x1
  rw [t2] at x2
  generalize (J.map f).sum = T at *
  by_cases h3 : 3 * f i ≤ best
  · have x3 : (d : Int) * (3 * f i) ≤ d * best := Int.mul_le_mul_of_nonneg_left h3 (by omega)
    have x4 : (d : Int) * (3 * f i) = 3 * (d * f i) := by rw [Int.mul_left_comm]
    rw [Int.natCast_succ, Int.add_mul] at x1 x2 ⊢
    rw [Int.add_mul, Int.add_mul]
    generalize (d : Int) * f i = X at *
    generalize (d : Int) * best = Y at *
    generalize (d : Int) * L = Z at *
    omega
  · by_cases hc : L + f i ≤ best
    · have x3 : (d : Int) * (L + f i) ≤ d * best := Int.mul_le_mul_of_nonneg_left hc (by omega)
      have x4 : 0 ≤ (d : Int) * best := Int.mul_nonneg (by omega) (by omega)
      rw [Int.mul_add] at x3
      rw [Int.natCast_succ, Int.add_mul, Int.add_mul, Int.add_mul]
      generalize (d : Int) * f i = X at *
      generalize (d : Int) * best = Y at *
      generalize (d : Int) * L = Z at *
      omega
    · have y1 := over_ge (m := d + 1) (c := 2) fun k hk => phi_least (a := a) (J := J) (p := f i) (best := best) (L := L) (by omega) hpb (hL k hk)
      have y2 := over_le (m := d + 1) (c := 2) fun k hk => phi_most (a := b) (J := i :: J) (p := f i) (best := best) (fun j hj => by
        rcases List.mem_cons.1 hj with rfl | hj
        · exact Int.le_refl _
        · exact hp j hj) (by omega) h0 (hB k hk)
      rw [over_part _ _ _ ha] at y1
      rw [over_part _ _ _ hb, List.map_cons, List.sum_cons] at y2
      have := phi_bd f (f i) best i
      omega

/-- Given one by one (the newest ahead): each to one who has the least. -/
inductive Given (f : Nat → Int) (m : Nat) (a : Nat → Nat) : List Nat → Prop
  | nil : Given f m a []
  | cons {i : Nat} {J : List Nat} : Given f m a J → a i < m → (∀ k, k < m → part f a (a i) J ≤ part f a k J) → Given f m a (i :: J)
theorem Given.lt {f : Nat → Int} {m : Nat} {a : Nat → Nat} {J : List Nat} (h : Given f m a J) : ∀ j ∈ J, a j < m := by
  induction h with
  | nil => exact fun j hj => by cases hj
  | cons _ h1 _ ih =>
    intro j hj
    rcases List.mem_cons.1 hj with rfl | hj
    · exact h1
    · exact ih j hj
theorem part_cg {f : Nat → Int} {a a' : Nat → Nat} {k : Nat} : ∀ {J : List Nat}, (∀ j ∈ J, a j = a' j) → part f a k J = part f a' k J := by
  intro J
  induction J with
  | nil => intro _; rfl
  | cons j J ih => intro h; rw [part_cons, part_cons, h j (List.mem_cons_self ..), ih fun x hx => h x (List.mem_cons_of_mem _ hx)]
theorem Given.cg {f : Nat → Int} {m : Nat} {a a' : Nat → Nat} {J : List Nat} (h : Given f m a J) (e : ∀ j ∈ J, a j = a' j) : Given f m a' J := by
  induction h with
  | nil => exact .nil
  | @cons i J h0 h1 h2 ih =>
    have e1 : ∀ j ∈ J, a j = a' j := fun x hx => e x (List.mem_cons_of_mem _ hx)
    have e2 := e i (List.mem_cons_self ..)
    refine .cons (ih e1) (by rw [← e2]; exact h1) fun k hk => ?_
    rw [← e2, ← part_cg (f := f) (k := a i) e1, ← part_cg (f := f) (k := k) e1]
    exact h2 k hk
theorem part_perm {f : Nat → Int} {a : Nat → Nat} {k : Nat} {J J' : List Nat} (h : J.Perm J') : part f a k J = part f a k J' := by
  induction h with
  | nil => rfl
  | cons x _ ih => rw [part_cons, part_cons, ih]
  | swap x y l => rw [part_cons, part_cons, part_cons, part_cons]; omega
  | trans _ _ h k => exact h.trans k
theorem graham {m : Nat} (hm : 1 ≤ m) {f : Nat → Int} {a b : Nat → Nat} {J : List Nat} (h : Given f m a J) {best : Int} (hbest : 0 ≤ best) : (∀ j ∈ J, 0 ≤ f j) → J.Pairwise (fun x y => f x ≤ f y) → (∀ j ∈ J, b j < m) →
    (∀ k, k < m → part f b k J ≤ best) → ∀ k, k < m → 3 * (m * part f a k J) ≤ (4 * m - 1) * best := by
  induction h with
  | nil =>
    intro _ _ _ _ k _
    rw [part_nil, Int.mul_zero, Int.mul_zero]
    exact Int.mul_nonneg (by omega) hbest
  | @cons i J h0 h1 h2 ih =>
    intro hf hs hb hB k hk
    have hs' := List.pairwise_cons.1 hs
    have hnn : 0 ≤ f i := hf i (List.mem_cons_self ..)
    rw [part_cons]
    by_cases hik : a i = k
    · rw [if_pos hik, Int.add_comm]
      exact graham_step hm hnn hs'.1 h0.lt hb (fun k' hk' => by rw [← hik]; exact h2 k' hk') hB
    · rw [if_neg hik, Int.zero_add]
      refine ih (fun j hj => hf j (List.mem_cons_of_mem _ hj)) hs'.2 (fun j hj => hb j (List.mem_cons_of_mem _ hj)) (fun k' hk' => ?_) k hk
      have := hB k' hk'
      rw [part_cons] at this
      split at this <;> omega
end Go.Proofs.YtmeemcafjebanaaGreatDoor

/- Loads given one by one to who has the least. Plain lists, no program in sight. -/
namespace Go.Proofs.YtmeemcafjebanaaGreatDoor

theorem snoc_ind {α : Type} {P : List α → Prop} (nil : P []) (snoc : ∀ l a, P l → P (l ++ [a])) (l : List α) : P l := by
  have h : ∀ l : List α, P l.reverse := by
    intro l
    induction l with
    | nil => exact nil
    | cons a l ih => rw [List.reverse_cons]; exact snoc _ _ ih
  have := h l.reverse
  rwa [List.reverse_reverse] at this
def atD (l : List Int) (i : Nat) : Int := l[i]?.getD 0
/-- The first who has the least. -/
def leastTo (s : List Int) : Nat → Nat
  | 0 => 0
  | i + 1 => if atD s i < atD s (leastTo s i) then i else leastTo s i
def leastAt (s : List Int) : Nat := leastTo s s.length
structure IsLeast (s : List Int) (n k : Nat) : Prop where
  lt : k < n
  le : ∀ j, j < n → atD s k ≤ atD s j
  first : ∀ j, j < k → atD s k < atD s j
theorem IsLeast.unique {s : List Int} {n k k' : Nat} (h : IsLeast s n k) (h' : IsLeast s n k') : k = k' := by
  rcases Nat.lt_trichotomy k k' with e | e | e
  · have := h'.first k e; have := h.le k' h'.lt; omega
  · exact e
  · have := h.first k' e; have := h'.le k h.lt; omega
theorem IsLeast.step {s : List Int} {n k : Nat} (h : IsLeast s n k) : IsLeast s (n + 1) (if atD s n < atD s k then n else k) := by
  split
  · rename_i hl
    refine ⟨by omega, fun j hj => ?_, fun j hj => ?_⟩
    · rcases Nat.lt_or_ge j n with e | e
      · have := h.le j e; omega
      · obtain rfl : j = n := by omega
        exact Int.le_refl _
    · have := h.le j hj; omega
  · refine ⟨by have := h.lt; omega, fun j hj => ?_, h.first⟩
    rcases Nat.lt_or_ge j n with e | e
    · exact h.le j e
    · obtain rfl : j = n := by omega
      omega
theorem isLeast_one (s : List Int) : IsLeast s 1 0 := by
  refine ⟨by omega, fun j hj => ?_, fun j hj => by omega⟩
  obtain rfl : j = 0 := by omega
  exact Int.le_refl _
theorem leastTo_is (s : List Int) : ∀ n, 0 < n → IsLeast s n (leastTo s n) := by
  intro n
  induction n with
  | zero => intro h; omega
  | succ n ih =>
    intro _
    rcases Nat.eq_zero_or_pos n with rfl | hn
    · have : leastTo s (0 + 1) = 0 := by rw [leastTo, leastTo, if_neg (by omega)]
      rw [this]; exact isLeast_one s
    · exact (ih hn).step
theorem leastAt_is {s : List Int} (h : 0 < s.length) : IsLeast s s.length (leastAt s) := leastTo_is s _ h

def give (l : List Int) (st : List Int × List Int) (i : Nat) : List Int × List Int :=
  (st.1.set (leastAt st.1) (atD st.1 (leastAt st.1) + atD l i), st.2.set i (leastAt st.1 : Nat))
def gives (l : List Int) (m : Nat) (ord : List Nat) : List Int × List Int := ord.foldl (give l) (List.replicate m 0, List.replicate l.length 0)
theorem gives_snoc (l : List Int) (m : Nat) (ord : List Nat) (i : Nat) : gives l m (ord ++ [i]) = give l (gives l m ord) i := by rw [gives, List.foldl_append]; rfl
theorem gives_take {l : List Int} {m : Nat} {ord : List Nat} {k i : Nat} (h : ord[k]? = some i) : gives l m (ord.take (k + 1)) = give l (gives l m (ord.take k)) i := by
  rw [List.take_add_one, h]; exact gives_snoc l m _ i
theorem gives_len (l : List Int) (m : Nat) : ∀ (ord : List Nat), (gives l m ord).1.length = m ∧ (gives l m ord).2.length = l.length := by
  intro ord
  induction ord using snoc_ind with
  | nil => simp [gives]
  | snoc ord i ih => rw [gives_snoc]; simp [give, ih.1, ih.2]
theorem atD_set (s : List Int) (k : Nat) (x : Int) (j : Nat) (hk : k < s.length) : atD (s.set k x) j = if k = j then x else atD s j := by
  unfold atD
  by_cases h : k = j
  · subst h; rw [if_pos rfl, List.getElem?_set_self hk]; rfl
  · rw [if_neg h, List.getElem?_set_ne h]
/-- What is ahead. -/
def aheadL (l : List Int) (i j : Nat) : Prop := atD l j < atD l i ∨ (atD l i = atD l j ∧ i < j)
structure OrdOf (l : List Int) (ord : List Nat) : Prop where
  perm : ord.Perm (List.range l.length)
  pw : ord.Pairwise (aheadL l)
theorem OrdOf.lt {l : List Int} {ord : List Nat} (h : OrdOf l ord) : ∀ i ∈ ord, i < l.length := fun _ hi => List.mem_range.1 (h.perm.subset hi)
theorem OrdOf.nodup {l : List Int} {ord : List Nat} (h : OrdOf l ord) : ord.Nodup := h.perm.nodup_iff.2 List.nodup_range
theorem OrdOf.len {l : List Int} {ord : List Nat} (h : OrdOf l ord) : ord.length = l.length := by rw [h.perm.length_eq, List.length_range]
/-- Who has a thing, of an answer. -/
def whoOf (out : List Int) (i : Nat) : Nat := (atD out i).toNat
theorem gives_given {l : List Int} {m : Nat} (hm : 0 < m) : ∀ (ord : List Nat), ord.Nodup → (∀ i ∈ ord, i < l.length) →
    Given (atD l) m (whoOf (gives l m ord).2) ord.reverse ∧ (∀ k, k < m → atD (gives l m ord).1 k = part (atD l) (whoOf (gives l m ord).2) k ord.reverse) ∧ ∀ i ∈ ord, 0 ≤ atD (gives l m ord).2 i ∧ atD (gives l m ord).2 i < m := by
  intro ord
  induction ord using snoc_ind with
  | nil =>
    intro _ _
    refine ⟨.nil, fun k hk => ?_, fun i hi => by cases hi⟩
    rw [List.reverse_nil, part_nil]
    show (List.replicate m (0 : Int))[k]?.getD 0 = 0
    rw [List.getElem?_replicate, if_pos hk]; rfl
  | snoc ord i ih =>
    intro hn hl
    have hn' := List.nodup_append.1 hn
    obtain ⟨h1, h2, h3⟩ := ih hn'.1 fun x hx => hl x (List.mem_append_left _ hx)
    have hi := hl i (by simp)
    obtain ⟨e1, e2⟩ := gives_len l m ord
    have hL := leastAt_is (s := (gives l m ord).1) (by omega)
    rw [e1] at hL
    have hcg : ∀ j ∈ ord.reverse, whoOf (gives l m ord).2 j = whoOf (gives l m (ord ++ [i])).2 j := by
      intro j hj
      have hne : i ≠ j := fun e => by
        subst e
        exact hn'.2.2 i (List.mem_reverse.1 hj) i (by simp) rfl
      rw [gives_snoc, give, whoOf, whoOf, atD_set _ _ _ _ (by omega), if_neg hne]
    have hwi : whoOf (gives l m (ord ++ [i])).2 i = leastAt (gives l m ord).1 := by
      rw [gives_snoc, give, whoOf, atD_set _ _ _ _ (by omega), if_pos rfl]; omega
    rw [List.reverse_append]
    have hr : [i].reverse ++ ord.reverse = i :: ord.reverse := rfl
    rw [hr]
    refine ⟨.cons (h1.cg hcg) (by rw [hwi]; exact hL.lt) fun k hk => ?_, fun k hk => ?_, fun j hj => ?_⟩
    · rw [hwi, ← part_cg hcg, ← part_cg hcg, ← h2 _ hL.lt, ← h2 k hk]
      exact hL.le k hk
    · rw [part_cons, hwi, ← part_cg hcg, ← h2 k hk, gives_snoc, give, atD_set _ _ _ _ (by have := hL.lt; omega)]
      split
      · rename_i e; rw [e]; omega
      · omega
    · rw [gives_snoc, give, atD_set _ _ _ _ (by omega)]
      split
      · have := hL.lt; omega
      · rename_i hne
        rcases List.mem_append.1 hj with hj | hj
        · exact h3 j hj
        · exact absurd (List.mem_singleton.1 hj).symm hne
theorem gives_bd {l : List Int} {m : Nat} (hm : 0 < m) (hl : ∀ x ∈ l, 0 ≤ x ∧ x ≤ 1000000) : ∀ (ord : List Nat) (k : Nat), 0 ≤ atD (gives l m ord).1 k ∧ atD (gives l m ord).1 k ≤ 1000000 * ord.length := by
  have ha : ∀ i, 0 ≤ atD l i ∧ atD l i ≤ 1000000 := by
    intro i
    unfold atD
    rcases hi : l[i]? with _ | x
    · exact ⟨by simp, by simp⟩
    · exact hl x (List.mem_of_getElem? hi)
  intro ord
  induction ord using snoc_ind with
  | nil =>
    intro k
    have : atD (gives l m []).1 k = 0 := by
      show (List.replicate m (0 : Int))[k]?.getD 0 = 0
      rw [List.getElem?_replicate]; split <;> rfl
    rw [this]; simp
  | snoc ord i ih =>
    intro k
    obtain ⟨e1, e2⟩ := gives_len l m ord
    have hL := leastAt_is (s := (gives l m ord).1) (by omega)
    have h1 := ih k
    have h2 := ih (leastAt (gives l m ord).1)
    have h3 := ha i
    rw [gives_snoc, give, atD_set _ _ _ _ hL.lt, List.length_append, List.length_singleton]
    split <;> omega
/-- What is written once stays. -/
theorem gives_at {l : List Int} {m : Nat} : ∀ (ord : List Nat) (r i : Nat), ord.Nodup → (∀ j ∈ ord, j < l.length) → ord[r]? = some i → atD (gives l m ord).2 i = (leastAt (gives l m (ord.take r)).1 : Nat) := by
  intro ord
  induction ord using snoc_ind with
  | nil => intro r i _ _ h; simp at h
  | snoc ord j ih =>
    intro r i hn hl h
    have hn' := List.nodup_append.1 hn
    obtain ⟨e1, e2⟩ := gives_len l m ord
    have hj := hl j (by simp)
    rcases Nat.lt_or_ge r ord.length with hr | hr
    · rw [List.getElem?_append_left hr] at h
      rw [List.take_append_of_le_length (by omega), ← ih r i hn'.1 (fun x hx => hl x (List.mem_append_left _ hx)) h, gives_snoc, give, atD_set _ _ _ _ (by omega), if_neg]
      intro e
      subst e
      exact hn'.2.2 j (List.mem_of_getElem? h) j (by simp) rfl
    · rw [List.getElem?_append_right hr] at h
      have hr0 : r - ord.length = 0 := by
        have := (List.getElem?_eq_some_iff.1 h).1
        simpa using this
      rw [hr0] at h
      obtain rfl : j = i := by simpa using h
      obtain rfl : r = ord.length := by omega
      rw [List.take_left', gives_snoc, give, atD_set _ _ _ _ (by omega), if_pos rfl]
      rfl
/-- The greatest that is left, of what is done so far. -/
theorem OrdOf.best {l : List Int} {ord : List Nat} (h : OrdOf l ord) {r i : Nat} (hi : ord[r]? = some i) {j : Nat} (hj : j < l.length) (hd : j ∉ ord.take r) : j = i ∨ aheadL l i j := by
  have hm : j ∈ ord := h.perm.symm.subset (List.mem_range.2 hj)
  obtain ⟨q, hq, rfl⟩ := List.mem_iff_getElem.1 hm
  obtain ⟨hr, rfl⟩ := List.getElem?_eq_some_iff.1 hi
  rcases Nat.lt_trichotomy q r with e | e | e
  · exact absurd (List.mem_take_iff_getElem.2 ⟨q, by omega, rfl⟩) hd
  · subst e; exact .inl rfl
  · exact .inr (List.pairwise_iff_getElem.1 h.pw r q hr hq e)
theorem aheadL_irrefl {l : List Int} {i : Nat} (h : aheadL l i i) : False := by
  rcases h with h | h <;> omega
theorem aheadL_asymm {l : List Int} {i j : Nat} (h : aheadL l i j) (k : aheadL l j i) : False := by
  rcases h with h | h <;> rcases k with k | k <;> omega

/-! ### Graham's bound at an answer -/
theorem gives_graham {l : List Int} {m : Nat} (hm : 1 ≤ m) (hl : ∀ x ∈ l, 0 ≤ x) {ord : List Nat} (ho : OrdOf l ord) {b : Nat → Nat} (hb : ∀ j, j < l.length → b j < m) {best : Int} (h0 : 0 ≤ best)
    (hB : ∀ k, k < m → part (atD l) b k (List.range l.length) ≤ best) : ∀ k, k < m → 3 * (m * part (atD l) (whoOf (gives l m ord).2) k (List.range l.length)) ≤ (4 * m - 1) * best := by
  intro k hk
  have hg := (gives_given (l := l) (m := m) (by omega) ord ho.nodup ho.lt).1
  have hp : ord.reverse.Perm (List.range l.length) := (List.reverse_perm ord).trans ho.perm
  rw [← part_perm hp]
  have ha : ∀ i, 0 ≤ atD l i := by
    intro i
    unfold atD
    rcases hi : l[i]? with _ | x
    · simp
    · exact hl x (List.mem_of_getElem? hi)
  refine graham hm hg h0 (fun j _ => ha j) ?_ (fun j hj => hb j (ho.lt j (List.mem_reverse.1 hj))) (fun k' hk' => by rw [part_perm hp]; exact hB k' hk') k hk
  rw [List.pairwise_reverse]
  refine ho.pw.imp fun {x y} hxy => ?_
  rcases hxy with e | e <;> omega
end Go.Proofs.YtmeemcafjebanaaGreatDoor
