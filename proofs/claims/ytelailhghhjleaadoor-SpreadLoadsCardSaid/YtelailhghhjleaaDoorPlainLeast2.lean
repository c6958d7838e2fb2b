/- What the laws of the loads compute on their own: the first greatest that is left, sums by who has what, the greatest sum. No program in sight. -/
import Derived.Test.YtelailhghhjleaaDoorPlainLeast
namespace Go.Proofs.YtelailhghhjleaaDoor

/-- The first greatest of those below k that are not done. -/
def bestTo (d : List Nat) (l : List Int) : Nat → Int
  | 0 => -1
  | k + 1 => if k ∉ d ∧ (bestTo d l k < 0 ∨ atD l (bestTo d l k).toNat < atD l k) then k else bestTo d l k
theorem bestTo_is (d : List Nat) (l : List Int) : ∀ k, (bestTo d l k = -1 ∧ ∀ j, j < k → j ∈ d) ∨ ∃ a : Nat, bestTo d l k = a ∧ a < k ∧ a ∉ d ∧ ∀ j, j < k → j ∉ d → j = a ∨ aheadL l a j := by
  intro k
  induction k with
  | zero => exact .inl ⟨rfl, fun j hj => by omega⟩
  | succ k ih =>
    rw [bestTo]
    split
    · rename_i h
      refine .inr ⟨k, rfl, by omega, h.1, fun j hj hd => ?_⟩
      rcases Nat.lt_or_ge j k with e | e
      · rcases ih with ⟨_, ih⟩ | ⟨a, e1, h1, h2, h3⟩
        · exact absurd (ih j e) hd
        · have hlt : atD l a < atD l k := by
            rcases h.2 with q | q
            · rw [e1] at q; omega
            · rw [e1] at q; simpa using q
          right
          rcases h3 j e hd with rfl | h4
          · exact .inl hlt
          · refine .inl ?_
            rcases h4 with h4 | h4 <;> omega
      · left; omega
    · rename_i h
      rcases ih with ⟨e1, ih⟩ | ⟨a, e1, h1, h2, h3⟩
      · refine .inl ⟨e1, fun j hj => ?_⟩
        rcases Nat.lt_or_ge j k with e | e
        · exact ih j e
        · obtain rfl : j = k := by omega
          exact Classical.byContradiction fun hd => h ⟨hd, .inl (by omega)⟩
      · refine .inr ⟨a, e1, by omega, h2, fun j hj hd => ?_⟩
        rcases Nat.lt_or_ge j k with e | e
        · exact h3 j e hd
        · obtain rfl : j = k := by omega
          have hn : ¬ atD l a < atD l j := fun q => h ⟨hd, .inr (by rw [e1]; simpa using q)⟩
          right
          unfold aheadL
          omega
theorem bestTo_lt (d : List Nat) (l : List Int) (k : Nat) : -1 ≤ bestTo d l k ∧ bestTo d l k < k := by
  rcases bestTo_is d l k with ⟨h, _⟩ | ⟨a, h, h1, _⟩ <;> omega
theorem OrdOf.out {l : List Int} {ord : List Nat} (h : OrdOf l ord) {r i : Nat} (hi : ord[r]? = some i) : i ∉ ord.take r := by
  intro hm
  obtain ⟨q, hq, e⟩ := List.mem_take_iff_getElem.1 hm
  obtain ⟨hr, rfl⟩ := List.getElem?_eq_some_iff.1 hi
  have := List.pairwise_iff_getElem.1 h.pw q r (by omega) hr (by omega)
  rw [e] at this
  exact aheadL_irrefl this
theorem OrdOf.bestTo {l : List Int} {ord : List Nat} (h : OrdOf l ord) {r i : Nat} (hi : ord[r]? = some i) : bestTo (ord.take r) l l.length = i := by
  have hil := h.lt i (List.mem_of_getElem? hi)
  have ho := h.out hi
  rcases bestTo_is (ord.take r) l l.length with ⟨_, h1⟩ | ⟨a, e, h1, h2, h3⟩
  · exact absurd (h1 i hil) ho
  · rw [e]
    rcases h.best hi h1 h2 with e2 | e2
    · rw [e2]
    · rcases h3 i hil ho with e3 | e3
      · rw [e3]
      · exact (aheadL_asymm e2 e3).elim

/-! ### Sums by who has what -/
theorem part_snoc (f : Nat → Int) (a : Nat → Nat) (k i : Nat) : ∀ (J : List Nat), part f a k (J ++ [i]) = part f a k J + (if a i = k then f i else 0) := by
  intro J
  induction J with
  | nil => rw [List.nil_append, part_cons, part_nil]; omega
  | cons j J ih => rw [List.cons_append, part_cons, part_cons, ih]; omega
def bySum (f : Nat → Int) (a : Nat → Nat) (m : Nat) (J : List Nat) : List Int := (List.range m).map fun k => part f a k J
theorem bySum_len (f : Nat → Int) (a : Nat → Nat) (m : Nat) (J : List Nat) : (bySum f a m J).length = m := by simp [bySum]
theorem bySum_at {f : Nat → Int} {a : Nat → Nat} {m : Nat} {J : List Nat} {k : Nat} (h : k < m) : atD (bySum f a m J) k = part f a k J := by simp [atD, bySum, h]
theorem bySum_nil (f : Nat → Int) (a : Nat → Nat) (m : Nat) : bySum f a m (List.range 0) = List.replicate m 0 := by
  apply List.ext_getElem <;> simp [bySum, part_nil]
theorem bySum_step {f : Nat → Int} {a : Nat → Nat} {m i k : Nat} (hk : a i = k) (hkm : k < m) : (bySum f a m (List.range i)).set k (atD (bySum f a m (List.range i)) k + f i) = bySum f a m (List.range (i + 1)) := by
  rw [bySum_at hkm]
  apply List.ext_getElem (by simp [bySum])
  intro j h1 h2
  rw [List.getElem_set]
  simp only [bySum, List.getElem_map, List.getElem_range]
  rw [List.range_succ, part_snoc]
  subst hk
  by_cases e : a i = j
  · subst e; simp
  · rw [if_neg e, if_neg e]; omega
theorem bySum_cg {f : Nat → Int} {a a' : Nat → Nat} {m i : Nat} (h : ∀ j, j < i → a j = a' j) : bySum f a m (List.range i) = bySum f a' m (List.range i) := by
  rw [bySum, bySum]
  exact List.map_congr_left fun k _ => part_cg fun j hj => h j (List.mem_range.1 hj)
theorem part_le {f : Nat → Int} {a : Nat → Nat} {k : Nat} {B : Int} (h : ∀ j, 0 ≤ f j ∧ f j ≤ B) : ∀ (J : List Nat), 0 ≤ part f a k J ∧ part f a k J ≤ B * J.length := by
  intro J
  induction J with
  | nil => simp [part_nil]
  | cons j J ih =>
    have := h j
    rw [part_cons, List.length_cons]
    have e : B * ((J.length + 1 : Nat) : Int) = B * J.length + B := by rw [Int.natCast_add, Int.mul_add]; simp
    rw [e]
    split <;> omega
theorem bySum_bd {f : Nat → Int} {a : Nat → Nat} {m i k : Nat} {B : Int} (h : ∀ j, 0 ≤ f j ∧ f j ≤ B) (hk : k < m) : 0 ≤ atD (bySum f a m (List.range i)) k ∧ atD (bySum f a m (List.range i)) k ≤ B * i := by
  rw [bySum_at hk]
  simpa using part_le (a := a) (k := k) h (List.range i)
/-- The greatest so far, at least 0. -/
def maxTo (s : List Int) : Nat → Int
  | 0 => 0
  | i + 1 => if maxTo s i < atD s i then atD s i else maxTo s i
theorem maxTo_is (s : List Int) : ∀ n, 0 ≤ maxTo s n ∧ (∀ k, k < n → atD s k ≤ maxTo s n) ∧ (maxTo s n = 0 ∨ ∃ k, k < n ∧ maxTo s n = atD s k) := by
  intro n
  induction n with
  | zero => exact ⟨Int.le_refl _, fun k hk => by omega, .inl rfl⟩
  | succ n ih =>
    obtain ⟨h0, h1, h2⟩ := ih
    rw [maxTo]
    split
    · refine ⟨by omega, fun k hk => ?_, .inr ⟨n, by omega, rfl⟩⟩
      rcases Nat.lt_or_ge k n with e | e
      · have := h1 k e; omega
      · obtain rfl : k = n := by omega
        exact Int.le_refl _
    · refine ⟨h0, fun k hk => ?_, ?_⟩
      · rcases Nat.lt_or_ge k n with e | e
        · exact h1 k e
        · obtain rfl : k = n := by omega
          omega
      · rcases h2 with h2 | ⟨k, hk, h2⟩
        · exact .inl h2
        · exact .inr ⟨k, by omega, h2⟩
theorem maxTo_bd {s : List Int} {n : Nat} {B : Int} (hB : 0 ≤ B) (h : ∀ k, k < n → atD s k ≤ B) : 0 ≤ maxTo s n ∧ maxTo s n ≤ B := by
  obtain ⟨h0, _, h2⟩ := maxTo_is s n
  refine ⟨h0, ?_⟩
  rcases h2 with h2 | ⟨k, hk, h2⟩
  · omega
  · rw [h2]; exact h k hk
theorem graham_law {l : List Int} {m : Nat} (hm : 1 ≤ m) (hl : ∀ x ∈ l, 0 ≤ x) {ord : List Nat} (ho : OrdOf l ord) {b : Nat → Nat} (hb : ∀ j, j < l.length → b j < m) :
    3 * m * maxTo (bySum (atD l) (whoOf (gives l m ord).2) m (List.range l.length)) m ≤ (4 * m - 1) * maxTo (bySum (atD l) b m (List.range l.length)) m := by
  obtain ⟨h0, h1, _⟩ := maxTo_is (bySum (atD l) b m (List.range l.length)) m
  obtain ⟨_, _, h2⟩ := maxTo_is (bySum (atD l) (whoOf (gives l m ord).2) m (List.range l.length)) m
  have hg := gives_graham hm hl ho hb h0 fun k hk => by have := h1 k hk; rwa [bySum_at hk] at this
  rcases h2 with h2 | ⟨k, hk, h2⟩
  · rw [h2, Int.mul_zero]
    exact Int.mul_nonneg (by omega) h0
  · rw [h2, bySum_at hk, Int.mul_assoc]
    exact hg k hk
theorem ord_fact {ord : List Nat} (h : OrdOf [3, 2, 2] ord) : (gives [3, 2, 2] 2 ord).2 = [0, 1, 1] := by
  have hp : [0, 1, 2].Pairwise (aheadL [3, 2, 2]) := by simp [aheadL, atD]
  have e : ord = [0, 1, 2] := List.Perm.eq_of_pairwise (fun a b _ _ h1 h2 => (aheadL_asymm h1 h2).elim) h.pw hp h.perm
  subst e
  rfl
theorem who_lt {l : List Int} {m : Nat} (hm : 0 < m) {ord : List Nat} (h : OrdOf l ord) {i : Nat} (hi : i < l.length) : 0 ≤ atD (gives l m ord).2 i ∧ atD (gives l m ord).2 i < m :=
  (gives_given hm ord h.nodup h.lt).2.2 i (h.perm.symm.subset (List.mem_range.2 hi))
theorem atD_bd {l : List Int} (hl : ∀ x ∈ l, 0 ≤ x ∧ x ≤ 1000000) (i : Nat) : 0 ≤ atD l i ∧ atD l i ≤ 1000000 := by
  unfold atD
  rcases hi : l[i]? with _ | x
  · exact ⟨by simp, by simp⟩
  · exact hl x (List.mem_of_getElem? hi)
end Go.Proofs.YtelailhghhjleaaDoor
