/- What window.Tumble has: each record once; in whatever order, where none is late. -/
import Derived.Test.YtelailhghhjleaaWalkSlides1
import Derived.Test.YtelailhghhjleaaPlainCounts
namespace Go.Proofs.Ytelailhghhjleaa
open Go.RowKit Go.Sort

theorem times_of {l : List Rec} (h : recsE l = 0) : ∀ r ∈ l, 0 ≤ r.time ∧ r.time ≤ 1000000 := by
  intro r hr
  have := recsE_all h r hr
  simp only [recOk, Bool.and_eq_true, decide_eq_true_eq] at this
  omega
theorem panesOf_ok {l : List Rec} {size by_ slack : Int} (h : slideE l size by_ slack = 0) : (panesOf l size by_ slack).Perm (slideTo size by_ slack l l.length) ∧ RiseP (panesOf l size by_ slack) := by
  obtain ⟨_, h2, _, _, h5, _, _, _, h9⟩ := slideE_parts h
  rw [panesOf, if_pos h]
  exact refSlide_ok (slack := slack) h5 h9 (fun r hr => (recOk_parts (recsE_all h2 r hr)).2.1) l.length (Nat.le_refl _)
theorem cnt_perm {P Q : List Pane} (h : P.Perm Q) : cnt P = cnt Q := by
  unfold cnt
  induction h with
  | nil => rfl
  | cons x _ ih => rw [List.map_cons, List.map_cons, List.sum_cons, List.sum_cons, ih]
  | swap x y l => simp only [List.map_cons, List.sum_cons]; omega
  | trans _ _ h1 h2 => exact h1.trans h2
theorem counts_ok {l : List Rec} {size slack : Int} (h : slideE l size size slack = 0) : (∀ p ∈ panesOf l size size slack, CntOk size l.length p) ∧ cnt (panesOf l size size slack) = l.length ∧ RiseP (panesOf l size size slack) := by
  obtain ⟨h1, h2, h3, _⟩ := slideE_parts h
  obtain ⟨p1, p2⟩ := panesOf_ok h
  obtain ⟨q1, q2⟩ := tum_ok (slack := slack) h1 h3 (times_of h2) l.length (Nat.le_refl _)
  exact ⟨fun p hp => q1 p (p1.mem_iff.1 hp), by rw [cnt_perm p1, q2], p2⟩
theorem slideE_of {l : List Rec} {size by_ slack : Int} (h1 : recsE l = 0) (h2 : 1 ≤ size ∧ size ≤ 1000000 ∧ 1 ≤ by_ ∧ by_ ≤ 1000000 ∧ 0 ≤ slack ∧ slack ≤ 1000000 ∧ size ≤ 16 * by_) : slideE l size by_ slack = 0 := by
  rw [slideE, if_neg (by omega), if_pos h2]
theorem recsE_back {l : List Rec} (h : recsE l = 0) : recsE l.reverse = 0 := by
  unfold recsE at h ⊢
  rw [List.length_reverse, List.all_reverse]; exact h
theorem slideE_most {l : List Rec} {size slack : Int} (h : slideE l size size slack = 0) : slideE l size size 1000000 = 0 ∧ slideE l.reverse size size 1000000 = 0 := by
  obtain ⟨h1, h2, h3, h4, _⟩ := slideE_parts h
  exact ⟨slideE_of h2 (by omega), slideE_of (recsE_back h2) (by omega)⟩
theorem counts_back {l : List Rec} {size slack : Int} (h : slideE l size size slack = 0) : panesOf l.reverse size size 1000000 = panesOf l size size 1000000 := by
  obtain ⟨g1, g2⟩ := slideE_most h
  obtain ⟨_, h2, h3, _⟩ := slideE_parts h
  obtain ⟨p1, p2⟩ := panesOf_ok g1
  obtain ⟨q1, q2⟩ := panesOf_ok g2
  refine rise_one q2 p2 fun p => ?_
  rw [p1.mem_iff, q1.mem_iff, tum_fold h3 (Int.le_refl _) (times_of h2) _ (Nat.le_refl _), tum_fold h3 (Int.le_refl _) (times_of (recsE_back h2)) _ (Nat.le_refl _), List.take_length, List.take_length]
  exact (fold_perm (List.reverse_perm l) .nil .nil (.refl _)).mem_iff
theorem cnt_take {P : List Pane} {n : Nat} {size : Int} (hp : ∀ p ∈ P, CntOk size n p) (i : Nat) : 0 ≤ cnt (P.take i) ∧ cnt (P.take i) ≤ cnt P := by
  have nn : ∀ Q : List Pane, (∀ p ∈ Q, CntOk size n p) → 0 ≤ cnt Q := by
    intro Q
    induction Q with
    | nil => intro _; exact Int.le_refl _
    | cons q Q ih =>
      intro h
      have h1 := (h q (List.mem_cons_self ..)).one
      have h2 := ih fun x hx => h x (List.mem_cons_of_mem _ hx)
      unfold cnt at *
      rw [List.map_cons, List.sum_cons]; omega
  have e : cnt P = cnt (P.take i) + cnt (P.drop i) := by
    unfold cnt
    rw [← List.sum_append, ← List.map_append, List.take_append_drop]
  have h1 := nn (P.take i) fun p h => hp p (List.mem_of_mem_take h)
  have h2 := nn (P.drop i) fun p h => hp p (List.mem_of_mem_drop h)
  omega
theorem cnt_next {P : List Pane} {i : Nat} {p : Pane} (h : P[i]? = some p) : cnt (P.take (i + 1)) = cnt (P.take i) + (p.many + p.late) := by
  unfold cnt
  rw [List.take_add_one, h, List.map_append, List.sum_append]; simp
theorem rise_adj {P : List Pane} {size : Int} {n : Nat} (hs : 1 ≤ size) (h : RiseP P) (hc : ∀ p ∈ P, CntOk size n p) {i : Nat} {p q : Pane} (hp : P[i]? = some p) (hq : P[i + 1]? = some q) (hk : p.key.toList = q.key.toList) : p.lo + size ≤ q.lo := by
  rcases rise_below h hp hq (Nat.lt_succ_self _) with h1 | ⟨_, h1⟩
  · rw [hk] at h1; exact absurd h1 (bl_irrefl _)
  · obtain ⟨a, ha⟩ := (hc p (List.mem_of_getElem? hp)).at_
    obtain ⟨b, hb⟩ := (hc q (List.mem_of_getElem? hq)).at_
    rw [ha, hb] at h1 ⊢
    have hab : a + 1 ≤ b := by
      rcases Int.lt_or_le a b with h2 | h2
      · omega
      · have := Int.mul_le_mul_of_nonneg_left h2 (show 0 ≤ size by omega); omega
    have := Int.mul_le_mul_of_nonneg_left hab (show 0 ≤ size by omega)
    rw [Int.mul_add, Int.mul_one] at this
    exact this
theorem rem_none {size : Int} {n : Nat} {p : Pane} (h : CntOk size n p) : p.lo.tmod size = 0 := by
  obtain ⟨k, e⟩ := h.at_
  rw [e]; exact Int.mul_tmod_right _ _
theorem slideE_bad {l : List Rec} {size by_ slack : Int} (h : slideE l size by_ slack ≠ 0) : ∃ q : Int, errV (slideE l size by_ slack) = .iface 63 (.int .i64 q) := by
  unfold slideE at h ⊢
  split
  · rename_i h1
    unfold recsE at h1 ⊢
    split
    · exact ⟨4, rfl⟩
    · rename_i h2
      rw [if_neg h2] at h1
      split
      · rename_i h3; exact absurd (if_pos h3) h1
      · exact ⟨1, rfl⟩
  · rename_i h1
    rw [if_neg h1] at h
    split
    · rename_i h2; exact absurd (if_pos h2) h
    · exact ⟨1, rfl⟩
def countFact : List Rec := [⟨⟨#[97]⟩, 5, 7⟩]
theorem countFact_e : slideE countFact 5 5 0 = 0 := by
  refine slideE_of ?_ (by omega)
  decide
theorem countFact_is : panesOf countFact 5 5 0 = [⟨⟨#[97]⟩, 5, 10, 1, 5, 0⟩] := by
  have h := (panesOf_ok countFact_e).1
  have e : slideTo 5 5 0 countFact countFact.length = [⟨⟨#[97]⟩, 5, 10, 1, 5, 0⟩] := by
    show slideTo 5 5 0 countFact (0 + 1) = _
    rw [slideTo, downTo_one (by omega) (by decide)]
    show upd [] ⟨#[97]⟩ 5 5 0 5 = _
    rw [upd, ens_new rfl]
    simp [isAt, bump, wrap64]
  rw [e] at h
  exact List.perm_singleton.1 h
end Go.Proofs.Ytelailhghhjleaa
