/- How the reference judges lines, step by step, as plain data. No program in sight. -/
import Derived.Test.YtelailhghhjleaaDoorPlainLines
namespace Go.Proofs.YtelailhghhjleaaDoor
open Go.RowKit

/-- What the reference's two counters stand for. -/
structure JInv (want got : List Ln) (i k : Nat) : Prop where
  hi : i ≤ want.length
  hk : k ≤ got.length
  apart : ∀ x ∈ want.take i, ∀ g ∈ got.drop k, klt x.key g.key = true
  eq : judge want got = judgeOver want got (mergeK (want.drop i) (got.drop k))
theorem JInv.start (want got : List Ln) : JInv want got 0 0 := ⟨Nat.zero_le _, Nat.zero_le _, by simp, rfl⟩
theorem JInv.done {want got : List Ln} {i k : Nat} (h : JInv want got i k) (h1 : want.length ≤ i) (h2 : got.length ≤ k) : judge want got = (0, ⟨#[]⟩, 0) := by
  rw [h.eq, List.drop_eq_nil_of_le h1, List.drop_eq_nil_of_le h2, mergeK]; rfl
section
variable {want got : List Ln} {i k : Nat}
theorem rise_take {l : List Ln} (h : l.Pairwise fun a b => klt a.key b.key = true) {i : Nat} {x : Ln} (hx : l[i]? = some x) : ∀ y ∈ l.drop (i + 1), klt x.key y.key = true := by
  have h1 := h.sublist (List.drop_sublist i l)
  rw [drop_ln hx, List.pairwise_cons] at h1
  exact h1.1
/-- A key that was not asked for. -/
theorem JInv.foreign (h : JInv want got i k) (hw : LnsOk want) {g : Ln} (hg : got[k]? = some g) (hc : want.length ≤ i ∨ ∃ w, want[i]? = some w ∧ klt g.key w.key = true) : judge want got = (3, g.key, 0) := by
  have hgd : g ∈ got.drop k := by rw [drop_ln hg]; exact List.mem_cons_self
  have hn : numsOf want g.key = none := by
    rw [numsOf_none]
    intro x hx e
    rw [← List.take_append_drop i want] at hx
    rcases List.mem_append.1 hx with hx | hx
    · exact klt_ne (h.apart x hx g hgd) e
    · rcases hc with hc | ⟨w, hwi, hlt⟩
      · rw [List.drop_eq_nil_of_le hc] at hx; cases hx
      · rw [drop_ln hwi] at hx
        rcases List.mem_cons.1 hx with rfl | hx
        · exact klt_ne hlt e.symm
        · exact klt_ne (klt_trans hlt (rise_take hw.pw hwi x hx)) e.symm
  have hm : ∃ r, mergeK (want.drop i) (got.drop k) = g.key :: r := by
    rw [drop_ln hg]
    rcases hc with hc | ⟨w, hwi, hlt⟩
    · rw [List.drop_eq_nil_of_le hc, mergeK]; exact ⟨_, rfl⟩
    · rw [drop_ln hwi, mergeK, if_pos hlt]; exact ⟨_, rfl⟩
  obtain ⟨r, hm⟩ := hm
  rw [h.eq, hm, judgeOver, hn]
theorem mergeK_head {w : Ln} (hwi : want[i]? = some w) (hc : ∀ g, got[k]? = some g → klt g.key w.key = false) : ∃ k', mergeK (want.drop i) (got.drop k) = w.key :: mergeK (want.drop (i + 1)) (got.drop k') ∧ (k' = k ∨ (k' = k + 1 ∧ ∃ g, got[k]? = some g ∧ g.key = w.key)) ∧ ((∃ g, got[k]? = some g ∧ g.key = w.key) → k' = k + 1) := by
  rw [drop_ln hwi]
  rcases hg : got[k]? with _ | g
  · have : got.drop k = [] := List.drop_eq_nil_of_le (List.getElem?_eq_none_iff.1 hg)
    refine ⟨k, ?_, .inl rfl, fun ⟨g, h, _⟩ => by cases h⟩
    rw [this, mergeK]
    rcases want.drop (i + 1) with _ | ⟨y, ys⟩
    · rw [mergeK]; rfl
    · rw [mergeK]; rfl
  · have h1 := hc g hg
    rw [drop_ln hg, mergeK, if_neg (by simp [h1])]
    by_cases e : g.key = w.key
    · rw [if_pos e]
      exact ⟨k + 1, rfl, .inr ⟨rfl, g, rfl, e⟩, fun _ => rfl⟩
    · rw [if_neg e]
      refine ⟨k, by rw [drop_ln hg], .inl rfl, ?_⟩
      rintro ⟨g', h', e'⟩
      injection h' with h'
      subst h'
      exact absurd e' e
/-- A key that was asked for, and is not fine. -/
theorem JInv.fault (h : JInv want got i k) (hw : LnsOk want) {w : Ln} (hwi : want[i]? = some w) (hc : ∀ g, got[k]? = some g → klt g.key w.key = false)
    (hj : (lineJ w.nums ((numsOf got w.key).getD [])).1 ≠ 0) : judge want got = ((lineJ w.nums ((numsOf got w.key).getD [])).1, w.key, (lineJ w.nums ((numsOf got w.key).getD [])).2) := by
  obtain ⟨k', hm, _⟩ := mergeK_head hwi hc
  rw [h.eq, hm, judgeOver, numsOf_mem hw.pw (List.mem_of_getElem? hwi)]
  simp only
  rw [if_pos hj]
/-- A key that is fine. -/
theorem JInv.fine (h : JInv want got i k) (hw : LnsOk want) (hgo : LnsOk got) {w : Ln} (hwi : want[i]? = some w) (hc : ∀ g, got[k]? = some g → klt g.key w.key = false)
    (hj : (lineJ w.nums ((numsOf got w.key).getD [])).1 = 0) {k' : Nat} (hk' : ((∃ g, got[k]? = some g ∧ g.key = w.key) ∧ k' = k + 1) ∨ ((¬ ∃ g, got[k]? = some g ∧ g.key = w.key) ∧ k' = k)) : JInv want got (i + 1) k' := by
  obtain ⟨k2, hm, h2, h3⟩ := mergeK_head hwi hc
  have e : k' = k2 := by
    rcases hk' with ⟨a, rfl⟩ | ⟨a, rfl⟩
    · exact (h3 a).symm
    · rcases h2 with rfl | ⟨_, b⟩
      · rfl
      · exact absurd b a
  subst e
  have hlt := (List.getElem?_eq_some_iff.1 hwi).1
  refine ⟨hlt, ?_, ?_, ?_⟩
  · rcases h2 with rfl | ⟨rfl, g, hg, _⟩
    · exact h.hk
    · exact (List.getElem?_eq_some_iff.1 hg).1
  · intro x hx g hg
    rw [List.take_add_one, hwi] at hx
    have hgd : g ∈ got.drop k := by
      rcases h2 with rfl | ⟨rfl, _⟩
      · exact hg
      · rw [← List.drop_drop] at hg; exact List.mem_of_mem_drop hg
    rcases List.mem_append.1 hx with hx | hx
    · exact h.apart x hx g hgd
    · obtain rfl : x = w := by simpa using hx
      rcases hg0 : got[k]? with _ | g0
      · rw [List.drop_eq_nil_of_le (List.getElem?_eq_none_iff.1 hg0)] at hgd; cases hgd
      · have hc0 := hc g0 hg0
        by_cases e : g0.key = x.key
        · obtain rfl := h3 ⟨g0, hg0, e⟩
          rw [← e]
          exact rise_take hgo.pw hg0 g hg
        · have hlt0 : klt x.key g0.key = true := by
            rcases klt_tri x.key g0.key with t | t | t
            · exact t
            · exact absurd t.symm e
            · rw [hc0] at t; cases t
          rw [drop_ln hg0] at hgd
          rcases List.mem_cons.1 hgd with rfl | hgd
          · exact hlt0
          · exact klt_trans hlt0 (rise_take hgo.pw hg0 g hgd)
  · rw [h.eq, hm, judgeOver, numsOf_mem hw.pw (List.mem_of_getElem? hwi)]
    simp only
    rw [if_neg (by simp [hj])]
end
end Go.Proofs.YtelailhghhjleaaDoor
