/- How the program tells whether numbers stand among others, and how it judges a key's numbers, step by step; as plain data. No program in sight. -/
import Derived.Test.YtelailhghhjleaaPlainLines
namespace Go.Proofs.Ytelailhghhjleaa
open Go.RowKit

theorem take_at {α : Type} {l : List α} {k : Nat} {x : α} (h : l[k]? = some x) : l.take (k + 1) = l.take k ++ [x] := by rw [List.take_add_one, h]; rfl
theorem count_take_succ {l : List Int} {k : Nat} {x : Int} (h : l[k]? = some x) (y : Int) : (l.take (k + 1)).count y = (l.take k).count y + if y = x then 1 else 0 := by
  rw [take_at h, List.count_append, List.count_singleton]
  by_cases e : x = y
  · subst e; simp
  · have : (x == y) = false := by simpa using e
    have e2 : ¬ y = x := fun h => e h.symm
    simp [this, e2]
theorem count_take_le (l : List Int) (k : Nat) (x : Int) : (l.take k).count x ≤ l.count x := (List.take_sublist k l).count_le x
theorem within_no {a b : List Int} {k : Nat} {x : Int} (h : a[k]? = some x) (hc : b.count x < (a.take k).count x + 1) : withinB a b = false := by
  rw [withinB, List.all_eq_false]
  refine ⟨x, List.mem_of_getElem? h, ?_⟩
  have h1 := count_take_succ h x
  rw [if_pos rfl] at h1
  have h2 := count_take_le a (k + 1) x
  simp only [decide_eq_true_eq]
  omega
theorem within_yes {a b : List Int} (h : ∀ x, (∃ k, k < a.length ∧ a[k]? = some x) → a.count x ≤ b.count x) : withinB a b = true := by
  rw [withinB, List.all_eq_true]
  intro x hx
  obtain ⟨k, hk⟩ := List.mem_iff_getElem?.1 hx
  simp only [decide_eq_true_eq]
  exact h x ⟨k, (List.getElem?_eq_some_iff.1 hk).1, hk⟩
/-- So far none was lacking. -/
def WOk (a b : List Int) (k : Nat) : Prop := ∀ x, x ∈ a.take k → (a.take k).count x ≤ b.count x
theorem WOk.start (a b : List Int) : WOk a b 0 := by intro x hx; simp at hx
theorem WOk.step {a b : List Int} {k : Nat} {x : Int} (h : WOk a b k) (hx : a[k]? = some x) (hc : (a.take k).count x + 1 ≤ b.count x) : WOk a b (k + 1) := by
  intro y hy
  rw [count_take_succ hx]
  split
  · rename_i e; subst e; exact hc
  · rename_i e
    rw [take_at hx] at hy
    rcases List.mem_append.1 hy with hy | hy
    · exact h y hy
    · exact absurd (List.mem_singleton.1 hy) e
theorem WOk.done {a b : List Int} (h : WOk a b a.length) : withinB a b = true := by
  rw [withinB, List.all_eq_true]
  intro x hx
  rw [WOk, List.take_length] at h
  simpa using h x hx

/-! ### A key's numbers -/
theorem line_far {w g : List Int} {i : Nat} (h : ∀ j, j < i → w[j]? = g[j]?) (hw : i < w.length) (hg : i < g.length) (hne : w[i]? ≠ g[i]?) : lcp w g = i := lcp_is h (by omega) (by omega) fun _ _ => hne
theorem line_cross {w g : List Int} {i : Nat} (h : lcp w g = i) (hw : i < w.length) (hg : i < g.length) (hc : withinB (g.drop i) (w.drop i) = true) : lineJ w g = (4, i) := by
  rw [lineJ, h, if_pos ⟨hw, hg⟩, if_pos hc]
theorem line_twice {w g : List Int} {i : Nat} (h : lcp w g = i) (hw : i < w.length) (hg : i < g.length) (hc : withinB (g.drop i) (w.drop i) = false) (h0 : 0 < i) (he : atD g i = atD w (i - 1)) : lineJ w g = (2, i) := by
  rw [lineJ, h, if_pos ⟨hw, hg⟩, if_neg (by simp [hc]), if_pos ⟨h0, he⟩]
theorem line_foreign {w g : List Int} {i : Nat} (h : lcp w g = i) (hw : i < w.length) (hg : i < g.length) (hc : withinB (g.drop i) (w.drop i) = false) (he : ¬ (0 < i ∧ atD g i = atD w (i - 1))) : lineJ w g = (3, i) := by
  rw [lineJ, h, if_pos ⟨hw, hg⟩, if_neg (by simp [hc]), if_neg he]
theorem line_end {w g : List Int} {i : Nat} (h : ∀ j, j < i → w[j]? = g[j]?) (hi : i = min w.length g.length) : lineJ w g = if i < g.length then (2, i) else if i < w.length then (1, i) else (0, 0) := by
  have e : lcp w g = i := lcp_is h (by omega) (by omega) fun h1 h2 => by omega
  rw [lineJ, e, if_neg (by omega)]
/-- With no key among what was asked for. -/
def lineO (w : Option (List Int)) (g : List Int) : Nat × Nat := match w with | none => (3, 0) | some w => lineJ w g
theorem judgeOver_cons (want got : List Ln) (k : ByteArray) (ks : List ByteArray) :
    judgeOver want got (k :: ks) = if (lineO (numsOf want k) ((numsOf got k).getD [])).1 ≠ 0 then ((lineO (numsOf want k) ((numsOf got k).getD [])).1, k, (lineO (numsOf want k) ((numsOf got k).getD [])).2) else judgeOver want got ks := by
  rw [judgeOver]
  rcases numsOf want k with _ | w
  · rfl
  · rfl
theorem lineJ_le (w g : List Int) : (lineJ w g).1 ≤ 4 ∧ (lineJ w g).2 ≤ max w.length g.length := by
  obtain ⟨h1, h2⟩ := lcp_le w g
  rw [lineJ]
  split
  · split
    · exact ⟨by simp, by simp only; omega⟩
    · split
      · exact ⟨by simp, by simp only; omega⟩
      · exact ⟨by simp, by simp only; omega⟩
  · split
    · exact ⟨by simp, by simp only; omega⟩
    · split
      · exact ⟨by simp, by simp only; omega⟩
      · exact ⟨by simp, by simp⟩
theorem numsOf_few {l : List Ln} (h : LnsOk l) {t : ByteArray} : ((numsOf l t).getD []).length ≤ 400 := by
  rcases hn : numsOf l t with _ | g
  · exact Nat.zero_le _
  · obtain ⟨y, hy, _, rfl⟩ := numsOf_some hn
    exact h.few y hy
/-- Where a key stands. -/
theorem numsOf_at {l : List Ln} (h : l.Pairwise fun a b => klt a.key b.key = true) {t : ByteArray} : numsOf l t = if hasK t (l.map Ln.key) = true then (l[lowK t (l.map Ln.key)]?).map Ln.nums else none := by
  have hr := rise_keys h
  have hlen : (l.map Ln.key).length = l.length := by simp
  split
  · rename_i hh
    rw [hasK, Bool.and_eq_true, decide_eq_true_eq, decide_eq_true_eq, hlen] at hh
    obtain ⟨h1, h2⟩ := hh
    obtain ⟨x, hx⟩ : ∃ x, l[lowK t (l.map Ln.key)]? = some x := ⟨_, List.getElem?_eq_getElem h1⟩
    have hk : x.key = t := by
      rw [keyA, List.getD_eq_getElem?_getD, List.getElem?_map, hx] at h2
      exact h2
    rw [hx, ← hk, numsOf_mem h (List.mem_of_getElem? hx)]; rfl
  · rename_i hh
    rw [numsOf_none]
    rintro x hx rfl
    obtain ⟨m, hm⟩ := List.mem_iff_getElem?.1 hx
    have hml := (List.getElem?_eq_some_iff.1 hm).1
    have hkm : keyA (l.map Ln.key) m = x.key := by rw [keyA, List.getD_eq_getElem?_getD, List.getElem?_map, hm]; rfl
    refine hh ?_
    have e : lowK x.key (l.map Ln.key) = m := by
      refine lowK_is (by omega) (fun i hi => ?_) (fun i h1 h2 => ?_)
      · have := List.pairwise_iff_getElem.1 hr i m (by omega) (by omega) hi
        rw [← hkm, keyA, keyA, List.getD_eq_getElem?_getD, List.getD_eq_getElem?_getD, List.getElem?_eq_getElem (by omega), List.getElem?_eq_getElem (by omega)]
        exact this
      · rcases Nat.eq_or_lt_of_le h1 with rfl | h1
        · rw [hkm]; exact klt_irrefl _
        · have := List.pairwise_iff_getElem.1 hr m i (by omega) h2 h1
          have e2 : klt x.key (keyA (l.map Ln.key) i) = true := by
            rw [← hkm, keyA, keyA, List.getD_eq_getElem?_getD, List.getD_eq_getElem?_getD, List.getElem?_eq_getElem (by omega), List.getElem?_eq_getElem h2]
            exact this
          exact klt_asymm e2
    rw [hasK, e, decide_eq_true (by omega), hkm]; simp
end Go.Proofs.Ytelailhghhjleaa
