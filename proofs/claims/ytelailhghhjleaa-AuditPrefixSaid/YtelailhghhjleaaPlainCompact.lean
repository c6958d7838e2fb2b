/- Sorted, then compacted: rising, with the same members; as plain data. No program in sight. -/
import Derived.Test.YtelailhghhjleaaPlainLines
import Derived.Lib.SlicesCompact
namespace Go.Proofs.Ytelailhghhjleaa
open Go.RowKit

section
variable {α : Type} [Inhabited α] [DecidableEq α]
theorem cu_mem {d : Array α} {x : α} : ∀ {m : Nat}, x ∈ Lib.compactUpTo d m ↔ ∃ j, j < m ∧ d[j]! = x := by
  intro m
  induction m with
  | zero => simp [Lib.compactUpTo]
  | succ m ih =>
    rw [Lib.compactUpTo_succ, List.mem_append, ih]
    constructor
    · rintro (⟨j, hj, e⟩ | h)
      · exact ⟨j, by omega, e⟩
      · split at h
        · exact ⟨m, by omega, (List.mem_singleton.1 h).symm⟩
        · cases h
    · rintro ⟨j, hj, e⟩
      by_cases hjm : j < m
      · exact .inl ⟨j, hjm, e⟩
      · obtain rfl : j = m := by omega
        rcases hk : Lib.keeps d j with _ | _
        · have : ¬ (j = 0 ∨ d[j]! ≠ d[j - 1]!) := by simpa [Lib.keeps] using hk
          have h0 : j ≠ 0 := fun h => this (.inl h)
          refine .inl ⟨j - 1, by omega, ?_⟩
          rw [← e]
          exact (Decidable.not_not.1 fun h => this (.inr h)).symm
        · right
          simp [e]
theorem cu_rise {d : Array α} {lt : α → α → Prop} (ht : ∀ a b c, lt a b → lt b c → lt a c) (hs : ∀ i j, i < j → j < d.size → d[i]! = d[j]! ∨ lt d[i]! d[j]!) : ∀ {m : Nat}, m ≤ d.size → (Lib.compactUpTo d m).Pairwise lt := by
  intro m
  induction m with
  | zero => intro _; simp [Lib.compactUpTo]
  | succ m ih =>
    intro hm
    rw [Lib.compactUpTo_succ, List.pairwise_append]
    refine ⟨ih (by omega), by split <;> simp, fun a ha b hb => ?_⟩
    split at hb
    · rename_i hk
      obtain rfl : b = d[m]! := by simpa using hb
      obtain ⟨j, hj, rfl⟩ := cu_mem.1 ha
      have hk2 : m = 0 ∨ d[m]! ≠ d[m - 1]! := by simpa [Lib.keeps] using hk
      rcases hk2 with h0 | hne
      · omega
      · have h1 : lt d[m - 1]! d[m]! := by
          rcases hs (m - 1) m (by omega) (by omega) with e | h
          · exact absurd e.symm hne
          · exact h
        by_cases hj2 : j = m - 1
        · rw [hj2]; exact h1
        · rcases hs j (m - 1) (by omega) (by omega) with e | h
          · rw [e]; exact h1
          · exact ht _ _ _ h h1
    · cases hb
theorem compact_mem {l : List α} {x : α} : x ∈ Lib.compact l ↔ x ∈ l := by
  rw [Lib.compact, cu_mem]
  constructor
  · rintro ⟨j, hj, rfl⟩
    rw [getElem!_pos _ _ (by simpa using hj)]
    simp
  · intro hx
    obtain ⟨j, hj⟩ := List.mem_iff_getElem?.1 hx
    have hlt := (List.getElem?_eq_some_iff.1 hj).1
    exact ⟨j, hlt, by rw [getElem!_pos _ _ (by simpa using hlt)]; simpa [List.getElem?_eq_getElem hlt] using hj⟩
theorem compact_rise {l : List α} {lt : α → α → Prop} (ht : ∀ a b c, lt a b → lt b c → lt a c) (hs : l.Pairwise fun a b => a = b ∨ lt a b) : (Lib.compact l).Pairwise lt := by
  refine cu_rise ht (fun i j hij hj => ?_) (by simp)
  have hj' : j < l.length := by simpa using hj
  rw [getElem!_pos _ _ (by simp; omega), getElem!_pos _ _ (by simpa using hj)]
  simpa using List.pairwise_iff_getElem.1 hs i j (by omega) hj' hij
end
/-- A key as its bytes, and back. -/
def kb (k : ByteArray) : List UInt8 := k.data.toList
def bk (l : List UInt8) : ByteArray := ⟨l.toArray⟩
theorem bk_kb (k : ByteArray) : bk (kb k) = k := by simp [bk, kb]
theorem kb_bk (l : List UInt8) : kb (bk l) = l := by simp [bk, kb]
theorem klt_kb {a b : ByteArray} : klt a b = true ↔ kb a < kb b := by rw [klt_iff, ByteArray.toList_eq, ByteArray.toList_eq]; rfl
/-- The keys of lines, sorted and compacted. -/
def allKeys (ks : List ByteArray) : List (List UInt8) := Lib.compact ((ks.map kb).mergeSort fun x y => decide (x ≤ y))
theorem allKeys_rise (ks : List ByteArray) : riseK ((allKeys ks).map bk) := by
  rw [riseK, List.pairwise_map]
  refine List.Pairwise.imp (R := fun a b => a < b) (fun {a b} h => by rw [klt_kb, kb_bk, kb_bk]; exact h) ?_
  refine compact_rise (fun a b c h k => bl_trans h k) ?_
  refine List.Pairwise.imp (fun {a b} h => ?_) (List.pairwise_mergeSort (le := fun x y => decide (x ≤ y)) (fun a b c h1 h2 => ?_) (fun a b => ?_) _)
  · rcases bl_tri a b with t | t | t
    · exact .inr t
    · exact .inl t
    · have : a ≤ b := by simpa using h
      exact absurd t (List.not_lt.2 this)
  · simp only [decide_eq_true_eq] at *
    exact List.le_trans h1 h2
  · simp only [Bool.or_eq_true, decide_eq_true_eq]
    exact List.le_total a b
theorem allKeys_mem {ks : List ByteArray} {k : ByteArray} : k ∈ (allKeys ks).map bk ↔ k ∈ ks := by
  rw [List.mem_map]
  constructor
  · rintro ⟨x, hx, rfl⟩
    rw [allKeys, compact_mem, List.mem_mergeSort, List.mem_map] at hx
    obtain ⟨y, hy, rfl⟩ := hx
    rw [bk_kb]; exact hy
  · intro h
    refine ⟨kb k, ?_, bk_kb k⟩
    rw [allKeys, compact_mem, List.mem_mergeSort]
    exact List.mem_map_of_mem h
theorem allKeys_merge {want got : List Ln} (hw : LnsOk want) (hg : LnsOk got) : (allKeys ((want ++ got).map Ln.key)).map bk = mergeK want got := by
  refine rise_unique (allKeys_rise _) (mergeK_rise want got hw.pw hg.pw) fun k => ?_
  rw [allKeys_mem, mergeK_mem, List.map_append, List.mem_append]
theorem allKeys_len (ks : List ByteArray) : (allKeys ks).length ≤ ks.length := by
  have h : ∀ (d : Array (List UInt8)) (m : Nat), (Lib.compactUpTo d m).length ≤ m := fun d m => by
    rw [Lib.compactUpTo, List.length_map]
    exact Nat.le_trans (List.length_filter_le _ _) (by simp)
  have := h ((ks.map kb).mergeSort fun x y => decide (x ≤ y)).toArray ((ks.map kb).mergeSort fun x y => decide (x ≤ y)).length
  rw [List.length_mergeSort, List.length_map] at this
  rw [allKeys, Lib.compact, List.length_mergeSort, List.length_map]
  exact this
end Go.Proofs.Ytelailhghhjleaa
