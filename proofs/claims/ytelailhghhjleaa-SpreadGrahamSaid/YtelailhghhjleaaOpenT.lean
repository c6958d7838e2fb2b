/- Arguments that are slices of texts, and slices of these, in the walks' words; how much they hold. -/
import Derived.Test.YtelailhghhjleaaOpenR
import Derived.Test.YtelailhghhjleaaBulk
import Derived.Test.YtelailhghhjleaaWalkJoin
import Derived.SliceStrings
namespace Go.Proofs.Ytelailhghhjleaa
open Go.ChangeShapes Go.WideShapes Go.ChangeAt Go.RowKit Go.Deep

section
variable {H : Type} {enc : TypeId × Value → H} {P : Program} {W : World}
theorem open_texts_cs {t e : TypeId} (ht : P.underlying t = some (.slice e)) (he : P.underlying e = some .string) (hc : P.cellsOf e = 1) {cs : List Value} {fuel : Nat} {d : DataW H} {p : List MemPlace}
    (hf : DataW.trod enc P W 0 (fun _ => true) true fuel t cs = some (d, p)) :
    ∃ (A : Option Addr) (c : Nat) (l : List ByteArray), cs = [.slice A l.length c] ∧ l.length ≤ c ∧ c ≤ maxLen ∧ Rd W W.heap.size 1 A l.length (l.map sv) ∧ ((d = .nil ∧ l = []) ∨ ∃ spare, d = .slice (strs l) spare) := by
  rcases open_strings ht he hc hf with ⟨hcs, hx⟩ | ⟨x, n, c', zs, hcs, _, hl, hm, hz, hx, hcell, _⟩
  · exact ⟨none, 0, [], hcs, Nat.le_refl _, Nat.zero_le _, Rd.nil_, .inl ⟨by injection hx, rfl⟩⟩
  · simp only [if_true] at hz
    have hlen : (zs.take n).length = n := by simp; omega
    refine ⟨some x, c', zs.take n, by rw [hlen]; exact hcs, by rw [hlen]; exact hl, hm, ?_, .inr ⟨_, by injection hx⟩⟩
    rw [hlen]
    refine ⟨by simp; omega, fun hn => ⟨x, rfl, ?_, ?_⟩⟩
    · have := World.block_lt_of_cell? _ _ (hcell 0 (by omega))
      simpa [block_add] using this
    · intro j u hu
      simp only [List.getElem?_map, List.getElem?_take] at hu
      split at hu
      · rename_i hj
        have hjz : j < zs.length := by omega
        rw [hcell j hjz]
        rw [List.getElem?_eq_getElem hjz] at hu
        simp only [Option.map_some, Option.some.injEq] at hu
        rw [← hu, List.getD_eq_getElem?_getD, List.getElem?_eq_getElem hjz, Option.getD_some, sv]
      · cases hu
/-- A []string that came in. -/
theorem open_textl {t e : TypeId} (ht : P.underlying t = some (.slice e)) (he : P.underlying e = some .string) (hc : P.cellsOf e = 1) {v : Value} {r : Reach} {base : Nat} {d : DataW H} {p : List MemPlace}
    (hv : Value.okWide P W r base t v) (h : DataW.Trod enc P W 0 (fun _ => true) true t v d p) :
    ∃ (A : Option Addr) (c : Nat) (l : List ByteArray), v = .slice A l.length c ∧ l.length ≤ c ∧ c ≤ maxLen ∧ Rd W W.heap.size 1 A l.length (l.map sv) ∧ ((d = .nil ∧ l = []) ∨ ∃ spare, d = .slice (strs l) spare) := by
  obtain ⟨A, n, c, rfl⟩ := okWide_slice ht hv
  obtain ⟨fuel, hf⟩ := h
  obtain ⟨A', c', l, hcs, h1, h2, h3, h4⟩ := open_texts_cs ht he hc hf
  simp [Value.cells] at hcs
  obtain ⟨rfl, rfl, rfl⟩ := hcs
  exact ⟨A, c, l, rfl, h1, h2, h3, h4⟩
/-- A [][]string that came in. -/
theorem open_textll {t u e : TypeId} (ht : P.underlying t = some (.slice u)) (hu : P.underlying u = some (.slice e)) (hcu : P.cellsOf u = 1) (he : P.underlying e = some .string) (hc : P.cellsOf e = 1) {v : Value} {r : Reach} {base : Nat} {d : DataW H} {p : List MemPlace}
    (hv : Value.okWide P W r base t v) (h : DataW.Trod enc P W 0 (fun _ => true) true t v d p) :
    ∃ (A : Option Addr) (c : Nat) (ls : List (List ByteArray)), v = .slice A ls.length c ∧ ls.length ≤ c ∧ c ≤ maxLen ∧ RdTT W W.heap.size A ls ∧
      ((d = .nil ∧ ls = []) ∨ ∃ D spare, d = .slice ((List.range ls.length).map D) spare ∧ ∀ (i : Nat) (l : List ByteArray), ls[i]? = some l → l = [] ∨ ∃ sp, D i = .slice (strs l) sp) := by
  obtain ⟨A, n, c, rfl⟩ := okWide_slice ht hv
  obtain ⟨fuel, hf⟩ := h
  rcases open_slice ht hf with ⟨hcs, hx⟩ | ⟨a, len, cap, m, n', D, Pl, hcs, _, hl, hm, hmm, hx, hi⟩
  · simp [Value.cells] at hcs
    obtain ⟨rfl, rfl, rfl⟩ := hcs
    exact ⟨none, 0, [], rfl, Nat.le_refl _, Nat.zero_le _, fun h => absurd h (by simp), .inl ⟨by injection hx, rfl⟩⟩
  · simp [Value.cells] at hcs
    obtain ⟨rfl, rfl, rfl⟩ := hcs
    simp only [if_true] at hmm
    subst hmm
    have hex : ∀ i, i < m → ∃ l : List ByteArray, (∃ A' c, W.cell? (a.add i) = some (.slice A' l.length c) ∧ l.length ≤ c ∧ c ≤ maxLen ∧ Rd W W.heap.size 1 A' l.length (l.map sv)) ∧ (l = [] ∨ ∃ sp, D i = .slice (strs l) sp) := by
      intro i hic
      obtain ⟨cs', hc1, ht'⟩ := hi i hic
      rw [hcu, Nat.mul_one] at hc1
      obtain ⟨_, hcl', hat⟩ := World.cells?_some hc1
      obtain ⟨A', c', l, hcs, h1, h2, h3, h4⟩ := open_texts_cs hu he hc ht'
      refine ⟨l, ⟨A', c', ?_, h1, h2, h3⟩, ?_⟩
      · have := hat 0 (by omega)
        rw [hcs] at this
        simpa [Addr.add] using this
      · rcases h4 with ⟨_, e⟩ | ⟨sp, e⟩
        · exact .inl e
        · exact .inr ⟨sp, e⟩
    obtain ⟨ls, hll, hq⟩ := list_of n (fun i hi => hex i (by omega))
    subst hll
    refine ⟨some a, m, ls, rfl, hl, hm, fun hn => ⟨a, rfl, ?_, fun i l hil => (hq i l hil).1⟩, .inr ⟨D, _, by injection hx, fun i l hil => (hq i l hil).2⟩⟩
    obtain ⟨x, ⟨A', c', hc', _⟩, _⟩ := hex 0 (by omega)
    have := World.block_lt_of_cell? _ _ hc'
    simpa [block_add] using this
theorem bulk_append {l r : List (DataW H)} : Rows.uptoBulkAll (l ++ r) = Rows.uptoBulkAll l + Rows.uptoBulkAll r := by
  induction l with
  | nil => simp [Rows.uptoBulkAll]
  | cons x l ih => simp only [List.cons_append, Rows.uptoBulkAll, ih]; omega
theorem bulk_texts {l : List ByteArray} {d : DataW H} {B : Nat} (hd : (d = .nil ∧ l = []) ∨ ∃ spare, d = .slice (strs l) spare) (hB : Rows.uptoBulk d ≤ B) : l.length ≤ B := by
  rcases hd with ⟨_, rfl⟩ | ⟨spare, rfl⟩
  · exact Nat.zero_le _
  · have h1 := bulk_elems (strs l) spare
    have h2 := bulk_len (strs (H := H) l)
    have h3 : (strs (H := H) l).length = l.length := List.length_map _
    omega
theorem bulk_flat {ls : List (List ByteArray)} {D : Nat → DataW H} (hD : ∀ (i : Nat) (l : List ByteArray), ls[i]? = some l → l = [] ∨ ∃ sp, D i = .slice (strs l) sp) : ∀ k, k ≤ ls.length → (flatTo ls k).length ≤ Rows.uptoBulkAll ((List.range k).map D) := by
  intro k
  induction k with
  | zero => intro _; simp [flatTo]
  | succ k ih =>
    intro hk
    have h1 := ih (by omega)
    have hx : ls[k]? = some (ls.getD k []) := by rw [List.getD_eq_getElem?_getD, List.getElem?_eq_getElem (by omega)]; rfl
    have h2 : (ls.getD k []).length ≤ Rows.uptoBulk (D k) := by
      rcases hD k _ hx with e | ⟨sp, e⟩
      · rw [e]; exact Nat.zero_le _
      · exact bulk_texts (d := D k) (.inr ⟨sp, e⟩) (Nat.le_refl _)
    rw [List.range_succ, List.map_append, bulk_append, flatTo, List.length_append]
    simp only [List.map_cons, List.map_nil, Rows.uptoBulkAll]
    omega
theorem bulk_textll {ls : List (List ByteArray)} {d : DataW H} {B : Nat} (hd : (d = .nil ∧ ls = []) ∨ ∃ D spare, d = .slice ((List.range ls.length).map D) spare ∧ ∀ (i : Nat) (l : List ByteArray), ls[i]? = some l → l = [] ∨ ∃ sp, D i = .slice (strs l) sp) (hB : Rows.uptoBulk d ≤ B) :
    ls.length ≤ B ∧ (flatTo ls ls.length).length ≤ B := by
  rcases hd with ⟨_, rfl⟩ | ⟨D, spare, rfl, hD⟩
  · exact ⟨Nat.zero_le _, Nat.zero_le _⟩
  · have h1 := bulk_elems ((List.range ls.length).map D) spare
    have h2 := bulk_len ((List.range ls.length).map D)
    have h3 := bulk_flat hD ls.length (Nat.le_refl _)
    simp only [List.length_map, List.length_range] at h2
    exact ⟨by omega, by omega⟩
end
end Go.Proofs.Ytelailhghhjleaa
