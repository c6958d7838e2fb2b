/- A slice of lines of the call's own, each with a row of numbers of its own, as weirref1.Lines builds them. -/
import Derived.Test.YtelailhghhjleaaDoorWalkLConcat
import Derived.Test.YtelailhghhjleaaDoorPlainMerge
import Derived.Maps.OwnRows
namespace Go.Proofs.YtelailhghhjleaaDoor
open Go.RowKit

structure OwnL (w : World) (base : Nat) (v : Value) (ps : List Pl) : Prop where
  row : w.ownsRow base 64 2 v ps.length (plCells ps)
  ints : ∀ p ∈ ps, w.ownsInts base 3 .i64 p.val p.ln.nums
  apart : ps.Pairwise fun p q => p.val.ownBlock = none ∨ p.val.ownBlock ≠ q.val.ownBlock
  off : ∀ p ∈ ps, p.val.ownBlock = none ∨ p.val.ownBlock ≠ v.ownBlock
theorem plCells_set {ps : List Pl} {k : Nat} {p : Pl} {q : Pl} (h : ps[k]? = some p) (hk : q.ln.key = p.ln.key) : plCells (ps.set k q) = (plCells ps).set (k * 2 + 1) q.val := by
  induction ps generalizing k with
  | nil => simp at h
  | cons x xs ih =>
    cases k with
    | zero =>
      simp at h
      subst h
      simp [plCells, Pl.cells, hk]
    | succ k =>
      simp at h
      have e : (k + 1) * 2 + 1 = (k * 2 + 1) + 2 := by omega
      rw [List.set_cons_succ, plCells, List.flatMap_cons, e]
      have := ih h
      rw [plCells] at this
      rw [this]
      simp [plCells, Pl.cells]
section
variable {w w' w1 : World} {base : Nat} {v v' : Value} {ps : List Pl}
theorem OwnL.start (w : World) (base : Nat) : OwnL w base (.slice none 0 0) [] := ⟨World.ownsRow_nil _ _ _ _, fun _ h => (List.not_mem_nil h).elim, .nil, fun _ h => (List.not_mem_nil h).elim⟩
theorem ints_up {zs : List Int} (h : w.ownsInts base 3 .i64 v zs) (hb : Below w.heap.size w w') : w'.ownsInts base 3 .i64 v zs := ⟨own_up h.1 hb, h.2⟩
theorem OwnL.up (h : OwnL w base v ps) (hb : Below w.heap.size w w') : OwnL w' base v ps :=
  ⟨own_up h.row hb, fun p hp => ints_up (h.ints p hp) hb, h.apart, h.off⟩
/-- A line laid in, without numbers: the slice is a new one. -/
theorem OwnL.insert (h : OwnL w base v ps) {k : Nat} {key : ByteArray} (hb : Below w.heap.size w w') (hrow : w'.ownsRow base 64 2 v' (ps.length + 1) (plCells (ps.take k ++ [⟨⟨key, []⟩, none, 0⟩] ++ ps.drop k)))
    (hnew : ∀ g, v'.ownBlock = some g → w.heap.size ≤ g) : OwnL w' base v' (ps.take k ++ [⟨⟨key, []⟩, none, 0⟩] ++ ps.drop k) := by
  have hmem : ∀ p ∈ ps.take k ++ [(⟨⟨key, []⟩, none, 0⟩ : Pl)] ++ ps.drop k, p ∈ ps ∨ p = ⟨⟨key, []⟩, none, 0⟩ := by
    intro p hp
    rcases List.mem_append.1 hp with hp | hp
    · rcases List.mem_append.1 hp with hp | hp
      · exact .inl (List.mem_of_mem_take hp)
      · exact .inr (List.mem_singleton.1 hp)
    · exact .inl (List.mem_of_mem_drop hp)
  refine ⟨?_, fun p hp => ?_, ?_, fun p hp => ?_⟩
  · have : (ps.take k ++ [(⟨⟨key, []⟩, none, 0⟩ : Pl)] ++ ps.drop k).length = ps.length + 1 := by simp; omega
    rw [this]; exact hrow
  · rcases hmem p hp with hp | rfl
    · exact ints_up (h.ints p hp) hb
    · exact World.ownsInts_nil _ _ _ _
  · have ha := h.apart
    rw [← List.take_append_drop k ps, List.pairwise_append] at ha
    rw [List.append_assoc, List.pairwise_append]
    refine ⟨ha.1, .cons (fun q _ => .inl rfl) ha.2.1, fun p hp q hq => ?_⟩
    rcases List.mem_append.1 hq with hq | hq
    · rw [List.mem_singleton.1 hq]
      cases hb : p.val.ownBlock with
      | none => exact .inl rfl
      | some g => exact .inr (by simp [Pl.val, Value.ownBlock])
    · exact ha.2.2 p hp q hq
  · rcases hmem p hp with hp | rfl
    · cases hpb : p.val.ownBlock with
      | none => exact .inl rfl
      | some g =>
        refine .inr fun e => ?_
        have h1 := ((h.ints p hp).1.lt g hpb).2
        have h2 := hnew g e.symm
        omega
    · exact .inl rfl
/-- A line's numbers, one more: the new slice lies in the old one's row, or in a new one; and its place in the line. -/
theorem OwnL.set (h : OwnL w base v ps) {k : Nat} {p q : Pl} (hp : ps[k]? = some p) (hk : q.ln.key = p.ln.key) (hg : w.grownBy w1 p.val.ownBlock) (ho : w1.ownsInts base 3 .i64 q.val q.ln.nums)
    (hl : q.val.ownBlock = p.val.ownBlock ∨ ∃ g, q.val.ownBlock = some g ∧ w.heap.size ≤ g) {g : Nat} (hv : v.ownBlock = some g) : OwnL (w1.setCell ⟨g, k * 2 + 1, none⟩ q.val) base v (ps.set k q) ∧ w1.grownBy (w1.setCell ⟨g, k * 2 + 1, none⟩ q.val) (some g) := by
  have hpm := List.mem_of_getElem? hp
  have hoff := h.off p hpm
  have hrow1 : w1.ownsRow base 64 2 v ps.length (plCells ps) := own_far h.row hg fun g' hg' e => by
    rcases hoff with h0 | h0
    · rw [h0] at e; cases e
    · exact h0 (e.trans hg'.symm)
  have hlt := hrow1.lt g hv
  obtain ⟨A, c, rfl, _, _, hA, _⟩ := own_form hrow1
  obtain ⟨hst, hgr⟩ : (w1.setCell ⟨g, k * 2 + 1, none⟩ q.val).ownsRow base 64 2 (.slice A ps.length c) ps.length ((plCells ps).set (k * 2 + 1) q.val) ∧ w1.grownBy (w1.setCell ⟨g, k * 2 + 1, none⟩ q.val) (some g) := by
    rcases hrow1.2 with ⟨e, _⟩ | ⟨g', c', cur, e, _⟩
    · rw [e] at hv; cases hv
    · rw [e] at hv hrow1 ⊢
      simp [Value.ownBlock] at hv
      subst hv
      exact hrow1.stored _ _
  have hapart : ∀ i (x : Pl), ps[i]? = some x → i ≠ k → x.val.ownBlock = none ∨ x.val.ownBlock ≠ p.val.ownBlock := by
    intro i x hx hik
    obtain ⟨hi, e1⟩ := List.getElem?_eq_some_iff.1 hx
    obtain ⟨hk', e2⟩ := List.getElem?_eq_some_iff.1 hp
    have hpw := List.pairwise_iff_getElem.1 h.apart
    rcases Nat.lt_or_gt_of_ne hik with hlt | hgt
    · have := hpw i k hi hk' hlt; rw [e1, e2] at this; exact this
    · have := hpw k i hk' hi hgt
      rw [e1, e2] at this
      cases hxb : x.val.ownBlock with
      | none => exact .inl rfl
      | some gx =>
        refine .inr fun e => ?_
        rcases this with h0 | h0
        · rw [h0] at e; cases e
        · exact h0 (by rw [hxb, e])
  have hgq : ∀ gq, q.val.ownBlock = some gq → gq ≠ g := by
    intro gq hq e
    subst e
    rcases hl with h0 | ⟨g', h0, h1⟩
    · rcases hoff with h2 | h2
      · rw [h0, h2] at hq; cases hq
      · exact h2 (by rw [← h0, hq, hv])
    · rw [h0] at hq; injection hq with hq
      have := h.row.lt gq hv
      omega
  have hget : ∀ x ∈ ps.set k q, x = q ∨ ∃ i, ps[i]? = some x ∧ i ≠ k := by
    intro x hx
    obtain ⟨i, hi⟩ := List.mem_iff_getElem?.1 hx
    rw [List.getElem?_set] at hi
    split at hi
    · split at hi
      · injection hi with hi; exact .inl hi.symm
      · cases hi
    · rename_i hne
      exact .inr ⟨i, hi, fun e => hne e.symm⟩
  have hold : ∀ i (x : Pl), ps[i]? = some x → i ≠ k → (w1.setCell ⟨g, k * 2 + 1, none⟩ q.val).ownsInts base 3 .i64 x.val x.ln.nums := by
    intro i x hx hik
    have hxm := List.mem_of_getElem? hx
    have h1 := (h.ints x hxm).kept hg (hapart i x hx hik)
    refine h1.kept hgr ?_
    cases hxb : x.val.ownBlock with
    | none => exact .inl rfl
    | some gx =>
      refine .inr fun e => ?_
      rcases h.off x hxm with h0 | h0
      · rw [hxb] at h0; cases h0
      · exact h0 (by rw [hxb, e, hv])
  refine ⟨⟨?_, fun x hx => ?_, ?_, fun x hx => ?_⟩, hgr⟩
  · rw [List.length_set, plCells_set hp hk]; exact hst
  · rcases hget x hx with rfl | ⟨i, hi, hik⟩
    · refine ho.kept hgr ?_
      cases hxb : x.val.ownBlock with
      | none => exact .inl rfl
      | some gx => exact .inr fun e => hgq gx hxb (by injection e)
    · exact hold i x hi hik
  · rw [List.pairwise_iff_getElem]
    intro i j hi hj hij
    rw [List.length_set] at hi hj
    have hnew : ∀ m (x : Pl), ps[m]? = some x → m ≠ k → x.val.ownBlock = none ∨ x.val.ownBlock ≠ q.val.ownBlock := by
      intro m x hx hmk
      rcases hl with h0 | ⟨g', h0, h1⟩
      · rw [h0]; exact hapart m x hx hmk
      · rw [h0]
        cases hxb : x.val.ownBlock with
        | none => exact .inl rfl
        | some gx =>
          refine .inr fun e => ?_
          injection e with e
          have := ((h.ints x (List.mem_of_getElem? hx)).1.lt gx hxb).2
          omega
    by_cases h1 : k = i
    · subst h1
      rw [List.getElem_set_self, List.getElem_set_ne (by omega)]
      rcases hnew j _ (List.getElem?_eq_getElem hj) (by omega) with h2 | h2
      · cases hqb : q.val.ownBlock with
        | none => exact .inl rfl
        | some gq => exact .inr (by rw [h2]; simp)
      · exact .inr fun e => h2 e.symm
    · by_cases h2 : k = j
      · subst h2
        rw [List.getElem_set_self, List.getElem_set_ne (by omega)]
        exact hnew i _ (List.getElem?_eq_getElem hi) (by omega)
      · rw [List.getElem_set_ne h1, List.getElem_set_ne h2]
        exact List.pairwise_iff_getElem.1 h.apart i j hi hj hij
  · rcases hget x hx with rfl | ⟨i, hi, hik⟩
    · cases hxb : x.val.ownBlock with
      | none => exact .inl rfl
      | some gx => exact .inr fun e => hgq gx hxb (by have := e.trans hv; injection this)
    · exact h.off x (List.mem_of_getElem? hi)
/-- As a slice that is only read. -/
theorem OwnL.rd (h : OwnL w base v ps) : ∃ A c, v = .slice A ps.length c ∧ ps.length ≤ c ∧ c ≤ maxLen ∧ RdPs w w.heap.size A ps.length ps := by
  obtain ⟨A, c, e, h1, h2, _, h3⟩ := own_form h.row
  refine ⟨A, c, e, h1, h2, rfl, h3, fun p hp => ?_⟩
  obtain ⟨A', c', e', h1', h2', _, h3'⟩ := own_form (h.ints p hp).1
  unfold Pl.val at e'
  injection e' with e1 e2 e3
  rw [← e1] at h3'
  rw [← e3] at h1' h2'
  exact ⟨h1', h2', h3', (h.ints p hp).2⟩
end
end Go.Proofs.YtelailhghhjleaaDoor
