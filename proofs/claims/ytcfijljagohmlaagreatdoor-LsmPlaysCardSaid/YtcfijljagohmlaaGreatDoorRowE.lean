/- A row at a block, known by its shape and its cells. -/
import Derived.Test.YtcfijljagohmlaaGreatDoorMemEnts
import Derived.Test.YtcfijljagohmlaaGreatDoorMemSort
import Derived.Deep.MidRow
namespace Go.Proofs.YtcfijljagohmlaaGreatDoor
open Go.RowKit Go.Sort Go.Shelf Go.Lib

/-- A block of so many cells, none of them frozen. -/
def ShapeR (w : World) (g : Nat) (e : TypeId) (m : Nat) : Prop := ∃ cur : Array Value, w.heap[g]? = some (.cells cur e (0, 0)) ∧ cur.size = m
section
variable {w w' : World} {g : Nat} {e : TypeId} {m : Nat}
theorem ShapeR.frozen (h : ShapeR w g e m) (j : Nat) : w.frozen? ⟨g, j, none⟩ = false := by
  obtain ⟨cur, h1, _⟩ := h
  simp [World.frozen?, h1]
theorem ShapeR.some_ (h : ShapeR w g e m) {j : Nat} (hj : j < m) : (w.cell? ⟨g, j, none⟩).isSome = true := by
  obtain ⟨cur, h1, h2⟩ := h
  simp [World.cell?, h1]
  omega
theorem ShapeR.lt (h : ShapeR w g e m) : g < w.heap.size := by
  obtain ⟨cur, h1, _⟩ := h
  exact (Array.getElem?_eq_some_iff.1 h1).1
theorem ShapeR.same (h : ShapeR w g e m) (hk : w'.heap[g]? = w.heap[g]?) : ShapeR w' g e m := by
  obtain ⟨cur, h1, h2⟩ := h
  exact ⟨cur, hk.trans h1, h2⟩
theorem ShapeR.set_ (h : ShapeR w g e m) (b o : Nat) (u : Value) : ShapeR (w.setCell ⟨b, o, none⟩ u) g e m := by
  by_cases hp : g = b
  · obtain ⟨cur, h1, h2⟩ := h
    subst hp
    refine ⟨cur.setIfInBounds o u, ?_, by simpa using h2⟩
    simp [World.setCell, Array.getElem?_modify, h1]
  · exact h.same (Below.heap_setCell w ⟨b, o, none⟩ u g hp)
theorem ShapeR.setMany {b : Nat} : ∀ (vs : List Value) (o : Nat) (w : World), ShapeR w g e m → ShapeR (w.setCells b o vs) g e m := by
  intro vs
  induction vs with
  | nil => intro o w h; exact h
  | cons v vs ih => intro o w h; exact ih _ _ (h.set_ _ _ _)
theorem ShapeR.there (h : ShapeR w g e m) {o k : Nat} (hk : o + k ≤ m) : w.there g o k := fun j hj => ⟨h.some_ (by omega), h.frozen _⟩
theorem shape_own {base size n c : Nat} {xs : List Value} (h : w.ownsRow base e size (.slice (some ⟨g, 0, none⟩) n c) n xs) : ShapeR w g e (c * size) ∧ base ≤ g ∧ n ≤ c ∧ c ≤ maxLen := by
  rcases h.2 with ⟨e0, _⟩ | ⟨g', cap, cur, e0, hb, hg, hn, hm, hs, ht⟩
  · cases e0
  · injection e0 with e1 e2 e3
    injection e1 with e1
    injection e1 with e1
    subst e1
    subst e3
    exact ⟨⟨cur, hg, hs⟩, hb, hn, hm⟩
theorem own_shape {base size n c : Nat} {xs : List Value} (h : ShapeR w g e (c * size)) (hb : base ≤ g) (hn : n ≤ c) (hc : c ≤ maxLen) (hl : xs.length = n * size) (hx : ∀ j u, xs[j]? = some u → w.cell? ⟨g, j, none⟩ = some u) : w.ownsRow base e size (.slice (some ⟨g, 0, none⟩) n c) n xs := by
  obtain ⟨cur, h1, h2⟩ := h
  refine ⟨hl, .inr ⟨g, c, cur, rfl, hb, h1, hn, hc, h2, ?_⟩⟩
  have hnc : n * size ≤ cur.size := by rw [h2]; exact Nat.mul_le_mul_right _ hn
  refine List.ext_getElem? fun j => ?_
  rcases hj : xs[j]? with _ | u
  · rw [List.getElem?_eq_none_iff] at hj
    rw [List.getElem?_eq_none_iff, List.length_take]
    omega
  · have h3 := hx j u hj
    have hjl : j < n * size := by rw [← hl]; exact (List.getElem?_eq_some_iff.1 hj).1
    rw [List.getElem?_take, if_pos hjl, Array.getElem?_toList]
    simpa [World.cell?, h1] using h3
theorem heap_setCells (b : Nat) : ∀ (vs : List Value) (o : Nat) (w : World) (k : Nat), k ≠ b → (w.setCells b o vs).heap[k]? = w.heap[k]? := by
  intro vs
  induction vs with
  | nil => intro o w k _; rfl
  | cons v vs ih => intro o w k hk; exact (ih _ _ k hk).trans (Below.heap_setCell w ⟨b, o, none⟩ v k hk)
theorem setCells_grown (b : Nat) : ∀ (vs : List Value) (o : Nat) (w : World), w.grownBy (w.setCells b o vs) (some b) := by
  intro vs
  induction vs with
  | nil => intro o w; exact only_refl _ _
  | cons v vs ih => intro o w; exact only_trans (only_set (only_refl w (some b)) o v) (ih _ _)
end
/-- Element k of the row at block g. -/
def EntAt (w : World) (g k : Nat) (x : Ent) : Prop := w.cell? ⟨g, k * 3, none⟩ = some (.string x.key) ∧ w.cell? ⟨g, k * 3 + 1, none⟩ = some (.string x.value) ∧ w.cell? ⟨g, k * 3 + 2, none⟩ = some (.bool x.dead)
theorem entCells_at {l : List Ent} {k : Nat} {x : Ent} (h : l[k]? = some x) : (entCells l)[k * 3]? = some (.string x.key) ∧ (entCells l)[k * 3 + 1]? = some (.string x.value) ∧ (entCells l)[k * 3 + 2]? = some (.bool x.dead) := by
  have hat : ∀ j, j < 3 → (entCells l)[k * 3 + j]? = (x.cells)[j]? := fun j hj => by
    rw [entCells, flat_at Ent.cells 3 (fun _ => rfl) l k j hj, h]; rfl
  exact ⟨(hat 0 (by omega)).trans rfl, (hat 1 (by omega)).trans rfl, (hat 2 (by omega)).trans rfl⟩
theorem entCells_length (l : List Ent) : (entCells l).length = l.length * 3 := by
  induction l with
  | nil => rfl
  | cons a l ih => rw [entCells, List.flatMap_cons, List.length_append]; unfold entCells at ih; rw [ih]; simp [Ent.cells]; omega
theorem entCells_of {w : World} {g : Nat} {l : List Ent} (h : ∀ k x, l[k]? = some x → EntAt w g k x) : ∀ j u, (entCells l)[j]? = some u → w.cell? ⟨g, j, none⟩ = some u := by
  intro j u hj
  have hl : j < l.length * 3 := by rw [← entCells_length]; exact (List.getElem?_eq_some_iff.1 hj).1
  have hk : j / 3 < l.length := by omega
  obtain ⟨e0, e1, e2⟩ := entCells_at (List.getElem?_eq_getElem hk)
  obtain ⟨c0, c1, c2⟩ := h _ _ (List.getElem?_eq_getElem hk)
  have h3 : j = j / 3 * 3 ∨ j = j / 3 * 3 + 1 ∨ j = j / 3 * 3 + 2 := by omega
  rcases h3 with h3 | h3 | h3
  · rw [h3, e0] at hj; rw [h3, c0]; exact hj
  · rw [h3, e1] at hj; rw [h3, c1]; exact hj
  · rw [h3, e2] at hj; rw [h3, c2]; exact hj
theorem EntAt.same {w w' : World} {g k : Nat} {x : Ent} (h : EntAt w g k x) (hk : w'.heap[g]? = w.heap[g]?) : EntAt w' g k x :=
  ⟨(World.cell?_of_block hk).trans h.1, (World.cell?_of_block hk).trans h.2.1, (World.cell?_of_block hk).trans h.2.2⟩
theorem EntAt.apart {w : World} {g k i : Nat} {x : Ent} (h : EntAt w g k x) (hki : k < i ∨ i < k) (a b c : Value) : EntAt (w.setCells g (i * 3) [a, b, c]) g k x := by
  have hout : ∀ j, j < 3 → (w.setCells g (i * 3) [a, b, c]).cell? ⟨g, k * 3 + j, none⟩ = w.cell? ⟨g, k * 3 + j, none⟩ := fun j hj =>
    World.cell?_setCells_out g [a, b, c] (i * 3) w ⟨g, k * 3 + j, none⟩ (fun _ _ => by show k * 3 + j < i * 3 ∨ i * 3 + 3 ≤ k * 3 + j; omega)
  exact ⟨(hout 0 (by omega)).trans h.1, (hout 1 (by omega)).trans h.2.1, (hout 2 (by omega)).trans h.2.2⟩
theorem EntAt.put {w : World} {g i m : Nat} {e : TypeId} (h : ShapeR w g e m) (hi : i * 3 + 3 ≤ m) (x : Ent) : EntAt (w.setCells g (i * 3) [.string x.key, .string x.value, .bool x.dead]) g i x := by
  have hin := fun j (hj : j < 3) => World.cell?_setCells_in g [.string x.key, .string x.value, .bool x.dead] (i * 3) w (fun k hk => h.some_ (by simp at hk; omega)) j hj
  exact ⟨hin 0 (by omega), hin 1 (by omega), hin 2 (by omega)⟩
theorem shape_swk {α : Type} [Inhabited α] {enc : α → List Value} {k g m : Nat} {w W : World} {d : Array α} {e : TypeId} (h : ShapeR w g e m) (hS : SWK enc k w g 0 d W) : ShapeR W g e m := by
  obtain ⟨n, os, rfl⟩ := hS
  obtain ⟨cur, h1, h2⟩ := h
  have hlt : g < w.heap.size := (Array.getElem?_eq_some_iff.1 h1).1
  refine ⟨putCells id 0 (flatK enc k d) cur, ?_, by simp [putCells, h2]⟩
  simp only [sortWorldK, grow, putRowK, putRow, mapBlock]
  rw [Array.getElem?_append_left (by simpa using hlt), Array.getElem?_modify, if_pos rfl, show (Sort.ahead w n).heap[g]? = some (.cells cur e (0, 0)) from h1]
  rfl
end Go.Proofs.YtcfijljagohmlaaGreatDoor
