/- A gate in memory. -/
import Derived.Test.YtmeemcafjebanaaDoorProg
import Derived.Test.YtmeemcafjebanaaDoorKeeps
import Derived.Test.YtmeemcafjebanaaDoorPlainGate
namespace Go.Proofs.YtmeemcafjebanaaDoor
open Go.RowKit

theorem itmCells_len (l : List Itm) : (itmCells l).length = l.length * 4 := by
  induction l with
  | nil => rfl
  | cons x l ih => rw [itmCells, List.flatMap_cons, List.length_append]; unfold itmCells at ih; rw [ih]; simp [Itm.cells]; omega
theorem itmCells_div (l : List Itm) : (itmCells l).length / 4 = l.length := by rw [itmCells_len]; omega
theorem itmCells_one (l : List Itm) : ∀ u ∈ itmCells l, u.oneCell' = true := by
  intro u hu
  obtain ⟨x, _, hx⟩ := List.mem_flatMap.1 hu
  simp only [Itm.cells, List.mem_cons, List.not_mem_nil, or_false] at hx
  rcases hx with rfl | rfl | rfl | rfl <;> rfl

/-- A gate's blocks: its own, the rows', the greatest barriers'; the rows. None of them is of Z. -/
structure GateIn (w : World) (Z : Nat → Prop) (G gw gl : Nat) (sl : List Value) (s : Gat) : Prop where
  ok : s.Ok
  obj : Blk w G 69 #[.slice (some ⟨gw, 0, none⟩) s.n s.n, .slice (some ⟨gl, 0, none⟩) s.n s.n, .int .i64 s.next]
  ws : Blk w gw 72 sl.toArray
  ls : Blk w gl 3 (s.last.map iv).toArray
  len : sl.length = s.n
  rows : Rows_ w 74 4 sl (s.waits.map itmCells)
  zG : ¬ Z G
  zw : ¬ Z gw
  zl : ¬ Z gl
  zr : ∀ v ∈ sl, ∀ g, v.ownBlock = some g → ¬ Z g
  d1 : G ≠ gw
  d2 : G ≠ gl
  d3 : gw ≠ gl
  dr : ∀ v ∈ sl, ∀ g, v.ownBlock = some g → g ≠ G ∧ g ≠ gw ∧ g ≠ gl
/-- A gate at block G. -/
def GateAt (w : World) (Z : Nat → Prop) (G : Nat) (s : Gat) : Prop := ∃ gw gl sl, GateIn w Z G gw gl sl s

section
variable {w w' : World} {Z : Nat → Prop} {G gw gl : Nat} {sl : List Value} {s : Gat}
theorem GateIn.wait (h : GateIn w Z G gw gl sl s) {i : Nat} (hi : i < s.n) :
    ∃ A c, sl[i]? = some (.slice A (s.at_ i).length c) ∧ w.cell? ⟨gw, i, none⟩ = some (.slice A (s.at_ i).length c) ∧ (s.at_ i).length ≤ c ∧ c ≤ maxLen ∧
      w.ownsRow 0 74 4 (.slice A (s.at_ i).length c) (s.at_ i).length (itmCells (s.at_ i)) ∧ Rd w w.heap.size 4 A (s.at_ i).length (itmCells (s.at_ i)) := by
  have hl : i < sl.length := by rw [h.len]; exact hi
  have hx : (s.waits.map itmCells)[i]? = some (itmCells (s.at_ i)) := by rw [List.getElem?_map, at_get hi]; rfl
  have ho := h.rows.row i sl[i] _ (List.getElem?_eq_getElem hl) hx
  rw [itmCells_div] at ho
  obtain ⟨A, c, e, h1, h2, _, h3⟩ := own_form ho
  have hs : sl[i]? = some (.slice A (s.at_ i).length c) := by rw [List.getElem?_eq_getElem hl, e]
  refine ⟨A, c, hs, ?_, h1, h2, e ▸ ho, h3⟩
  rw [h.ws.cell, List.getElem?_toArray, hs]
theorem GateIn.lastc (h : GateIn w Z G gw gl sl s) {i : Nat} (hi : i < s.n) : w.cell? ⟨gl, i, none⟩ = some (.int .i64 (s.last.getD i 0)) := by
  have hl : i < s.last.length := by rw [h.ok.last]; exact hi
  rw [h.ls.cell, List.getElem?_toArray, List.getElem?_map, List.getElem?_eq_getElem hl, List.getD_eq_getElem?_getD, List.getElem?_eq_getElem hl]
  rfl
theorem GateIn.c0 (h : GateIn w Z G gw gl sl s) : w.cell? ⟨G, 0, none⟩ = some (.slice (some ⟨gw, 0, none⟩) s.n s.n) := h.obj.cell 0
theorem GateIn.c1 (h : GateIn w Z G gw gl sl s) : w.cell? ⟨G, 1, none⟩ = some (.slice (some ⟨gl, 0, none⟩) s.n s.n) := h.obj.cell 1
theorem GateIn.c2 (h : GateIn w Z G gw gl sl s) : w.cell? ⟨G, 2, none⟩ = some (.int .i64 s.next) := h.obj.cell 2
/-- Where the gate's blocks stay, it stays. -/
theorem GateIn.same (h : GateIn w Z G gw gl sl s) (hk : ∀ g, ¬ Z g → g < w.heap.size → w'.heap[g]? = w.heap[g]?) : GateIn w' Z G gw gl sl s :=
  ⟨h.ok, (hk G h.zG h.obj.lt).trans h.obj, (hk gw h.zw h.ws.lt).trans h.ws, (hk gl h.zl h.ls.lt).trans h.ls, h.len, h.rows.same fun v g hv hg => hk g (h.zr v hv g hg) (by
    obtain ⟨i, hi⟩ := List.mem_iff_getElem?.1 hv
    have hl : i < sl.length := (List.getElem?_eq_some_iff.1 hi).1
    exact ((h.rows.row i v ((s.waits.map itmCells)[i]'(by rw [h.rows.len]; exact hl)) hi (List.getElem?_eq_getElem _)).lt g hg).2),
   h.zG, h.zw, h.zl, h.zr, h.d1, h.d2, h.d3, h.dr⟩
theorem GateIn.up (h : GateIn w Z G gw gl sl s) (hb : Below w.heap.size w w') : GateIn w' Z G gw gl sl s := h.same fun g _ hg => hb.block g hg
theorem GateIn.alloc (h : GateIn w Z G gw gl sl s) (o : Obj) : GateIn (w.alloc o) Z G gw gl sl s := h.same fun g _ hg => Below.heap_alloc w o g hg
theorem GateIn.drewN (h : GateIn w Z G gw gl sl s) (n : Nat) : GateIn (w.drewN n) Z G gw gl sl s := h.same fun _ _ _ => rfl
theorem GateIn.drew (h : GateIn w Z G gw gl sl s) : GateIn w.drew Z G gw gl sl s := h.same fun _ _ _ => rfl

theorem GateIn.lt (h : GateIn w Z G gw gl sl s) : G < w.heap.size ∧ gw < w.heap.size ∧ gl < w.heap.size ∧ ∀ v ∈ sl, ∀ g, v.ownBlock = some g → g < w.heap.size :=
  ⟨h.obj.lt, h.ws.lt, h.ls.lt, fun v hv g hg => by
    obtain ⟨i, hi⟩ := List.mem_iff_getElem?.1 hv
    have hl : i < sl.length := (List.getElem?_eq_some_iff.1 hi).1
    exact ((h.rows.row i v ((s.waits.map itmCells)[i]'(by rw [h.rows.len]; exact hl)) hi (List.getElem?_eq_getElem _)).lt g hg).2⟩
/-- What is not there yet is none of the gate's. -/
theorem GateIn.more (h : GateIn w Z G gw gl sl s) {Y : Nat → Prop} (hY : ∀ k, Y k → w.heap.size ≤ k) : GateIn w (fun k => Z k ∨ Y k) G gw gl sl s := by
  obtain ⟨a1, a2, a3, a4⟩ := h.lt
  exact ⟨h.ok, h.obj, h.ws, h.ls, h.len, h.rows, fun e => e.elim h.zG fun e => by have := hY _ e; omega, fun e => e.elim h.zw fun e => by have := hY _ e; omega, fun e => e.elim h.zl fun e => by have := hY _ e; omega,
    fun v hv g hg e => e.elim (h.zr v hv g hg) fun e => by have := hY _ e; have := a4 v hv g hg; omega, h.d1, h.d2, h.d3, h.dr⟩
theorem GateIn.less (h : GateIn w Z G gw gl sl s) {Y : Nat → Prop} (hY : ∀ k, Y k → Z k) : GateIn w Y G gw gl sl s :=
  ⟨h.ok, h.obj, h.ws, h.ls, h.len, h.rows, fun e => h.zG (hY _ e), fun e => h.zw (hY _ e), fun e => h.zl (hY _ e), fun v hv g hg e => h.zr v hv g hg (hY _ e), h.d1, h.d2, h.d3, h.dr⟩
theorem GateIn.set_ (h : GateIn w Z G gw gl sl s) {p : Addr} (hp : Z p.block) (u : Value) : GateIn (w.setCell p u) Z G gw gl sl s :=
  h.same fun g hg _ => Below.heap_setCell w p u g fun e => hg (e ▸ hp)
/-- The row at i is another one, and lies in the row of rows. -/
theorem GateIn.replace (h : GateIn w Z G gw gl sl s) {i : Nat} {v v' : Value} {l : List Itm} (hv : sl[i]? = some v) (hl : l.length ≤ 400) (hZ : ∀ k, Z k → k < w.heap.size)
    (hg : w.grownBy w' v.ownBlock) (ho : w'.ownsRow 0 74 4 v' l.length (itmCells l)) (hb : ∀ g, v'.ownBlock = some g → v.ownBlock = some g ∨ w.heap.size ≤ g) :
    GateIn (w'.setCell ⟨gw, i, none⟩ v') Z G gw gl (sl.set i v') (s.put i l) ∧ Keeps Z w (w'.setCell ⟨gw, i, none⟩ v') := by
  have hvm := List.mem_of_getElem? hv
  have hd := h.dr v hvm
  have hrow := h.rows.replace (x := itmCells l) hv hg (by rw [itmCells_div]; exact ho) hb
  have hneq : ∀ g, g < w.heap.size → v.ownBlock ≠ some g → w'.heap[g]? = w.heap[g]? := fun g h1 h2 => hg.block g h1 (Ne.symm h2)
  have bG := (hneq G h.obj.lt fun e => (hd G e).1 rfl)
  have bw := (hneq gw h.ws.lt fun e => (hd gw e).2.1 rfl)
  have bl := (hneq gl h.ls.lt fun e => (hd gl e).2.2 rfl)
  have hmem : ∀ u ∈ sl.set i v', ∀ g, u.ownBlock = some g → (∃ u' ∈ sl, u'.ownBlock = some g) ∨ w.heap.size ≤ g := by
    intro u hu g hg'
    rcases List.mem_or_eq_of_mem_set hu with hu | rfl
    · exact .inl ⟨u, hu, hg'⟩
    · rcases hb g hg' with e | e
      · exact .inl ⟨v, hvm, e⟩
      · exact .inr e
  have hdr : ∀ u ∈ sl.set i v', ∀ g, u.ownBlock = some g → g ≠ G ∧ g ≠ gw ∧ g ≠ gl := by
    intro u hu g hg'
    rcases hmem u hu g hg' with ⟨u', h1, h2⟩ | e
    · exact h.dr u' h1 g h2
    · have := h.obj.lt; have := h.ws.lt; have := h.ls.lt; exact ⟨by omega, by omega, by omega⟩
  refine ⟨⟨h.ok.put i hl, ?_, ?_, ?_, by rw [List.length_set, put_n]; exact h.len, ?_, h.zG, h.zw, h.zl, ?_, h.d1, h.d2, h.d3, hdr⟩, ?_⟩
  · rw [put_n]; exact Blk.far (bG.trans h.obj) h.d1 _
  · have := Blk.set_ (show Blk w' gw _ _ from bw.trans h.ws) i v'
    simpa using this
  · exact Blk.far (bl.trans h.ls) (Ne.symm h.d3) _
  · have e : (s.put i l).waits.map itmCells = (s.waits.map itmCells).set i (itmCells l) := by simp [Gat.put, List.map_set]
    rw [e]
    exact hrow.same fun u g hu hg' => Below.heap_setCell w' ⟨gw, i, none⟩ v' g (hdr u hu g hg').2.1
  · intro u hu g hg' hz
    rcases hmem u hu g hg' with ⟨u', h1, h2⟩ | e
    · exact h.zr u' h1 g h2 hz
    · have := hZ g hz; omega
  · refine Keeps.set_ (keeps_grown hg fun k hk => ⟨hZ k hk, fun e => ?_⟩) h.zw v'
    exact h.zr v hvm k e.symm hk
theorem GateIn.next_ (h : GateIn w Z G gw gl sl s) {j : Nat} (hj : j < s.n) : GateIn (w.setCell ⟨G, 2, none⟩ (.int .i64 j)) Z G gw gl sl { s with next := j } ∧ Keeps Z w (w.setCell ⟨G, 2, none⟩ (.int .i64 j)) := by
  refine ⟨⟨⟨h.ok.pos, h.ok.most, h.ok.last, hj, h.ok.full⟩, ?_, Blk.far h.ws (Ne.symm h.d1) _, Blk.far h.ls (Ne.symm h.d2) _, h.len, h.rows.same fun u g hu hg' => Below.heap_setCell w ⟨G, 2, none⟩ _ g (h.dr u hu g hg').1, h.zG, h.zw, h.zl, h.zr, h.d1, h.d2, h.d3, h.dr⟩, Keeps.set_ (Keeps.refl _ _) h.zG _⟩
  exact Blk.set_ h.obj 2 (.int .i64 j)
theorem GateIn.last_ (h : GateIn w Z G gw gl sl s) (i : Nat) (id : Int) : GateIn (w.setCell ⟨gl, i, none⟩ (.int .i64 id)) Z G gw gl sl { s with last := s.last.set i id } ∧ Keeps Z w (w.setCell ⟨gl, i, none⟩ (.int .i64 id)) := by
  refine ⟨⟨⟨h.ok.pos, h.ok.most, by rw [List.length_set]; exact h.ok.last, h.ok.next, h.ok.full⟩, Blk.far h.obj h.d2 _, Blk.far h.ws h.d3 _, ?_, h.len, h.rows.same fun u g hu hg' => Below.heap_setCell w ⟨gl, i, none⟩ _ g (h.dr u hu g hg').2.2, h.zG, h.zw, h.zl, h.zr, h.d1, h.d2, h.d3, h.dr⟩, Keeps.set_ (Keeps.refl _ _) h.zl _⟩
  have := Blk.set_ h.ls i (.int .i64 id)
  simpa [List.map_set, iv] using this
end
end Go.Proofs.YtmeemcafjebanaaDoor
