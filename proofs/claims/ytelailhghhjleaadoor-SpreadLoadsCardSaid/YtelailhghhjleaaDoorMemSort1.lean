/- Indices in order of what they have, the greatest ahead; the row that holds them. No program in sight. -/
import Derived.Test.YtelailhghhjleaaDoorPlainLeast
import Derived.Test.YtelailhghhjleaaDoorPlainStable
import Derived.Test.YtelailhghhjleaaDoorPlainCmp
import Derived.Test.YtelailhghhjleaaDoorMemSort
import Derived.Shelf.SlSortCmp.Kit1
namespace Go.Proofs.YtelailhghhjleaaDoor
open Go.RowKit Go.Sort Go.Shelf Go.Lib

def fV {m : Nat} (x : Fin m) : Value := .int .i64 x.val
def loadCf (l : List Int) {m : Nat} (x y : Fin m) : Int := cmpI (atD l y.val) (atD l x.val)
theorem fV_one {m : Nat} : OneCell (fV (m := m)) := fun _ => rfl
theorem loadLt_iff {l : List Int} {m : Nat} {x y : Fin m} : ltOf (loadCf l) x y = true ↔ atD l y.val < atD l x.val := by
  unfold ltOf loadCf cmpI
  rw [decide_eq_true_eq]
  split
  · omega
  · split <;> omega
theorem loadSwo (l : List Int) (m : Nat) : SWO (ltOf (loadCf l (m := m))) := by
  refine ⟨fun x => ?_, fun x y z h k => ?_, fun x y z h k => ?_⟩
  · rw [← Bool.not_eq_true, loadLt_iff]; omega
  · rw [loadLt_iff] at *; omega
  · rw [← Bool.not_eq_true, loadLt_iff] at *; omega
theorem finRange_vals (m : Nat) : (List.finRange m).map Fin.val = List.range m := by
  apply List.ext_getElem <;> simp
theorem ord_of {l : List Int} {m : Nat} (hm : l.length = m + 1) {d : List (Fin (m + 1))} (hs : Steps (ltOf (loadCf l)) (List.finRange (m + 1)) d) (hu : Up (ltOf (loadCf l)) d) : OrdOf l (d.map Fin.val) := by
  refine ⟨?_, ?_⟩
  · have := (hs.perm.map Fin.val).symm
    rw [finRange_vals] at this; rw [hm]; exact this.symm.symm
  · rw [List.pairwise_map]
    have h1 : d.Pairwise fun x y => atD l x.val = atD l y.val → x.val < y.val := hs.pairwise (fun q p h e => by rw [loadLt_iff] at h; omega) (by
      rw [List.pairwise_iff_getElem]
      intro i j hi hj hij _
      simp
      exact hij)
    refine (h1.and hu).imp fun {x y} h => ?_
    have h2 := h.2
    rw [← Bool.not_eq_true, loadLt_iff] at h2
    by_cases e : atD l x.val = atD l y.val
    · exact .inr ⟨e, h.1 e⟩
    · exact .inl (by omega)
theorem sort_own {m : Nat} {w W : World} {base g n c : Nat} {e : TypeId} {zs d : List (Fin (m + 1))} (h : w.ownsRow base e 1 (.slice (some ⟨g, 0, none⟩) n c) n (zs.map fV)) (hd : d.length = n) (hS : SW fV w g 0 d.toArray W) (hB : base ≤ w.heap.size) :
    W.ownsRow base e 1 (.slice (some ⟨g, 0, none⟩) n c) n (d.map fV) ∧ Below base w W := by
  obtain ⟨q, os, rfl⟩ := hS
  have hb := (h.lt g rfl).1
  have h1 := ownsRow_putRow (q := q) (k := n) h hd (Nat.le_refl _)
  rw [List.take_of_length_le (by omega)] at h1
  exact ⟨own_up h1 (below_grow0 _ (Nat.le_refl _) os), (below_putRow (Below.refl base w) hb).trans (below_grow0 _ (by rw [size_putRow]; exact hB) os)⟩
end Go.Proofs.YtelailhghhjleaaDoor
