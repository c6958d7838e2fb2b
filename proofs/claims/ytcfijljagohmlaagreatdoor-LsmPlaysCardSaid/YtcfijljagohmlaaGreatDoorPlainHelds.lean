/- States as bytes. No program in sight. -/
import Derived.Test.YtcfijljagohmlaaGreatDoorPlainHeld
namespace Go.Proofs.YtcfijljagohmlaaGreatDoor
open Go.RowKit

/-- A state as bytes. -/
def hldB (h : Hld) : List UInt8 := numB h.node ++ textB h.key.data.toList ++ numB h.a ++ numB h.b
/-- Does a state not rise behind another one? -/
def notAfter (p : Option Hld) (h : Hld) : Bool := match p with | none => false | some q => decide (0 ≤ cmpH q h)
/-- The first fault of states behind one. -/
def heldsGo : Option Hld → List Hld → Nat
  | _, [] => 0
  | p, h :: r => if hldOk h = false then 1 else if notAfter p h = true then 5 else heldsGo (some h) r
def heldsE (l : List Hld) : Nat := if 400 < l.length then 4 else heldsGo none l
def heldsB (l : List Hld) : List UInt8 := if heldsE l = 0 then numB l.length ++ l.flatMap hldB else []
def prevAt (l : List Hld) (k : Nat) : Option Hld := if k = 0 then none else l[k - 1]?

theorem hldE_of {l : List Hld} {e : Nat} (h : l.length ≤ 400) (hg : heldsGo none l = e) : heldsE l = e := by rw [heldsE, if_neg (by omega), hg]
theorem hldE_bad {l : List Hld} {e : Nat} (h : heldsE l = e) (he : e ≠ 0) : heldsB l = [] := by rw [heldsB, if_neg (by omega)]
theorem hldE_good {l : List Hld} (h : heldsE l = 0) : heldsB l = numB l.length ++ l.flatMap hldB := by rw [heldsB, if_pos h]
theorem hldE_long {l : List Hld} (h : 400 < l.length) : heldsE l = 4 := by rw [heldsE, if_pos h]

theorem drop_hld {l : List Hld} {k : Nat} {r : Hld} (h : l[k]? = some r) : l.drop k = r :: l.drop (k + 1) := by
  obtain ⟨hk, rfl⟩ := List.getElem?_eq_some_iff.1 h
  exact List.drop_eq_getElem_cons hk
theorem go_range {l : List Hld} {k : Nat} {r : Hld} (h : l[k]? = some r) (hr : hldOk r = false) : heldsGo (prevAt l k) (l.drop k) = 1 := by
  rw [drop_hld h, heldsGo, if_pos hr]
theorem prev_at {l : List Hld} {j : Nat} {q : Hld} (hq : l[j]? = some q) : prevAt l (j + 1) = some q := by
  rw [prevAt, if_neg (by omega), show j + 1 - 1 = j from rfl, hq]
theorem go_order {l : List Hld} {j : Nat} {q r : Hld} (hq : l[j]? = some q) (h : l[j + 1]? = some r) (hr : hldOk r = true) (hc : 0 ≤ cmpH q r) : heldsGo (prevAt l (j + 1)) (l.drop (j + 1)) = 5 := by
  rw [drop_hld h, heldsGo, if_neg (by simp [hr]), prev_at hq, if_pos (by simpa [notAfter] using hc)]
theorem go_next0 {l : List Hld} {r : Hld} (h : l[0]? = some r) (hr : hldOk r = true) : heldsGo (prevAt l 0) (l.drop 0) = heldsGo (prevAt l 1) (l.drop 1) := by
  rw [drop_hld h, heldsGo, if_neg (by simp [hr]), if_neg (by simp [prevAt, notAfter])]
  simp [prevAt, h]
theorem go_next {l : List Hld} {j : Nat} {q r : Hld} (hq : l[j]? = some q) (h : l[j + 1]? = some r) (hr : hldOk r = true) (hc : cmpH q r < 0) : heldsGo (prevAt l (j + 1)) (l.drop (j + 1)) = heldsGo (prevAt l (j + 1 + 1)) (l.drop (j + 1 + 1)) := by
  rw [drop_hld h, heldsGo, if_neg (by simp [hr]), prev_at hq, if_neg (by simp only [notAfter, decide_eq_true_eq]; omega), prev_at h]
theorem hlds_step {l : List Hld} {k : Nat} {r : Hld} (h : l[k]? = some r) :
    ((l.take (k + 1)).flatMap hldB).map bv = ((l.take k).flatMap hldB).map bv ++ (numB r.node).map bv ++ (textB r.key.data.toList).map bv ++ (numB r.a).map bv ++ (numB r.b).map bv := by
  rw [List.take_add_one, h]
  simp [hldB]
theorem hldOk_key {r : Hld} (h : hldOk r = true) : r.key.size ≤ 40 := by
  simp only [hldOk, Bool.and_eq_true, decide_eq_true_eq] at h; exact h.2

theorem cells4 {w : World} {g : Nat} {t : TypeId} {x y z u : Value} (h : Blk w g t #[x, y, z, u]) :
    w.cell? ⟨g, 0, none⟩ = some x ∧ w.cell? ⟨g, 1, none⟩ = some y ∧ w.cell? ⟨g, 2, none⟩ = some z ∧ w.cell? ⟨g, 3, none⟩ = some u :=
  ⟨h.cell 0, h.cell 1, h.cell 2, h.cell 3⟩
theorem Blk.app {w w' : World} {g : Nat} {t : TypeId} {cs : Array Value} {v : Value} (h : Blk w g t cs) (hb : w.grownBy w' v.ownBlock) (hn : ∀ k, v.ownBlock = some k → k ≠ g) : Blk w' g t cs :=
  h.grown hb fun e => hn g e.symm rfl
end Go.Proofs.YtcfijljagohmlaaGreatDoor
