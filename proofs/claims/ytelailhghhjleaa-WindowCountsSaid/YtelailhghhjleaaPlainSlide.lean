/- Panes that lie over one another, as plain data: how one record is counted in one pane, in all its panes. No program in sight. -/
import Derived.Test.YtelailhghhjleaaPlainSess
namespace Go.Proofs.Ytelailhghhjleaa
open Go.RowKit

def isAt (k : ByteArray) (f : Int) (p : Pane) : Bool := decide (p.key = k ∧ p.lo = f)
theorem isAt_iff {k : ByteArray} {f : Int} {p : Pane} : isAt k f p = true ↔ p.key = k ∧ p.lo = f := by simp [isAt]
/-- Counted in a pane, or late for it. -/
def bump (mark num : Int) (p : Pane) : Pane := if p.hi ≤ mark then ⟨p.key, p.lo, p.hi, p.many, p.sum, wrap64 (p.late + 1)⟩ else ⟨p.key, p.lo, p.hi, wrap64 (p.many + 1), wrap64 (p.sum + num), p.late⟩
theorem bump_key (mark num : Int) (p : Pane) : (bump mark num p).key = p.key ∧ (bump mark num p).lo = p.lo ∧ (bump mark num p).hi = p.hi := by unfold bump; split <;> exact ⟨rfl, rfl, rfl⟩
/-- With the pane among them. -/
def ens (P : List Pane) (k : ByteArray) (f size : Int) : List Pane := if P.any (isAt k f) = true then P else P ++ [⟨k, f, f + size, 0, 0, 0⟩]
def upd (P : List Pane) (k : ByteArray) (f size mark num : Int) : List Pane := (ens P k f size).map fun p => if isAt k f p = true then bump mark num p else p
/-- Of each key and beginning one pane. -/
def Apart (P : List Pane) : Prop := P.Pairwise fun p q => ¬ (p.key = q.key ∧ p.lo = q.lo)
theorem ens_there {P : List Pane} {k : ByteArray} {f size : Int} (h : P.any (isAt k f) = true) : ens P k f size = P := by rw [ens, if_pos h]
theorem ens_new {P : List Pane} {k : ByteArray} {f size : Int} (h : P.any (isAt k f) = false) : ens P k f size = P ++ [⟨k, f, f + size, 0, 0, 0⟩] := by rw [ens, if_neg (by simp [h])]
theorem any_no {P : List Pane} {k : ByteArray} {f : Int} (h : P.any (isAt k f) = false) {p : Pane} (hp : p ∈ P) : ¬ (p.key = k ∧ p.lo = f) := by
  intro e
  have := List.any_eq_false.1 h p hp
  exact this (isAt_iff.2 e)
theorem ens_apart {P : List Pane} {k : ByteArray} {f size : Int} (h : Apart P) : Apart (ens P k f size) := by
  rcases ha : P.any (isAt k f) with _ | _
  · rw [ens_new ha, Apart, List.pairwise_append]
    refine ⟨h, List.pairwise_singleton _ _, fun a ha' b hb => ?_⟩
    rw [List.mem_singleton.1 hb]
    exact any_no ha ha'
  · rw [ens_there ha]; exact h
theorem apart_at {P : List Pane} (h : Apart P) {i j : Nat} {p q : Pane} (hi : P[i]? = some p) (hj : P[j]? = some q) (he : p.key = q.key ∧ p.lo = q.lo) : i = j := by
  obtain ⟨h1, rfl⟩ := List.getElem?_eq_some_iff.1 hi
  obtain ⟨h2, rfl⟩ := List.getElem?_eq_some_iff.1 hj
  rcases Nat.lt_trichotomy i j with hlt | e | hlt
  · exact absurd he (List.pairwise_iff_getElem.1 h i j h1 h2 hlt)
  · exact e
  · exact absurd ⟨he.1.symm, he.2.symm⟩ (List.pairwise_iff_getElem.1 h j i h2 h1 hlt)
/-- Counting changes one place alone. -/
theorem upd_set {P : List Pane} {k : ByteArray} {f size mark num : Int} (h : Apart P) {j : Nat} {p : Pane} (hj : (ens P k f size)[j]? = some p) (hp : p.key = k ∧ p.lo = f) : upd P k f size mark num = (ens P k f size).set j (bump mark num p) := by
  have hA := ens_apart (k := k) (f := f) (size := size) h
  apply List.ext_getElem?
  intro i
  rw [upd, List.getElem?_map, List.getElem?_set]
  by_cases hij : j = i
  · subst hij
    have hl := (List.getElem?_eq_some_iff.1 hj).1
    rw [if_pos rfl, if_pos hl, hj]
    simp [isAt_iff.2 hp]
  · rw [if_neg hij]
    rcases hi : (ens P k f size)[i]? with _ | q
    · rfl
    · have : isAt k f q = false := by
        rcases hq : isAt k f q with _ | _
        · rfl
        · have e := isAt_iff.1 hq
          exact absurd (apart_at hA hj hi ⟨hp.1.trans e.1.symm, hp.2.trans e.2.symm⟩) hij
      simp [this]
theorem ens_at {P : List Pane} {k : ByteArray} {f size : Int} : ∃ (j : Nat) (p : Pane), (ens P k f size)[j]? = some p ∧ p.key = k ∧ p.lo = f := by
  rcases ha : P.any (isAt k f) with _ | _
  · rw [ens_new ha]
    exact ⟨P.length, ⟨k, f, f + size, 0, 0, 0⟩, by rw [List.getElem?_append_right (Nat.le_refl _), Nat.sub_self]; rfl, rfl, rfl⟩
  · rw [ens_there ha]
    obtain ⟨p, hp, hpa⟩ := List.any_eq_true.1 ha
    obtain ⟨j, hj⟩ := List.mem_iff_getElem?.1 hp
    exact ⟨j, p, hj, isAt_iff.1 hpa⟩
theorem upd_apart {P : List Pane} {k : ByteArray} {f size mark num : Int} (h : Apart P) : Apart (upd P k f size mark num) := by
  rw [upd, Apart, List.pairwise_map]
  refine List.Pairwise.imp (fun {a b} hab => ?_) (ens_apart (k := k) (f := f) (size := size) h)
  have e : ∀ p : Pane, (if isAt k f p = true then bump mark num p else p).key = p.key ∧ (if isAt k f p = true then bump mark num p else p).lo = p.lo := fun p => by
    split
    · exact ⟨(bump_key mark num p).1, (bump_key mark num p).2.1⟩
    · exact ⟨rfl, rfl⟩
  rw [(e a).1, (e a).2, (e b).1, (e b).2]
  exact hab
/-- A record in its panes, from a last one down; those that are left: j. -/
def downTo (r : Rec) (size by_ mark : Int) : Nat → List Pane → List Pane
  | 0, P => P
  | j + 1, P => if r.time < by_ * j + size then downTo r size by_ mark j (upd P r.key (by_ * j) size mark r.num) else P
/-- How far time has come. -/
def markTo (slack : Int) (l : List Rec) : Int := l.foldl (fun m r => max m (r.time - slack)) 0
def recAt (l : List Rec) (i : Nat) : Rec := l.getD i ⟨⟨#[]⟩, 0, 0⟩
/-- All panes of some records. -/
def slideTo (size by_ slack : Int) (l : List Rec) : Nat → List Pane
  | 0 => []
  | i + 1 => downTo (recAt l i) size by_ (markTo slack (l.take i)) (((recAt l i).time / by_).toNat + 1) (slideTo size by_ slack l i)
end Go.Proofs.Ytelailhghhjleaa
