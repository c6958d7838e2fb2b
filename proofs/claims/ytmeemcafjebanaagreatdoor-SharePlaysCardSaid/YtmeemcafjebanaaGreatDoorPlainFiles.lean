/- Files as the reference has them: a list that rises by names. No program in sight. -/
import Derived.Test.YtmeemcafjebanaaGreatDoorPlainLow
import Derived.Sort.KeysCollected
namespace Go.Proofs.YtmeemcafjebanaaGreatDoor
open Go.RowKit

/-- A file of the reference: its name, its bytes, where they lie. -/
structure RFl where
  name : ByteArray
  b : List UInt8
  A : Option Addr
  c : Nat
/-- Files among which one is, or is not. -/
def withR (e : RFl) : List RFl → Bool → List RFl
  | [], dn => if dn then [] else [e]
  | x :: xs, dn => if x.name = e.name then withR e xs dn else if !dn && klt e.name x.name then e :: x :: withR e xs true else x :: withR e xs dn
def riseR (l : List RFl) : Prop := l.Pairwise fun a b => klt a.name b.name = true
def atR (n : ByteArray) (l : List RFl) : Option RFl := l.find? fun z => decide (z.name = n)
theorem withR_off (e : RFl) : ∀ l : List RFl, withR e l true = l.filter fun z => !decide (z.name = e.name) := by
  intro l
  induction l with
  | nil => rfl
  | cons x xs ih =>
    rw [withR, List.filter_cons]
    by_cases h : x.name = e.name
    · rw [if_pos h, ih, if_neg (by simp [h])]
    · rw [if_neg h, if_neg (by simp), ih, if_pos (by simp [h])]
theorem riseR_off {l : List RFl} (p : RFl → Bool) (h : riseR l) : riseR (l.filter p) := List.Pairwise.filter p h
theorem withR_mem {e : RFl} {dn : Bool} : ∀ {l : List RFl} {z : RFl}, z ∈ withR e l dn → z = e ∨ z ∈ l := by
  intro l
  induction l generalizing dn with
  | nil =>
    intro z hz
    cases dn
    · exact .inl (by simpa [withR] using hz)
    · simp [withR] at hz
  | cons x xs ih =>
    intro z hz
    rw [withR] at hz
    split at hz
    · exact (ih hz).imp id (List.mem_cons_of_mem _)
    · split at hz
      · rcases List.mem_cons.1 hz with h | h
        · exact .inl h
        · rcases List.mem_cons.1 h with h | h
          · exact .inr (h ▸ List.mem_cons_self)
          · exact (ih h).imp id (List.mem_cons_of_mem _)
      · rcases List.mem_cons.1 hz with h | h
        · exact .inr (h ▸ List.mem_cons_self)
        · exact (ih h).imp id (List.mem_cons_of_mem _)
theorem withR_len (e : RFl) : ∀ (l : List RFl) (dn : Bool), (withR e l dn).length ≤ l.length + 1 := by
  intro l
  induction l with
  | nil => intro dn; cases dn <;> simp [withR]
  | cons x xs ih =>
    intro dn
    rw [withR]
    split
    · exact Nat.le_trans (ih dn) (by simp)
    · split
      · have h : (withR e xs true).length ≤ xs.length := by rw [withR_off]; exact List.length_filter_le _ _
        simpa using h
      · simpa using ih dn
theorem withR_put {e : RFl} : ∀ {l : List RFl}, riseR l → riseR (withR e l false) ∧ (withR e l false).Perm (e :: l.filter fun z => !decide (z.name = e.name)) := by
  intro l
  induction l with
  | nil => intro _; exact ⟨List.pairwise_singleton _ _, List.Perm.refl _⟩
  | cons x xs ih =>
    intro h
    obtain ⟨h1, h2⟩ := List.pairwise_cons.1 h
    obtain ⟨k1, k2⟩ := ih h2
    rw [withR, List.filter_cons]
    by_cases hn : x.name = e.name
    · rw [if_pos hn, if_neg (by simp [hn])]
      exact ⟨k1, k2⟩
    · rcases hc : klt e.name x.name
      · rw [if_neg hn, if_neg (by simp), if_pos (by simp [hn])]
        have hx : klt x.name e.name = true := by
          rcases klt_tri x.name e.name with h | h | h
          · exact h
          · exact absurd h hn
          · rw [hc] at h; cases h
        refine ⟨List.pairwise_cons.2 ⟨fun z hz => ?_, k1⟩, (k2.cons x).trans (List.Perm.swap _ _ _)⟩
        rcases withR_mem hz with rfl | hz
        · exact hx
        · exact h1 z hz
      · rw [if_neg hn, if_pos (by simp), if_pos (by simp [hn]), withR_off]
        refine ⟨List.pairwise_cons.2 ⟨fun z hz => ?_, List.pairwise_cons.2 ⟨fun z hz => h1 z (List.mem_filter.1 hz).1, riseR_off _ h2⟩⟩, List.Perm.refl _⟩
        rcases List.mem_cons.1 hz with rfl | hz
        · exact hc
        · exact klt_trans hc (h1 z (List.mem_filter.1 hz).1)
theorem atR_some {n : ByteArray} {l : List RFl} {x : RFl} (h : atR n l = some x) : x ∈ l ∧ x.name = n := ⟨List.mem_of_find?_eq_some h, by simpa using List.find?_some h⟩
theorem atR_none {n : ByteArray} {l : List RFl} : atR n l = none ↔ ∀ x ∈ l, x.name ≠ n := by
  rw [atR, List.find?_eq_none]
  constructor
  · intro h x hx e; exact h x hx (by simpa using e)
  · intro h x hx e; exact h x hx (by simpa using e)
theorem riseR_one {l : List RFl} (h : riseR l) {x y : RFl} (hx : x ∈ l) (hy : y ∈ l) (e : x.name = y.name) : x = y := by
  induction l with
  | nil => cases hx
  | cons z zs ih =>
    obtain ⟨h1, h2⟩ := List.pairwise_cons.1 h
    rcases List.mem_cons.1 hx with ex | hx2
    · rcases List.mem_cons.1 hy with ey | hy2
      · rw [ex, ey]
      · exact absurd (ex ▸ e) (klt_ne (h1 y hy2))
    · rcases List.mem_cons.1 hy with ey | hy2
      · exact absurd (ey ▸ e.symm) (klt_ne (h1 x hx2))
      · exact ih h2 hx2 hy2
theorem atR_mem {l : List RFl} (h : riseR l) {x : RFl} (hx : x ∈ l) : atR x.name l = some x := by
  rcases hf : atR x.name l with _ | y
  · exact absurd rfl (atR_none.1 hf x hx)
  · obtain ⟨h1, h2⟩ := atR_some hf
    rw [riseR_one h h1 hx h2]
/-- What is done: 1 a file is written, 2 gets another name, 3 is taken away. -/
structure RW where
  kind : Int
  name : ByteArray
  to : ByteArray
  b : List UInt8
  A : Option Addr
  c : Nat
  n : Int
def noR (n : ByteArray) : RFl := ⟨n, [], none, 0⟩
def moveR (l : List RFl) (a b : ByteArray) : Option RFl → List RFl
  | none => l
  | some x => withR ⟨b, x.b, x.A, x.c⟩ (withR (noR a) l true) false
def doingR (l : List RFl) (w : RW) : List RFl :=
  if w.kind = 1 then withR ⟨w.name, w.b, w.A, w.c⟩ l false
  else if w.kind = 2 then moveR l w.name w.to (atR w.name l)
  else if w.kind = 3 then withR (noR w.name) l true
  else l
theorem moveR_len (l : List RFl) (a b : ByteArray) (o : Option RFl) : (moveR l a b o).length ≤ l.length + 1 := by
  cases o with
  | none => exact Nat.le_succ _
  | some x =>
    refine Nat.le_trans (withR_len _ _ _) (Nat.succ_le_succ ?_)
    rw [withR_off]; exact List.length_filter_le _ _
theorem doingR_len (l : List RFl) (w : RW) : (doingR l w).length ≤ l.length + 1 := by
  unfold doingR
  split
  · exact withR_len _ _ _
  · split
    · exact moveR_len _ _ _ _
    · split
      · exact withR_len _ _ _
      · exact Nat.le_succ _
/-- Names in order: the names of files that rise. -/
theorem names_sorted {l : List RFl} (h : riseR l) {ss : List (List UInt8)} (hp : ss.Perm (l.map fun x => x.name.data.toList)) : ss.mergeSort leB = l.map fun x => x.name.data.toList := by
  rw [mergeSort_of_perm hp]
  refine List.mergeSort_of_pairwise (List.pairwise_map.2 (h.imp fun {a b} hab => ?_))
  have := klt_iff.1 hab
  rw [ByteArray.toList_eq, ByteArray.toList_eq] at this
  simp only [leB, decide_eq_true_eq]
  exact List.le_of_lt this
end Go.Proofs.YtmeemcafjebanaaGreatDoor
