/- PlainSess PlainLow in one text. -/
import Derived.Test.YtmeemcafjebanaaGreatDoorPlainRec
import Derived.Test.YtmeemcafjebanaaGreatDoorPlainStable
import Derived.Shelf.SlSortCmp.Insertion
import Derived.Lib.Bytealg
/- Sessions of records, as plain lists. No program in sight. -/
namespace Go.Proofs.YtmeemcafjebanaaGreatDoor
open Go.RowKit Go.Sort Go.Shelf

theorem bytesLess_is : ∀ (x y : List UInt8), Op.bytesLess x y = decide (x < y)
  | [], [] => by simp [Op.bytesLess]
  | _ :: _, [] => by simp [Op.bytesLess]
  | [], _ :: _ => by simp [Op.bytesLess]
  | a :: x, b :: y => by
    rw [Op.bytesLess, bytesLess_is x y]
    simp only [List.cons_lt_cons_iff]
    by_cases h1 : a < b <;> by_cases h2 : a = b <;> by_cases h3 : x < y <;> simp [h1, h2, h3]
theorem bl_irrefl (x : List UInt8) : ¬ x < x := List.lt_irrefl x
theorem bl_trans {x y z : List UInt8} (h : x < y) (k : y < z) : x < z := List.lt_trans h k
theorem bl_tri (x y : List UInt8) : x < y ∨ x = y ∨ y < x := by
  by_cases h1 : x < y
  · exact .inl h1
  · by_cases h2 : y < x
    · exact .inr (.inr h2)
    · exact .inr (.inl (List.le_antisymm (List.not_lt.1 h2) (List.not_lt.1 h1)))
theorem bytes_same {a b : ByteArray} (h : a.toList = b.toList) : a = b := by
  rw [ByteArray.toList_eq, ByteArray.toList_eq] at h
  cases a; cases b
  simp only [ByteArray.mk.injEq]
  exact Array.toList_inj.1 h

/-- By key, then time. -/
def recCf (a b : Rec) : Int := orI (cmpS a.key b.key) (cmpI a.time b.time)
theorem recLt_iff {a b : Rec} : ltOf recCf a b = true ↔ a.key.toList < b.key.toList ∨ (a.key.toList = b.key.toList ∧ a.time < b.time) := by
  unfold ltOf recCf orI cmpS cmpI
  rw [bytesLess_is]
  simp only [decide_eq_true_eq, beq_iff_eq]
  by_cases h1 : a.key.toList < b.key.toList
  · simp [h1]
  · by_cases h2 : a.key.toList = b.key.toList
    · simp only [h2, if_true, if_false, false_or, true_and, ne_eq, not_true_eq_false, bl_irrefl]
      split <;> (try split) <;> omega
    · simp [h1, h2]
theorem recLe_iff {a b : Rec} : ltOf recCf b a = false ↔ a.key.toList < b.key.toList ∨ (a.key.toList = b.key.toList ∧ a.time ≤ b.time) := by
  rw [← Bool.not_eq_true, recLt_iff]
  rcases bl_tri a.key.toList b.key.toList with h | h | h
  · have h2 : ¬ b.key.toList < a.key.toList := fun k => bl_irrefl _ (bl_trans h k)
    have h3 : ¬ b.key.toList = a.key.toList := fun k => by rw [k] at h; exact bl_irrefl _ h
    simp [h, h2, h3]
  · simp [h, bl_irrefl]
  · have h2 : ¬ a.key.toList < b.key.toList := fun k => bl_irrefl _ (bl_trans h k)
    have h3 : ¬ a.key.toList = b.key.toList := fun k => by rw [k] at h; exact bl_irrefl _ h
    simp [h, h2, h3]
theorem recSwo : SWO (ltOf recCf) := by
  refine ⟨fun x => ?_, fun x y z h k => ?_, fun x y z h k => ?_⟩
  · exact recLe_iff.2 (.inr ⟨rfl, Int.le_refl _⟩)
  · rw [recLt_iff] at *
    rcases h with h | ⟨h, h'⟩ <;> rcases k with k | ⟨k, k'⟩
    · exact .inl (bl_trans h k)
    · exact .inl (k ▸ h)
    · exact .inl (h ▸ k)
    · exact .inr ⟨h.trans k, by omega⟩
  · rw [recLe_iff] at *
    rcases h with h | ⟨h, h'⟩ <;> rcases k with k | ⟨k, k'⟩
    · exact .inl (bl_trans k h)
    · exact .inl (by rw [k]; exact h)
    · exact .inl (by rw [← h]; exact k)
    · exact .inr ⟨k.trans h, by omega⟩

/-- A pane. -/
structure Pane where
  key : ByteArray
  lo : Int
  hi : Int
  many : Int
  sum : Int
  late : Int
def Pane.cells (p : Pane) : List Value := [.string p.key, .int .i64 p.lo, .int .i64 p.hi, .int .i64 p.many, .int .i64 p.sum, .int .i64 p.late]
def paneCells (l : List Pane) : List Value := l.flatMap Pane.cells
def Pane.new (r : Rec) : Pane := ⟨r.key, r.time, 0, 0, 0, 0⟩
def Pane.ext (gap : Int) (p : Pane) (r : Rec) : Pane := ⟨p.key, p.lo, r.time + gap, p.many + 1, IntKind.i64.wrap (p.sum + r.num), p.late⟩
def joins (p : Pane) (r : Rec) : Bool := (p.key.toList == r.key.toList) && decide (r.time < p.hi)
/-- The next record: the newest pane is ahead. -/
def stepR (gap : Int) : List Pane → Rec → List Pane
  | [], r => [(Pane.new r).ext gap r]
  | p :: ps, r => if joins p r = true then p.ext gap r :: ps else (Pane.new r).ext gap r :: p :: ps
def sessR (gap : Int) (l : List Rec) : List Pane := l.foldl (stepR gap) []
def sess (gap : Int) (l : List Rec) : List Pane := (sessR gap l).reverse

theorem wrap_comm (s a b : Int) : IntKind.i64.wrap (IntKind.i64.wrap (s + a) + b) = IntKind.i64.wrap (IntKind.i64.wrap (s + b) + a) := by
  simp only [IntKind.wrap_i64]; omega
theorem joins_iff {p : Pane} {r : Rec} : joins p r = true ↔ p.key.toList = r.key.toList ∧ r.time < p.hi := by simp [joins]
theorem joins_cg {p : Pane} {a b : Rec} (hk : a.key = b.key) (ht : a.time = b.time) : joins p a = joins p b := by rw [joins, joins, hk, ht]
theorem ext_comm {gap : Int} (p : Pane) {a b : Rec} (ht : a.time = b.time) : (p.ext gap a).ext gap b = (p.ext gap b).ext gap a := by
  simp only [Pane.ext, Pane.mk.injEq, true_and, and_true]
  exact ⟨by rw [ht], wrap_comm _ _ _⟩
theorem new_ext_joins {gap : Int} (hg : 1 ≤ gap) {a b : Rec} (ht : a.time = b.time) (p : Pane) (hp : p.key = b.key) : joins (p.ext gap a) b = true := by
  rw [joins_iff]; exact ⟨by rw [← hp]; rfl, by simp only [Pane.ext]; omega⟩
theorem stepR_comm {gap : Int} (hg : 1 ≤ gap) {a b : Rec} (hk : a.key = b.key) (ht : a.time = b.time) (o : List Pane) : stepR gap (stepR gap o a) b = stepR gap (stepR gap o b) a := by
  have hn : Pane.new a = Pane.new b := by rw [Pane.new, Pane.new, hk, ht]
  have key : ∀ ps, stepR gap ((Pane.new a).ext gap a :: ps) b = stepR gap ((Pane.new b).ext gap b :: ps) a := by
    intro ps
    rw [stepR, stepR, if_pos (new_ext_joins hg ht _ (by exact hk)), if_pos (new_ext_joins hg ht.symm _ (by exact hk.symm)), hn, ext_comm _ ht]
  cases o with
  | nil => exact key []
  | cons p ps =>
    rw [stepR, stepR, ← joins_cg hk ht]
    by_cases hj : joins p a = true
    · rw [if_pos hj, if_pos hj]
      have hpk := (joins_iff.1 hj).1
      rw [stepR, stepR, if_pos (new_ext_joins hg ht _ (by rw [bytes_same hpk, hk])), if_pos (new_ext_joins hg ht.symm _ (bytes_same hpk)), ext_comm _ ht]
    · rw [if_neg hj, if_neg hj]
      exact key (p :: ps)
theorem sess_move {gap : Int} (hg : 1 ≤ gap) : ∀ (u : List Rec) (a : Rec) (o : List Pane), (∀ x ∈ u, x.key = a.key ∧ x.time = a.time) → (u ++ [a]).foldl (stepR gap) o = (a :: u).foldl (stepR gap) o := by
  intro u
  induction u with
  | nil => intro a o _; rfl
  | cons x u ih =>
    intro a o h
    have hx := h x (List.mem_cons_self ..)
    show (u ++ [a]).foldl (stepR gap) (stepR gap o x) = u.foldl (stepR gap) (stepR gap (stepR gap o a) x)
    rw [ih a _ (fun y hy => h y (List.mem_cons_of_mem _ hy)), List.foldl_cons, stepR_comm hg hx.1 hx.2]
theorem rec_anti {a x : Rec} (h1 : ltOf recCf a x = false) (h2 : ltOf recCf x a = false) : x.key = a.key ∧ x.time = a.time := by
  rw [recLe_iff] at h1 h2
  rcases h1 with h1 | ⟨h1, h1'⟩ <;> rcases h2 with h2 | ⟨h2, h2'⟩
  · exact absurd (bl_trans h1 h2) (bl_irrefl _)
  · rw [h2] at h1; exact absurd h1 (bl_irrefl _)
  · rw [h1] at h2; exact absurd h2 (bl_irrefl _)
  · exact ⟨bytes_same h1, by omega⟩
/-- In whatever order records come. -/
theorem sess_perm {gap : Int} (hg : 1 ≤ gap) : ∀ (s1 s2 : List Rec) (o : List Pane), s1.Perm s2 → Up (ltOf recCf) s1 → Up (ltOf recCf) s2 → s1.foldl (stepR gap) o = s2.foldl (stepR gap) o := by
  intro s1
  induction s1 with
  | nil => intro s2 o hp _ _; rw [List.nil_perm.1 hp]
  | cons a t ih =>
    intro s2 o hp h1 h2
    obtain ⟨u, v, rfl⟩ := List.append_of_mem (hp.subset (List.mem_cons_self ..))
    have hu : ∀ x ∈ u, x.key = a.key ∧ x.time = a.time := by
      intro x hx
      have e1 : ltOf recCf a x = false := (List.pairwise_append.1 h2).2.2 x hx a (List.mem_cons_self ..)
      have e2 : ltOf recCf x a = false := by
        rcases List.mem_cons.1 (hp.symm.subset (List.mem_append_left _ hx)) with rfl | hm
        · exact recSwo.irrefl _
        · exact (List.pairwise_cons.1 h1).1 x hm
      exact rec_anti e1 e2
    have hp2 : t.Perm (u ++ v) := (hp.trans List.perm_middle).cons_inv
    have e := ih (u ++ v) (stepR gap o a) hp2 (List.pairwise_cons.1 h1).2 (h2.sublist (List.Sublist.append (List.Sublist.refl _) (List.sublist_cons_self ..)))
    rw [List.foldl_cons, e, List.foldl_append, show u ++ a :: v = (u ++ [a]) ++ v from by simp, List.foldl_append, sess_move hg u a o hu]
    rfl

/-! ### What panes are -/
/-- One pane ahead of another one. -/
def aheadP (p q : Pane) : Prop := p.key.toList < q.key.toList ∨ (p.key.toList = q.key.toList ∧ p.hi ≤ q.lo)
structure PaneOk (gap : Int) (p : Pane) : Prop where
  small : p.key.size ≤ 40
  lo : 0 ≤ p.lo
  hi : p.hi ≤ 1000000 + gap
  wide : gap ≤ p.hi - p.lo
  late : p.late = 0
  many : 1 ≤ p.many
structure SInv (gap : Int) (t : Rec) (o : List Pane) : Prop where
  head : ∃ p ps, o = p :: ps ∧ p.key.toList = t.key.toList ∧ p.hi = t.time + gap ∧ p.lo ≤ t.time
  all : ∀ p ∈ o, PaneOk gap p
  pw : o.Pairwise fun q p => aheadP p q
theorem recOk_parts {r : Rec} (h : recOk r = true) : r.key.size ≤ 40 ∧ 0 ≤ r.time ∧ r.time ≤ 1000000 := by
  simp only [recOk, Bool.and_eq_true, decide_eq_true_eq] at h; exact ⟨h.1.1, h.1.2, h.2⟩
theorem ok_new {gap : Int} {r : Rec} (hr : recOk r = true) : PaneOk gap ((Pane.new r).ext gap r) := by
  have := recOk_parts hr
  exact ⟨this.1, this.2.1, by simp only [Pane.ext]; omega, by simp only [Pane.ext, Pane.new]; omega, rfl, by simp [Pane.ext, Pane.new]⟩
theorem SInv.start {gap : Int} {r : Rec} (hr : recOk r = true) : SInv gap r (stepR gap [] r) :=
  ⟨⟨_, [], rfl, rfl, rfl, Int.le_refl _⟩, fun p hp => by obtain rfl := List.mem_singleton.1 hp; exact ok_new hr, List.pairwise_singleton _ _⟩
theorem aheadP.trans {p q r : Pane} (h : aheadP p q) (k : aheadP q r) (hq : q.lo ≤ q.hi) : aheadP p r := by
  rcases h with h | ⟨h, h'⟩ <;> rcases k with k | ⟨k, k'⟩
  · exact .inl (bl_trans h k)
  · exact .inl (k ▸ h)
  · exact .inl (h ▸ k)
  · exact .inr ⟨h.trans k, by omega⟩
theorem SInv.step {gap : Int} (hg : 1 ≤ gap) {t r : Rec} {o : List Pane} (h : SInv gap t o) (htr : ltOf recCf r t = false) (hr : recOk r = true) : SInv gap r (stepR gap o r) := by
  obtain ⟨p, ps, rfl, h1, h2, h3⟩ := h.head
  have hro := recOk_parts hr
  rw [recLe_iff] at htr
  have hp := h.all p (List.mem_cons_self ..)
  rw [stepR]
  split
  · rename_i hj
    rw [joins_iff] at hj
    have ht : t.time ≤ r.time := by
      rcases htr with k | k
      · rw [← h1, hj.1] at k; exact absurd k (bl_irrefl _)
      · exact k.2
    refine ⟨⟨_, ps, rfl, hj.1, rfl, by simp only [Pane.ext]; omega⟩, ?_, ?_⟩
    · intro q hq
      rcases List.mem_cons.1 hq with rfl | hq
      · refine ⟨hp.small, hp.lo, by simp only [Pane.ext]; omega, by simp only [Pane.ext]; omega, hp.late, ?_⟩
        have := hp.many
        simp only [Pane.ext]; omega
      · exact h.all q (List.mem_cons_of_mem _ hq)
    · have := List.pairwise_cons.1 h.pw
      exact List.pairwise_cons.2 ⟨fun q hq => this.1 q hq, this.2⟩
  · rename_i hj
    rw [joins_iff] at hj
    have ha : aheadP p ((Pane.new r).ext gap r) := by
      rcases htr with k | k
      · exact .inl (by rw [h1]; exact k)
      · refine .inr ⟨h1.trans k.1, ?_⟩
        have : ¬ r.time < p.hi := fun hlt => hj ⟨h1.trans k.1, hlt⟩
        show p.hi ≤ r.time
        omega
    have hw := hp.wide
    refine ⟨⟨_, _, rfl, rfl, rfl, Int.le_refl _⟩, ?_, ?_⟩
    · intro q hq
      rcases List.mem_cons.1 hq with rfl | hq
      · exact ok_new hr
      · exact h.all q hq
    · refine List.pairwise_cons.2 ⟨fun q hq => ?_, h.pw⟩
      rcases List.mem_cons.1 hq with rfl | hq
      · exact ha
      · exact ((List.pairwise_cons.1 h.pw).1 q hq).trans ha (by omega)
theorem sinv_fold {gap : Int} (hg : 1 ≤ gap) : ∀ (l : List Rec) (t : Rec) (o : List Pane), SInv gap t o → Up (ltOf recCf) (t :: l) → (∀ r ∈ l, recOk r = true) → ∃ t', SInv gap t' (l.foldl (stepR gap) o) := by
  intro l
  induction l with
  | nil => intro t o h _ _; exact ⟨t, h⟩
  | cons r l ih =>
    intro t o h hu hr
    have h1 := List.pairwise_cons.1 hu
    exact ih r _ (h.step hg (h1.1 r (List.mem_cons_self ..)) (hr r (List.mem_cons_self ..))) h1.2 fun x hx => hr x (List.mem_cons_of_mem _ hx)
theorem sessR_inv {gap : Int} (hg : 1 ≤ gap) {l : List Rec} (hu : Up (ltOf recCf) l) (hr : ∀ r ∈ l, recOk r = true) : l = [] ∨ ∃ t, SInv gap t (sessR gap l) := by
  cases l with
  | nil => exact .inl rfl
  | cons r l => exact .inr (sinv_fold hg l r _ (.start (hr r (List.mem_cons_self ..))) hu fun x hx => hr x (List.mem_cons_of_mem _ hx))
theorem sess_ok {gap : Int} (hg : 1 ≤ gap) {l : List Rec} (hu : Up (ltOf recCf) l) (hr : ∀ r ∈ l, recOk r = true) : ∀ p ∈ sess gap l, PaneOk gap p := by
  intro p hp
  rcases sessR_inv hg hu hr with rfl | ⟨t, h⟩
  · simp [sess, sessR] at hp
  · exact h.all p (List.mem_reverse.1 hp)
theorem sess_pw {gap : Int} (hg : 1 ≤ gap) {l : List Rec} (hu : Up (ltOf recCf) l) (hr : ∀ r ∈ l, recOk r = true) : (sess gap l).Pairwise aheadP := by
  rcases sessR_inv hg hu hr with rfl | ⟨t, h⟩
  · simp [sess, sessR]
  · exact List.pairwise_reverse.2 h.pw
def manyOf (o : List Pane) : Int := (o.map Pane.many).sum
theorem many_step (gap : Int) (o : List Pane) (r : Rec) : manyOf (stepR gap o r) = manyOf o + 1 := by
  cases o with
  | nil => simp [stepR, manyOf, Pane.ext, Pane.new]
  | cons p ps =>
    rw [stepR]
    split
    · simp only [manyOf, List.map_cons, List.sum_cons, Pane.ext]; omega
    · simp only [manyOf, List.map_cons, List.sum_cons, Pane.ext, Pane.new]; omega
theorem many_fold (gap : Int) : ∀ (l : List Rec) (o : List Pane), manyOf (l.foldl (stepR gap) o) = manyOf o + l.length := by
  intro l
  induction l with
  | nil => intro o; simp
  | cons r l ih => intro o; rw [List.foldl_cons, ih, many_step, List.length_cons]; omega
theorem sess_many (gap : Int) (l : List Rec) : manyOf (sess gap l) = l.length := by
  have := many_fold gap l []
  have e : manyOf (sess gap l) = manyOf (sessR gap l) := by
    unfold manyOf sess
    rw [List.map_reverse, List.sum_reverse]
  rw [e, sessR, this]
  simp [manyOf]
theorem len_step (gap : Int) (o : List Pane) (r : Rec) : (stepR gap o r).length ≤ o.length + 1 := by
  cases o with
  | nil => simp [stepR]
  | cons p ps => rw [stepR]; split <;> simp
theorem len_fold (gap : Int) : ∀ (l : List Rec) (o : List Pane), (l.foldl (stepR gap) o).length ≤ o.length + l.length := by
  intro l
  induction l with
  | nil => intro o; simp
  | cons r l ih => intro o; have := ih (stepR gap o r); have := len_step gap o r; rw [List.foldl_cons, List.length_cons]; omega
theorem sess_len (gap : Int) (l : List Rec) : (sess gap l).length ≤ l.length := by
  have := len_fold gap l []
  rw [sess, List.length_reverse, sessR]; simpa using this

/-! ### A greater gap -/
def Nearer (o1 o2 : List Pane) : Prop := o1.length ≤ o2.length ∧ ((o1 = [] ∧ o2 = []) ∨ ∃ p1 q1 p2 q2, o1 = p1 :: q1 ∧ o2 = p2 :: q2 ∧ p1.key.toList = p2.key.toList ∧ p2.hi ≤ p1.hi)
theorem near_step {gap more : Int} (h : gap ≤ more) {o1 o2 : List Pane} (r : Rec) (hn : Nearer o1 o2) : Nearer (stepR more o1 r) (stepR gap o2 r) := by
  obtain ⟨hl, ⟨rfl, rfl⟩ | ⟨p1, q1, p2, q2, rfl, rfl, hk, hh⟩⟩ := hn
  · refine ⟨Nat.le_refl _, .inr ⟨_, [], _, [], rfl, rfl, rfl, ?_⟩⟩
    simp only [Pane.ext]; omega
  · rw [stepR, stepR]
    simp only [List.length_cons] at hl
    by_cases h2 : joins p2 r = true
    · have h1 : joins p1 r = true := by rw [joins_iff] at h2 ⊢; exact ⟨hk.trans h2.1, by omega⟩
      rw [if_pos h1, if_pos h2]
      refine ⟨by simp; omega, .inr ⟨_, _, _, _, rfl, rfl, hk, ?_⟩⟩
      simp only [Pane.ext]; omega
    · rw [if_neg h2]
      by_cases h1 : joins p1 r = true
      · rw [if_pos h1]
        refine ⟨by simp; omega, .inr ⟨_, _, _, _, rfl, rfl, (joins_iff.1 h1).1, ?_⟩⟩
        simp only [Pane.ext]; omega
      · rw [if_neg h1]
        refine ⟨by simp; omega, .inr ⟨_, _, _, _, rfl, rfl, rfl, ?_⟩⟩
        simp only [Pane.ext]; omega
theorem near_fold {gap more : Int} (h : gap ≤ more) : ∀ (l : List Rec) (o1 o2 : List Pane), Nearer o1 o2 → Nearer (l.foldl (stepR more) o1) (l.foldl (stepR gap) o2) := by
  intro l
  induction l with
  | nil => intro o1 o2 hn; exact hn
  | cons r l ih => intro o1 o2 hn; exact ih _ _ (near_step h r hn)
theorem sess_mono {gap more : Int} (h : gap ≤ more) (l : List Rec) : (sess more l).length ≤ (sess gap l).length := by
  rw [sess, sess, List.length_reverse, List.length_reverse]
  exact (near_fold h l [] [] ⟨Nat.le_refl _, .inl ⟨rfl, rfl⟩⟩).1

/-! ### The fault, and what it is -/
def sessE (l : List Rec) (gap : Int) : Nat := if recsE l ≠ 0 then recsE l else if 1 ≤ gap ∧ gap ≤ 1000000 then 0 else 1
/-- The sessions of records in whatever order. -/
def SessIs (gap : Int) (l : List Rec) (P : List Pane) : Prop := ∃ s : List Rec, s.Perm l ∧ Up (ltOf recCf) s ∧ P = sess gap s
theorem SessIs.unique {gap : Int} (hg : 1 ≤ gap) {l l' : List Rec} {P P' : List Pane} (h : SessIs gap l P) (h' : SessIs gap l' P') (hl : l.Perm l') : P = P' := by
  obtain ⟨s, h1, h2, rfl⟩ := h
  obtain ⟨s', k1, k2, rfl⟩ := h'
  have := sess_perm hg s s' [] (h1.trans (hl.trans k1.symm)) h2 k2
  simp only [sess, sessR]
  rw [this]
end Go.Proofs.YtmeemcafjebanaaGreatDoor

/- Where a key stands among keys that rise, as plain data; how two strings compare. No program in sight. -/
namespace Go.Proofs.YtmeemcafjebanaaGreatDoor
open Go.RowKit

theorem compareBytes_is : ∀ (x y : List UInt8), Lib.compareBytes x y = if Op.bytesLess x y then -1 else if x == y then 0 else 1 := by
  intro x
  induction x with
  | nil =>
    intro y
    cases y with
    | nil => rfl
    | cons b bs => rw [bytesLess_is]; simp [Lib.compareBytes]
  | cons a u ih =>
    intro y
    cases y with
    | nil => rw [bytesLess_is]; simp [Lib.compareBytes]
    | cons b bs =>
      have h := ih bs
      rw [bytesLess_is] at h ⊢
      rw [Lib.compareBytes, h]
      by_cases h1 : a < b
      · have : a :: u < b :: bs := List.cons_lt_cons_iff.2 (.inl h1)
        rw [if_pos h1, if_pos (decide_eq_true this)]
      · by_cases h2 : b < a
        · have hn : ¬ (a :: u < b :: bs) := by
            rw [List.cons_lt_cons_iff]
            rintro (e | ⟨e, _⟩)
            · exact h1 e
            · subst e; exact UInt8.lt_irrefl _ h2
          have hne : a ≠ b := by rintro rfl; exact UInt8.lt_irrefl _ h2
          rw [if_neg h1, if_pos h2, if_neg (by simp only [decide_eq_true_eq]; exact hn), if_neg (by simp [hne])]
        · have e : a = b := UInt8.le_antisymm (UInt8.not_lt.1 h2) (UInt8.not_lt.1 h1)
          subst e
          have e2 : (a :: u < a :: bs) ↔ u < bs := by rw [List.cons_lt_cons_iff]; simp [UInt8.lt_irrefl]
          rw [if_neg (UInt8.lt_irrefl _), if_neg (UInt8.lt_irrefl _)]
          simp only [e2, decide_eq_true_eq, List.cons_beq_cons, beq_self_eq_true, Bool.true_and]

def klt (a b : ByteArray) : Bool := Op.bytesLess a.toList b.toList
theorem klt_iff {a b : ByteArray} : klt a b = true ↔ a.toList < b.toList := by rw [klt, bytesLess_is]; simp
theorem klt_no {a b : ByteArray} : klt a b = false ↔ ¬ a.toList < b.toList := by rw [klt, bytesLess_is]; simp
theorem klt_irrefl (a : ByteArray) : klt a a = false := klt_no.2 (bl_irrefl _)
theorem klt_trans {a b c : ByteArray} (h : klt a b = true) (k : klt b c = true) : klt a c = true := klt_iff.2 (bl_trans (klt_iff.1 h) (klt_iff.1 k))
theorem klt_asymm {a b : ByteArray} (h : klt a b = true) : klt b a = false := klt_no.2 fun k => bl_irrefl _ (bl_trans (klt_iff.1 h) k)
theorem klt_tri (a b : ByteArray) : klt a b = true ∨ a = b ∨ klt b a = true := by
  rcases bl_tri a.toList b.toList with h | h | h
  · exact .inl (klt_iff.2 h)
  · exact .inr (.inl (bytes_same h))
  · exact .inr (.inr (klt_iff.2 h))
theorem klt_ne {a b : ByteArray} (h : klt a b = true) : a ≠ b := fun e => by subst e; rw [klt_irrefl] at h; cases h
def riseK (l : List ByteArray) : Prop := l.Pairwise fun a b => klt a b = true
def keyA (ks : List ByteArray) (i : Nat) : ByteArray := ks.getD i ⟨#[]⟩

/-- How many stand ahead of a key. -/
def lowK (t : ByteArray) : List ByteArray → Nat
  | [] => 0
  | k :: ks => if klt k t = true then lowK t ks + 1 else 0
theorem lowK_is {t : ByteArray} : ∀ {ks : List ByteArray} {i : Nat}, i ≤ ks.length → (∀ m, m < i → klt (keyA ks m) t = true) → (∀ m, i ≤ m → m < ks.length → klt (keyA ks m) t = false) → lowK t ks = i := by
  intro ks
  induction ks with
  | nil => intro i h _ _; simp at h; rw [lowK, h]
  | cons k ks ih =>
    intro i hi h1 h2
    rw [lowK]
    cases i with
    | zero =>
      have := h2 0 (Nat.le_refl _) (by simp)
      rw [if_neg (by simpa [keyA] using this)]
    | succ i =>
      have := h1 0 (by omega)
      rw [if_pos (by simpa [keyA] using this), ih (i := i) (by simpa using hi) (fun m hm => by simpa [keyA] using h1 (m + 1) (by omega)) (fun m h3 h4 => by simpa [keyA] using h2 (m + 1) (by omega) (by simpa using h4))]
theorem lowK_le (t : ByteArray) : ∀ (ks : List ByteArray), lowK t ks ≤ ks.length := by
  intro ks
  induction ks with
  | nil => exact Nat.le_refl _
  | cons k ks ih => rw [lowK]; split <;> simp <;> omega
theorem lowK_lt {t : ByteArray} : ∀ {ks : List ByteArray} {m : Nat}, m < lowK t ks → klt (keyA ks m) t = true := by
  intro ks
  induction ks with
  | nil => intro m h; simp [lowK] at h
  | cons k ks ih =>
    intro m h
    rw [lowK] at h
    split at h
    · rename_i hk
      cases m with
      | zero => simpa [keyA] using hk
      | succ m => simpa [keyA] using ih (m := m) (by omega)
    · omega
theorem lowK_at {t : ByteArray} : ∀ {ks : List ByteArray}, lowK t ks < ks.length → klt (keyA ks (lowK t ks)) t = false := by
  intro ks
  induction ks with
  | nil => intro h; simp at h
  | cons k ks ih =>
    intro h
    rw [lowK] at h ⊢
    split
    · rename_i hk
      rw [if_pos hk] at h
      simpa [keyA] using ih (by simpa using h)
    · rename_i hk
      simpa [keyA] using hk
theorem rise_mono {ks : List ByteArray} (h : riseK ks) {i j : Nat} (hij : i ≤ j) (hj : j < ks.length) {t : ByteArray} (ht : klt (keyA ks j) t = true) : klt (keyA ks i) t = true := by
  rcases Nat.eq_or_lt_of_le hij with e | e
  · subst e; exact ht
  · have := List.pairwise_iff_getElem.1 h i j (by omega) hj e
    have ei : keyA ks i = ks[i] := by rw [keyA, List.getD_eq_getElem?_getD, List.getElem?_eq_getElem (by omega)]; rfl
    have ej : keyA ks j = ks[j] := by rw [keyA, List.getD_eq_getElem?_getD, List.getElem?_eq_getElem hj]; rfl
    rw [ej] at ht
    rw [ei]
    exact klt_trans this ht
theorem lowK_ge {t : ByteArray} {ks : List ByteArray} (h : riseK ks) {m : Nat} (h1 : lowK t ks ≤ m) (h2 : m < ks.length) : klt (keyA ks m) t = false := by
  rcases hk : klt (keyA ks m) t with _ | _
  · rfl
  · have h3 := rise_mono h h1 h2 hk
    rw [lowK_at (by omega)] at h3
    cases h3
/-- Is the key there? -/
def hasK (t : ByteArray) (ks : List ByteArray) : Bool := decide (lowK t ks < ks.length) && decide (keyA ks (lowK t ks) = t)
end Go.Proofs.YtmeemcafjebanaaGreatDoor
