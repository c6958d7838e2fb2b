/- Sessions of records: what they are, whoever makes them; and the reference's way. No program in sight. -/
import Derived.Test.YtelailhghhjleaaPlainSess
namespace Go.Proofs.Ytelailhghhjleaa
open Go.RowKit Go.Sort Go.Shelf

/-- What a pane has of some records. -/
def inPane (p : Pane) (r : Rec) : Bool := (p.key.toList == r.key.toList) && decide (p.lo ≤ r.time) && decide (r.time < p.hi)
def numSum (l : List Rec) : Int := (l.map Rec.num).sum
structure Valid (gap : Int) (l : List Rec) (P : List Pane) : Prop where
  pw : P.Pairwise aheadP
  wide : ∀ p ∈ P, gap ≤ p.hi - p.lo ∧ p.late = 0
  inn : ∀ r ∈ l, ∃ p ∈ P, p.key.toList = r.key.toList ∧ p.lo ≤ r.time ∧ r.time + gap ≤ p.hi
  low : ∀ p ∈ P, ∃ r ∈ l, r.key = p.key ∧ r.time = p.lo
  link : ∀ p ∈ P, ∀ t : Int, p.lo ≤ t → t + 1 < p.hi → ∃ r ∈ l, r.key.toList = p.key.toList ∧ r.time ≤ t ∧ t + 1 < r.time + gap
  many : ∀ p ∈ P, p.many = (l.filter (inPane p)).length
  sum : ∀ p ∈ P, p.sum = IntKind.i64.wrap (numSum (l.filter (inPane p)))

theorem wrap_congr {a b : Int} (h : IntKind.i64.wrap a = IntKind.i64.wrap b) (x : Int) : IntKind.i64.wrap (a + x) = IntKind.i64.wrap (b + x) := by
  simp only [IntKind.wrap_i64] at *; omega
theorem wrap_wrap (a b : Int) : IntKind.i64.wrap (IntKind.i64.wrap a + b) = IntKind.i64.wrap (a + b) := by
  simp only [IntKind.wrap_i64]; omega
theorem aheadP.ne {p q : Pane} (h : aheadP p q) (k : p.key.toList = q.key.toList) : p.hi ≤ q.lo := by
  rcases h with h | h
  · rw [k] at h; exact absurd h (bl_irrefl _)
  · exact h.2
theorem perm_sum {a b : List Int} (h : a.Perm b) : a.sum = b.sum := by
  induction h with
  | nil => rfl
  | cons x _ ih => rw [List.sum_cons, List.sum_cons, ih]
  | swap x y l => simp only [List.sum_cons]; omega
  | trans _ _ h k => exact h.trans k
/-- Two panes with a place in common are one. -/
theorem Valid.one {gap : Int} {l : List Rec} {P : List Pane} (h : Valid gap l P) {p q : Pane} (hp : p ∈ P) (hq : q ∈ P) (hk : p.key.toList = q.key.toList) (h1 : p.lo < q.hi) (h2 : q.lo < p.hi) : p = q := by
  obtain ⟨i, hi, rfl⟩ := List.mem_iff_getElem.1 hp
  obtain ⟨j, hj, rfl⟩ := List.mem_iff_getElem.1 hq
  rcases Nat.lt_trichotomy i j with hij | rfl | hij
  · have := (List.pairwise_iff_getElem.1 h.pw i j hi hj hij).ne hk; omega
  · rfl
  · have := (List.pairwise_iff_getElem.1 h.pw j i hj hi hij).ne hk.symm; omega
theorem Valid.lo_le {gap : Int} {l l' : List Rec} {P P' : List Pane} (h : Valid gap l P) (h' : Valid gap l' P') (hl : ∀ r ∈ l', r ∈ l) {p p' : Pane} (hp : p ∈ P) (hp' : p' ∈ P') (hk : p.key.toList = p'.key.toList)
    (h1 : p'.lo ≤ p.lo) (h2 : p.lo < p'.hi) : p.lo = p'.lo := by
  rcases Int.lt_or_le p'.lo p.lo with hlt | hge
  · obtain ⟨r, hr, e1, e2, e3⟩ := h'.link p' hp' (p.lo - 1) (by omega) (by omega)
    obtain ⟨q, hq, f1, f2, f3⟩ := h.inn r (hl r hr)
    have hw := (h.wide p hp).1
    have e := h.one hq hp (by rw [f1, e1, hk]) (by omega) (by omega)
    subst e
    omega
  · omega
theorem Valid.hi_le {gap : Int} (hg : 1 ≤ gap) {l l' : List Rec} {P P' : List Pane} (h : Valid gap l P) (h' : Valid gap l' P') (hl : ∀ r ∈ l', r ∈ l) {p p' : Pane} (hp : p ∈ P) (hp' : p' ∈ P') (hk : p.key.toList = p'.key.toList) (hlo : p.lo = p'.lo) : p'.hi ≤ p.hi := by
  rcases Int.lt_or_le p.hi p'.hi with hlt | hge
  · have hw := (h.wide p hp).1
    obtain ⟨r, hr, e1, e2, e3⟩ := h'.link p' hp' (p.hi - 1) (by omega) (by omega)
    obtain ⟨q, hq, f1, f2, f3⟩ := h.inn r (hl r hr)
    have e := h.one hq hp (by rw [f1, e1, hk]) (by omega) (by omega)
    subst e
    omega
  · exact hge
theorem Valid.sub {gap : Int} (hg : 1 ≤ gap) {l l' : List Rec} (hl : l.Perm l') {P P' : List Pane} (h : Valid gap l P) (h' : Valid gap l' P') : ∀ p ∈ P, p ∈ P' := by
  intro p hp
  have m1 : ∀ r ∈ l, r ∈ l' := fun r hr => hl.subset hr
  have m2 : ∀ r ∈ l', r ∈ l := fun r hr => hl.symm.subset hr
  obtain ⟨r, hr, e1, e2⟩ := h.low p hp
  obtain ⟨p', hp', f1, f2, f3⟩ := h'.inn r (m1 r hr)
  have hk : p.key.toList = p'.key.toList := by rw [f1, e1]
  have hlo := Valid.lo_le h h' m2 hp hp' hk (by omega) (by omega)
  have a1 := Valid.hi_le hg h h' m2 hp hp' hk hlo
  have a2 := Valid.hi_le hg h' h m1 hp' hp hk.symm hlo.symm
  have hhi : p.hi = p'.hi := by omega
  have hin : inPane p = inPane p' := by funext x; rw [inPane, inPane, hk, hlo, hhi]
  have hpm := hl.filter (inPane p)
  have hm : p.many = p'.many := by rw [h.many p hp, h'.many p' hp', ← hin, hpm.length_eq]
  have hs : p.sum = p'.sum := by
    rw [h.sum p hp, h'.sum p' hp', ← hin]
    congr 1
    exact perm_sum (hpm.map Rec.num)
  have hlt : p.late = p'.late := by rw [(h.wide p hp).2, (h'.wide p' hp').2]
  have : p = p' := by
    obtain ⟨a, b, c, d, e, f⟩ := p
    obtain ⟨a', b', c', d', e', f'⟩ := p'
    simp only [Pane.mk.injEq] at *
    exact ⟨bytes_same hk, hlo, hhi, hm, hs, hlt⟩
  rw [this]; exact hp'
theorem sorted_same : ∀ {P P' : List Pane}, (∀ p ∈ P, p.lo < p.hi) → (∀ p ∈ P', p.lo < p.hi) → P.Pairwise aheadP → P'.Pairwise aheadP → (∀ p ∈ P, p ∈ P') → (∀ p ∈ P', p ∈ P) → P = P'
  | [], [], _, _, _, _, _, _ => rfl
  | p :: P, [], _, _, _, _, h, _ => by have := h p (List.mem_cons_self ..); cases this
  | [], p :: P', _, _, _, _, _, h => by have := h p (List.mem_cons_self ..); cases this
  | p :: P, q :: P', w1, w2, h1, h2, m1, m2 => by
    have a1 := List.pairwise_cons.1 h1
    have a2 := List.pairwise_cons.1 h2
    have asym : ∀ {x y : Pane}, x.lo < x.hi → y.lo < y.hi → aheadP x y → aheadP y x → False := by
      intro x y hx hy h k
      rcases h with h | ⟨h, h'⟩ <;> rcases k with k | ⟨k, k'⟩
      · exact bl_irrefl _ (bl_trans h k)
      · rw [k] at h; exact bl_irrefl _ h
      · rw [h] at k; exact bl_irrefl _ k
      · omega
    have hpq : p = q := by
      rcases List.mem_cons.1 (m1 p (List.mem_cons_self ..)) with e | e
      · exact e
      · rcases List.mem_cons.1 (m2 q (List.mem_cons_self ..)) with f | f
        · exact f.symm
        · exact (asym (w1 p (List.mem_cons_self ..)) (w2 q (List.mem_cons_self ..)) (a1.1 q f) (a2.1 p e)).elim
    subst hpq
    have self : ∀ {L : List Pane}, (∀ x ∈ L, aheadP p x) → p ∉ L := fun hL hm => asym (w1 p (List.mem_cons_self ..)) (w1 p (List.mem_cons_self ..)) (hL p hm) (hL p hm)
    rw [sorted_same (P := P) (P' := P') (fun x hx => w1 x (List.mem_cons_of_mem _ hx)) (fun x hx => w2 x (List.mem_cons_of_mem _ hx)) a1.2 a2.2
      (fun x hx => by
        rcases List.mem_cons.1 (m1 x (List.mem_cons_of_mem _ hx)) with e | e
        · subst e; exact absurd hx (self a1.1)
        · exact e)
      (fun x hx => by
        rcases List.mem_cons.1 (m2 x (List.mem_cons_of_mem _ hx)) with e | e
        · subst e; exact absurd hx (self a2.1)
        · exact e)]
theorem Valid.unique {gap : Int} (hg : 1 ≤ gap) {l l' : List Rec} (hl : l.Perm l') {P P' : List Pane} (h : Valid gap l P) (h' : Valid gap l' P') : P = P' :=
  sorted_same (fun p hp => by have := (h.wide p hp).1; omega) (fun p hp => by have := (h'.wide p hp).1; omega) h.pw h'.pw (Valid.sub hg hl h h') (Valid.sub hg hl.symm h' h)

/-! ### The reference's way -/
def overl (p q : Pane) : Bool := (q.key.toList == p.key.toList) && decide (q.lo < p.hi) && decide (p.lo < q.hi)
def absorb1 (p q : Pane) : Pane := ⟨p.key, if q.lo < p.lo then q.lo else p.lo, if p.hi < q.hi then q.hi else p.hi, p.many + q.many, IntKind.i64.wrap (p.sum + q.sum), p.late⟩
def absorb (s : Pane × List Pane) (q : Pane) : Pane × List Pane := if overl s.1 q = true then (absorb1 s.1 q, s.2) else (s.1, s.2 ++ [q])
def alone (gap : Int) (r : Rec) : Pane := ⟨r.key, r.time, r.time + gap, 1, r.num, 0⟩
def before (p q : Pane) : Bool := decide (q.key.toList < p.key.toList) || ((q.key.toList == p.key.toList) && decide (q.lo < p.lo))
def place (p : Pane) (N : List Pane) : List Pane := N.takeWhile (before p) ++ p :: N.dropWhile (before p)
def refStep (gap : Int) (out : List Pane) (r : Rec) : List Pane := place (out.foldl absorb (alone gap r, [])).1 (out.foldl absorb (alone gap r, [])).2
def refSess (gap : Int) (l : List Rec) : List Pane := l.foldl (refStep gap) []

theorem before_iff {p q : Pane} : before p q = true ↔ q.key.toList < p.key.toList ∨ (q.key.toList = p.key.toList ∧ q.lo < p.lo) := by simp [before]
theorem overl_iff {p q : Pane} : overl p q = true ↔ q.key.toList = p.key.toList ∧ q.lo < p.hi ∧ p.lo < q.hi := by simp [overl, and_assoc]

structure AInv (gap : Int) (r : Rec) (P1 : List Pane) (p : Pane) (N D : List Pane) : Prop where
  key : p.key = r.key
  late : p.late = 0
  inr : p.lo ≤ r.time ∧ r.time + gap ≤ p.hi
  sub : N.Sublist P1
  perm : P1.Perm (D ++ N)
  apart : ∀ q ∈ N, q.key.toList = p.key.toList → q.hi ≤ p.lo ∨ p.hi ≤ q.lo
  din : ∀ q ∈ D, q.key.toList = p.key.toList ∧ p.lo ≤ q.lo ∧ q.hi ≤ p.hi
  low : p.lo = r.time ∨ ∃ q ∈ D, q.lo = p.lo
  link : ∀ t : Int, p.lo ≤ t → t + 1 < p.hi → (r.time ≤ t ∧ t + 1 < r.time + gap) ∨ ∃ q ∈ D, q.lo ≤ t ∧ t + 1 < q.hi
  many : p.many = 1 + (D.map Pane.many).sum
  sum : p.sum = IntKind.i64.wrap (r.num + (D.map Pane.sum).sum)

theorem AInv.step {gap : Int} (hg : 1 ≤ gap) {r : Rec} {P1 : List Pane} {p q : Pane} {N D : List Pane} (h : AInv gap r P1 p N D) (ha : ∀ x ∈ P1, aheadP x q) (hw : gap ≤ q.hi - q.lo) (hw1 : ∀ x ∈ P1, gap ≤ x.hi - x.lo) :
    ∃ D', AInv gap r (P1 ++ [q]) (absorb (p, N) q).1 (absorb (p, N) q).2 D' := by
  have hi1 := h.inr.1
  have hi2 := h.inr.2
  unfold absorb
  by_cases ho : overl p q = true
  · simp only [ho, if_true]
    rw [overl_iff] at ho
    obtain ⟨hk, h1, h2⟩ := ho
    refine ⟨q :: D, h.key, h.late, ?_, h.sub.trans (List.sublist_append_left _ _), ?_, ?_, ?_, ?_, ?_, ?_, ?_⟩
    · simp only [absorb1]; constructor <;> split <;> omega
    · refine (List.Perm.append_right [q] h.perm).trans ?_
      rw [List.append_assoc]
      exact (List.perm_append_comm (l₁ := D ++ N) (l₂ := [q])) |>.trans (by simp) |> fun e => (by simpa using e)
    · intro x hx hxk
      have hx1 := h.sub.subset hx
      have e1 := (ha x hx1).ne (hxk.trans hk.symm)
      have e2 := hw1 x hx1
      have e3 := h.apart x hx hxk
      simp only [absorb1]
      left
      split <;> omega
    · intro x hx
      rcases List.mem_cons.1 hx with rfl | hx
      · simp only [absorb1]; exact ⟨hk, by split <;> omega, by split <;> omega⟩
      · have := h.din x hx
        simp only [absorb1]; exact ⟨this.1, by split <;> omega, by split <;> omega⟩
    · simp only [absorb1]
      by_cases hc : q.lo < p.lo
      · rw [if_pos hc]; exact .inr ⟨q, List.mem_cons_self .., rfl⟩
      · rw [if_neg hc]
        rcases h.low with e | ⟨x, hx, e⟩
        · exact .inl e
        · exact .inr ⟨x, List.mem_cons_of_mem _ hx, e⟩
    · simp only [absorb1]
      intro t ht1 ht2
      by_cases hin : p.lo ≤ t ∧ t + 1 < p.hi
      · rcases h.link t hin.1 hin.2 with e | ⟨x, hx, e⟩
        · exact .inl e
        · exact .inr ⟨x, List.mem_cons_of_mem _ hx, e⟩
      · refine .inr ⟨q, List.mem_cons_self .., ?_⟩
        split at ht1 <;> split at ht2 <;> omega
    · simp only [absorb1, List.map_cons, List.sum_cons]; have := h.many; omega
    · simp only [absorb1, List.map_cons, List.sum_cons]
      rw [h.sum, wrap_wrap]
      congr 1
      omega
  · simp only [ho, if_false, Bool.false_eq_true]
    refine ⟨D, h.key, h.late, h.inr, h.sub.append (List.Sublist.refl _), ?_, ?_, h.din, h.low, h.link, h.many, h.sum⟩
    · have := List.Perm.append_right [q] h.perm
      rwa [List.append_assoc] at this
    · intro x hx hxk
      rcases List.mem_append.1 hx with hx | hx
      · exact h.apart x hx hxk
      · obtain rfl := List.mem_singleton.1 hx
        rw [overl_iff] at ho
        by_cases h1 : x.lo < p.hi
        · by_cases h2 : p.lo < x.hi
          · exact absurd ⟨hxk, h1, h2⟩ ho
          · left; omega
        · right; omega
theorem AInv.fold {gap : Int} (hg : 1 ≤ gap) {r : Rec} : ∀ (P2 P1 : List Pane) (p : Pane) (N D : List Pane), AInv gap r P1 p N D → (P1 ++ P2).Pairwise aheadP → (∀ x ∈ P1 ++ P2, gap ≤ x.hi - x.lo) →
    ∃ D', AInv gap r (P1 ++ P2) (P2.foldl absorb (p, N)).1 (P2.foldl absorb (p, N)).2 D' := by
  intro P2
  induction P2 with
  | nil => intro P1 p N D h _ _; exact ⟨D, by simpa using h⟩
  | cons q P2 ih =>
    intro P1 p N D h hp hw
    obtain ⟨D1, h1⟩ := h.step (q := q) hg (fun x hx => (List.pairwise_append.1 hp).2.2 x hx q (List.mem_cons_self ..)) (hw q (by simp)) (fun x hx => hw x (List.mem_append_left _ hx))
    rw [show P1 ++ q :: P2 = (P1 ++ [q]) ++ P2 from by simp] at hp hw ⊢
    exact ih _ _ _ D1 h1 hp hw
theorem AInv.start {gap : Int} {r : Rec} (hr : r.Ok) : AInv gap r [] (alone gap r) [] [] := by
  have hn := hr.2.1
  refine ⟨rfl, rfl, ⟨Int.le_refl _, Int.le_refl _⟩, .slnil, .refl _, (fun q hq => by cases hq), (fun q hq => by cases hq), .inl rfl, fun t h1 h2 => .inl ⟨h1, h2⟩, rfl, ?_⟩
  simp only [alone, List.map_nil, List.sum_nil, Int.add_zero, IntKind.wrap_i64]
  unfold i64ok at hn
  omega

theorem mem_place {p x : Pane} {N : List Pane} : x ∈ place p N ↔ x = p ∨ x ∈ N := by
  unfold place
  rw [List.mem_append, List.mem_cons]
  have : x ∈ N ↔ x ∈ N.takeWhile (before p) ∨ x ∈ N.dropWhile (before p) := by
    rw [← List.mem_append, List.takeWhile_append_dropWhile]
  rw [this]
  constructor
  · rintro (h | h | h)
    · exact .inr (.inl h)
    · exact .inl h
    · exact .inr (.inr h)
  · rintro (h | h | h)
    · exact .inr (.inl h)
    · exact .inl h
    · exact .inr (.inr h)
theorem take_all {α : Type} {f : α → Bool} : ∀ {l : List α} {x : α}, x ∈ l.takeWhile f → f x = true := by
  intro l
  induction l with
  | nil => intro x h; cases h
  | cons a l ih =>
    intro x h
    rw [List.takeWhile_cons] at h
    split at h
    · rename_i hf
      rcases List.mem_cons.1 h with rfl | h
      · exact hf
      · exact ih h
    · cases h
theorem drop_head {α : Type} {f : α → Bool} : ∀ {l : List α} {x : α} {r : List α}, l.dropWhile f = x :: r → f x = false := by
  intro l
  induction l with
  | nil => intro x r h; cases h
  | cons a l ih =>
    intro x r h
    rw [List.dropWhile_cons] at h
    split at h
    · exact ih h
    · rename_i hf
      injection h with h1 h2
      subst h1
      simpa using hf
theorem place_pw {p : Pane} {N : List Pane} (hN : N.Pairwise aheadP) (hw : ∀ x ∈ N, x.lo < x.hi) (hp : p.lo < p.hi) (ha : ∀ q ∈ N, q.key.toList = p.key.toList → q.hi ≤ p.lo ∨ p.hi ≤ q.lo) : (place p N).Pairwise aheadP := by
  have hs : N.takeWhile (before p) ++ N.dropWhile (before p) = N := List.takeWhile_append_dropWhile
  have h1 : ∀ x ∈ N.takeWhile (before p), aheadP x p := by
    intro x hx
    have hb := take_all hx
    have hm : x ∈ N := by rw [← hs]; exact List.mem_append_left _ hx
    rw [before_iff] at hb
    rcases hb with hb | hb
    · exact .inl hb
    · refine .inr ⟨hb.1, ?_⟩
      rcases ha x hm hb.1 with e | e
      · exact e
      · have := hw x hm; omega
  have h2 : ∀ x ∈ N.dropWhile (before p), aheadP p x := by
    rcases hd : N.dropWhile (before p) with _ | ⟨q, R⟩
    · intro x hx; cases hx
    · have hq := drop_head hd
      have hqm : q ∈ N := by rw [← hs, hd]; simp
      have hpq : aheadP p q := by
        have hq2 : ¬ before p q = true := by rw [hq]; simp
        rw [before_iff] at hq2
        rcases bl_tri p.key.toList q.key.toList with k | k | k
        · exact .inl k
        · refine .inr ⟨k, ?_⟩
          have h5 : ¬ q.lo < p.lo := fun h => hq2 (.inr ⟨k.symm, h⟩)
          rcases ha q hqm k.symm with e | e
          · have := hw q hqm; omega
          · exact e
        · exact absurd (.inl k) hq2
      intro x hx
      rcases List.mem_cons.1 hx with rfl | hx
      · exact hpq
      · have hR : (q :: R).Pairwise aheadP := by
          rw [← hs, hd] at hN
          exact (List.pairwise_append.1 hN).2.1
        exact hpq.trans ((List.pairwise_cons.1 hR).1 x hx) (by have := hw q hqm; omega)
  unfold place
  rw [← hs] at hN
  have hN' := List.pairwise_append.1 hN
  refine List.pairwise_append.2 ⟨hN'.1, List.pairwise_cons.2 ⟨h2, hN'.2.1⟩, ?_⟩
  intro a ha' b hb
  rcases List.mem_cons.1 hb with rfl | hb
  · exact h1 a ha'
  · exact hN'.2.2 a ha' b hb

/-- Weights of records in panes. -/
def wsum (f : Rec → Int) (l : List Rec) (p : Pane) : Int := ((l.filter (inPane p)).map f).sum
theorem wsum_cons (f : Rec → Int) (x : Rec) (l : List Rec) (p : Pane) : wsum f (x :: l) p = (if inPane p x = true then f x else 0) + wsum f l p := by
  unfold wsum
  rw [List.filter_cons]
  split <;> simp
theorem wsum_all (f : Rec → Int) (p : Pane) (D : List Pane) : ∀ (l : List Rec), (∀ x ∈ l, (D.map fun q => if inPane q x = true then f x else 0).sum = if inPane p x = true then f x else 0) → (D.map (wsum f l)).sum = wsum f l p := by
  intro l
  induction l with
  | nil =>
    intro _
    have : ∀ D : List Pane, (D.map (wsum f [])).sum = 0 := by
      intro D
      induction D with
      | nil => rfl
      | cons q D ih => rw [List.map_cons, List.sum_cons, ih]; rfl
    rw [this]; rfl
  | cons x l ih =>
    intro h
    have e : ∀ D : List Pane, (D.map (wsum f (x :: l))).sum = (D.map fun q => if inPane q x = true then f x else 0).sum + (D.map (wsum f l)).sum := by
      intro D
      induction D with
      | nil => rfl
      | cons q D ih => rw [List.map_cons, List.sum_cons, ih, wsum_cons, List.map_cons, List.sum_cons, List.map_cons, List.sum_cons]; omega
    rw [e, ih (fun y hy => h y (List.mem_cons_of_mem _ hy)), h x (List.mem_cons_self ..), wsum_cons]
theorem len_wsum (l : List Rec) (p : Pane) : ((l.filter (inPane p)).length : Int) = wsum (fun _ => 1) l p := by
  unfold wsum
  induction l.filter (inPane p) with
  | nil => rfl
  | cons x l ih => rw [List.map_cons, List.sum_cons, ← ih, List.length_cons]; omega
/-- At most one of panes that are apart has a record. -/
theorem one_of {f : Rec → Int} {x : Rec} : ∀ {D : List Pane}, (∀ p ∈ D, ∀ q ∈ D, inPane p x = true → inPane q x = true → p = q) → D.Nodup → (D.map fun q => if inPane q x = true then f x else 0).sum = if ∃ q ∈ D, inPane q x = true then f x else 0 := by
  intro D
  induction D with
  | nil => intro _ _; simp
  | cons q D ih =>
    intro h hn
    have hn' := List.nodup_cons.1 hn
    rw [List.map_cons, List.sum_cons, ih (fun a ha b hb => h a (List.mem_cons_of_mem _ ha) b (List.mem_cons_of_mem _ hb)) hn'.2]
    by_cases hq : inPane q x = true
    · rw [if_pos hq, if_neg, if_pos ⟨q, List.mem_cons_self .., hq⟩]
      · omega
      · rintro ⟨y, hy, hyx⟩
        have := h q (List.mem_cons_self ..) y (List.mem_cons_of_mem _ hy) hq hyx
        subst this
        exact hn'.1 hy
    · rw [if_neg hq]
      by_cases he : ∃ y ∈ D, inPane y x = true
      · obtain ⟨y, hy, hyx⟩ := he
        rw [if_pos ⟨y, hy, hyx⟩, if_pos ⟨y, List.mem_cons_of_mem _ hy, hyx⟩]; omega
      · rw [if_neg he, if_neg]
        · rfl
        · rintro ⟨y, hy, hyx⟩
          rcases List.mem_cons.1 hy with rfl | hy
          · exact hq hyx
          · exact he ⟨y, hy, hyx⟩
theorem inPane_iff {p : Pane} {r : Rec} : inPane p r = true ↔ p.key.toList = r.key.toList ∧ p.lo ≤ r.time ∧ r.time < p.hi := by simp [inPane, and_assoc]
theorem wrap_sums (a : Int) (f g : Pane → Int) : ∀ (D : List Pane), (∀ q ∈ D, f q = IntKind.i64.wrap (g q)) → IntKind.i64.wrap (a + (D.map f).sum) = IntKind.i64.wrap (a + (D.map g).sum) := by
  intro D
  induction D generalizing a with
  | nil => intro _; rfl
  | cons q D ih =>
    intro h
    rw [List.map_cons, List.sum_cons, List.map_cons, List.sum_cons]
    have e := ih (a + g q) fun x hx => h x (List.mem_cons_of_mem _ hx)
    rw [h q (List.mem_cons_self ..), ← Int.add_assoc, ← Int.add_assoc, ← e]
    apply wrap_congr
    rw [Int.add_comm a, wrap_wrap, Int.add_comm]
theorem pw_nodup {P : List Pane} (h : P.Pairwise aheadP) (hw : ∀ p ∈ P, p.lo < p.hi) : P.Nodup := by
  refine List.Pairwise.imp_of_mem ?_ h
  intro a b ha hb hab he
  subst he
  rcases hab with e | ⟨_, e⟩
  · exact bl_irrefl _ e
  · have := hw a ha; omega
theorem Valid.step {gap : Int} (hg : 1 ≤ gap) {l : List Rec} {P : List Pane} (h : Valid gap l P) {r : Rec} (hr : r.Ok) : Valid gap (r :: l) (refStep gap P r) := by
  obtain ⟨D, A⟩ := (AInv.start hr).fold hg P [] (alone gap r) [] [] (by simpa using h.pw) (by intro x hx; exact (h.wide x (by simpa using hx)).1)
  rw [List.nil_append] at A
  rw [refStep]
  generalize (List.foldl absorb (alone gap r, []) P).1 = p at A ⊢
  generalize (List.foldl absorb (alone gap r, []) P).2 = N at A ⊢
  have i1 := A.inr.1
  have i2 := A.inr.2
  have hwP : ∀ q ∈ P, q.lo < q.hi := fun q hq => by have := (h.wide q hq).1; omega
  have hNP : ∀ q ∈ N, q ∈ P := fun q hq => A.sub.subset hq
  have hDP : ∀ q ∈ D, q ∈ P := fun q hq => A.perm.symm.subset (List.mem_append_left _ hq)
  have hsp : ∀ q ∈ P, q ∈ D ∨ q ∈ N := fun q hq => List.mem_append.1 (A.perm.subset hq)
  have hND : (D ++ N).Nodup := A.perm.nodup_iff.1 (pw_nodup h.pw hwP)
  have hDn : D.Nodup := (List.nodup_append.1 hND).1
  have hcnt : ∀ (f : Rec → Int) (x : Rec), x ∈ l → (D.map fun q => if inPane q x = true then f x else 0).sum = if inPane p x = true then f x else 0 := by
    intro f x hx
    rw [one_of (fun a ha b hb h1 h2 => ?_) hDn]
    · by_cases hp : inPane p x = true
      · rw [if_pos hp, if_pos]
        obtain ⟨q, hq, e1, e2, e3⟩ := h.inn x hx
        rw [inPane_iff] at hp
        rcases hsp q hq with hqd | hqn
        · exact ⟨q, hqd, by rw [inPane_iff]; exact ⟨e1, e2, by omega⟩⟩
        · have := A.apart q hqn (by rw [e1, hp.1]); omega
      · rw [if_neg hp, if_neg]
        rintro ⟨q, hq, hqx⟩
        rw [inPane_iff] at hp hqx
        have := A.din q hq
        exact hp ⟨by rw [← this.1, hqx.1], by omega, by omega⟩
    · rw [inPane_iff] at h1 h2
      exact h.one (hDP a ha) (hDP b hb) (by rw [h1.1, h2.1]) (by omega) (by omega)
  have hrp : inPane p r = true := by rw [inPane_iff, A.key]; exact ⟨rfl, i1, by omega⟩
  refine ⟨place_pw (h.pw.sublist A.sub) (fun x hx => hwP x (hNP x hx)) (by omega) A.apart, ?_, ?_, ?_, ?_, ?_, ?_⟩
  · intro q hq
    rcases mem_place.1 hq with rfl | hq
    · exact ⟨by omega, A.late⟩
    · exact h.wide q (hNP q hq)
  · intro x hx
    rcases List.mem_cons.1 hx with rfl | hx
    · exact ⟨p, mem_place.2 (.inl rfl), by rw [A.key], i1, i2⟩
    · obtain ⟨q, hq, e1, e2, e3⟩ := h.inn x hx
      rcases hsp q hq with hqd | hqn
      · have := A.din q hqd
        exact ⟨p, mem_place.2 (.inl rfl), by rw [← this.1, e1], by omega, by omega⟩
      · exact ⟨q, mem_place.2 (.inr hqn), e1, e2, e3⟩
  · intro q hq
    rcases mem_place.1 hq with rfl | hq
    · rcases A.low with e | ⟨y, hy, e⟩
      · exact ⟨r, List.mem_cons_self .., A.key.symm, e.symm⟩
      · obtain ⟨x, hx, f1, f2⟩ := h.low y (hDP y hy)
        exact ⟨x, List.mem_cons_of_mem _ hx, by rw [f1]; exact bytes_same (A.din y hy).1, by omega⟩
    · obtain ⟨x, hx, f1, f2⟩ := h.low q (hNP q hq)
      exact ⟨x, List.mem_cons_of_mem _ hx, f1, f2⟩
  · intro q hq t h1 h2
    rcases mem_place.1 hq with rfl | hq
    · rcases A.link t h1 h2 with e | ⟨y, hy, e⟩
      · exact ⟨r, List.mem_cons_self .., by rw [A.key], e⟩
      · obtain ⟨x, hx, f1, f2⟩ := h.link y (hDP y hy) t e.1 e.2
        exact ⟨x, List.mem_cons_of_mem _ hx, by rw [f1, (A.din y hy).1], f2⟩
    · obtain ⟨x, hx, f1, f2⟩ := h.link q (hNP q hq) t h1 h2
      exact ⟨x, List.mem_cons_of_mem _ hx, f1, f2⟩
  · intro q hq
    rcases mem_place.1 hq with rfl | hq
    · rw [len_wsum, wsum_cons, if_pos hrp, ← wsum_all (fun _ => 1) _ D l (hcnt _), A.many]
      congr 2
      refine List.map_congr_left fun y hy => ?_
      rw [h.many y (hDP y hy), len_wsum]
    · have hrn : ¬ inPane q r = true := by
        rw [inPane_iff]; rintro ⟨e1, e2, e3⟩
        have := A.apart q hq (by rw [e1, A.key]); omega
      rw [List.filter_cons, if_neg hrn]
      exact h.many q (hNP q hq)
  · intro q hq
    rcases mem_place.1 hq with rfl | hq
    · show _ = IntKind.i64.wrap (wsum Rec.num (r :: l) q)
      rw [wsum_cons, if_pos hrp, ← wsum_all Rec.num _ D l (hcnt _), A.sum]
      exact wrap_sums _ _ _ D fun y hy => h.sum y (hDP y hy)
    · have hrn : ¬ inPane q r = true := by
        rw [inPane_iff]; rintro ⟨e1, e2, e3⟩
        have := A.apart q hq (by rw [e1, A.key]); omega
      rw [List.filter_cons, if_neg hrn]
      exact h.sum q (hNP q hq)
theorem valid_nil (gap : Int) : Valid gap [] [] := ⟨List.Pairwise.nil, (fun p hp => by cases hp), (fun p hp => by cases hp), (fun p hp => by cases hp), (fun p hp => by cases hp), (fun p hp => by cases hp), (fun p hp => by cases hp)⟩
theorem valid_fold {gap : Int} (hg : 1 ≤ gap) : ∀ (l d : List Rec) (P : List Pane), Valid gap d P → (∀ r ∈ l, r.Ok) → ∃ d', d'.Perm (l ++ d) ∧ Valid gap d' (l.foldl (refStep gap) P) := by
  intro l
  induction l with
  | nil => intro d P h _; exact ⟨d, .refl _, h⟩
  | cons r l ih =>
    intro d P h hr
    obtain ⟨d', hp, hv⟩ := ih (r :: d) _ (h.step hg (hr r (List.mem_cons_self ..))) fun x hx => hr x (List.mem_cons_of_mem _ hx)
    exact ⟨d', hp.trans List.perm_middle, hv⟩
theorem refSess_valid {gap : Int} (hg : 1 ≤ gap) {l : List Rec} (hr : ∀ r ∈ l, r.Ok) : ∃ d, d.Perm l ∧ Valid gap d (refSess gap l) := by
  obtain ⟨d, hp, hv⟩ := valid_fold hg l [] [] (valid_nil gap) hr
  exact ⟨d, by simpa using hp, hv⟩

/-! ### Ascending records: the reference's way is the program's -/
theorem absorb_none : ∀ (Q : List Pane) (p : Pane) (N : List Pane), (∀ q ∈ Q, overl p q = false) → Q.foldl absorb (p, N) = (p, N ++ Q) := by
  intro Q
  induction Q with
  | nil => intro p N _; simp
  | cons q Q ih =>
    intro p N h
    have hq := h q (List.mem_cons_self ..)
    rw [List.foldl_cons, show absorb (p, N) q = (p, N ++ [q]) from by unfold absorb; rw [if_neg (by simp [hq])], ih _ _ fun x hx => h x (List.mem_cons_of_mem _ hx)]
    simp
theorem place_last {p : Pane} {N : List Pane} (h : ∀ q ∈ N, before p q = true) : place p N = N ++ [p] := by
  have : ∀ N : List Pane, (∀ q ∈ N, before p q = true) → N.takeWhile (before p) = N ∧ N.dropWhile (before p) = [] := by
    intro N
    induction N with
    | nil => intro _; exact ⟨rfl, rfl⟩
    | cons q N ih =>
      intro h
      have := ih fun x hx => h x (List.mem_cons_of_mem _ hx)
      rw [List.takeWhile_cons, List.dropWhile_cons, if_pos (h q (List.mem_cons_self ..)), if_pos (h q (List.mem_cons_self ..)), this.1, this.2]
      exact ⟨rfl, rfl⟩
  rw [place, (this N h).1, (this N h).2]
theorem before_of {p q : Pane} (h : aheadP q p) (hw : q.lo < q.hi) : before p q = true := by
  rw [before_iff]
  rcases h with h | ⟨h, h'⟩
  · exact .inl h
  · exact .inr ⟨h, by omega⟩
theorem SInv.ref {gap : Int} (hg : 1 ≤ gap) {t r : Rec} {o : List Pane} (h : SInv gap t o) (htr : ltOf recCf r t = false) (hr : r.Ok) : refStep gap o.reverse r = (stepR gap o r).reverse := by
  obtain ⟨p, ps, rfl, h1, h2, h3⟩ := h.head
  rw [recLe_iff] at htr
  have hpw := List.pairwise_cons.1 h.pw
  have hw : ∀ q ∈ p :: ps, q.lo < q.hi := fun q hq => by have := (h.all q hq).wide; omega
  have hps : ∀ q ∈ ps.reverse, overl (alone gap r) q = false := by
    intro q hq
    have hq := List.mem_reverse.1 hq
    rw [← Bool.not_eq_true, overl_iff]
    rintro ⟨e1, e2, e3⟩
    simp only [alone] at e1 e2 e3
    rcases htr with k | k
    · rcases hpw.1 q hq with a | a
      · rw [h1, e1] at a; exact bl_irrefl _ (bl_trans a k)
      · rw [← h1, ← a.1, e1] at k; exact bl_irrefl _ k
    · have := (hpw.1 q hq).ne (by rw [e1, h1, k.1]); omega
  rw [List.reverse_cons, refStep, List.foldl_append, absorb_none _ _ _ hps, List.nil_append, List.foldl_cons, List.foldl_nil, stepR]
  by_cases hj : joins p r = true
  · rw [if_pos hj]
    rw [joins_iff] at hj
    have ht : t.time ≤ r.time := by
      rcases htr with k | k
      · rw [← h1, hj.1] at k; exact absurd k (bl_irrefl _)
      · exact k.2
    have ho : overl (alone gap r) p = true := by rw [overl_iff]; exact ⟨hj.1, by simp only [alone]; omega, hj.2⟩
    have hab : absorb1 (alone gap r) p = p.ext gap r := by
      unfold absorb1 Pane.ext alone
      simp only [Pane.mk.injEq]
      refine ⟨(bytes_same hj.1).symm, ?_, ?_, by omega, by congr 1; omega, ((h.all p (List.mem_cons_self ..)).late).symm⟩
      · split <;> omega
      · rw [if_neg (by omega)]
    rw [show absorb (alone gap r, ps.reverse) p = (p.ext gap r, ps.reverse) from by unfold absorb; rw [if_pos ho, hab]]
    rw [List.reverse_cons]
    exact place_last fun q hq => before_of (by
      have := hpw.1 q (List.mem_reverse.1 hq)
      rcases this with a | a
      · exact .inl a
      · exact .inr a) (hw q (List.mem_cons_of_mem _ (List.mem_reverse.1 hq)))
  · rw [if_neg hj]
    rw [joins_iff] at hj
    have hno : overl (alone gap r) p = false := by
      rw [← Bool.not_eq_true, overl_iff]
      rintro ⟨e1, e2, e3⟩
      exact hj ⟨e1, e3⟩
    have hnew : (Pane.new r).ext gap r = alone gap r := by
      have hn := hr.2.1
      unfold Pane.new Pane.ext alone i64ok at *
      simp only [Pane.mk.injEq, true_and, and_true, Int.zero_add, IntKind.wrap_i64]
      omega
    rw [show absorb (alone gap r, ps.reverse) p = (alone gap r, ps.reverse ++ [p]) from by unfold absorb; rw [if_neg (by simp [hno])]]
    rw [List.reverse_cons, List.reverse_cons, hnew]
    refine place_last fun q hq => before_of ?_ (hw q (by simpa [or_comm] using hq))
    have hpr : aheadP p (alone gap r) := by
      rcases htr with k | k
      · exact .inl (by rw [h1]; exact k)
      · refine .inr ⟨h1.trans k.1, ?_⟩
        have : ¬ r.time < p.hi := fun hlt => hj ⟨h1.trans k.1, hlt⟩
        show p.hi ≤ r.time
        omega
    rcases List.mem_append.1 hq with hq | hq
    · have hpl := hw p (List.mem_cons_self ..)
      exact (hpw.1 q (List.mem_reverse.1 hq)).trans hpr (by omega)
    · obtain rfl := List.mem_singleton.1 hq
      exact hpr
theorem ref_fold {gap : Int} (hg : 1 ≤ gap) : ∀ (l : List Rec) (t : Rec) (o : List Pane), SInv gap t o → Up (ltOf recCf) (t :: l) → (∀ r ∈ l, recOk r = true ∧ r.Ok) → l.foldl (refStep gap) o.reverse = (l.foldl (stepR gap) o).reverse := by
  intro l
  induction l with
  | nil => intro t o h _ _; rfl
  | cons r l ih =>
    intro t o h hu hr
    have h1 := List.pairwise_cons.1 hu
    have hle := h1.1 r (List.mem_cons_self ..)
    have hrr := hr r (List.mem_cons_self ..)
    rw [List.foldl_cons, List.foldl_cons, h.ref hg hle hrr.2]
    exact ih r _ (h.step hg hle hrr.1) h1.2 fun x hx => hr x (List.mem_cons_of_mem _ hx)
theorem ref_sess {gap : Int} (hg : 1 ≤ gap) {l : List Rec} (hu : Up (ltOf recCf) l) (hr : ∀ r ∈ l, recOk r = true ∧ r.Ok) : refSess gap l = sess gap l := by
  cases l with
  | nil => rfl
  | cons r l =>
    have hrr := hr r (List.mem_cons_self ..)
    have e : refStep gap [] r = (stepR gap [] r).reverse := by
      have hn := hrr.2.2.1
      have hnew : (Pane.new r).ext gap r = alone gap r := by
        unfold Pane.new Pane.ext alone i64ok at *
        simp only [Pane.mk.injEq, true_and, and_true, Int.zero_add, IntKind.wrap_i64]
        omega
      rw [stepR, hnew]
      rfl
    rw [refSess, sess, sessR, List.foldl_cons, List.foldl_cons, e]
    exact ref_fold hg l r _ (.start hrr.1) hu fun x hx => hr x (List.mem_cons_of_mem _ hx)
/-- The reference's sessions are the program's. -/
theorem refSess_is {gap : Int} (hg : 1 ≤ gap) {l : List Rec} (hr : ∀ r ∈ l, recOk r = true ∧ r.Ok) {P : List Pane} (h : SessIs gap l P) : P = refSess gap l := by
  obtain ⟨s, hp, hu, rfl⟩ := h
  have hs : ∀ r ∈ s, recOk r = true ∧ r.Ok := fun r hm => hr r (hp.subset hm)
  rw [← ref_sess hg hu hs]
  obtain ⟨d, h1, h2⟩ := refSess_valid hg (l := s) fun r hm => (hs r hm).2
  obtain ⟨d', k1, k2⟩ := refSess_valid hg (l := l) fun r hm => (hr r hm).2
  exact h2.unique hg (h1.trans (hp.trans k1.symm)) k2
end Go.Proofs.Ytelailhghhjleaa
