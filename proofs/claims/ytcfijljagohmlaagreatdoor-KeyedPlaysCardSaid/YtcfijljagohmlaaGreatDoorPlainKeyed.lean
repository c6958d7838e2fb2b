/- States that rise: put among them, taken away, written and read; groups of keys. No program in sight. -/
import Derived.Test.YtcfijljagohmlaaGreatDoorPlainBackH
import Derived.Test.YtcfijljagohmlaaGreatDoorPlainLow
namespace Go.Proofs.YtcfijljagohmlaaGreatDoor
open Go.RowKit

theorem ba_same {a b : ByteArray} (h : a.toList = b.toList) : a = b := bytes_same h
theorem cmpS_lt {a b : ByteArray} : cmpS a b < 0 ↔ klt a b = true := by
  unfold cmpS klt
  split
  · rename_i h; simp [h]
  · rename_i h
    split <;> simp [h]
theorem cmpS_zero {a b : ByteArray} : cmpS a b = 0 ↔ a = b := by
  constructor
  · intro h
    unfold cmpS at h
    split at h
    · simp at h
    · split at h
      · rename_i h2; exact bytes_same (by simpa using h2)
      · simp at h
  · rintro rfl
    have := klt_irrefl a
    unfold klt at this
    unfold cmpS
    simp [this]
theorem cmpI_lt {a b : Int} : cmpI a b < 0 ↔ a < b := by unfold cmpI; split <;> (try split) <;> omega
theorem cmpI_zero {a b : Int} : cmpI a b = 0 ↔ a = b := by unfold cmpI; split <;> (try split) <;> omega
/-- Does a state stand ahead of another one? -/
def hlt (x y : Hld) : Bool := decide (cmpH x y < 0)
def sameH (x y : Hld) : Prop := x.node = y.node ∧ x.key = y.key
instance (x y : Hld) : Decidable (sameH x y) := by unfold sameH; exact instDecidableAnd
theorem cmpH_zero {x y : Hld} : cmpH x y = 0 ↔ sameH x y := by
  unfold cmpH orI sameH
  have h1 := cmpI_zero (a := x.node) (b := y.node)
  have h2 := cmpS_zero (a := x.key) (b := y.key)
  split
  · rename_i h
    constructor
    · intro e; exact absurd e h
    · rintro ⟨e, _⟩; exact h1.2 e
  · rename_i h
    have h' : cmpI x.node y.node = 0 := by omega
    rw [h2]
    exact ⟨fun e => ⟨h1.1 h', e⟩, fun e => e.2⟩
theorem hlt_iff {x y : Hld} : hlt x y = true ↔ x.node < y.node ∨ (x.node = y.node ∧ klt x.key y.key = true) := by
  unfold hlt cmpH orI
  rw [decide_eq_true_eq]
  have h1 := cmpI_lt (a := x.node) (b := y.node)
  have h2 := cmpI_zero (a := x.node) (b := y.node)
  split
  · rename_i h
    rw [h1]
    constructor
    · exact .inl
    · rintro (e | ⟨e, _⟩)
      · exact e
      · exact absurd (h2.2 e) h
  · rename_i h
    have h' : cmpI x.node y.node = 0 := by omega
    rw [cmpS_lt]
    have h3 := h2.1 h'
    constructor
    · exact fun e => .inr ⟨h3, e⟩
    · rintro (e | ⟨_, e⟩)
      · omega
      · exact e
theorem hlt_irrefl (x : Hld) : hlt x x = false := by
  rcases h : hlt x x
  · rfl
  · rw [hlt_iff, klt_irrefl] at h
    rcases h with h | ⟨_, h⟩
    · omega
    · cases h
theorem hlt_trans {x y z : Hld} (h : hlt x y = true) (k : hlt y z = true) : hlt x z = true := by
  rw [hlt_iff] at h k ⊢
  rcases h with h | ⟨h, h'⟩ <;> rcases k with k | ⟨k, k'⟩
  · exact .inl (by omega)
  · exact .inl (by omega)
  · exact .inl (by omega)
  · exact .inr ⟨by omega, klt_trans h' k'⟩
theorem hlt_asymm {x y : Hld} (h : hlt x y = true) : hlt y x = false := by
  rcases k : hlt y x
  · rfl
  · have := hlt_trans h k; rw [hlt_irrefl] at this; cases this
theorem hlt_tri (x y : Hld) : hlt x y = true ∨ sameH x y ∨ hlt y x = true := by
  rw [hlt_iff, hlt_iff, sameH]
  rcases klt_tri x.key y.key with h | h | h
  · rcases Int.lt_trichotomy x.node y.node with k | k | k
    · exact .inl (.inl k)
    · exact .inl (.inr ⟨k, h⟩)
    · exact .inr (.inr (.inl k))
  · rcases Int.lt_trichotomy x.node y.node with k | k | k
    · exact .inl (.inl k)
    · exact .inr (.inl ⟨k, h⟩)
    · exact .inr (.inr (.inl k))
  · rcases Int.lt_trichotomy x.node y.node with k | k | k
    · exact .inl (.inl k)
    · exact .inr (.inr (.inr ⟨k.symm, h⟩))
    · exact .inr (.inr (.inl k))
theorem hlt_ne {x y : Hld} (h : hlt x y = true) : ¬ sameH x y := by
  rintro ⟨e1, e2⟩
  rw [hlt_iff] at h
  rcases h with h | ⟨_, h⟩
  · omega
  · exact klt_ne h e2
theorem hlt_same {x y z : Hld} (h : sameH x y) : hlt x z = hlt y z := by
  have : hlt x z = true ↔ hlt y z = true := by rw [hlt_iff, hlt_iff, h.1, h.2]
  exact Bool.eq_iff_iff.2 this
theorem hlt_same' {x y z : Hld} (h : sameH x y) : hlt z x = hlt z y := by
  have : hlt z x = true ↔ hlt z y = true := by rw [hlt_iff, hlt_iff, h.1, h.2]
  exact Bool.eq_iff_iff.2 this
abbrev riseH (l : List Hld) : Prop := l.Pairwise fun a b => hlt a b = true
/-- What rises is fine, if each is a state. -/
theorem riseH_go : ∀ (l : List Hld) (p : Option Hld), riseH l → (∀ x ∈ l, hldOk x = true) → (∀ q, p = some q → ∀ x ∈ l, hlt q x = true) → heldsGo p l = 0 := by
  intro l
  induction l with
  | nil => intro p _ _ _; rfl
  | cons x xs ih =>
    intro p h1 h2 h3
    rw [riseH, List.pairwise_cons] at h1
    rw [heldsGo, if_neg (by rw [h2 x List.mem_cons_self]; simp), if_neg ?_]
    · exact ih _ h1.2 (fun y hy => h2 y (List.mem_cons_of_mem _ hy)) (fun q hq y hy => by injection hq with hq; rw [← hq]; exact h1.1 y hy)
    · rcases p with _ | q
      · simp [notAfter]
      · have := h3 q rfl x List.mem_cons_self
        unfold hlt at this
        simp only [notAfter, decide_eq_true_eq] at this ⊢
        omega
theorem riseH_E {l : List Hld} (h1 : riseH l) (h2 : ∀ x ∈ l, hldOk x = true) : heldsE l = if 400 < l.length then 4 else 0 := by
  rw [heldsE]
  split
  · rfl
  · exact riseH_go l none h1 h2 fun q hq => by cases hq
theorem go_riseH : ∀ (l : List Hld) (p : Option Hld), heldsGo p l = 0 → riseH l ∧ (∀ x ∈ l, hldOk x = true) ∧ (∀ q, p = some q → ∀ x ∈ l, hlt q x = true) := by
  intro l
  induction l with
  | nil => intro p _; exact ⟨.nil, (fun _ h => by cases h), (fun _ _ _ h => by cases h)⟩
  | cons x xs ih =>
    intro p h
    obtain ⟨h1, h2, h3⟩ := heldsGo_cons h
    obtain ⟨i1, i2, i3⟩ := ih _ h3
    have hx := i3 x rfl
    refine ⟨.cons hx i1, fun y hy => ?_, fun q hq y hy => ?_⟩
    · rcases List.mem_cons.1 hy with rfl | hy
      · exact h1
      · exact i2 y hy
    · subst hq
      have hqx : hlt q x = true := by
        unfold hlt
        simp only [notAfter, decide_eq_false_iff_not] at h2
        rw [decide_eq_true_eq]; omega
      rcases List.mem_cons.1 hy with rfl | hy
      · exact hqx
      · exact hlt_trans hqx (hx y hy)
theorem helds_riseH {l : List Hld} (h : heldsE l = 0) : riseH l ∧ (∀ x ∈ l, hldOk x = true) ∧ l.length ≤ 400 := by
  unfold heldsE at h
  split at h
  · cases h
  · obtain ⟨h1, h2, _⟩ := go_riseH l none h
    exact ⟨h1, h2, by omega⟩
/-- What is read is fine. -/
theorem hldsS_go (l : List UInt8) : ∀ (m : Nat) (p : Option Hld) (s : Option Nat), (hldsS l m p s).2 ≠ none → (∀ q, p = some q → ∀ x ∈ (hldsS l m p s).1, hlt q x = true) ∧ riseH (hldsS l m p s).1 ∧ (hldsS l m p s).1.length = m := by
  intro m
  induction m with
  | zero => intro p s _; exact ⟨(fun _ _ _ h => by cases h), .nil, rfl⟩
  | succ m ih =>
    intro p s h
    rcases hl : riseS p (hldS l s).1 (hldS l s).2 with _ | a
    · rw [hldsS_bad hl] at h; exact absurd rfl h
    · rw [hldsS_good hl] at h ⊢
      simp only at h ⊢
      obtain ⟨i1, i2, i3⟩ := ih (some (hldS l s).1) (some a) h
      have hx := i1 _ rfl
      refine ⟨fun q hq y hy => ?_, .cons hx i2, by rw [List.length_cons, i3]⟩
      subst hq
      have hqx : hlt q (hldS l s).1 = true := by
        rw [riseS] at hl
        split at hl
        · cases hl
        · rename_i hn
          simp only [notAfter, decide_eq_true_eq] at hn
          unfold hlt
          rw [decide_eq_true_eq]; omega
      rcases List.mem_cons.1 hy with rfl | hy
      · exact hqx
      · exact hlt_trans hqx (hx y hy)
theorem hldsS_fine (l : List UInt8) : ∀ (m : Nat) (p : Option Hld) (s : Option Nat), Stands l s → ∀ x ∈ (hldsS l m p s).1, hldOk x = true ∧ x.Ok := by
  intro m
  induction m with
  | zero => intro p s _ x hx; cases hx
  | succ m ih =>
    intro p s hs x hx
    rcases hl : riseS p (hldS l s).1 (hldS l s).2 with _ | a
    · rw [hldsS_bad hl] at hx; cases hx
    · rw [hldsS_good hl] at hx
      obtain ⟨nd, s1, kb, s2, a1, s3, b1, s4, _, _, _, _, e, _, _, _, h4, k1, k2, k3, k4, k5, k6, k7⟩ := hld_parts l s hs
      rcases List.mem_cons.1 hx with rfl | hx
      · rw [e]
        have hsz : (⟨kb.toArray⟩ : ByteArray).size = kb.length := List.size_toArray
        refine ⟨?_, ?_, ⟨?_, ?_⟩, ⟨k4, k5⟩, ⟨k6, k7⟩⟩
        · simp only [hldOk, Bool.and_eq_true, decide_eq_true_eq]
          refine ⟨⟨k2, ?_⟩, ?_⟩
          · show nd < 12; omega
          · show (⟨kb.toArray⟩ : ByteArray).size ≤ 40; omega
        · show (⟨kb.toArray⟩ : ByteArray).size ≤ _; omega
        · show -9223372036854775808 ≤ nd; omega
        · show nd ≤ 9223372036854775807; omega
      · refine ih _ _ ?_ x hx
        rw [e] at hl
        simp only [riseS] at hl
        split at hl
        · cases hl
        · rw [← hl]; exact h4
theorem readHelds_fine {b : List UInt8} {l : List Hld} (h : readHelds b = some l) : riseH l ∧ (∀ x ∈ l, hldOk x = true ∧ x.Ok) ∧ l.length ≤ 400 := by
  have hu := uptoS_bd b 400 (some 0) (by simp [Stands]) (by omega)
  unfold readHelds at h
  dsimp only at h
  split at h
  · rename_i he
    injection h with h
    have hne : (hldsS b (uptoS b 400 (some 0)).1.toNat none (uptoS b 400 (some 0)).2).2 ≠ none := by
      intro e
      rw [e] at he
      simp [endS] at he
    obtain ⟨_, h1, h2⟩ := hldsS_go b _ _ _ hne
    have h3 := hldsS_fine b (uptoS b 400 (some 0)).1.toNat none (uptoS b 400 (some 0)).2 hu.1
    rw [h] at h1 h2 h3
    exact ⟨h1, h3, by omega⟩
  · cases h
/-- A state among some that rise, in place of the one at its node and key. -/
def hldPut (h : Hld) : List Hld → List Hld
  | [] => [h]
  | x :: xs => if hlt x h = true then x :: hldPut h xs else if sameH x h then h :: xs else h :: x :: xs
/-- Those that are not at a node and key. -/
def offH (n : Int) (k : ByteArray) (l : List Hld) : List Hld := l.filter fun x => !decide (x.node = n ∧ x.key = k)
theorem mem_offH {n : Int} {k : ByteArray} {l : List Hld} {x : Hld} : x ∈ offH n k l ↔ x ∈ l ∧ ¬ (x.node = n ∧ x.key = k) := by
  rw [offH, List.mem_filter, Bool.not_eq_true', decide_eq_false_iff_not]
theorem offH_none {n : Int} {k : ByteArray} {l : List Hld} (h : ∀ x ∈ l, ¬ (x.node = n ∧ x.key = k)) : offH n k l = l :=
  List.filter_eq_self.2 fun x hx => by rw [decide_eq_false (h x hx)]; rfl
theorem offH_cons {n : Int} {k : ByteArray} {l : List Hld} {x : Hld} : offH n k (x :: l) = if x.node = n ∧ x.key = k then offH n k l else x :: offH n k l := by
  rw [offH, List.filter_cons]
  by_cases h : x.node = n ∧ x.key = k
  · rw [if_pos h, decide_eq_true h, if_neg (by simp)]; rfl
  · rw [if_neg h, decide_eq_false h]; rfl
theorem hldPut_perm {h : Hld} : ∀ {l : List Hld}, riseH l → (hldPut h l).Perm (h :: offH h.node h.key l) := by
  intro l
  induction l with
  | nil => intro _; exact .refl _
  | cons x xs ih =>
    intro hr
    rw [riseH, List.pairwise_cons] at hr
    rw [hldPut, offH_cons]
    split
    · rename_i hx
      have hn := hlt_ne hx
      rw [if_neg (show ¬ (x.node = h.node ∧ x.key = h.key) from hn)]
      exact ((ih hr.2).cons x).trans (.swap _ _ _)
    · rename_i hx
      have hall : ∀ y ∈ xs, sameH x h → ¬ (y.node = h.node ∧ y.key = h.key) := fun y hy hs e => hlt_ne (hr.1 y hy) ⟨hs.1.trans e.1.symm, hs.2.trans e.2.symm⟩
      split
      · rename_i hs
        rw [if_pos (show x.node = h.node ∧ x.key = h.key from hs), offH_none fun y hy => hall y hy hs]
      · rename_i hs
        rw [if_neg (show ¬ (x.node = h.node ∧ x.key = h.key) from hs)]
        have hhx : hlt h x = true := by
          rcases hlt_tri x h with t | t | t
          · exact absurd t hx
          · exact absurd t hs
          · exact t
        rw [offH_none fun y hy e => hlt_ne (hlt_trans hhx (hr.1 y hy)) ⟨e.1.symm, e.2.symm⟩]
theorem hldPut_mem {h y : Hld} {l : List Hld} (hr : riseH l) (hy : y ∈ hldPut h l) : y = h ∨ y ∈ l := by
  have := (hldPut_perm hr).mem_iff.1 hy
  rcases List.mem_cons.1 this with e | e
  · exact .inl e
  · exact .inr (mem_offH.1 e).1
theorem hldPut_rise {h : Hld} : ∀ {l : List Hld}, riseH l → riseH (hldPut h l) := by
  intro l
  induction l with
  | nil => intro _; exact List.pairwise_singleton _ _
  | cons x xs ih =>
    intro hr
    have hr0 := hr
    rw [riseH, List.pairwise_cons] at hr
    rw [hldPut]
    split
    · rename_i hx
      refine .cons (fun y hy => ?_) (ih hr.2)
      rcases hldPut_mem hr.2 hy with rfl | hy
      · exact hx
      · exact hr.1 y hy
    · rename_i hx
      split
      · rename_i hs
        refine .cons (fun y hy => ?_) hr.2
        rw [← hlt_same hs]; exact hr.1 y hy
      · rename_i hs
        have hhx : hlt h x = true := by
          rcases hlt_tri x h with t | t | t
          · exact absurd t hx
          · exact absurd t hs
          · exact t
        refine .cons (fun y hy => ?_) hr0
        rcases List.mem_cons.1 hy with rfl | hy
        · exact hhx
        · exact hlt_trans hhx (hr.1 y hy)
theorem hldPut_len {h : Hld} : ∀ (l : List Hld), (hldPut h l).length ≤ l.length + 1 := by
  intro l
  induction l with
  | nil => exact Nat.le_refl _
  | cons x xs ih =>
    rw [hldPut]
    split
    · simp only [List.length_cons]; omega
    · split <;> simp only [List.length_cons] <;> omega
/-- What is sorted, and has the same as what rises, is that. -/
theorem up_riseH : ∀ {s L : List Hld}, s.Perm L → riseH L → (s.Pairwise fun a b => hlt b a = false) → s = L := by
  intro s
  induction s with
  | nil => intro L hp _ _; exact (List.nil_perm.1 hp).symm
  | cons x xs ih =>
    intro L hp hr hs
    rcases L with _ | ⟨y, ys⟩
    · exact absurd hp (by simp)
    · rw [List.pairwise_cons] at hs
      have hr2 := hr
      rw [riseH, List.pairwise_cons] at hr2
      have e : x = y := by
        have hx : x ∈ y :: ys := hp.mem_iff.1 List.mem_cons_self
        have hy : y ∈ x :: xs := hp.mem_iff.2 List.mem_cons_self
        rcases List.mem_cons.1 hx with e | hx
        · exact e
        · rcases List.mem_cons.1 hy with e | hy
          · exact e.symm
          · have h1 := hs.1 y hy
            rw [hr2.1 x hx] at h1; cases h1
      subst e
      rw [ih ((List.perm_cons _).1 hp) hr2.2 hs.2]
theorem riseH_sub {l m : List Hld} (h : riseH l) (hs : m.Sublist l) : riseH m := h.sublist hs
theorem riseH_nodup {l : List Hld} (h : riseH l) : l.Nodup := List.Pairwise.imp (fun {a b} (h : hlt a b = true) (e : a = b) => by rw [e, hlt_irrefl] at h; cases h) h

/-! ### Many states put in order -/
/-- Do two of some stand at one place? -/
def dupB : List Hld → Bool
  | [] => false
  | x :: xs => xs.any (fun y => decide (sameH x y)) || dupB xs
theorem dup_iff {l : List Hld} : dupB l = false ↔ l.Pairwise fun x y => ¬ sameH x y := by
  induction l with
  | nil => simp [dupB]
  | cons x xs ih =>
    rw [dupB, Bool.or_eq_false_iff, ih, List.pairwise_cons, List.any_eq_false]
    simp only [decide_eq_true_eq]
theorem sameH_symm {x y : Hld} (h : sameH x y) : sameH y x := ⟨h.1.symm, h.2.symm⟩
theorem dup_perm {l m : List Hld} (h : l.Perm m) : dupB l = dupB m := by
  have : dupB l = false ↔ dupB m = false := by
    rw [dup_iff, dup_iff]
    exact h.pairwise_iff fun {x y} (hn : ¬ sameH x y) (e : sameH y x) => hn (sameH_symm e)
  rcases h1 : dupB l <;> rcases h2 : dupB m <;> rw [h1, h2] at this <;> simp at this <;> rfl
def sortH (l : List Hld) : List Hld := l.foldl (fun o h => hldPut h o) []
theorem sort_fold_rise : ∀ (l o : List Hld), riseH o → riseH (l.foldl (fun o h => hldPut h o) o) := by
  intro l
  induction l with
  | nil => intro o h; exact h
  | cons x xs ih => intro o h; rw [List.foldl_cons]; exact ih _ (hldPut_rise h)
theorem sortH_rise (l : List Hld) : riseH (sortH l) := sort_fold_rise l [] .nil
theorem sort_fold_perm : ∀ (l o : List Hld), riseH o → (∀ x ∈ o, ∀ y ∈ l, ¬ sameH x y) → (l.Pairwise fun x y => ¬ sameH x y) → (l.foldl (fun o h => hldPut h o) o).Perm (o ++ l) := by
  intro l
  induction l with
  | nil => intro o _ _ _; rw [List.append_nil]; exact .refl _
  | cons x xs ih =>
    intro o hr hd hp
    rw [List.pairwise_cons] at hp
    rw [List.foldl_cons]
    have hpx : (hldPut x o).Perm (x :: o) := by
      have := hldPut_perm (h := x) hr
      rw [offH_none fun y hy => hd y hy x List.mem_cons_self] at this
      exact this
    refine (ih _ (hldPut_rise hr) (fun y hy z hz => ?_) hp.2).trans ?_
    · rcases List.mem_cons.1 (hpx.mem_iff.1 hy) with rfl | hy
      · exact hp.1 z hz
      · exact hd y hy z (List.mem_cons_of_mem _ hz)
    · exact (hpx.append_right xs).trans List.perm_middle.symm
theorem sortH_perm {l : List Hld} (h : dupB l = false) : (sortH l).Perm l := by
  have := sort_fold_perm l [] .nil (fun _ hx => by cases hx) (dup_iff.1 h)
  rw [List.nil_append] at this
  exact this
theorem riseH_nodup' {l : List Hld} (h : riseH l) : dupB l = false := dup_iff.2 (List.Pairwise.imp (fun {a b} (h : hlt a b = true) => hlt_ne h) h)
theorem sortH_of {l L : List Hld} (h : l.Perm L) (hr : riseH L) : sortH l = L := by
  have h1 : dupB l = false := by rw [dup_perm h]; exact riseH_nodup' hr
  refine up_riseH ((sortH_perm h1).trans h) hr ?_
  exact List.Pairwise.imp (fun {a b} (h : hlt a b = true) => hlt_asymm h) (sortH_rise l)
/-- Sorted, and no two neighbours alike: they rise. -/
theorem sorted_rise : ∀ {s : List Hld}, (s.Pairwise fun a b => hlt b a = false) → (∀ (i : Nat) (x y : Hld), s[i]? = some x → s[i + 1]? = some y → ¬ sameH x y) → riseH s := by
  intro s
  induction s with
  | nil => intro _ _; exact .nil
  | cons x xs ih =>
    intro h1 h2
    rw [List.pairwise_cons] at h1
    have hr := ih h1.2 fun i a b ha hb => h2 (i + 1) a b ha hb
    refine .cons (fun y hy => ?_) hr
    rcases xs with _ | ⟨z, zs⟩
    · cases hy
    · have hz := h2 0 x z rfl rfl
      have hxz : hlt x z = true := by
        rcases hlt_tri x z with t | t | t
        · exact t
        · exact absurd t hz
        · rw [h1.1 z List.mem_cons_self] at t; cases t
      rcases List.mem_cons.1 hy with rfl | hy
      · exact hxz
      · rw [riseH, List.pairwise_cons] at hr
        exact hlt_trans hxz (hr.1 y hy)
theorem dup_at {s : List Hld} {i : Nat} {x y : Hld} (h1 : s[i]? = some x) (h2 : s[i + 1]? = some y) (h : sameH x y) : dupB s = true := by
  rcases hd : dupB s
  · rw [dup_iff, List.pairwise_iff_getElem] at hd
    obtain ⟨a1, b1⟩ := List.getElem?_eq_some_iff.1 h1
    obtain ⟨a2, b2⟩ := List.getElem?_eq_some_iff.1 h2
    have := hd i (i + 1) a1 a2 (by omega)
    rw [b1, b2] at this
    exact absurd h this
  · rfl

/-! ### Groups -/
/-- The sum of a key's bytes (FNV, 32 bits). -/
def fnvS (x : Nat) (c : UInt8) : Nat := ((x ^^^ c.toNat) * 16777619) % 4294967296
def fnvB (l : List UInt8) : Nat := l.foldl fnvS 2166136261
def gOf (k : ByteArray) : Nat := ((fnvB k.data.toList / 65536) ^^^ fnvB k.data.toList) % 16
theorem gOf_lt (k : ByteArray) : gOf k < 16 := Nat.mod_lt _ (by omega)
theorem fnvB_lt (l : List UInt8) : fnvB l < 4294967296 := by
  unfold fnvB
  suffices ∀ (l : List UInt8) (x : Nat), x < 4294967296 → l.foldl fnvS x < 4294967296 from this l _ (by omega)
  intro l
  induction l with
  | nil => intro x h; exact h
  | cons c l ih => intro x _; rw [List.foldl_cons]; exact ih _ (Nat.mod_lt _ (by omega))
/-- Is a state's key of some groups? -/
def inG (lo hi : Int) (h : Hld) : Bool := decide (lo ≤ (gOf h.key : Int)) && decide ((gOf h.key : Int) < hi)
theorem inG_all (h : Hld) : inG 0 16 h = true := by
  have := gOf_lt h.key
  simp only [inG, Bool.and_eq_true, decide_eq_true_eq]; omega
/-- The first group of a worker. -/
def firstG (p i : Nat) : Nat := (i * 16 + p - 1) / p
theorem owner_is {q i g : Nat} (hq : 1 ≤ q) (h1 : firstG q i ≤ g) (h2 : g < firstG q (i + 1)) : g * q / 16 = i := by
  unfold firstG at h1 h2
  have a1 : i * 16 + q - 1 < (g + 1) * q := by
    have := Nat.lt_mul_of_div_lt (Nat.lt_succ_of_le h1) (by omega)
    rw [Nat.succ_eq_add_one] at this; omega
  have a2 : (g + 1) * q ≤ (i + 1) * 16 + q - 1 := by
    have h3 : g + 1 ≤ ((i + 1) * 16 + q - 1) / q := h2
    exact (Nat.le_div_iff_mul_le (by omega)).1 h3
  rw [Nat.add_mul, Nat.one_mul] at a1 a2
  have b1 : i * 16 ≤ g * q := by omega
  have b2 : g * q < (i + 1) * 16 := by omega
  exact Nat.div_eq_of_lt_le b1 b2
theorem firstG_zero {p : Nat} (hp : 1 ≤ p) : firstG p 0 = 0 := by unfold firstG; exact Nat.div_eq_of_lt (by omega)
theorem firstG_all {p : Nat} (hp : 1 ≤ p) : firstG p p = 16 := by
  unfold firstG
  exact Nat.div_eq_of_lt_le (by rw [Nat.mul_comm]; omega) (by rw [Nat.succ_mul, Nat.mul_comm]; omega)
theorem firstG_mono {p i : Nat} : firstG p i ≤ firstG p (i + 1) := by
  unfold firstG
  exact Nat.div_le_div_right (by omega)
/-- The states of the workers ahead of one. -/
def belowG (p i : Nat) (S : List Hld) : List Hld := S.filter fun h => decide (gOf h.key < firstG p i)
def partG (p i : Nat) (S : List Hld) : List Hld := S.filter (inG (firstG p i : Nat) (firstG p (i + 1) : Nat))
theorem belowG_zero {p : Nat} (hp : 1 ≤ p) (S : List Hld) : belowG p 0 S = [] := by
  rw [belowG, List.filter_eq_nil_iff]
  intro x _
  rw [firstG_zero hp]; simp
theorem belowG_all {p : Nat} (hp : 1 ≤ p) (S : List Hld) : belowG p p S = S := by
  rw [belowG, List.filter_eq_self]
  intro x _
  rw [firstG_all hp]
  exact decide_eq_true (gOf_lt _)
theorem perm_split {α : Type} {f g h : α → Bool} : ∀ (S : List α), (∀ x ∈ S, h x = (f x || g x)) → (∀ x ∈ S, f x = true → g x = false) → (S.filter f ++ S.filter g).Perm (S.filter h) := by
  intro S
  induction S with
  | nil => intro _ _; exact .refl _
  | cons x xs ih =>
    intro h1 h2
    have i := ih (fun y hy => h1 y (List.mem_cons_of_mem _ hy)) (fun y hy => h2 y (List.mem_cons_of_mem _ hy))
    have e := h1 x List.mem_cons_self
    rw [List.filter_cons, List.filter_cons, List.filter_cons, e]
    rcases hf : f x
    · rcases hg : g x
      · simpa using i
      · simp only [Bool.false_eq_true, if_false, if_true, Bool.or_true]
        exact (List.perm_middle).trans (i.cons x)
    · rw [h2 x List.mem_cons_self hf]
      simpa using i
theorem belowG_step {p i : Nat} (S : List Hld) : (belowG p i S ++ partG p i S).Perm (belowG p (i + 1) S) := by
  refine perm_split S (fun x _ => ?_) (fun x _ h => ?_)
  · have := firstG_mono (p := p) (i := i)
    by_cases h1 : gOf x.key < firstG p i
    · rw [decide_eq_true h1, Bool.true_or]
      exact decide_eq_true (by omega)
    · rw [decide_eq_false h1, Bool.false_or, inG]
      by_cases h2 : gOf x.key < firstG p (i + 1)
      · rw [decide_eq_true h2]; symm; simp only [Bool.and_eq_true, decide_eq_true_eq]; omega
      · rw [decide_eq_false h2]; symm; simp only [Bool.and_eq_false_iff, decide_eq_false_iff_not]; omega
  · simp only [decide_eq_true_eq] at h
    simp only [inG, Bool.and_eq_false_iff, decide_eq_false_iff_not]; omega
/-- All workers' states, one behind the other. -/
theorem parts_perm {p : Nat} (hp : 1 ≤ p) (S : List Hld) : ∀ i, ((List.range i).flatMap fun j => partG p j S).Perm (belowG p i S) := by
  intro i
  induction i with
  | zero => rw [belowG_zero hp]; exact .refl _
  | succ i ih =>
    rw [List.range_succ, List.flatMap_append]
    have : ([i].flatMap fun j => partG p j S) = partG p i S := by simp
    rw [this]
    exact (ih.append_right _).trans (belowG_step S)
end Go.Proofs.YtcfijljagohmlaaGreatDoor
