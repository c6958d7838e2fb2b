/- PlainLines PlainCompact in one text. -/
import Derived.Test.YtmeemcafjebanaaGreatDoorPlainLow
import Derived.Test.YtmeemcafjebanaaGreatDoorPlainLeast
import Derived.Lib.SlicesCompact
/- Lines (a key with its numbers), what is wrong with them, and how they are judged, as plain data. No program in sight. -/
namespace Go.Proofs.YtmeemcafjebanaaGreatDoor
open Go.RowKit

/-- A key with its numbers. -/
structure Ln where
  key : ByteArray
  nums : List Int
deriving Inhabited

/-- Does a line not rise behind a key? -/
def lnStuck (p : Option ByteArray) (k : ByteArray) : Bool := match p with | none => false | some q => !klt q k
/-- The first fault of lines behind one. -/
def linesGo : Option ByteArray → List Ln → Nat
  | _, [] => 0
  | p, x :: xs => if 400 < x.nums.length then 4 else if lnStuck p x.key = true then 5 else if x.nums.length = 0 then 3 else linesGo (some x.key) xs
def linesE (l : List Ln) : Nat := if 400 < l.length then 4 else linesGo none l
def prevK (l : List Ln) (k : Nat) : Option ByteArray := if k = 0 then none else (l[k - 1]?).map Ln.key

theorem linesE_of {l : List Ln} {e : Nat} (h : l.length ≤ 400) (hg : linesGo none l = e) : linesE l = e := by rw [linesE, if_neg (by omega), hg]
theorem linesE_long {l : List Ln} (h : 400 < l.length) : linesE l = 4 := by rw [linesE, if_pos h]
theorem drop_ln {l : List Ln} {k : Nat} {r : Ln} (h : l[k]? = some r) : l.drop k = r :: l.drop (k + 1) := by
  obtain ⟨hk, rfl⟩ := List.getElem?_eq_some_iff.1 h
  rw [List.drop_eq_getElem_cons hk]
theorem prevK_zero (l : List Ln) : prevK l 0 = none := rfl
theorem prevK_at {l : List Ln} {j : Nat} {q : Ln} (hq : l[j]? = some q) : prevK l (j + 1) = some q.key := by
  rw [prevK, if_neg (by omega), Nat.add_sub_cancel, hq]; rfl
theorem lngo_many {l : List Ln} {k : Nat} {r : Ln} (h : l[k]? = some r) (hr : 400 < r.nums.length) : linesGo (prevK l k) (l.drop k) = 4 := by
  rw [drop_ln h, linesGo, if_pos hr]
theorem lngo_order {l : List Ln} {k : Nat} {r : Ln} (h : l[k]? = some r) (hr : r.nums.length ≤ 400) (hc : lnStuck (prevK l k) r.key = true) : linesGo (prevK l k) (l.drop k) = 5 := by
  rw [drop_ln h, linesGo, if_neg (by omega), if_pos hc]
theorem lngo_none {l : List Ln} {k : Nat} {r : Ln} (h : l[k]? = some r) (_hr : r.nums.length ≤ 400) (hc : lnStuck (prevK l k) r.key = false) (h0 : r.nums.length = 0) : linesGo (prevK l k) (l.drop k) = 3 := by
  rw [drop_ln h, linesGo, if_neg (by omega), if_neg (by simp [hc]), if_pos h0]
theorem lngo_next {l : List Ln} {k : Nat} {r : Ln} (h : l[k]? = some r) (hr : r.nums.length ≤ 400) (hc : lnStuck (prevK l k) r.key = false) (h0 : r.nums.length ≠ 0) : linesGo (prevK l k) (l.drop k) = linesGo (prevK l (k + 1)) (l.drop (k + 1)) := by
  rw [drop_ln h, linesGo, if_neg (by omega), if_neg (by simp [hc]), if_neg h0, prevK_at h]
theorem lngo_done {l : List Ln} {k : Nat} (h : l.length ≤ k) : linesGo (prevK l k) (l.drop k) = 0 := by rw [List.drop_eq_nil_of_le h, linesGo]

/-- Keys rise, and each has some numbers, few enough. -/
structure LnsOk (l : List Ln) : Prop where
  len : l.length ≤ 400
  pw : l.Pairwise fun a b => klt a.key b.key = true
  some_ : ∀ x ∈ l, 0 < x.nums.length
  few : ∀ x ∈ l, x.nums.length ≤ 400
theorem linesGo_ok : ∀ (l : List Ln) (p : Option ByteArray), linesGo p l = 0 → (l.Pairwise fun a b => klt a.key b.key = true) ∧ (∀ x ∈ l, (∀ q, p = some q → klt q x.key = true) ∧ 0 < x.nums.length ∧ x.nums.length ≤ 400) := by
  intro l
  induction l with
  | nil => intro p _; exact ⟨.nil, fun _ h => absurd h List.not_mem_nil⟩
  | cons x xs ih =>
    intro p h
    rw [linesGo] at h
    split at h
    · cases h
    · rename_i h1
      split at h
      · cases h
      · rename_i h2
        split at h
        · cases h
        · rename_i h3
          obtain ⟨i1, i2⟩ := ih _ h
          have hp : ∀ q, p = some q → klt q x.key = true := by
            rintro q rfl
            simpa [lnStuck] using h2
          refine ⟨.cons (fun y hy => (i2 y hy).1 _ rfl) i1, fun y hy => ?_⟩
          rcases List.mem_cons.1 hy with rfl | hy
          · exact ⟨hp, by omega, by omega⟩
          · obtain ⟨j1, j2, j3⟩ := i2 y hy
            exact ⟨fun q hq => klt_trans (hp q hq) (j1 _ rfl), j2, j3⟩
theorem linesE_ok {l : List Ln} (h : linesE l = 0) : LnsOk l := by
  rw [linesE] at h
  split at h
  · cases h
  · obtain ⟨h1, h2⟩ := linesGo_ok l none h
    exact ⟨by omega, h1, (fun x hx => (h2 x hx).2.1), (fun x hx => (h2 x hx).2.2)⟩
theorem ok_linesGo : ∀ (l : List Ln) (p : Option ByteArray), (l.Pairwise fun a b => klt a.key b.key = true) → (∀ x ∈ l, (∀ q, p = some q → klt q x.key = true) ∧ 0 < x.nums.length ∧ x.nums.length ≤ 400) → linesGo p l = 0 := by
  intro l
  induction l with
  | nil => intro p _ _; rfl
  | cons x xs ih =>
    intro p h1 h2
    obtain ⟨j1, j2, j3⟩ := h2 x List.mem_cons_self
    have hs : lnStuck p x.key = false := by
      rcases p with _ | q
      · rfl
      · simp [lnStuck, j1 q rfl]
    rw [linesGo, if_neg (by omega), if_neg (by simp [hs]), if_neg (by omega)]
    rw [List.pairwise_cons] at h1
    exact ih _ h1.2 fun y hy => ⟨fun q hq => by injection hq with hq; subst hq; exact h1.1 y hy, (h2 y (List.mem_cons_of_mem _ hy)).2⟩
theorem linesE_ok_iff {l : List Ln} : linesE l = 0 ↔ LnsOk l :=
  ⟨linesE_ok, fun h => by rw [linesE, if_neg (by have := h.len; omega)]; exact ok_linesGo l none h.pw fun x hx => ⟨(fun q hq => by cases hq), h.some_ x hx, h.few x hx⟩⟩

/-! ### The numbers of a key -/
def numsOf (l : List Ln) (k : ByteArray) : Option (List Int) := (l.find? fun x => decide (x.key = k)).map Ln.nums
theorem numsOf_mem {l : List Ln} {x : Ln} (h : l.Pairwise fun a b => klt a.key b.key = true) (hx : x ∈ l) : numsOf l x.key = some x.nums := by
  induction l with
  | nil => cases hx
  | cons y ys ih =>
    rw [List.pairwise_cons] at h
    rw [numsOf, List.find?_cons]
    rcases List.mem_cons.1 hx with rfl | hx
    · simp
    · have hne : decide (y.key = x.key) = false := by simpa using klt_ne (h.1 x hx)
      rw [hne]
      exact ih h.2 hx
theorem numsOf_none {l : List Ln} {k : ByteArray} : numsOf l k = none ↔ ∀ x ∈ l, x.key ≠ k := by
  rw [numsOf, Option.map_eq_none_iff, List.find?_eq_none]
  simp
theorem numsOf_some {l : List Ln} {k : ByteArray} {v : List Int} (h : numsOf l k = some v) : ∃ x ∈ l, x.key = k ∧ x.nums = v := by
  rw [numsOf, Option.map_eq_some_iff] at h
  obtain ⟨x, hx, rfl⟩ := h
  exact ⟨x, List.mem_of_find?_eq_some hx, by simpa using List.find?_some hx, rfl⟩

/-! ### One key's numbers judged -/
/-- How far two lists are alike. -/
def lcp : List Int → List Int → Nat
  | x :: xs, y :: ys => if x = y then lcp xs ys + 1 else 0
  | _, _ => 0
theorem lcp_le : ∀ (a b : List Int), lcp a b ≤ a.length ∧ lcp a b ≤ b.length := by
  intro a
  induction a with
  | nil => intro b; simp [lcp]
  | cons x xs ih =>
    intro b
    cases b with
    | nil => simp [lcp]
    | cons y ys =>
      rw [lcp]
      split
      · have := ih ys; simp; omega
      · simp
theorem lcp_same : ∀ (a b : List Int) (i : Nat), i < lcp a b → a[i]? = b[i]? := by
  intro a
  induction a with
  | nil => intro b i h; simp [lcp] at h
  | cons x xs ih =>
    intro b i h
    cases b with
    | nil => simp [lcp] at h
    | cons y ys =>
      rw [lcp] at h
      split at h
      · rename_i e
        cases i with
        | zero => simp [e]
        | succ i => simpa using ih ys i (by omega)
      · omega
theorem lcp_end : ∀ (a b : List Int), lcp a b < a.length → lcp a b < b.length → a[lcp a b]? ≠ b[lcp a b]? := by
  intro a
  induction a with
  | nil => intro b h; simp at h
  | cons x xs ih =>
    intro b h1 h2
    cases b with
    | nil => simp at h2
    | cons y ys =>
      rw [lcp] at h1 h2 ⊢
      split
      · rename_i e
        rw [if_pos e] at h1 h2
        simp only [List.length_cons] at h1 h2
        simpa using ih ys (by omega) (by omega)
      · rename_i e
        simpa using e
theorem lcp_is {a b : List Int} {n : Nat} (h1 : ∀ i, i < n → a[i]? = b[i]?) (ha : n ≤ a.length) (hb : n ≤ b.length) (h2 : n < a.length → n < b.length → a[n]? ≠ b[n]?) : lcp a b = n := by
  obtain ⟨l1, l2⟩ := lcp_le a b
  rcases Nat.lt_trichotomy (lcp a b) n with h | h | h
  · exact absurd (h1 _ h) (lcp_end a b (by omega) (by omega))
  · exact h
  · exact absurd (lcp_same a b n h) (h2 (by omega) (by omega))
theorem lcp_self (a : List Int) : lcp a a = a.length := lcp_is (fun _ _ => rfl) (Nat.le_refl _) (Nat.le_refl _) fun h => absurd h (by omega)
/-- Do numbers stand, as often, among others? -/
def withinB (a b : List Int) : Bool := a.all fun x => decide (a.count x ≤ b.count x)
/-- A key's numbers judged: the kind, and the place. -/
def lineJ (w g : List Int) : Nat × Nat :=
  if lcp w g < w.length ∧ lcp w g < g.length then
    if withinB (g.drop (lcp w g)) (w.drop (lcp w g)) = true then (4, lcp w g)
    else if 0 < lcp w g ∧ atD g (lcp w g) = atD w (lcp w g - 1) then (2, lcp w g) else (3, lcp w g)
  else if lcp w g < g.length then (2, lcp w g) else if lcp w g < w.length then (1, lcp w g) else (0, 0)
/-- Keys judged, one by one: the first that is not fine. -/
def judgeOver (want got : List Ln) : List ByteArray → Nat × ByteArray × Nat
  | [] => (0, ⟨#[]⟩, 0)
  | k :: ks => match numsOf want k with
    | none => (3, k, 0)
    | some w => if (lineJ w ((numsOf got k).getD [])).1 ≠ 0 then ((lineJ w ((numsOf got k).getD [])).1, k, (lineJ w ((numsOf got k).getD [])).2) else judgeOver want got ks
/-- The keys of two lists that rise, in order, once each. -/
def mergeK : List Ln → List Ln → List ByteArray
  | [], gs => gs.map Ln.key
  | w :: ws, [] => (w :: ws).map Ln.key
  | w :: ws, g :: gs => if klt g.key w.key = true then g.key :: mergeK (w :: ws) gs else if g.key = w.key then w.key :: mergeK ws gs else w.key :: mergeK ws (g :: gs)
termination_by ws gs => ws.length + gs.length

theorem mergeK_mem : ∀ (ws gs : List Ln) (k : ByteArray), k ∈ mergeK ws gs ↔ k ∈ ws.map Ln.key ∨ k ∈ gs.map Ln.key := by
  intro ws gs
  fun_induction mergeK ws gs with
  | case1 gs => intro k; simp
  | case2 w ws => intro k; simp
  | case3 w ws g gs h ih => intro k; rw [List.mem_cons, ih]; simp only [List.map_cons, List.mem_cons]; grind
  | case4 w ws g gs h e ih => intro k; rw [List.mem_cons, ih]; simp only [List.map_cons, List.mem_cons, e]; grind
  | case5 w ws g gs h e ih => intro k; rw [List.mem_cons, ih]; simp only [List.map_cons, List.mem_cons]; grind
theorem rise_keys {l : List Ln} (h : l.Pairwise fun a b => klt a.key b.key = true) : riseK (l.map Ln.key) := List.pairwise_map.2 h
theorem mergeK_rise : ∀ (ws gs : List Ln), (ws.Pairwise fun a b => klt a.key b.key = true) → (gs.Pairwise fun a b => klt a.key b.key = true) → riseK (mergeK ws gs) := by
  intro ws gs
  fun_induction mergeK ws gs with
  | case1 gs => intro _ h; exact rise_keys h
  | case2 w ws => intro h _; exact rise_keys h
  | case3 w ws g gs h ih =>
    intro hw hg
    rw [List.pairwise_cons] at hg
    refine .cons (fun k hk => ?_) (ih hw hg.2)
    rcases (mergeK_mem _ _ k).1 hk with hk | hk
    · obtain ⟨x, hx, rfl⟩ := List.mem_map.1 hk
      rcases List.mem_cons.1 hx with rfl | hx
      · exact h
      · exact klt_trans h ((List.pairwise_cons.1 hw).1 x hx)
    · obtain ⟨x, hx, rfl⟩ := List.mem_map.1 hk
      exact hg.1 x hx
  | case4 w ws g gs h e ih =>
    intro hw hg
    rw [List.pairwise_cons] at hg hw
    refine .cons (fun k hk => ?_) (ih hw.2 hg.2)
    rcases (mergeK_mem _ _ k).1 hk with hk | hk
    · obtain ⟨x, hx, rfl⟩ := List.mem_map.1 hk
      exact hw.1 x hx
    · obtain ⟨x, hx, rfl⟩ := List.mem_map.1 hk
      rw [← e]
      exact hg.1 x hx
  | case5 w ws g gs h e ih =>
    intro hw hg
    rw [List.pairwise_cons] at hw
    refine .cons (fun k hk => ?_) (ih hw.2 hg)
    have hwg : klt w.key g.key = true := by
      rcases klt_tri w.key g.key with t | t | t
      · exact t
      · exact absurd t.symm e
      · exact absurd t h
    rcases (mergeK_mem _ _ k).1 hk with hk | hk
    · obtain ⟨x, hx, rfl⟩ := List.mem_map.1 hk
      exact hw.1 x hx
    · obtain ⟨x, hx, rfl⟩ := List.mem_map.1 hk
      rcases List.mem_cons.1 hx with rfl | hx
      · exact hwg
      · exact klt_trans hwg ((List.pairwise_cons.1 hg).1 x hx)
/-- Two lists that rise and have the same keys are one. -/
theorem rise_unique : ∀ {a b : List ByteArray}, riseK a → riseK b → (∀ k, k ∈ a ↔ k ∈ b) → a = b := by
  intro a
  induction a with
  | nil =>
    intro b _ _ h
    cases b with
    | nil => rfl
    | cons y ys => exact absurd ((h y).2 List.mem_cons_self) List.not_mem_nil
  | cons x xs ih =>
    intro b ha hb h
    cases b with
    | nil => exact absurd ((h x).1 List.mem_cons_self) List.not_mem_nil
    | cons y ys =>
      rw [riseK, List.pairwise_cons] at ha hb
      have e : x = y := by
        rcases List.mem_cons.1 ((h x).1 List.mem_cons_self) with e | e
        · exact e
        · rcases List.mem_cons.1 ((h y).2 List.mem_cons_self) with e2 | e2
          · exact e2.symm
          · have := klt_asymm (ha.1 y e2); rw [hb.1 x e] at this; cases this
      subst e
      congr 1
      refine ih ha.2 hb.2 fun k => ⟨fun hk => ?_, fun hk => ?_⟩
      · rcases List.mem_cons.1 ((h k).1 (List.mem_cons_of_mem _ hk)) with e | e
        · subst e; exact absurd rfl (klt_ne (ha.1 _ hk))
        · exact e
      · rcases List.mem_cons.1 ((h k).2 (List.mem_cons_of_mem _ hk)) with e | e
        · subst e; exact absurd rfl (klt_ne (hb.1 _ hk))
        · exact e
def judge (want got : List Ln) : Nat × ByteArray × Nat := judgeOver want got (mergeK want got)
end Go.Proofs.YtmeemcafjebanaaGreatDoor

/- Sorted, then compacted: rising, with the same members; as plain data. No program in sight. -/
namespace Go.Proofs.YtmeemcafjebanaaGreatDoor
open Go.RowKit

section
variable {α : Type} [Inhabited α] [DecidableEq α]
theorem cu_mem {d : Array α} {x : α} : ∀ {m : Nat}, x ∈ Lib.compactUpTo d m ↔ ∃ j, j < m ∧ d[j]! = x := by
  intro m
  induction m with
  | zero => simp [Lib.compactUpTo]
  | succ m ih =>
    rw [Lib.compactUpTo_succ, List.mem_append, ih]
    constructor
    · rintro (⟨j, hj, e⟩ | h)
      · exact ⟨j, by omega, e⟩
      · split at h
        · exact ⟨m, by omega, (List.mem_singleton.1 h).symm⟩
        · cases h
    · rintro ⟨j, hj, e⟩
      by_cases hjm : j < m
      · exact .inl ⟨j, hjm, e⟩
      · obtain rfl : j = m := by omega
        rcases hk : Lib.keeps d j with _ | _
        · have : ¬ (j = 0 ∨ d[j]! ≠ d[j - 1]!) := by simpa [Lib.keeps] using hk
          have h0 : j ≠ 0 := fun h => this (.inl h)
          refine .inl ⟨j - 1, by omega, ?_⟩
          rw [← e]
          exact (Decidable.not_not.1 fun h => this (.inr h)).symm
        · right
          simp [e]
theorem cu_rise {d : Array α} {lt : α → α → Prop} (ht : ∀ a b c, lt a b → lt b c → lt a c) (hs : ∀ i j, i < j → j < d.size → d[i]! = d[j]! ∨ lt d[i]! d[j]!) : ∀ {m : Nat}, m ≤ d.size → (Lib.compactUpTo d m).Pairwise lt := by
  intro m
  induction m with
  | zero => intro _; simp [Lib.compactUpTo]
  | succ m ih =>
    intro hm
    rw [Lib.compactUpTo_succ, List.pairwise_append]
    refine ⟨ih (by omega), by split <;> simp, fun a ha b hb => ?_⟩
    split at hb
    · rename_i hk
      obtain rfl : b = d[m]! := by simpa using hb
      obtain ⟨j, hj, rfl⟩ := cu_mem.1 ha
      have hk2 : m = 0 ∨ d[m]! ≠ d[m - 1]! := by simpa [Lib.keeps] using hk
      rcases hk2 with h0 | hne
      · omega
      · have h1 : lt d[m - 1]! d[m]! := by
          rcases hs (m - 1) m (by omega) (by omega) with e | h
          · exact absurd e.symm hne
          · exact h
        by_cases hj2 : j = m - 1
        · rw [hj2]; exact h1
        · rcases hs j (m - 1) (by omega) (by omega) with e | h
          · rw [e]; exact h1
          · exact ht _ _ _ h h1
    · cases hb
theorem compact_mem {l : List α} {x : α} : x ∈ Lib.compact l ↔ x ∈ l := by
  rw [Lib.compact, cu_mem]
  constructor
  · rintro ⟨j, hj, rfl⟩
    rw [getElem!_pos _ _ (by simpa using hj)]
    simp
  · intro hx
    obtain ⟨j, hj⟩ := List.mem_iff_getElem?.1 hx
    have hlt := (List.getElem?_eq_some_iff.1 hj).1
    exact ⟨j, hlt, by rw [getElem!_pos _ _ (by simpa using hlt)]; simpa [List.getElem?_eq_getElem hlt] using hj⟩
theorem compact_rise {l : List α} {lt : α → α → Prop} (ht : ∀ a b c, lt a b → lt b c → lt a c) (hs : l.Pairwise fun a b => a = b ∨ lt a b) : (Lib.compact l).Pairwise lt := by
  refine cu_rise ht (fun i j hij hj => ?_) (by simp)
  have hj' : j < l.length := by simpa using hj
  rw [getElem!_pos _ _ (by simp; omega), getElem!_pos _ _ (by simpa using hj)]
  simpa using List.pairwise_iff_getElem.1 hs i j (by omega) hj' hij
end
/-- A key as its bytes, and back. -/
def kb (k : ByteArray) : List UInt8 := k.data.toList
def bk (l : List UInt8) : ByteArray := ⟨l.toArray⟩
theorem bk_kb (k : ByteArray) : bk (kb k) = k := by simp [bk, kb]
theorem kb_bk (l : List UInt8) : kb (bk l) = l := by simp [bk, kb]
theorem klt_kb {a b : ByteArray} : klt a b = true ↔ kb a < kb b := by rw [klt_iff, ByteArray.toList_eq, ByteArray.toList_eq]; rfl
/-- The keys of lines, sorted and compacted. -/
def allKeys (ks : List ByteArray) : List (List UInt8) := Lib.compact ((ks.map kb).mergeSort fun x y => decide (x ≤ y))
theorem allKeys_rise (ks : List ByteArray) : riseK ((allKeys ks).map bk) := by
  rw [riseK, List.pairwise_map]
  refine List.Pairwise.imp (R := fun a b => a < b) (fun {a b} h => by rw [klt_kb, kb_bk, kb_bk]; exact h) ?_
  refine compact_rise (fun a b c h k => bl_trans h k) ?_
  refine List.Pairwise.imp (fun {a b} h => ?_) (List.pairwise_mergeSort (le := fun x y => decide (x ≤ y)) (fun a b c h1 h2 => ?_) (fun a b => ?_) _)
  · rcases bl_tri a b with t | t | t
    · exact .inr t
    · exact .inl t
    · have : a ≤ b := by simpa using h
      exact absurd t (List.not_lt.2 this)
  · simp only [decide_eq_true_eq] at *
    exact List.le_trans h1 h2
  · simp only [Bool.or_eq_true, decide_eq_true_eq]
    exact List.le_total a b
theorem allKeys_mem {ks : List ByteArray} {k : ByteArray} : k ∈ (allKeys ks).map bk ↔ k ∈ ks := by
  rw [List.mem_map]
  constructor
  · rintro ⟨x, hx, rfl⟩
    rw [allKeys, compact_mem, List.mem_mergeSort, List.mem_map] at hx
    obtain ⟨y, hy, rfl⟩ := hx
    rw [bk_kb]; exact hy
  · intro h
    refine ⟨kb k, ?_, bk_kb k⟩
    rw [allKeys, compact_mem, List.mem_mergeSort]
    exact List.mem_map_of_mem h
theorem allKeys_merge {want got : List Ln} (hw : LnsOk want) (hg : LnsOk got) : (allKeys ((want ++ got).map Ln.key)).map bk = mergeK want got := by
  refine rise_unique (allKeys_rise _) (mergeK_rise want got hw.pw hg.pw) fun k => ?_
  rw [allKeys_mem, mergeK_mem, List.map_append, List.mem_append]
theorem allKeys_len (ks : List ByteArray) : (allKeys ks).length ≤ ks.length := by
  have h : ∀ (d : Array (List UInt8)) (m : Nat), (Lib.compactUpTo d m).length ≤ m := fun d m => by
    rw [Lib.compactUpTo, List.length_map]
    exact Nat.le_trans (List.length_filter_le _ _) (by simp)
  have := h ((ks.map kb).mergeSort fun x y => decide (x ≤ y)).toArray ((ks.map kb).mergeSort fun x y => decide (x ≤ y)).length
  rw [List.length_mergeSort, List.length_map] at this
  rw [allKeys, Lib.compact, List.length_mergeSort, List.length_map]
  exact this
end Go.Proofs.YtmeemcafjebanaaGreatDoor
