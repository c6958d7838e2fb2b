/- Lines and their beginnings: what weirlaw4.AuditPrefix says, as plain data. No program in sight. -/
import Derived.Test.YtelailhghhjleaaPlainMerge
import Derived.Test.YtelailhghhjleaaPlainFinds
namespace Go.Proofs.Ytelailhghhjleaa
open Go.RowKit

def comb : Option (List Int) → Option (List Int) → Option (List Int)
  | none, y => y
  | some x, none => some x
  | some x, some y => some (x ++ y)
theorem fold_nums : ∀ (ys o : List Ln), riseL ys → riseL o → ∀ k, numsOf (ys.foldl (fun o x => lnAdd x.key x.nums o) o) k = comb (numsOf o k) (numsOf ys k) := by
  intro ys
  induction ys with
  | nil => intro o _ _ k; rw [List.foldl_nil]; cases h : numsOf o k <;> simp [comb, numsOf]
  | cons y ys ih =>
    intro o hy ho k
    rw [riseL, List.pairwise_cons] at hy
    rw [List.foldl_cons, ih _ hy.2 (lnAdd_rise ho), lnAdd_nums ho, numsOf_cons]
    by_cases h : k = y.key
    · have hno : numsOf ys k = none := numsOf_none.2 fun z hz e => klt_ne (hy.1 z hz) (by rw [e, h])
      rw [if_pos h, if_pos h.symm, hno, h]
      cases h2 : numsOf o y.key <;> simp [comb]
    · rw [if_neg h, if_neg (fun e => h e.symm)]
theorem merge_nums2 {a b : List Ln} (ha : riseL a) (hb : riseL b) (k : ByteArray) : numsOf (mergeL (a ++ b)) k = comb (numsOf a k) (numsOf b k) := by
  rw [mergeL, List.foldl_append, fold_nums b _ hb (fold_rise a [] .nil), fold_nums a [] ha .nil]
  congr 1
theorem numsOf_key {l : List Ln} {k : ByteArray} : numsOf l k ≠ none ↔ k ∈ l.map Ln.key := by
  rw [Ne, numsOf_none, List.mem_map]
  constructor
  · intro h
    apply Classical.byContradiction
    intro hn
    exact h fun x hx e => hn ⟨x, hx, e⟩
  · rintro ⟨x, hx, rfl⟩ h
    exact h x hx rfl
theorem rise_ext {a b : List Ln} (ha : riseL a) (hb : riseL b) (h : ∀ k, numsOf a k = numsOf b k) : a = b := by
  have hk : a.map Ln.key = b.map Ln.key := rise_unique (rise_keys ha) (rise_keys hb) fun k => by rw [← numsOf_key, ← numsOf_key, h]
  have hl : a.length = b.length := by have := congrArg List.length hk; simpa using this
  refine List.ext_getElem hl fun i h1 h2 => ?_
  have e1 : a[i].key = b[i].key := by
    have := congrArg (fun l => l[i]?) hk
    simpa [h1, h2] using this
  have n1 := numsOf_mem ha (List.getElem_mem h1)
  have n2 := numsOf_mem hb (List.getElem_mem h2)
  rw [e1, h, n2] at n1
  injection n1 with n1
  have : ∀ x y : Ln, x.key = y.key → y.nums = x.nums → x = y := by
    intro x y hx hy; cases x; cases y; simp at hx hy; rw [hx, hy]
  exact this _ _ e1 n1

/-! ### A cut -/
def cutK (cut : Int) (n : Nat) : Nat := min cut.toNat n
def cutA1 (cut : Int) (x : Ln) : Option Ln := if 0 < cutK cut x.nums.length then some ⟨x.key, x.nums.take (cutK cut x.nums.length)⟩ else none
def cutB1 (cut : Int) (x : Ln) : Option Ln := if cutK cut x.nums.length < x.nums.length then some ⟨x.key, x.nums.drop (cutK cut x.nums.length)⟩ else none
def cutA (cut : Int) (l : List Ln) : List Ln := l.filterMap (cutA1 cut)
def cutB (cut : Int) (l : List Ln) : List Ln := l.filterMap (cutB1 cut)
def lessN (cut : Int) (l : List Ln) : Nat := (l.map fun x => x.nums.length - cutK cut x.nums.length).sum
theorem cutK_le (cut : Int) (n : Nat) : cutK cut n ≤ n := Nat.min_le_right _ _
theorem cutA1_key {cut : Int} {x y : Ln} (h : cutA1 cut x = some y) : y.key = x.key ∧ y.nums = x.nums.take (cutK cut x.nums.length) ∧ 0 < cutK cut x.nums.length := by
  rw [cutA1] at h
  split at h
  · rename_i h0; injection h with h; exact ⟨by rw [← h], by rw [← h], h0⟩
  · cases h
theorem cutB1_key {cut : Int} {x y : Ln} (h : cutB1 cut x = some y) : y.key = x.key ∧ y.nums = x.nums.drop (cutK cut x.nums.length) ∧ cutK cut x.nums.length < x.nums.length := by
  rw [cutB1] at h
  split at h
  · rename_i h0; injection h with h; exact ⟨by rw [← h], by rw [← h], h0⟩
  · cases h
theorem filt_rise {f : Ln → Option Ln} (hf : ∀ x y, f x = some y → y.key = x.key) {l : List Ln} (h : riseL l) : riseL (l.filterMap f) := by
  refine List.Pairwise.filterMap f (fun a b hab x hx y hy => ?_) h
  rw [hf a x hx, hf b y hy]
  exact hab
theorem filt_nums {f : Ln → Option Ln} (hf : ∀ x y, f x = some y → y.key = x.key) : ∀ {l : List Ln}, riseL l → ∀ x ∈ l, numsOf (l.filterMap f) x.key = (f x).map Ln.nums := by
  intro l
  induction l with
  | nil => intro _ x hx; cases hx
  | cons z zs ih =>
    intro h x hx
    rw [riseL, List.pairwise_cons] at h
    rcases List.mem_cons.1 hx with rfl | hx
    · rw [List.filterMap_cons]
      have hno : numsOf (zs.filterMap f) x.key = none := numsOf_none.2 fun y hy e => by
        obtain ⟨q, hq, hfq⟩ := List.mem_filterMap.1 hy
        exact klt_ne (h.1 q hq) (by rw [← hf q y hfq, e])
      cases hfx : f x with
      | none => simpa using hno
      | some y => simp [numsOf_cons, hf x y hfx]
    · have hne : z.key ≠ x.key := klt_ne (h.1 x hx)
      rw [List.filterMap_cons]
      cases hfz : f z with
      | none => simpa using ih h.2 x hx
      | some y => simp only [numsOf_cons, hf z y hfz, if_neg hne]; exact ih h.2 x hx
theorem filt_none {f : Ln → Option Ln} (hf : ∀ x y, f x = some y → y.key = x.key) {l : List Ln} {k : ByteArray} (h : ∀ x ∈ l, x.key ≠ k) : numsOf (l.filterMap f) k = none := numsOf_none.2 fun y hy e => by
  obtain ⟨q, hq, hfq⟩ := List.mem_filterMap.1 hy
  exact h q hq (by rw [← hf q y hfq, e])
theorem cutA_ok {l : List Ln} (h : LnsOk l) (cut : Int) : LnsOk (cutA cut l) where
  len := Nat.le_trans (List.length_filterMap_le _ _) h.len
  pw := filt_rise (fun _ _ e => (cutA1_key e).1) h.pw
  some_ := fun y hy => by
    obtain ⟨x, hx, e⟩ := List.mem_filterMap.1 hy
    obtain ⟨_, e2, e3⟩ := cutA1_key e
    have := cutK_le cut x.nums.length
    rw [e2, List.length_take]; omega
  few := fun y hy => by
    obtain ⟨x, hx, e⟩ := List.mem_filterMap.1 hy
    obtain ⟨_, e2, e3⟩ := cutA1_key e
    have := h.few x hx
    rw [e2, List.length_take]; omega
theorem cutB_ok {l : List Ln} (h : LnsOk l) (cut : Int) : LnsOk (cutB cut l) where
  len := Nat.le_trans (List.length_filterMap_le _ _) h.len
  pw := filt_rise (fun _ _ e => (cutB1_key e).1) h.pw
  some_ := fun y hy => by
    obtain ⟨x, hx, e⟩ := List.mem_filterMap.1 hy
    obtain ⟨_, e2, e3⟩ := cutB1_key e
    rw [e2, List.length_drop]; omega
  few := fun y hy => by
    obtain ⟨x, hx, e⟩ := List.mem_filterMap.1 hy
    obtain ⟨_, e2, e3⟩ := cutB1_key e
    have := h.few x hx
    rw [e2, List.length_drop]; omega
theorem cutA_nums {l : List Ln} (h : LnsOk l) (cut : Int) {x : Ln} (hx : x ∈ l) : (numsOf (cutA cut l) x.key).getD [] = x.nums.take (cutK cut x.nums.length) := by
  rw [cutA, filt_nums (fun _ _ e => (cutA1_key e).1) h.pw x hx, cutA1]
  split
  · rfl
  · rename_i h0
    have : cutK cut x.nums.length = 0 := by omega
    rw [this]; rfl
theorem cut_merge {l : List Ln} (h : LnsOk l) (cut : Int) : mergeL (cutA cut l ++ cutB cut l) = l := by
  refine rise_ext (merge_rise _) h.pw fun k => ?_
  rw [merge_nums2 (cutA_ok h cut).pw (cutB_ok h cut).pw]
  by_cases hk : ∃ x ∈ l, x.key = k
  · obtain ⟨x, hx, rfl⟩ := hk
    rw [numsOf_mem h.pw hx, cutA, cutB, filt_nums (fun _ _ e => (cutA1_key e).1) h.pw x hx, filt_nums (fun _ _ e => (cutB1_key e).1) h.pw x hx, cutA1, cutB1]
    have h0 := h.some_ x hx
    have h1 := cutK_le cut x.nums.length
    by_cases c1 : 0 < cutK cut x.nums.length
    · by_cases c2 : cutK cut x.nums.length < x.nums.length
      · rw [if_pos c1, if_pos c2]; simp [comb]
      · rw [if_pos c1, if_neg c2]
        have : x.nums.take (cutK cut x.nums.length) = x.nums := List.take_of_length_le (by omega)
        simp [comb, this]
    · have c2 : cutK cut x.nums.length = 0 := by omega
      rw [if_neg c1, c2, if_pos h0]; simp [comb]
  · have hno : ∀ x ∈ l, x.key ≠ k := fun x hx e => hk ⟨x, hx, e⟩
    rw [cutA, cutB, filt_none (fun _ _ e => (cutA1_key e).1) hno, filt_none (fun _ _ e => (cutB1_key e).1) hno, numsOf_none.2 hno]; rfl
theorem cut_pref {l : List Ln} (h : LnsOk l) (cut : Int) : prefB (cutA cut l) l = true := by
  rw [prefB, List.all_eq_true]
  intro y hy
  obtain ⟨x, hx, e⟩ := List.mem_filterMap.1 hy
  obtain ⟨e1, e2, _⟩ := cutA1_key e
  have := cutK_le cut x.nums.length
  rw [e1, numsOf_mem h.pw hx, e2]
  simp [List.length_take, Nat.min_eq_left this]
  exact this
theorem cut_sum (cut : Int) : ∀ (l : List Ln), sumL l = sumL (cutA cut l) + lessN cut l := by
  intro l
  induction l with
  | nil => rfl
  | cons x xs ih =>
    have h1 := cutK_le cut x.nums.length
    have e : sumL (cutA cut (x :: xs)) = cutK cut x.nums.length + sumL (cutA cut xs) := by
      rw [cutA, List.filterMap_cons, cutA1]
      split
      · rename_i h; split at h
        · cases h
        · rw [cutA]; omega
      · rename_i y h; split at h
        · injection h with h
          subst h
          simp [sumL, cutA, Nat.min_eq_left h1]
        · cases h
    have e2 : lessN cut (x :: xs) = (x.nums.length - cutK cut x.nums.length) + lessN cut xs := rfl
    have e3 : sumL (x :: xs) = x.nums.length + sumL xs := rfl
    omega
theorem line_take {w : List Int} {k : Nat} (h : k < w.length) : lineJ w (w.take k) = (1, k) := by
  have hl : (w.take k).length = k := by rw [List.length_take]; omega
  have e : lcp w (w.take k) = k := lcp_is (fun i hi => by rw [List.getElem?_take_of_lt hi]) (by omega) (by omega) fun _ h2 => by omega
  rw [lineJ, e, if_neg (by omega), if_neg (by omega), if_pos h]
theorem cut_judge {l : List Ln} (h : LnsOk l) (cut : Int) : (judge l (cutA cut l)).1 = if 0 < lessN cut l then 1 else 0 := by
  rw [judge_within h (cutA_ok h cut) fun g hg => by
    obtain ⟨x, hx, e⟩ := List.mem_filterMap.1 hg
    exact ⟨x, hx, (cutA1_key e).1.symm⟩]
  have : ∀ s : List Ln, (∀ x ∈ s, x ∈ l) → (judgeOver l (cutA cut l) (s.map Ln.key)).1 = if 0 < lessN cut s then 1 else 0 := by
    intro s
    induction s with
    | nil => intro _; rfl
    | cons x xs ih =>
      intro hs
      have hx := hs x List.mem_cons_self
      have h1 := cutK_le cut x.nums.length
      have e2 : lessN cut (x :: xs) = (x.nums.length - cutK cut x.nums.length) + lessN cut xs := rfl
      rw [List.map_cons, judgeOver, numsOf_mem h.pw hx]
      simp only
      rw [cutA_nums h cut hx]
      by_cases c : cutK cut x.nums.length < x.nums.length
      · rw [line_take c, if_pos (fun h => by cases h), if_pos (by omega)]
      · rw [List.take_of_length_le (by omega), line_same, if_neg (by decide), ih (fun y hy => hs y (List.mem_cons_of_mem _ hy)), e2]
        have : x.nums.length - cutK cut x.nums.length = 0 := by omega
        rw [this, Nat.zero_add]
  exact this l fun _ hx => hx
theorem lnAdd_next {l : List Ln} {i : Nat} {x : Ln} {f : Ln → Option Ln} (h : l[i]? = some x) : (l.take (i + 1)).filterMap f = (l.take i).filterMap f ++ (f x).toList := by
  rw [List.take_add_one, h, List.filterMap_append]
  simp [List.filterMap_cons]
  cases f x <;> rfl
theorem lessN_next {cut : Int} {l : List Ln} {i : Nat} {x : Ln} (h : l[i]? = some x) : lessN cut (l.take (i + 1)) = lessN cut (l.take i) + (x.nums.length - cutK cut x.nums.length) := by
  rw [List.take_add_one, h]; simp [lessN]
def factP : List Ln := [⟨⟨#[97]⟩, [1, 2]⟩]
theorem factP_ok : linesE factP = 0 := by rw [linesE]; decide
end Go.Proofs.Ytelailhghhjleaa
