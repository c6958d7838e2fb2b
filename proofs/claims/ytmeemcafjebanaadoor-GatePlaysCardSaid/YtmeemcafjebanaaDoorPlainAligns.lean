/- Nothing overtakes a barrier: what the gate's plain form does with inputs that each get some records, a barrier, and some more. No program in sight. -/
import Derived.Test.YtmeemcafjebanaaDoorPlainGate
namespace Go.Proofs.YtmeemcafjebanaaDoor
open Go.RowKit

def recI (k : Nat) : Itm := ⟨⟨#[]⟩, k, 0, 0⟩
def recs (lo m : Nat) : List Itm := (List.range' lo m).map recI
def part (a k : Nat) : List Itm := if k ≤ a then recs 0 k else recs 0 a ++ barItm 3 :: recs a (k - a)
def full (a b : Nat) : List Itm := recs 0 a ++ barItm 3 :: recs a b
theorem recs_len (lo m : Nat) : (recs lo m).length = m := by simp [recs]
theorem recs_snoc (lo m : Nat) : recs lo m ++ [recI (lo + m)] = recs lo (m + 1) := by simp [recs, List.range'_concat]
theorem recs_cons {lo m : Nat} (h : 0 < m) : recs lo m = recI lo :: recs (lo + 1) (m - 1) := by
  obtain ⟨m, rfl⟩ : ∃ q, m = q + 1 := ⟨m - 1, by omega⟩
  simp [recs, List.range'_succ]
theorem part_zero (a : Nat) : part a 0 = [] := by simp [part, recs]
theorem part_len (a k : Nat) : (part a k).length ≤ k + 1 := by
  unfold part; split
  · rw [recs_len]; omega
  · simp [recs_len]; omega
theorem part_step {a k : Nat} (h : k ≠ a) : part a k ++ [recI k] = part a (k + 1) := by
  unfold part
  by_cases h1 : k < a
  · rw [if_pos (by omega), if_pos (by omega)]
    have := recs_snoc 0 k
    rwa [Nat.zero_add] at this
  · rw [if_neg (by omega), if_neg (by omega)]
    have := recs_snoc a (k - a)
    rw [show a + (k - a) = k from by omega] at this
    rw [show k + 1 - a = k - a + 1 from by omega, ← this]
    simp
theorem part_bar (a : Nat) : part a a ++ [barItm 3] ++ [recI a] = part a (a + 1) := by
  unfold part
  rw [if_pos (by omega), if_neg (by omega), show a + 1 - a = 1 from by omega]
  simp [recs]
theorem part_full {a b : Nat} (h : 0 < b) : part a (a + b) = full a b := by
  unfold part full
  rw [if_neg (by omega), show a + b - a = b from by omega]
theorem part_full0 (a : Nat) : part a a ++ [barItm 3] = full a 0 := by
  unfold part full
  rw [if_pos (by omega)]; simp [recs]
theorem full_len (a b : Nat) : (full a b).length = a + b + 1 := by simp [full, recs_len]; omega

/-- While inputs are filled: those ahead of i are full, i has l, its greatest barrier is z. -/
structure Fill (a b : Nat → Nat) (n : Nat) (s : Gat) (i : Nat) (l : List Itm) (z : Int) : Prop where
  ok : s.Ok
  n_ : s.n = n
  done : ∀ j, j < i → j < n → s.at_ j = full (a j) (b j)
  here : i < n → s.at_ i = l
  rest : ∀ j, i < j → j < n → s.at_ j = []
  last : i < n → s.last.getD i 0 = z
  lasts : ∀ j, i < j → j < n → s.last.getD j 0 = 0

section
variable {a b : Nat → Nat} {n : Nat} {s : Gat} {i : Nat} {l : List Itm} {z : Int}
theorem Fill.may (h : Fill a b n s i l z) (hi : i < n) (hl : l.length < 400) : mayE s i = 0 := by
  have h1 := h.here hi
  have h2 := h.n_
  rw [mayE, if_neg (by omega), if_neg (by rw [Int.toNat_natCast, h1]; omega)]
theorem Fill.push (h : Fill a b n s i l z) (hi : i < n) (hl : l.length < 400) (x : Itm) : Fill a b n (pushG s i x) i (l ++ [x]) z := by
  have hm := h.may hi hl
  have hn := h.n_
  have his : i < s.n := by omega
  have e : pushG s i x = s.put i (l ++ [x]) := by rw [pushG, if_pos hm, Int.toNat_natCast, h.here hi]
  rw [e]
  exact ⟨h.ok.put i (by simp; omega), by rw [put_n]; exact hn, fun j h1 h2 => by rw [at_put his, if_neg (by omega)]; exact h.done j h1 h2, fun _ => by rw [at_put his, if_pos rfl], fun j h1 h2 => by rw [at_put his, if_neg (by omega)]; exact h.rest j h1 h2, h.last, h.lasts⟩
theorem Fill.barE_ (h : Fill a b n s i l z) (hi : i < n) (hl : l.length < 400) {id : Int} (h1 : 1 ≤ id) (hz : z < id) : barE s i id = 0 := by
  have hm := h.may hi hl
  have := h.last hi
  rw [barE, if_neg (by omega), if_neg (by simp [hm]), if_neg (by rw [Int.toNat_natCast, this]; omega)]
theorem Fill.bar (h : Fill a b n s i l z) (hi : i < n) (hl : l.length < 400) {id : Int} (h1 : 1 ≤ id) (hz : z < id) : Fill a b n (barG s i id) i (l ++ [barItm id]) id := by
  have hm := h.barE_ hi hl h1 hz
  have hn := h.n_
  have his : i < s.n := by omega
  have hll : i < s.last.length := by rw [h.ok.last]; exact his
  have e : barG s i id = { s.put i (l ++ [barItm id]) with last := s.last.set i id } := by rw [barG, if_pos hm, Int.toNat_natCast, h.here hi]
  rw [e]
  have ho := h.ok.put i (l := l ++ [barItm id]) (by simp; omega)
  have hat : ∀ j, Gat.at_ { s.put i (l ++ [barItm id]) with last := s.last.set i id } j = (s.put i (l ++ [barItm id])).at_ j := fun _ => rfl
  refine ⟨⟨ho.pos, ho.most, (List.length_set ..).trans ho.last, ho.next, ho.full⟩, by have := put_n s i (l ++ [barItm id]); exact this.trans hn, fun j h1 h2 => by rw [hat, at_put his, if_neg (by omega)]; exact h.done j h1 h2, fun _ => by rw [hat, at_put his, if_pos rfl], fun j h1 h2 => by rw [hat, at_put his, if_neg (by omega)]; exact h.rest j h1 h2, fun _ => ?_, fun j h1 h2 => ?_⟩
  · simp [hll]
  · have := h.lasts j h1 h2
    refine Eq.trans ?_ this
    show (s.last.set i id).getD j 0 = _
    simp only [List.getD_eq_getElem?_getD]
    rw [List.getElem?_set_ne (by omega)]
theorem Fill.next (h : Fill a b n s i (full (a i) (b i)) z) : Fill a b n s (i + 1) [] 0 :=
  ⟨h.ok, h.n_, fun j h1 h2 => by
    by_cases hj : j = i
    · subst hj; exact h.here h2
    · exact h.done j (by omega) h2, fun h1 => h.rest _ (by omega) h1, fun j h1 h2 => h.rest j (by omega) h2, fun h1 => h.lasts _ (by omega) h1, fun j h1 h2 => h.lasts j (by omega) h2⟩
theorem getD_rep {α : Type} (n j : Nat) (x : α) : (List.replicate n x).getD j x = x := by
  rw [List.getD_eq_getElem?_getD, List.getElem?_replicate]; split <;> rfl
theorem newG_at (n j : Nat) : (newG n).at_ j = [] := getD_rep n j []
theorem newG_ok {n : Nat} (h : 0 < n) (h1 : n ≤ 64) : (newG n).Ok :=
  ⟨by simpa [newG, Gat.n] using h, by simpa [newG, Gat.n] using h1, by simp [newG, Gat.n], by simpa [newG, Gat.n] using h, fun l hl => by rw [List.eq_of_mem_replicate hl]; simp⟩
theorem Fill.start {n : Nat} (h : 0 < n) (h1 : n ≤ 64) : Fill a b n (newG n) 0 [] 0 :=
  ⟨newG_ok h h1, by simp [newG, Gat.n], fun _ h => by omega, fun _ => newG_at _ _, fun _ _ _ => newG_at _ _, fun _ => getD_rep n _ (0 : Int), fun _ _ _ => getD_rep n _ (0 : Int)⟩
end

/-! ### Who is next -/
theorem nextFrom_some {s : Gat} (hn : 0 < s.n) : ∀ (m k i : Nat), nextFrom s m k = some i → i < s.n ∧ ready (s.at_ i) = true := by
  intro m
  induction m with
  | zero => intro k i h; cases h
  | succ m ih =>
    intro k i h
    rw [nextFrom] at h
    split at h
    · injection h with h; subst h; exact ⟨Nat.mod_lt _ hn, by assumption⟩
    · exact ih _ _ h
theorem nextFrom_none {s : Gat} : ∀ (m k : Nat), nextFrom s m k = none → ∀ j, k ≤ j → j < k + m → ready (s.at_ (s.turn j)) = false := by
  intro m
  induction m with
  | zero => intro k _ j h1 h2; omega
  | succ m ih =>
    intro k h j h1 h2
    rw [nextFrom] at h
    split at h
    · cases h
    · rename_i hr
      by_cases hj : j = k
      · subst hj; simpa using hr
      · exact ih _ h j (by omega) (by omega)
theorem nextI_some {s : Gat} (hs : s.Ok) {i : Nat} (h : nextI s = some i) : i < s.n ∧ ready (s.at_ i) = true := nextFrom_some hs.pos _ _ _ h
theorem nextI_none {s : Gat} (hs : s.Ok) (h : nextI s = none) (i : Nat) (hi : i < s.n) : ready (s.at_ i) = false := by
  have hx := hs.next
  by_cases h1 : s.next ≤ i
  · have := nextFrom_none _ _ h (i - s.next) (by omega) (by omega)
    rwa [Gat.turn, show s.next + (i - s.next) = i from by omega, Nat.mod_eq_of_lt hi] at this
  · have := nextFrom_none _ _ h (s.n + i - s.next) (by omega) (by omega)
    rwa [Gat.turn, show s.next + (s.n + i - s.next) = i + s.n from by omega, Nat.add_mod_right, Nat.mod_eq_of_lt hi] at this

def sumN (f : Nat → Nat) (n : Nat) : Nat := ((List.range n).map f).sum
theorem sumN_succ (f : Nat → Nat) (n : Nat) : sumN f (n + 1) = sumN f n + f n := by simp [sumN, List.range_succ]
theorem sumN_lt {f g : Nat → Nat} : ∀ {n : Nat}, sumN f n < sumN g n → ∃ i, i < n ∧ f i < g i := by
  intro n
  induction n with
  | zero => intro h; simp [sumN] at h
  | succ n ih =>
    intro h
    rw [sumN_succ, sumN_succ] at h
    by_cases hn : f n < g n
    · exact ⟨n, by omega, hn⟩
    · obtain ⟨i, h1, h2⟩ := ih (by omega)
      exact ⟨i, by omega, h2⟩
theorem sumN_le {f g : Nat → Nat} : ∀ {n : Nat}, (∀ i, i < n → f i ≤ g i) → sumN f n ≤ sumN g n := by
  intro n
  induction n with
  | zero => intro _; simp [sumN]
  | succ n ih => intro h; rw [sumN_succ, sumN_succ]; have := ih fun i hi => h i (by omega); have := h n (by omega); omega
theorem sumN_eq {f g : Nat → Nat} : ∀ {n : Nat}, (∀ i, i < n → f i ≤ g i) → sumN g n ≤ sumN f n → ∀ i, i < n → f i = g i := by
  intro n
  induction n with
  | zero => intro _ _ i hi; omega
  | succ n ih =>
    intro h h1 i hi
    rw [sumN_succ, sumN_succ] at h1
    have h2 := sumN_le fun i hi => h i (Nat.lt_succ_of_lt hi)
    have h3 := h n (by omega)
    by_cases hin : i = n
    · subst hin; omega
    · exact ih (fun i hi => h i (by omega)) (by omega) i (by omega)
def upd (t : Nat → Nat) (i : Nat) : Nat → Nat := fun j => if j = i then t i + 1 else t j
theorem sumN_upd_ge (t : Nat → Nat) (i : Nat) : ∀ n, n ≤ i → sumN (upd t i) n = sumN t n := by
  intro n
  induction n with
  | zero => intro _; rfl
  | succ n ih => intro h; rw [sumN_succ, sumN_succ, ih (by omega), upd, if_neg (by omega)]
theorem sumN_upd {t : Nat → Nat} {i n : Nat} (h : i < n) : sumN (upd t i) n = sumN t n + 1 := by
  induction n with
  | zero => omega
  | succ n ih =>
    rw [sumN_succ, sumN_succ]
    by_cases hi : i = n
    · subst hi; rw [sumN_upd_ge t i i (Nat.le_refl _), upd, if_pos rfl]; omega
    · rw [ih (by omega), upd, if_neg (by omega)]; omega

theorem nextG_eq {s : Gat} {i : Nat} (h : nextI s = some i) : nextG s = { takeG s i with next := (i + 1) % s.n } := by rw [nextG, h]
theorem nextG_ok {s : Gat} (hs : s.Ok) {i : Nat} (h : nextI s = some i) : (nextG s).Ok := by
  rw [nextG_eq h]
  have ho := hs.take i
  have hn : (takeG s i).n = s.n := put_n _ _ _
  exact ⟨ho.pos, ho.most, ho.last, by show (i + 1) % s.n < (takeG s i).n; rw [hn]; exact Nat.mod_lt _ hs.pos, ho.full⟩
theorem nextG_n {s : Gat} {i : Nat} (h : nextI s = some i) : (nextG s).n = s.n := by rw [nextG_eq h]; exact put_n _ _ _
theorem nextG_at {s : Gat} {i : Nat} (h : nextI s = some i) (hi : i < s.n) (j : Nat) : (nextG s).at_ j = if j = i then (s.at_ i).tail else s.at_ j := by
  rw [nextG_eq h]; exact at_put hi

/-- All up to the barrier. -/
structure Go1 (a b : Nat → Nat) (n : Nat) (s : Gat) (t : Nat → Nat) : Prop where
  ok : s.Ok
  n_ : s.n = n
  le : ∀ j, j < n → t j ≤ a j
  at_ : ∀ j, j < n → s.at_ j = recs (t j) (a j - t j) ++ barItm 3 :: recs (a j) (b j)
/-- All behind the barrier. -/
structure Go2 (a b : Nat → Nat) (n : Nat) (s : Gat) (t : Nat → Nat) : Prop where
  ok : s.Ok
  n_ : s.n = n
  le : ∀ j, j < n → t j ≤ a j + b j
  at_ : ∀ j, j < n → s.at_ j = recs (t j) (a j + b j - t j)

section
variable {a b : Nat → Nat} {n : Nat} {s : Gat} {t : Nat → Nat}
theorem ready_recs {lo m : Nat} {r : List Itm} (h : 0 < m) : ready (recs lo m ++ r) = true ∧ barred (recs lo m ++ r) = false ∧ headI (recs lo m ++ r) = recI lo ∧ (recs lo m ++ r).tail = recs (lo + 1) (m - 1) ++ r := by
  rw [recs_cons h]; exact ⟨rfl, rfl, rfl, rfl⟩
theorem ready_bar (lo : Nat) (r : List Itm) : ready (recs lo 0 ++ barItm 3 :: r) = false ∧ barred (recs lo 0 ++ barItm 3 :: r) = true ∧ headI (recs lo 0 ++ barItm 3 :: r) = barItm 3 ∧ (recs lo 0 ++ barItm 3 :: r).tail = r := ⟨rfl, rfl, rfl, rfl⟩
theorem Go1.start (h : Fill a b n s n [] 0) : Go1 a b n s (fun _ => 0) :=
  ⟨h.ok, h.n_, fun _ _ => Nat.zero_le _, fun j hj => h.done j hj hj⟩
theorem mem_waits {s : Gat} {l : List Itm} (h : l ∈ s.waits) : ∃ i, i < s.n ∧ s.at_ i = l := by
  obtain ⟨i, hi⟩ := List.mem_iff_getElem?.1 h
  have hl : i < s.n := (List.getElem?_eq_some_iff.1 hi).1
  exact ⟨i, hl, Option.some.inj ((at_get hl).symm.trans hi)⟩
theorem at_mem {s : Gat} {i : Nat} (h : i < s.n) : s.at_ i ∈ s.waits := List.mem_of_getElem? (at_get h)
theorem Go1.step (h : Go1 a b n s t) (hs : sumN t n < sumN a n) : closedG s = false ∧ ∃ i, i < n ∧ nextI s = some i ∧ t i < a i ∧ headI (s.at_ i) = recI (t i) ∧ Go1 a b n (nextG s) (upd t i) := by
  obtain ⟨j, hj, hlt⟩ := sumN_lt hs
  have hn := h.n_
  have hrj := ready_recs (lo := t j) (r := barItm 3 :: recs (a j) (b j)) (m := a j - t j) (by omega)
  rw [← h.at_ j hj] at hrj
  constructor
  · rw [closedG, List.all_eq_false]
    exact ⟨s.at_ j, at_mem (by omega), by simp [hrj.2.1]⟩
  · rcases hx : nextI s with _ | i
    · have := nextI_none h.ok hx j (by omega)
      rw [hrj.1] at this; cases this
    · obtain ⟨hi, hr⟩ := nextI_some h.ok hx
      have hin : i < n := by omega
      have hle := h.le i hin
      have hti : t i < a i := by
        apply Classical.byContradiction; intro hh
        rw [h.at_ i hin, show a i - t i = 0 from by omega, (ready_bar _ _).1] at hr
        cases hr
      have hri := ready_recs (lo := t i) (r := barItm 3 :: recs (a i) (b i)) (m := a i - t i) (by omega)
      rw [← h.at_ i hin] at hri
      refine ⟨i, hin, rfl, hti, hri.2.2.1, nextG_ok h.ok hx, (nextG_n hx).trans hn, fun k hk => ?_, fun k hk => ?_⟩
      · unfold upd; split
        · subst k; omega
        · exact h.le k hk
      · rw [nextG_at hx hi]
        unfold upd
        by_cases hk' : k = i
        · subst hk'
          rw [if_pos rfl, if_pos rfl, hri.2.2.2]
          rw [show a k - (t k + 1) = a k - t k - 1 from by omega]
        · rw [if_neg hk', if_neg hk']; exact h.at_ k hk
theorem Go1.bar (h : Go1 a b n s t) (hs : sumN a n ≤ sumN t n) (j : Nat) (hj : j < n) : t j = a j ∧ s.at_ j = barItm 3 :: recs (a j) (b j) := by
  have e := sumN_eq h.le hs j hj
  refine ⟨e, ?_⟩
  rw [h.at_ j hj, e, Nat.sub_self]; rfl
theorem leastB_all : ∀ (l : List (List Itm)) (id : Int), id = 0 ∨ id = 3 → (∀ x ∈ l, (headI x).bar = 3) → leastB id l = if l = [] then id else 3 := by
  intro l
  induction l with
  | nil => intro id _ _; rfl
  | cons x l ih =>
    intro id hid h
    have hx := h x (List.mem_cons_self ..)
    rw [leastB, hx, if_neg (List.cons_ne_nil _ _)]
    rw [show (if id = 0 ∨ (3 : Int) < id then (3 : Int) else id) = 3 from by rcases hid with rfl | rfl <;> simp]
    rw [ih 3 (.inr rfl) fun y hy => h y (List.mem_cons_of_mem _ hy)]
    split <;> rfl
theorem Go1.done (h : Go1 a b n s t) (hs : sumN a n ≤ sumN t n) : nextI s = none ∧ closedG s = true ∧ boundId s = 3 ∧ Go2 a b n (boundG s) a := by
  have hb := h.bar hs
  have hn := h.n_
  have hc : closedG s = true := by
    rw [closedG, List.all_eq_true]
    intro l hl
    obtain ⟨i, hi, rfl⟩ := mem_waits hl
    rw [(hb i (by omega)).2]; rfl
  have h3 : ∀ x ∈ s.waits, (headI x).bar = 3 := by
    intro l hl
    obtain ⟨i, hi, rfl⟩ := mem_waits hl
    rw [(hb i (by omega)).2]; rfl
  have hid : boundId s = 3 := by
    rw [boundId, if_pos hc, leastB_all _ _ (.inl rfl) h3, if_neg]
    intro e
    have := h.ok.pos
    rw [Gat.n, e] at this; exact absurd this (by simp)
  refine ⟨?_, hc, hid, ?_⟩
  · rcases hx : nextI s with _ | i
    · rfl
    · obtain ⟨hi, hr⟩ := nextI_some h.ok hx
      rw [(hb i (by omega)).2] at hr; cases hr
  · have e : boundG s = { s with waits := s.waits.map (cutB 3) } := by rw [boundG, if_pos hc, hid]
    rw [e]
    have hat : ∀ j, j < n → Gat.at_ { s with waits := s.waits.map (cutB 3) } j = recs (a j) (b j) := by
      intro j hj
      have : Gat.at_ { s with waits := s.waits.map (cutB 3) } j = cutB 3 (s.at_ j) := by
        show (s.waits.map (cutB 3)).getD j [] = _
        rw [List.getD_eq_getElem?_getD, List.getElem?_map, at_get (by omega)]; rfl
      rw [this, (hb j hj).2]; rfl
    refine ⟨⟨by simpa [Gat.n] using h.ok.pos, by simpa [Gat.n] using h.ok.most, by simpa [Gat.n] using h.ok.last, by simpa [Gat.n] using h.ok.next, fun l hl => ?_⟩, by simpa [Gat.n] using hn, fun j _ => by omega, fun j hj => by rw [hat j hj, show a j + b j - a j = b j from by omega]⟩
    obtain ⟨y, hy, rfl⟩ := List.mem_map.1 hl
    have := h.ok.full y hy
    unfold cutB; split
    · rw [List.length_tail]; omega
    · exact this
theorem Go2.step (h : Go2 a b n s t) {i : Nat} (hx : nextI s = some i) : i < n ∧ t i < a i + b i ∧ headI (s.at_ i) = recI (t i) ∧ Go2 a b n (nextG s) (upd t i) := by
  have hn := h.n_
  obtain ⟨hi, hr⟩ := nextI_some h.ok hx
  have hin : i < n := by omega
  have hti : t i < a i + b i := by
    apply Classical.byContradiction; intro hh
    rw [h.at_ i hin, show a i + b i - t i = 0 from by omega] at hr
    cases hr
  have hri := ready_recs (lo := t i) (r := []) (m := a i + b i - t i) (by omega)
  rw [List.append_nil, List.append_nil, ← h.at_ i hin] at hri
  refine ⟨hin, hti, hri.2.2.1, nextG_ok h.ok hx, (nextG_n hx).trans hn, fun k hk => ?_, fun k hk => ?_⟩
  · unfold upd; split
    · subst k; omega
    · exact h.le k hk
  · rw [nextG_at hx hi]
    unfold upd
    by_cases hk' : k = i
    · subst hk'
      rw [if_pos rfl, if_pos rfl, hri.2.2.2]
      rw [show a k + b k - (t k + 1) = a k + b k - t k - 1 from by omega]
    · rw [if_neg hk', if_neg hk']; exact h.at_ k hk
theorem Go2.done (h : Go2 a b n s t) (hx : nextI s = none) : (∀ j, j < n → t j = a j + b j) ∧ waitingG s = 0 := by
  have hn := h.n_
  have ht : ∀ j, j < n → t j = a j + b j := by
    intro j hj
    have hr := nextI_none h.ok hx j (by omega)
    have hle := h.le j hj
    apply Classical.byContradiction; intro hh
    have hri := ready_recs (lo := t j) (r := []) (m := a j + b j - t j) (by omega)
    rw [List.append_nil, ← h.at_ j hj, hr] at hri
    cases hri.1
  refine ⟨ht, ?_⟩
  rw [waitingG, List.sum_eq_zero_iff_forall_eq_nat]
  intro x hx
  obtain ⟨l, hl, rfl⟩ := List.mem_map.1 hx
  obtain ⟨i, hi, rfl⟩ := mem_waits hl
  rw [h.at_ i (by omega), recs_len, ht i (by omega)]; omega
theorem nextR_some {i : Nat} (h : nextI s = some i) : nextR s = (headI (s.at_ i), i, true) := by rw [nextR, h]
theorem nextR_none (h : nextI s = none) : nextR s = (noItm, 0, false) := by rw [nextR, h]
theorem boundG_open (h : closedG s = false) : boundG s = s ∧ boundId s = 0 := by simp [boundG, boundId, h]
end
end Go.Proofs.YtmeemcafjebanaaDoor
