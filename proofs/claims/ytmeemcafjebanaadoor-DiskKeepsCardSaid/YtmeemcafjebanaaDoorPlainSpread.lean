/- Things spread in turn, as plain data. No program in sight. -/
import Derived.Test.YtmeemcafjebanaaDoorBase
namespace Go.Proofs.YtmeemcafjebanaaDoor
open Go.RowKit

def sv (s : ByteArray) : Value := .string s
def spreadE (n : Nat) (p : Int) : Nat := if p < 1 ∨ 16 < p then 1 else if 400 < n then 4 else 0
def strAt (l : List ByteArray) (k : Nat) : ByteArray := l.getD k ⟨#[]⟩
/-- What worker i of p gets of the first k things. -/
def pick (l : List ByteArray) (p i : Nat) : Nat → List ByteArray
  | 0 => []
  | k + 1 => pick l p i k ++ (if k % p = i then [strAt l k] else [])
/-- Every p-th from i on, t of them. -/
def steps (l : List ByteArray) (p i : Nat) : Nat → List ByteArray
  | 0 => []
  | t + 1 => steps l p i t ++ [strAt l (i + t * p)]
/-- All workers' things after the first k. -/
def rowsAt (l : List ByteArray) (p k : Nat) : List (List ByteArray) := (List.range p).map fun i => pick l p i k
theorem rowsAt_len (l : List ByteArray) (p k : Nat) : (rowsAt l p k).length = p := by simp [rowsAt]
theorem rowsAt_get {l : List ByteArray} {p k i : Nat} (h : i < p) : (rowsAt l p k)[i]? = some (pick l p i k) := by simp [rowsAt, h]
theorem rowsAt_zero (l : List ByteArray) (p : Nat) : rowsAt l p 0 = List.replicate p [] := by
  apply List.ext_getElem?
  intro i
  by_cases h : i < p
  · rw [rowsAt_get h, List.getElem?_replicate, if_pos h]; rfl
  · rw [List.getElem?_eq_none (by rw [rowsAt_len]; omega), List.getElem?_eq_none (by simp; omega)]
/-- The k-th thing goes to worker k % p. -/
theorem rowsAt_succ {l : List ByteArray} {p k : Nat} (hp : 0 < p) : rowsAt l p (k + 1) = (rowsAt l p k).set (k % p) (pick l p (k % p) k ++ [strAt l k]) := by
  have hlt := Nat.mod_lt k hp
  apply List.ext_getElem?
  intro i
  rw [List.getElem?_set]
  by_cases h : i < p
  · rw [rowsAt_get h]
    by_cases hi : k % p = i
    · rw [if_pos hi, if_pos (by rw [rowsAt_len]; omega), pick, if_pos hi, hi]
    · rw [if_neg hi, rowsAt_get h, pick, if_neg hi, List.append_nil]
  · rw [List.getElem?_eq_none (by rw [rowsAt_len]; omega), if_neg (by omega), List.getElem?_eq_none (by rw [rowsAt_len]; omega)]
theorem pick_len (l : List ByteArray) (p i : Nat) : ∀ k, (pick l p i k).length ≤ k := by
  intro k
  induction k with
  | zero => simp [pick]
  | succ k ih => rw [pick, List.length_append]; split <;> simp <;> omega
/-- Where nothing comes. -/
theorem pick_gap {l : List ByteArray} {p i a : Nat} : ∀ d, (∀ k, a ≤ k → k < a + d → k % p ≠ i) → pick l p i (a + d) = pick l p i a := by
  intro d
  induction d with
  | zero => intro _; rfl
  | succ d ih =>
    intro h
    rw [show a + (d + 1) = a + d + 1 from rfl, pick, if_neg (h (a + d) (by omega) (by omega)), List.append_nil]
    exact ih fun k h1 h2 => h k h1 (by omega)
theorem mod_at {p i t : Nat} (hi : i < p) : (i + t * p) % p = i := by rw [Nat.add_mul_mod_self_right, Nat.mod_eq_of_lt hi]
theorem mod_gap {p i t k : Nat} (h1 : i + t * p < k) (h2 : k < i + (t + 1) * p) : k % p ≠ i := by
  intro h
  have hk := Nat.div_add_mod k p
  rw [h] at hk
  have h3 : k = i + (k / p) * p := by rw [Nat.mul_comm] at hk; omega
  rw [h3] at h1 h2
  have h4 : t * p < (k / p) * p := by omega
  have h5 : (k / p) * p < (t + 1) * p := by omega
  have h6 := Nat.lt_of_mul_lt_mul_right h4
  have h7 := Nat.lt_of_mul_lt_mul_right h5
  omega
theorem mod_head {p i k : Nat} (h : k < i) : k % p ≠ i := by
  intro e
  have := Nat.mod_le k p
  omega
/-- The two ways to say it. -/
theorem pick_steps {l : List ByteArray} {p i : Nat} (hi : i < p) : ∀ t, pick l p i (i + t * p) = steps l p i t := by
  intro t
  induction t with
  | zero =>
    have := pick_gap (l := l) (p := p) (i := i) (a := 0) i fun k _ h2 => mod_head (by omega)
    simpa [pick, steps] using this
  | succ t ih =>
    have h1 : pick l p i (i + t * p + 1) = pick l p i (i + t * p) ++ [strAt l (i + t * p)] := by rw [pick, if_pos (mod_at hi)]
    have h2 := pick_gap (l := l) (p := p) (i := i) (a := i + t * p + 1) (p - 1) fun k h1 h2 => mod_gap (t := t) (by omega) (by rw [Nat.succ_mul]; omega)
    have e : i + (t + 1) * p = i + t * p + 1 + (p - 1) := by rw [Nat.succ_mul]; omega
    rw [e, h2, h1, ih, steps]
theorem pick_end {l : List ByteArray} {p i t n : Nat} (hi : i < p) (h1 : n ≤ i + t * p) (h2 : t = 0 ∨ i + (t - 1) * p < n) : pick l p i n = steps l p i t := by
  rw [← pick_steps hi t]
  have h3 := pick_gap (l := l) (p := p) (i := i) (a := n) (i + t * p - n) (fun k a b => by
    rcases h2 with rfl | h2
    · exact mod_head (by omega)
    · rcases t with _ | t
      · exact mod_head (by omega)
      · exact mod_gap (t := t) (by simp at h2; omega) (by omega))
  rw [show n + (i + t * p - n) = i + t * p from by omega] at h3
  exact h3.symm
end Go.Proofs.YtmeemcafjebanaaDoor
