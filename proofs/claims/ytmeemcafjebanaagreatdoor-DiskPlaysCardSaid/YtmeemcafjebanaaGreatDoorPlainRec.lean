/- Records, states and the rest as plain data. No program in sight. -/
import Derived.Test.YtmeemcafjebanaaGreatDoorPlainFrame
namespace Go.Proofs.YtmeemcafjebanaaGreatDoor
open Go.RowKit

/-- A record: a key, a number, when. -/
structure Rec where
  key : ByteArray
  num : Int
  time : Int

def Rec.cells (r : Rec) : List Value := [.string r.key, .int .i64 r.num, .int .i64 r.time]
def Rec.val (r : Rec) : Value := .agg #[.string r.key, .int .i64 r.num, .int .i64 r.time]
def recCells (l : List Rec) : List Value := l.flatMap Rec.cells

/-- What an int holds. -/
def i64ok (n : Int) : Prop := -9223372036854775808 ≤ n ∧ n ≤ 9223372036854775807

/-- What every record of a slice is, whoever made it. -/
def Rec.Ok (r : Rec) : Prop := r.key.size ≤ 9223372036854775807 ∧ i64ok r.num ∧ i64ok r.time

/-- Is it a record? -/
def recOk (r : Rec) : Bool := decide (r.key.size ≤ 40) && decide (0 ≤ r.time) && decide (r.time ≤ 1000000)

/-- A record as bytes. -/
def recB (r : Rec) : List UInt8 := textB r.key.data.toList ++ numB r.num ++ numB r.time
/-- The fault of records. -/
def recsE (l : List Rec) : Nat := if 400 < l.length then 4 else if l.all recOk then 0 else 1
/-- Records as bytes: none where there is a fault. -/
def recsB (l : List Rec) : List UInt8 := if recsE l = 0 then numB l.length ++ l.flatMap recB else []

theorem textB_le (s : ByteArray) (n : Nat) (h : s.size ≤ n) : (textB s.data.toList).length ≤ n + 10 := by
  have := numB_le (s.size : Int)
  have e : s.data.toList.length = s.size := by rw [Array.length_toList]; rfl
  rw [textB_str, List.length_append, e]
  omega

theorem recOk_key {r : Rec} (h : recOk r = true) : r.key.size ≤ 40 := by
  simp only [recOk, Bool.and_eq_true, decide_eq_true_eq] at h; exact h.1.1

theorem recE_long {l : List Rec} (h : 400 < l.length) : recsE l = 4 ∧ recsB l = [] := by
  have : recsE l = 4 := by rw [recsE, if_pos h]
  exact ⟨this, by rw [recsB, if_neg (by omega)]⟩
theorem recE_bad {l : List Rec} {k : Nat} {r : Rec} (h : l.length ≤ 400) (hk : l[k]? = some r) (hr : recOk r = false) : recsE l = 1 ∧ recsB l = [] := by
  have h2 : l.all recOk = false := by
    rw [List.all_eq_false]
    exact ⟨r, List.mem_of_getElem? hk, by simp [hr]⟩
  have : recsE l = 1 := by rw [recsE, if_neg (by omega), if_neg (by simp [h2])]
  exact ⟨this, by rw [recsB, if_neg (by omega)]⟩
theorem recE_good {l : List Rec} (h : l.length ≤ 400) (hall : ∀ j r, j < l.length → l[j]? = some r → recOk r = true) : recsE l = 0 ∧ recsB l = numB l.length ++ l.flatMap recB := by
  have h2 : l.all recOk = true := by
    rw [List.all_eq_true]
    intro r hr
    obtain ⟨j, hj, e⟩ := List.mem_iff_getElem.1 hr
    exact hall j r hj (by rw [List.getElem?_eq_getElem hj, e])
  have : recsE l = 0 := by rw [recsE, if_neg (by omega), if_pos h2]
  exact ⟨this, by rw [recsB, if_pos this]⟩

theorem recs_step {l : List Rec} {k : Nat} {r : Rec} (h : l[k]? = some r) :
    ((l.take (k + 1)).flatMap recB).map bv = ((l.take k).flatMap recB).map bv ++ (textB r.key.data.toList).map bv ++ (numB r.num).map bv ++ (numB r.time).map bv := by
  rw [List.take_add_one, h]
  simp [recB]
theorem all_step {l : List Rec} {k : Nat} {r : Rec} (h : ∀ j r, j < k → l[j]? = some r → recOk r = true) (hk : l[k]? = some r) (hr : recOk r = true) : ∀ j r, j < k + 1 → l[j]? = some r → recOk r = true := by
  intro j q hj hq
  rcases Nat.lt_or_ge j k with h' | h'
  · exact h j q h' hq
  · have : j = k := by omega
    subst this
    rw [hk] at hq; injection hq with hq; rw [← hq]; exact hr

theorem flat3 {α : Type} (f : α → List Value) (h3 : ∀ a, (f a).length = 3) (l : List α) : (l.flatMap f).length = l.length * 3 := by
  induction l with
  | nil => rfl
  | cons a l ih => simp [h3, ih]; omega

theorem flat_at {α : Type} (f : α → List Value) (n : Nat) (hn : ∀ a, (f a).length = n) : ∀ (l : List α) (k j : Nat), j < n → (l.flatMap f)[k * n + j]? = (l[k]?).bind fun a => (f a)[j]? := by
  intro l
  induction l with
  | nil => intro k j _; simp
  | cons a l ih =>
    intro k j hj
    rw [List.flatMap_cons]
    cases k with
    | zero => rw [List.getElem?_append_left (by rw [hn]; omega)]; simp
    | succ k =>
      rw [List.getElem?_append_right (by rw [hn, Nat.succ_mul]; omega), hn, show (k + 1) * n + j - n = k * n + j from by rw [Nat.succ_mul]; omega, ih k j hj]
      simp

/-- The cells of the record at k. -/
theorem Rd.rec_ {w w' : World} {B D n k : Nat} {A : Option Addr} {l : List Rec} (h : Rd w B 3 A n (recCells l)) (hk : k < n) (hl : l.length = n) (hb : Below D w w') (hD : B ≤ D) :
    ∃ ad, ∃ r : Rec, A = some ad ∧ l[k]? = some r ∧ w'.cell? (ad.add (k * 3)) = some (.string r.key) ∧ w'.cell? ⟨(ad.add (k * 3)).block, (ad.add (k * 3)).off + 1, none⟩ = some (.int .i64 r.num) ∧
      w'.cell? ⟨(ad.add (k * 3)).block, (ad.add (k * 3)).off + 2, none⟩ = some (.int .i64 r.time) := by
  obtain ⟨ad, rfl, hbb, hc⟩ := (h.below hb hD).2 (by omega)
  have hr : l[k]? = some l[k] := List.getElem?_eq_getElem (by omega)
  have hat : ∀ j, j < 3 → (recCells l)[k * 3 + j]? = (l[k].cells)[j]? := fun j hj => by
    rw [recCells, flat_at Rec.cells 3 (fun _ => rfl) l k j hj, hr]; rfl
  refine ⟨ad, l[k], rfl, hr, hc _ _ ((hat 0 (by omega)).trans rfl), ?_, ?_⟩
  · rw [← add_more]; exact hc _ _ ((hat 1 (by omega)).trans rfl)
  · rw [← add_more]; exact hc _ _ ((hat 2 (by omega)).trans rfl)
end Go.Proofs.YtmeemcafjebanaaGreatDoor
