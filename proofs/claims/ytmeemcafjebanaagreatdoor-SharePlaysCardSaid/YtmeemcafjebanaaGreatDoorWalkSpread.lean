/- PlainSpread WalkSpread in one text. -/
import Derived.Test.YtmeemcafjebanaaGreatDoorBase
import Derived.Test.YtmeemcafjebanaaGreatDoorProg
import Derived.Test.YtmeemcafjebanaaGreatDoorKeeps
import Derived.Test.YtmeemcafjebanaaGreatDoorWalkAs
import Derived.Deep.RegionLaw
import Derived.BigQuiet
import Derived.WideLaws
import Derived.Deep.QuietTactic
import Derived.Deep.OwnRows
/- Things spread in turn, as plain data. No program in sight. -/
namespace Go.Proofs.YtmeemcafjebanaaGreatDoor
open Go.RowKit

def sv (s : ByteArray) : Value := .string s
def spreadE (n : Nat) (p : Int) : Nat := if p < 1 ∨ 16 < p then 1 else if 400 < n then 4 else 0
def strAt (l : List ByteArray) (k : Nat) : ByteArray := l.getD k ⟨#[]⟩
/-- What worker i of p gets of the first k things. -/
def pick (l : List ByteArray) (p i : Nat) : Nat → List ByteArray
  | 0 => []
  | k + 1 => pick l p i k ++ (if k % p = i then [strAt l k] else [])
/-- Every p-th from i on, t of them. -/
def steps (l : List ByteArray) (p i : Nat) : Nat → List ByteArray
  | 0 => []
  | t + 1 => steps l p i t ++ [strAt l (i + t * p)]
/-- All workers' things after the first k. -/
def rowsAt (l : List ByteArray) (p k : Nat) : List (List ByteArray) := (List.range p).map fun i => pick l p i k
theorem rowsAt_len (l : List ByteArray) (p k : Nat) : (rowsAt l p k).length = p := by simp [rowsAt]
theorem rowsAt_get {l : List ByteArray} {p k i : Nat} (h : i < p) : (rowsAt l p k)[i]? = some (pick l p i k) := by simp [rowsAt, h]
theorem rowsAt_zero (l : List ByteArray) (p : Nat) : rowsAt l p 0 = List.replicate p [] := by
  apply List.ext_getElem?
  intro i
  by_cases h : i < p
  · rw [rowsAt_get h, List.getElem?_replicate, if_pos h]; rfl
  · rw [List.getElem?_eq_none (by rw [rowsAt_len]; omega), List.getElem?_eq_none (by simp; omega)]
/-- The k-th thing goes to worker k % p. -/
theorem rowsAt_succ {l : List ByteArray} {p k : Nat} (hp : 0 < p) : rowsAt l p (k + 1) = (rowsAt l p k).set (k % p) (pick l p (k % p) k ++ [strAt l k]) := by
  have hlt := Nat.mod_lt k hp
  apply List.ext_getElem?
  intro i
  rw [List.getElem?_set]
  by_cases h : i < p
  · rw [rowsAt_get h]
    by_cases hi : k % p = i
    · rw [if_pos hi, if_pos (by rw [rowsAt_len]; omega), pick, if_pos hi, hi]
    · rw [if_neg hi, rowsAt_get h, pick, if_neg hi, List.append_nil]
  · rw [List.getElem?_eq_none (by rw [rowsAt_len]; omega), if_neg (by omega), List.getElem?_eq_none (by rw [rowsAt_len]; omega)]
theorem pick_len (l : List ByteArray) (p i : Nat) : ∀ k, (pick l p i k).length ≤ k := by
  intro k
  induction k with
  | zero => simp [pick]
  | succ k ih => rw [pick, List.length_append]; split <;> simp <;> omega
/-- Where nothing comes. -/
theorem pick_gap {l : List ByteArray} {p i a : Nat} : ∀ d, (∀ k, a ≤ k → k < a + d → k % p ≠ i) → pick l p i (a + d) = pick l p i a := by
  intro d
  induction d with
  | zero => intro _; rfl
  | succ d ih =>
    intro h
    rw [show a + (d + 1) = a + d + 1 from rfl, pick, if_neg (h (a + d) (by omega) (by omega)), List.append_nil]
    exact ih fun k h1 h2 => h k h1 (by omega)
theorem mod_at {p i t : Nat} (hi : i < p) : (i + t * p) % p = i := by rw [Nat.add_mul_mod_self_right, Nat.mod_eq_of_lt hi]
theorem mod_gap {p i t k : Nat} (h1 : i + t * p < k) (h2 : k < i + (t + 1) * p) : k % p ≠ i := by
  intro h
  have hk := Nat.div_add_mod k p
  rw [h] at hk
  have h3 : k = i + (k / p) * p := by rw [Nat.mul_comm] at hk; omega
  rw [h3] at h1 h2
  have h4 : t * p < (k / p) * p := by omega
  have h5 : (k / p) * p < (t + 1) * p := by omega
  have h6 := Nat.lt_of_mul_lt_mul_right h4
  have h7 := Nat.lt_of_mul_lt_mul_right h5
  omega
theorem mod_head {p i k : Nat} (h : k < i) : k % p ≠ i := by
  intro e
  have := Nat.mod_le k p
  omega
/-- The two ways to say it. -/
theorem pick_steps {l : List ByteArray} {p i : Nat} (hi : i < p) : ∀ t, pick l p i (i + t * p) = steps l p i t := by
  intro t
  induction t with
  | zero =>
    have := pick_gap (l := l) (p := p) (i := i) (a := 0) i fun k _ h2 => mod_head (by omega)
    simpa [pick, steps] using this
  | succ t ih =>
    have h1 : pick l p i (i + t * p + 1) = pick l p i (i + t * p) ++ [strAt l (i + t * p)] := by rw [pick, if_pos (mod_at hi)]
    have h2 := pick_gap (l := l) (p := p) (i := i) (a := i + t * p + 1) (p - 1) fun k h1 h2 => mod_gap (t := t) (by omega) (by rw [Nat.succ_mul]; omega)
    have e : i + (t + 1) * p = i + t * p + 1 + (p - 1) := by rw [Nat.succ_mul]; omega
    rw [e, h2, h1, ih, steps]
theorem pick_end {l : List ByteArray} {p i t n : Nat} (hi : i < p) (h1 : n ≤ i + t * p) (h2 : t = 0 ∨ i + (t - 1) * p < n) : pick l p i n = steps l p i t := by
  rw [← pick_steps hi t]
  have h3 := pick_gap (l := l) (p := p) (i := i) (a := n) (i + t * p - n) (fun k a b => by
    rcases h2 with rfl | h2
    · exact mod_head (by omega)
    · rcases t with _ | t
      · exact mod_head (by omega)
      · exact mod_gap (t := t) (by simp at h2; omega) (by omega))
  rw [show n + (i + t * p - n) = i + t * p from by omega] at h3
  exact h3.symm
end Go.Proofs.YtmeemcafjebanaaGreatDoor

/- The walks of spread.check, weirsame.Texts at two equal lists, spread.Even. -/
namespace Go.Proofs.YtmeemcafjebanaaGreatDoor
open Go.RowKit

theorem el_str : Elt Tryz.prog 23 9 (.string ByteArray.empty) 1 16 := ⟨Tryz.underlying23, by kernel_rfl, rfl, by omega, by omega⟩
theorem svs_one (l : List ByteArray) : ∀ u ∈ l.map sv, u.oneCell' = true := by
  intro u hu; obtain ⟨b, _, rfl⟩ := List.mem_map.1 hu; rfl
theorem Rd.str_ {w : World} {B n k : Nat} {A : Option Addr} {l : List ByteArray} (h : Rd w B 1 A n (l.map sv)) (hk : k < n) : ∃ ad, A = some ad ∧ ad.block < B ∧ w.cell? (ad.add k) = some (.string (strAt l k)) := by
  obtain ⟨ad, u, rfl, hb, hu, hc⟩ := h.at_ hk
  refine ⟨ad, rfl, hb, hc.trans ?_⟩
  have hl : k < l.length := by have := h.1; simp at this; omega
  rw [← hu, List.getElem?_map, strAt, List.getD_eq_getElem?_getD, List.getElem?_eq_getElem hl]
  rfl

/-- Rows of texts of the call's own. -/
structure TextRows (w : World) (base go : Nat) (sl : List Value) (rows : List (List ByteArray)) : Prop where
  at_ : base ≤ go
  blk : Blk w go 23 sl.toArray
  rows : Rows_ w 9 1 sl (rows.map fun l => l.map sv)
  low : ∀ v ∈ sl, ∀ g, v.ownBlock = some g → base ≤ g ∧ g ≠ go
theorem TextRows.row {w : World} {base go : Nat} {sl : List Value} {rows : List (List ByteArray)} (h : TextRows w base go sl rows) {i : Nat} {l : List ByteArray} (hi : rows[i]? = some l) :
    ∃ A c, sl[i]? = some (.slice A l.length c) ∧ w.cell? ⟨go, i, none⟩ = some (.slice A l.length c) ∧ l.length ≤ c ∧ c ≤ maxLen ∧ w.ownsRow 0 9 1 (.slice A l.length c) l.length (l.map sv) ∧ Rd w w.heap.size 1 A l.length (l.map sv) := by
  have hx : (rows.map fun l => l.map sv)[i]? = some (l.map sv) := by rw [List.getElem?_map, hi]; rfl
  have hl : i < sl.length := by rw [← h.rows.len]; exact (List.getElem?_eq_some_iff.1 hx).1
  have ho := h.rows.row i sl[i] _ (List.getElem?_eq_getElem hl) hx
  rw [List.length_map, Nat.div_one] at ho
  obtain ⟨A, c, e, h1, h2, _, h3⟩ := own_form ho
  have hs : sl[i]? = some (.slice A l.length c) := by rw [List.getElem?_eq_getElem hl, e]
  refine ⟨A, c, hs, ?_, h1, h2, e ▸ ho, h3⟩
  rw [h.blk.cell, List.getElem?_toArray, hs]
theorem TextRows.drew {w : World} {base go : Nat} {sl : List Value} {rows : List (List ByteArray)} (h : TextRows w base go sl rows) : TextRows w.drew base go sl rows :=
  ⟨h.at_, h.blk, h.rows.same fun _ _ _ _ => rfl, h.low⟩
/-- A row grown. -/
theorem TextRows.replace {w w4 : World} {base go : Nat} {sl : List Value} {rows : List (List ByteArray)} (h : TextRows w base go sl rows) {i : Nat} {v v' : Value} {l : List ByteArray} (hv : sl[i]? = some v) (hB : base ≤ w.heap.size)
    (hg : w.grownBy w4 v.ownBlock) (ho : w4.ownsRow 0 9 1 v' l.length (l.map sv)) (hb : ∀ g, v'.ownBlock = some g → v.ownBlock = some g ∨ w.heap.size ≤ g) : TextRows (w4.setCell ⟨go, i, none⟩ v') base go (sl.set i v') (rows.set i l) ∧ Below base w (w4.setCell ⟨go, i, none⟩ v') := by
  have hvm := List.mem_of_getElem? hv
  have hd := h.low v hvm
  have hgo : w4.heap[go]? = w.heap[go]? := hg.block go h.blk.lt fun e => (hd go e.symm).2 rfl
  have hrow := h.rows.replace (x := l.map sv) hv hg (by rw [List.length_map, Nat.div_one]; exact ho) hb
  have hlow : ∀ u ∈ sl.set i v', ∀ g, u.ownBlock = some g → base ≤ g ∧ g ≠ go := by
    intro u hu g hg'
    rcases List.mem_or_eq_of_mem_set hu with hu | rfl
    · exact h.low u hu g hg'
    · rcases hb g hg' with e | e
      · exact hd g e
      · have := h.blk.lt; exact ⟨by omega, by omega⟩
  refine ⟨⟨h.at_, ?_, ?_, hlow⟩, ?_⟩
  · have := Blk.set_ (show Blk w4 go _ _ from hgo.trans h.blk) i v'
    simpa using this
  · have e : (rows.set i l).map (fun l => l.map sv) = (rows.map fun l => l.map sv).set i (l.map sv) := by simp [List.map_set]
    rw [e]
    exact hrow.same fun u g hu hg' => Below.heap_setCell w4 ⟨go, i, none⟩ v' g (hlow u hu g hg').2
  · exact ((Below.refl base w).grown hg hB fun g e => (hd g e).1).setCell h.at_ _
theorem TextRows.start {w : World} {base go p : Nat} (h : base ≤ go) (hb : Blk w go 23 (madeCells #[.slice none 0 0] p)) : TextRows w base go (List.replicate p (.slice none 0 0)) (List.replicate p []) := by
  have none_ : ∀ v ∈ List.replicate p (Value.slice none 0 0), v.ownBlock = none := fun v hv => by rw [List.eq_of_mem_replicate hv]; rfl
  refine ⟨h, ?_, ⟨by simp, fun i v x hv hx => ?_, fun i j v u g hv _ e _ => ?_⟩, fun v hv g hg => ?_⟩
  · rw [← toList_madeCells_one, Array.toArray_toList]; exact hb
  · have e1 := List.eq_of_mem_replicate (List.mem_of_getElem? hv)
    have e2 : x = [] := by
      have := List.mem_of_getElem? hx
      simp only [List.map_replicate, List.map_nil] at this
      exact List.eq_of_mem_replicate this
    subst e1 e2
    exact World.ownsRow_nil _ _ _ _
  · rw [none_ v (List.mem_of_getElem? hv)] at e; cases e
  · rw [none_ v hv] at hg; cases hg
end Go.Proofs.YtmeemcafjebanaaGreatDoor
