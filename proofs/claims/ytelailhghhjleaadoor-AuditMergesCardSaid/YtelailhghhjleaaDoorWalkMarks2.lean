/- The walks of weirsame.Ints at two equal lists, and of window.Marks. -/
import Derived.Test.YtelailhghhjleaaDoorWalkCheck
import Derived.Test.YtelailhghhjleaaDoorPlainMarks
import Derived.StillTailTactics
namespace Go.Proofs.YtelailhghhjleaaDoor
open Go.RowKit

theorem el_int : Elt Tryd.prog 23 3 (.int .i64 0) 1 8 := ⟨Tryd.underlying23, by kernel_rfl, rfl, by omega, by omega⟩
theorem Rd.intm {w : World} {B n k : Nat} {A : Option Addr} {l : List Int} (h : Rd w B 1 A n (l.map iv)) (hk : k < n) : ∃ ad, A = some ad ∧ ad.block < B ∧ w.cell? (ad.add k) = some (.int .i64 (l.getD k 0)) := by
  obtain ⟨ad, u, rfl, hb, hu, hc⟩ := h.at_ hk
  refine ⟨ad, rfl, hb, hc.trans ?_⟩
  have hl : k < l.length := by have := h.1; simp at this; omega
  rw [← hu, List.getElem?_map, List.getD_eq_getElem?_getD, List.getElem?_eq_getElem hl]
  rfl

set_option maxRecDepth 100000 in
set_option maxHeartbeats 1000000 in
theorem ints_same (A A' : Option Addr) (c c' B : Nat) (l : List Int) (w : World) (hx : Rd w B 1 A l.length (l.map iv)) (hy : Rd w B 1 A' l.length (l.map iv)) (hB : B ≤ w.heap.size) (hl : l.length ≤ 140737488355328) :
    Calls Tryd.prog 13 #[.slice A l.length c, .slice A' l.length c'] w fun e w' => e = .returned (.bool true) ∧ Below w.heap.size w w' := by
  obtain ⟨n, hn⟩ : ∃ n, n = l.length := ⟨_, rfl⟩
  rw [← hn] at hx hy hl ⊢
  clear hn
  go_enter Tryd.func13, Tryd.ntmps13
  go_wp2_with fail
  go_loopw [5] (fun i wr => ∃ k : Nat, k ≤ n ∧ i = .int .i64 k ∧ Below w.heap.size w wr) (fun i _ => n - (intOf i).toNat)
  case atStart => exact ⟨0, Nat.zero_le _, rfl, Below.refl _ _⟩
  case round =>
    obtain ⟨k, hk, rfl, hbel⟩ := hrel
    by_cases hlt : k < n
    · obtain ⟨ad, rfl, _, g0⟩ := (hx.below hbel hB).intm hlt
      obtain ⟨ad', rfl, _, p0⟩ := (hy.below hbel hB).intm hlt
      obtain ⟨z, hz⟩ : ∃ z, z = l.getD k 0 := ⟨_, rfl⟩
      rw [← hz] at g0 p0
      clear hz
      have hi0 : (0 : Int) ≤ (k : Int) := by omega
      have hi1 : (k : Int) < (n : Int) := by omega
      go_wp2_with fail
      go_quiet (fail)
      have hbel := below_drewN hbel nq
      generalize wr.drewN nq = wq at *
      go_wp2_with fail
      go_roundw
      case rel => exact ⟨k + 1, by omega, by go_num, hbel⟩
      case measure => simp [intOf]; omega
    · go_wp2_with fail
      go_ret
      exact ⟨rfl, hbel⟩

/-- Slices of slices of records. -/
def RdLL (w : World) (B : Nat) (A : Option Addr) (ls : List (List Rec)) : Prop :=
  0 < ls.length → ∃ ad, A = some ad ∧ ad.block < B ∧ ∀ (i : Nat) (l : List Rec), ls[i]? = some l → ∃ A' c, w.cell? (ad.add i) = some (.slice A' l.length c) ∧ l.length ≤ c ∧ c ≤ maxLen ∧ Rd w B 3 A' l.length (recCells l)
theorem RdLL.at_ {w w' : World} {B D : Nat} {A : Option Addr} {ls : List (List Rec)} (h : RdLL w B A ls) (hb : Below D w w') (hD : B ≤ D) {i : Nat} (hi : i < ls.length) :
    ∃ ad A' c, A = some ad ∧ w'.cell? (ad.add i) = some (.slice A' (inp ls i).length c) ∧ (inp ls i).length ≤ c ∧ c ≤ maxLen ∧ Rd w' B 3 A' (inp ls i).length (recCells (inp ls i)) := by
  obtain ⟨ad, e, hlt, hc⟩ := h (by omega)
  have hx : ls[i]? = some (inp ls i) := by rw [inp, List.getD_eq_getElem?_getD, List.getElem?_eq_getElem hi]; rfl
  obtain ⟨A', c, h1, h2, h3, h4⟩ := hc i _ hx
  exact ⟨ad, A', c, e, (hb.cell (by rw [block_add]; omega)).trans h1, h2, h3, h4.below hb hD⟩
theorem tot_step {ls : List (List Rec)} {k : Nat} (hk : k < ls.length) (t : Nat) : t + ((ls.drop k).map List.length).sum = t + (inp ls k).length + ((ls.drop (k + 1)).map List.length).sum := by
  have e : ls.drop k = inp ls k :: ls.drop (k + 1) := by
    rw [List.drop_eq_getElem_cons hk, inp, List.getD_eq_getElem?_getD, List.getElem?_eq_getElem hk]; rfl
  rw [e, List.map_cons, List.sum_cons]; omega
theorem allOk_of {ls : List (List Rec)} (h : ∀ j, j < ls.length → recsE (inp ls j) = 0) : allOk ls = true := by
  rw [allOk, List.all_eq_true]
  intro l hl
  obtain ⟨j, hj⟩ := List.mem_iff_getElem?.1 hl
  have hjl := (List.getElem?_eq_some_iff.1 hj).1
  have e : inp ls j = l := by rw [inp, List.getD_eq_getElem?_getD, hj]; rfl
  have := h j hjl
  rw [e, recsE] at this
  split at this
  · cases this
  · split at this
    · assumption
    · cases this
theorem allOk_not {ls : List (List Rec)} {j : Nat} (hj : j < ls.length) (h4 : ¬ 400 < (inp ls j).length) (h : recsE (inp ls j) ≠ 0) : allOk ls = false ∧ recsE (inp ls j) = 1 := by
  have hx : ls[j]? = some (inp ls j) := by rw [inp, List.getD_eq_getElem?_getD, List.getElem?_eq_getElem hj]; rfl
  rw [recsE, if_neg h4] at h ⊢
  split at h
  · exact absurd rfl h
  · rename_i hn
    refine ⟨?_, by rw [if_neg hn]⟩
    rw [allOk, List.all_eq_false]
    exact ⟨_, List.mem_of_getElem? hx, hn⟩

/-- Marks as cells. -/
def fCells (f : Nat → Int) (n : Nat) : Array Value := ((List.range n).map fun j => Value.int .i64 (f j)).toArray
theorem fCells_zero (n : Nat) : fCells (fun _ => 0) n = madeCells #[.int .i64 0] n := by
  rw [← Array.toArray_toList (xs := madeCells #[.int .i64 0] n), toList_madeCells_one, fCells]
  congr 1
  apply List.ext_getElem?
  intro j
  by_cases h : j < n <;> simp [h]
theorem fCells_at {f : Nat → Int} {n i : Nat} (h : i < n) : (fCells f n)[i]? = some (.int .i64 (f i)) := by simp [fCells, h]
theorem fCells_set {f g : Nat → Int} {n i : Nat} {z : Int} (h : ∀ j, j < n → g j = if j = i then z else f j) : (fCells f n).setIfInBounds i (.int .i64 z) = fCells g n := by
  apply Array.ext_getElem?
  intro j
  simp only [fCells, List.setIfInBounds_toArray, List.getElem?_toArray, List.getElem?_set, List.getElem?_map]
  by_cases hj : i = j
  · subst hj
    by_cases hi : i < n
    · simp [hi, h i hi]
    · simp [hi]
  · simp only [if_neg hj]
    by_cases hi : j < n
    · simp [hi, h j hi, Ne.symm hj]
    · simp [hi]
theorem fCells_eq {f g : Nat → Int} {n : Nat} (h : ∀ j, j < n → f j = g j) : fCells f n = fCells g n := by
  rw [fCells, fCells]
  congr 1
  exact List.map_congr_left fun j hj => by rw [h j (List.mem_range.1 hj)]
/-- The marks while the k-th of each input comes: those ahead of i have come. -/
def midF (ls : List (List Rec)) (slack : Int) (k i : Nat) : Nat → Int := fun j => mk ls slack j (if j < i then k + 1 else k)
theorem midF_start (ls : List (List Rec)) (slack : Int) (k : Nat) : fCells (midF ls slack k 0) ls.length = fCells (fun j => mk ls slack j k) ls.length := fCells_eq fun j _ => by simp [midF]
theorem midF_end (ls : List (List Rec)) (slack : Int) (k : Nat) : fCells (midF ls slack k ls.length) ls.length = fCells (fun j => mk ls slack j (k + 1)) ls.length := fCells_eq fun j hj => by simp [midF, hj]
theorem midF_skip {ls : List (List Rec)} {slack : Int} {k i : Nat} (h : (inp ls i).length ≤ k) : fCells (midF ls slack k (i + 1)) ls.length = fCells (midF ls slack k i) ls.length := fCells_eq fun j _ => by
  unfold midF
  by_cases hj : j = i
  · subst hj; rw [if_pos (by omega), if_neg (by omega), mk_stop h]
  · by_cases hlt : j < i
    · rw [if_pos (by omega), if_pos hlt]
    · rw [if_neg (by omega), if_neg hlt]
theorem midF_set {ls : List (List Rec)} {slack : Int} {k i : Nat} {r : Rec} (h : (inp ls i)[k]? = some r) : (fCells (midF ls slack k i) ls.length).setIfInBounds i (.int .i64 (max (mk ls slack i k) (r.time - slack))) = fCells (midF ls slack k (i + 1)) ls.length := fCells_set fun j _ => by
  unfold midF
  by_cases hj : j = i
  · subst hj; rw [if_pos (by omega), if_pos rfl, mk_succ h]
  · rw [if_neg hj]
    by_cases hlt : j < i
    · rw [if_pos (by omega), if_pos hlt]
    · rw [if_neg (by omega), if_neg hlt]
theorem midF_came (ls : List (List Rec)) (slack : Int) (k i : Nat) : midF ls slack k (i + 1) = fun j => mk ls slack j (cameAt k i j) := by
  funext j
  unfold midF cameAt
  by_cases h : j ≤ i
  · rw [if_pos (by omega), if_pos h]
  · rw [if_neg (by omega), if_neg h]
theorem leastFrom_succ (ls : List (List Rec)) (f : Nat → Int) (n j : Nat) (a : Int) (h : j < n) : leastFrom ls f (n - j) j a = leastFrom ls f (n - (j + 1)) (j + 1) (if 0 < (inp ls j).length ∧ (a < 0 ∨ f j < a) then f j else a) := by
  rw [show n - j = (n - (j + 1)) + 1 from by omega, leastFrom]
theorem leastFrom_done (ls : List (List Rec)) (f : Nat → Int) (n j : Nat) (a : Int) (h : n ≤ j) : leastFrom ls f (n - j) j a = a := by
  rw [show n - j = 0 from by omega, leastFrom]
end Go.Proofs.YtelailhghhjleaaDoor
