/- The walks of spread.Least's order, slices.Min and slices.Index at ints, and the sort of a row of indices. -/
import Derived.Test.YtelailhghhjleaaDoorWalkSpread
import Derived.Test.YtelailhghhjleaaDoorMemSort1
import Derived.Test.YtelailhghhjleaaDoorBase2
import Derived.Test.YtelailhghhjleaaDoorWalkCmp
import Derived.Test.YtelailhghhjleaaDoorWalkStable1
namespace Go.Proofs.YtelailhghhjleaaDoor
open Go.RowKit Go.Sort Go.Shelf Go.Lib

theorem el_intS : Elt Tryd.prog 23 3 (.int .i64 0) 1 8 := ⟨Tryd.underlying23, by kernel_rfl, rfl, by omega, by omega⟩
theorem Rd.int_ {w : World} {B n k : Nat} {A : Option Addr} {l : List Int} (h : Rd w B 1 A n (l.map iv)) (hk : k < n) : ∃ ad, A = some ad ∧ ad.block < B ∧ w.cell? (ad.add k) = some (.int .i64 (atD l k)) := by
  obtain ⟨ad, u, rfl, hb, hu, hc⟩ := h.at_ hk
  refine ⟨ad, rfl, hb, hc.trans ?_⟩
  have hl : k < l.length := by have := h.1; simp at this; omega
  rw [← hu, List.getElem?_map, List.getElem?_eq_getElem hl, atD, List.getElem?_eq_getElem hl]
  rfl
def nv (n : Nat) : Value := .int .i64 n
theorem Rd.nat_ {w : World} {B n k : Nat} {A : Option Addr} {l : List Nat} (h : Rd w B 1 A n (l.map nv)) (hk : k < n) : ∃ ad i, A = some ad ∧ ad.block < B ∧ l[k]? = some i ∧ w.cell? (ad.add k) = some (.int .i64 (i : Int)) := by
  obtain ⟨ad, u, rfl, hb, hu, hc⟩ := h.at_ hk
  have hl : k < l.length := by have := h.1; simp at this; omega
  refine ⟨ad, l[k], rfl, hb, List.getElem?_eq_getElem hl, hc.trans ?_⟩
  rw [← hu, List.getElem?_map, List.getElem?_eq_getElem hl]
  rfl
/-- Ints as the cells of a block. -/
def ivs (s : List Int) : Array Value := (s.map iv).toArray
theorem ivs_size (s : List Int) : (ivs s).size = s.length := by simp [ivs]
theorem ivs_get {s : List Int} {i : Nat} (h : i < s.length) : (ivs s)[i]? = some (.int .i64 (atD s i)) := by
  rw [ivs, List.getElem?_toArray, List.getElem?_map, atD, List.getElem?_eq_getElem h]; rfl
theorem ivs_set (s : List Int) (i : Nat) (x : Int) : (ivs s).setIfInBounds i (.int .i64 x) = ivs (s.set i x) := by
  rw [ivs, ivs, List.setIfInBounds_toArray, List.map_set]; rfl
theorem ivs_made (n : Nat) : ivs (List.replicate n 0) = madeCells #[.int .i64 0] n := by
  rw [← Array.toArray_toList (xs := madeCells #[.int .i64 0] n), toList_madeCells_one, ivs]
  congr 1
  apply List.ext_getElem?
  intro j
  by_cases h : j < n <;> simp [h, iv]
theorem rd_ivs {w : World} {g B : Nat} {t : TypeId} {s : List Int} (h : Blk w g t (ivs s)) (hB : g < B) : Rd w B 1 (some ⟨g, 0, none⟩) s.length (s.map iv) := by
  refine ⟨by simp, fun _ => ⟨_, rfl, hB, fun j u hu => ?_⟩⟩
  have ha : (Addr.add ⟨g, 0, none⟩ j : Addr) = ⟨g, j, none⟩ := by
    unfold Addr.add
    split
    · rename_i h0; rw [h0]
    · simp
  rw [ha, h.cell j, ivs, List.getElem?_toArray]
  exact hu
theorem own_ivs {w : World} {base g n : Nat} {t : TypeId} {s : List Int} (h : Blk w g t (ivs s)) (hn : n = s.length) (hb : base ≤ g) (hm : n ≤ maxLen) : w.ownsRow base t 1 (.slice (some ⟨g, 0, none⟩) n n) n (s.map iv) := by
  subst hn
  refine ⟨by simp, .inr ⟨g, s.length, ivs s, rfl, hb, h, Nat.le_refl _, hm, by simp [ivs], ?_⟩⟩
  simp [ivs]
  exact List.take_of_length_le (by simp)

set_option maxRecDepth 100000 in
set_option maxHeartbeats 1000000 in
theorem lcmp_any (A : Option Addr) (n c B G : Nat) (l : List Int) (x y : Nat) (w : World) (hr : Rd w B 1 A n (l.map iv)) (hx : x < n) (hy : y < n) (hc : w.cell? ⟨G, 0, none⟩ = some (.slice A n c)) :
    Calls Tryd.prog 42 #[.int .i64 x, .int .i64 y, .pointer (some ⟨G, 0, none⟩)] w fun e w' => e = .returned (.int .i64 (cmpI (atD l y) (atD l x))) ∧ ∃ q, w' = w.drewN q := by
  obtain ⟨ad, rfl, _, g0⟩ := hr.int_ hx
  obtain ⟨ad', e, _, g1⟩ := hr.int_ hy
  injection e with e
  subst e
  have hi0 : (0 : Int) ≤ (x : Int) := by omega
  have hi1 : (x : Int) < (n : Int) := by omega
  have hj0 : (0 : Int) ≤ (y : Int) := by omega
  have hj1 : (y : Int) < (n : Int) := by omega
  generalize atD l x = u at *
  generalize atD l y = v at *
  go_enter Tryd.func42, Tryd.ntmps42
  go_wp2_with fail
  go_quiet (first
    | (go_at_call 43; exact Calls.quiet_of ((cmpI_any _ _ _).mono fun _ _ ⟨h1, h2⟩ => ⟨h1, 0, h2.symm⟩)))
  go_wp2
  go_ret
  exact ⟨rfl, _, rfl⟩
theorem leastTo_one (s : List Int) : leastTo s 1 = 0 := by rw [leastTo, leastTo, if_neg (by omega)]

/-- The sort of a row of indices. -/
theorem lsort_any {w : World} {A : Option Addr} {B G base n c : Nat} {l : List Int} {v : Value} (hn : n = l.length) (hl : n ≤ 140737488355328) (hr : Rd w B 1 A n (l.map iv)) (hB : B ≤ base) (hG : G < base) (hb : base ≤ w.heap.size) (hc : w.cell? ⟨G, 0, none⟩ = some (.slice A n c))
    (ho : w.ownsRow base 3 1 v n ((List.range n).map nv)) : ∃ A' c', v = .slice A' n c' ∧
    Calls Tryd.prog 41 #[.slice A' n c', .func (.func 42) #[] #[.pointer (some ⟨G, 0, none⟩)]] w fun e w' =>
      e = .returned (.tuple #[]) ∧ ∃ ord, OrdOf l ord ∧ w'.ownsRow base 3 1 (.slice A' n c') n (ord.map nv) ∧ Below base w w' := by
  rcases ho.2 with ⟨h0, rfl⟩ | ⟨g, cap, cur, rfl, hbg, hgg, _, _, _, _⟩
  · subst h0
    refine ⟨none, 0, rfl, (sort1_none none 0 42 #[.pointer (some ⟨G, 0, none⟩)] w).mono ?_⟩
    rintro e w' ⟨rfl, rfl⟩
    refine ⟨rfl, [], ⟨by rw [← hn]; exact .refl _, List.Pairwise.nil⟩, World.ownsRow_nil _ _ _ _, Below.refl _ _⟩
  refine ⟨_, cap, rfl, ?_⟩
  have hlt : g < w.heap.size := (Array.getElem?_eq_some_iff.1 hgg).1
  rcases n with _ | m
  · refine (sort1_none (some ⟨g, 0, none⟩) cap 42 #[.pointer (some ⟨G, 0, none⟩)] w).mono ?_
    rintro e w' ⟨rfl, rfl⟩
    exact ⟨rfl, [], ⟨by rw [← hn]; exact .refl _, List.Pairwise.nil⟩, ho, Below.refl _ _⟩
  have hfr : (List.range (m + 1)).map nv = (List.finRange (m + 1)).map fV := by
    rw [← finRange_vals, List.map_map]; rfl
  rw [hfr] at ho
  obtain ⟨g', cap', hv, _, _, _, _, _, hH⟩ := holds_of_ownsRow (enc := fV (m := m + 1)) ho (by intro h; cases h)
  injection hv with hv1 hv2 hv3
  injection hv1 with hv1
  injection hv1 with hv1
  subst hv1
  have H : Srt1 (fV (m := m + 1)) (loadCf l) 42 #[.pointer (some ⟨G, 0, none⟩)] g 0 (m + 1) (List.finRange (m + 1)).toArray w := by
    refine ⟨sizeInt, loadSwo l _, fun _ _ => by kernel_rfl, ?_, ⟨fV_one, hH, hlt⟩, by simp, by omega⟩
    intro q os dk hs x y
    have hbe : Below base w (sortWorld fV w g 0 q dk os) := by
      have h1 := below_putRow (enc := fV (m := m + 1)) (q := q) (d := dk) (Below.refl base w) hbg
      exact h1.trans (below_grow0 _ (by rw [size_putRow]; exact hb) os)
    refine (lcmp_any A (m + 1) c B G l x.val y.val _ (hr.below hbe hB) x.isLt y.isLt ((hbe.cell (p := ⟨G, 0, none⟩) hG).trans hc)).mono ?_
    rintro e w' ⟨rfl, q', rfl⟩
    exact ⟨rfl, q', #[], by rw [grow_empty]⟩
  refine (sort1_any H cap (List.finRange (m + 1)).toArray w (by simp) (SW.start hH)).mono ?_
  rintro e w' ⟨rfl, d', hst, hso, hds, hS⟩
  have hd : d' = (([] : List (Fin (m + 1))) ++ (d'.toList ++ [])).toArray := by simp
  have hlen : d'.toList.length = m + 1 := by simpa using hds
  have hup : Up (ltOf (loadCf l)) d'.toList := by
    refine up_of_sortedIn (x := []) (y := []) ?_
    rw [← hd, List.length_nil, Nat.zero_add, hlen]
    exact hso
  have hS' : SW fV w g 0 d'.toList.toArray w' := by simpa using hS
  obtain ⟨o1, o2⟩ := sort_own ho hlen hS' hb
  refine ⟨rfl, d'.toList.map Fin.val, ord_of hn.symm (by simpa using hst) hup, ?_, o2⟩
  rw [List.map_map]
  exact o1

/-! ### The least, and where it is first -/
set_option maxRecDepth 100000 in
set_option maxHeartbeats 1000000 in
theorem min_any (A : Option Addr) (c B : Nat) (s : List Int) (w : World) (hr : Rd w B 1 A s.length (s.map iv)) (h0 : 0 < s.length) (hl : s.length ≤ 140737488355328) :
    Calls Tryd.prog 45 #[.slice A s.length c] w fun e w' => e = .returned (.int .i64 (atD s (leastAt s))) ∧ w = w' := by
  obtain ⟨n, hn⟩ : ∃ n, n = s.length := ⟨_, rfl⟩
  rw [leastAt, ← hn]
  rw [← hn] at hr h0 hl
  clear hn
  obtain ⟨ad, hA, _, g0⟩ := hr.int_ h0
  have hi0 : (0 : Int) < (n : Int) := by omega
  have hst : leastTo s 1 = 0 := leastTo_one s
  have HST := Lib.hid hst
  obtain ⟨z, hz⟩ : ∃ z, z = atD s 0 := ⟨_, rfl⟩
  have HZ := Lib.hid hz
  rw [← hz] at g0
  have g0' : w.cell? ad = some (.int .i64 z) := by simpa [Addr.add] using g0
  subst hA
  clear hz hst g0
  go_enter Tryd.func45, Tryd.ntmps45
  go_wp2_with fail
  go_loopw [3, 4] (fun x i wr => ∃ k : Nat, ∃ a : Int, 1 ≤ k ∧ k ≤ n ∧ i = .int .i64 k ∧ x = .int .i64 a ∧ Hid (a = atD s (leastTo s k)) ∧ w = wr) (fun _ i _ => n - (intOf i).toNat)
  case atStart => exact ⟨1, z, Nat.le_refl _, h0, rfl, rfl, Lib.hid (by rw [HST.out, HZ.out]), rfl⟩
  case round =>
    obtain ⟨k, a, hk1, hk, rfl, rfl, HA, rfl⟩ := hrel
    by_cases hlt : k < n
    · obtain ⟨ad', e, _, g1⟩ := hr.int_ hlt
      injection e with e
      subst e
      obtain ⟨y, hy⟩ : ∃ y, y = atD s k := ⟨_, rfl⟩
      have HY := Lib.hid hy
      rw [← hy] at g1
      clear hy
      have hi1 : (0 : Int) ≤ (k : Int) := by omega
      have hi2 : (k : Int) < (n : Int) := by omega
      have HS : Hid (min a y = atD s (leastTo s (k + 1))) := Lib.hid (by
        rw [leastTo, HA.out, HY.out]
        split <;> omega)
      go_wp2_with fail
      go_roundw
      case rel => exact ⟨k + 1, _, by omega, by omega, by go_num, rfl, HS, trivial⟩
      case measure => simp [intOf]; omega
    · go_wp2_with fail
      go_ret
      have hkn : k = n := by omega
      rw [← hkn, HA.out]
      exact ⟨rfl, rfl⟩

set_option maxRecDepth 100000 in
set_option maxHeartbeats 1000000 in
theorem index_any (A : Option Addr) (c B : Nat) (s : List Int) (w : World) (hr : Rd w B 1 A s.length (s.map iv)) (h0 : 0 < s.length) (hl : s.length ≤ 140737488355328) :
    Calls Tryd.prog 44 #[.slice A s.length c, .int .i64 (atD s (leastAt s))] w fun e w' => e = .returned (.int .i64 (leastAt s : Nat)) ∧ w = w' := by
  have hL := leastAt_is h0
  obtain ⟨q, hq⟩ : ∃ q, q = leastAt s := ⟨_, rfl⟩
  rw [← hq] at hL ⊢
  clear hq
  obtain ⟨n, hn⟩ : ∃ n, n = s.length := ⟨_, rfl⟩
  rw [← hn] at hr h0 hl hL ⊢
  clear hn
  have hqn := hL.lt
  obtain ⟨x, hx⟩ : ∃ x, x = atD s q := ⟨_, rfl⟩
  have HX := Lib.hid hx
  rw [← hx]
  clear hx
  have HL := Lib.hid hL
  clear hL
  go_enter Tryd.func44, Tryd.ntmps44
  go_wp2_with fail
  go_loopw [8] (fun i wr => ∃ k : Nat, k ≤ q ∧ i = .int .i64 k ∧ w = wr) (fun i _ => n - (intOf i).toNat)
  case atStart => exact ⟨0, Nat.zero_le _, rfl, rfl⟩
  case round =>
    obtain ⟨k, hk, rfl, rfl⟩ := hrel
    have hlt : k < n := by omega
    obtain ⟨ad, rfl, _, g1⟩ := hr.int_ hlt
    have hi1 : (0 : Int) ≤ (k : Int) := by omega
    have hi2 : (k : Int) < (n : Int) := by omega
    by_cases hkq : k = q
    · subst hkq
      rw [← HX.out] at g1
      go_wp2_with fail
      go_ret
      exact ⟨rfl, rfl⟩
    · have hne : ¬ x = atD s k := by
        have := HL.out.first k (by omega)
        rw [HX.out]; omega
      generalize atD s k = y at *
      go_wp2_with fail
      go_roundw
      case rel => exact ⟨k + 1, by omega, by go_num, trivial⟩
      case measure => simp [intOf]; omega
end Go.Proofs.YtelailhghhjleaaDoor
