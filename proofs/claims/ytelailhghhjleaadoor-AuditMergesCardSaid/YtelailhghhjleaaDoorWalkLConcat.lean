/- The walks of slices.Grow at nil and slices.Concat, at lines. -/
import Derived.Test.YtelailhghhjleaaDoorWalkLines
import Derived.Lib.AppendZerosOnto
import Derived.Lib.Walk
import Derived.Lib.SliceRun
namespace Go.Proofs.YtelailhghhjleaaDoor
open Go.RowKit

theorem el_line : Elt Tryd.prog 56 64 (.agg #[.string ByteArray.empty, .slice none 0 0]) 2 40 := ⟨Tryd.underlying56, by kernel_rfl, rfl, by omega, by omega⟩
theorem plCells_append (a b : List Pl) : plCells (a ++ b) = plCells a ++ plCells b := by simp [plCells]
set_option maxRecDepth 100000 in
set_option maxHeartbeats 1000000 in
theorem lgrow_nil (n : Nat) (w : World) (hn : n ≤ 1099511627776) :
    Calls Tryd.prog 74 #[.slice none 0 0, .int .i64 n] w fun e w' => ∃ v, e = .returned v ∧ w'.ownsRow w.heap.size 64 2 v 0 [] ∧ Below w.heap.size w w' := by
  obtain ⟨i, hi, hz, hsize, hby⟩ := info_parts el_line.info
  by_cases h0 : n = 0
  · subst h0
    go_enter Tryd.func74, Tryd.ntmps74
    go_wp2
    go_ret
    exact ⟨_, rfl, World.ownsRow_nil _ _ _ _, Below.refl _ _⟩
  · have hfit : Builtin.nextslicecap (0 + n) 0 * i.bytes ≤ 281474976710656 := growslice_fits (by omega) (by rw [hby]; omega)
    have hap := fun ty => Lib.run_append_grow_zeros (P := Tryd.prog) w 56 3 ty 64 i (.agg #[.string ByteArray.empty, .slice none 0 0]) .i64 .i64 Tryd.underlying56 Tryd.underlying3 hi hz none 0 0 [] (run_firstCells_none w.drew i.size 0 0 0) n (by omega) (by rw [hsize]; omega) (by omega) (by omega) (by rw [hby]; omega) hfit
    have hGn : 0 + n ≤ grownCap w (0 + n) 0 64 := grownCap_ge w _ _ _
    have hGm := grownCap_le_maxLen w (0 + n) 0 64 (by unfold maxLen; omega)
    obtain ⟨G, hG⟩ : ∃ G, G = grownCap w (0 + n) 0 64 := ⟨_, rfl⟩
    rw [← hG] at hap hGn hGm
    clear hG hfit hz hsize hby hi
    rw [Nat.zero_add] at hGn
    simp only [Nat.zero_add] at hap
    have hG63 : G ≤ 9223372036854775807 := by unfold maxLen at hGm; omega
    have h1 : ¬ ((n : Int) < 0) := by omega
    have h2 : (0 : Int) < (n : Int) := by omega
    go_enter Tryd.func74, Tryd.ntmps74
    go_wp2_with (at_builtin; refine Lib.wpList_append_run _ rfl _ _ _ _ rfl _ _ rfl rfl _ _ (hap _) ?_)
    go_ret
    refine ⟨_, rfl, ⟨rfl, .inr ⟨w.heap.size, G, _, rfl, Nat.le_refl _, heap_alloc_new w.drew _, Nat.zero_le _, hGm, ?_, rfl⟩⟩, ((Below.refl _ _).drew.alloc (Nat.le_refl _) _)⟩
    simp [size_zeroCells]
    omega

/-- A slice of slices of lines reads as these lists, all below block B. -/
def RdPP (w : World) (B : Nat) (A : Option Addr) (ls : List (List Pl)) : Prop :=
  0 < ls.length → ∃ ad, A = some ad ∧ ad.block < B ∧ ∀ (i : Nat) (l : List Pl), ls[i]? = some l → ∃ A' c, w.cell? (ad.add i) = some (.slice A' l.length c) ∧ l.length ≤ c ∧ c ≤ maxLen ∧ Rd w B 2 A' l.length (plCells l)
theorem RdPP.at_ {w w' : World} {B : Nat} {A : Option Addr} {ls : List (List Pl)} (h : RdPP w B A ls) (hb : Below B w w') {i : Nat} (hi : i < ls.length) :
    ∃ ad A' c, A = some ad ∧ w'.cell? (ad.add i) = some (.slice A' (ls.getD i []).length c) ∧ (ls.getD i []).length ≤ c ∧ c ≤ maxLen ∧ Rd w' B 2 A' (ls.getD i []).length (plCells (ls.getD i [])) := by
  obtain ⟨ad, e, hlt, hc⟩ := h (by omega)
  have hx : ls[i]? = some (ls.getD i []) := by rw [List.getD_eq_getElem?_getD, List.getElem?_eq_getElem hi]; rfl
  obtain ⟨A', c, h1, h2, h3, h4⟩ := hc i _ hx
  exact ⟨ad, A', c, e, (hb.cell (by rw [block_add]; exact hlt)).trans h1, h2, h3, h4.below hb (Nat.le_refl _)⟩
theorem RdPP.below {w w' : World} {B : Nat} {A : Option Addr} {ls : List (List Pl)} (h : RdPP w B A ls) (hb : Below B w w') : RdPP w' B A ls := by
  intro hn
  obtain ⟨ad, e, hlt, hc⟩ := h hn
  refine ⟨ad, e, hlt, fun i l hi => ?_⟩
  obtain ⟨A', c, h1, h2, h3, h4⟩ := hc i l hi
  exact ⟨A', c, (hb.cell (by rw [block_add]; exact hlt)).trans h1, h2, h3, h4.below hb (Nat.le_refl _)⟩
/-- The first k lists, one behind the other. -/
def flatP (ls : List (List Pl)) : Nat → List Pl
  | 0 => []
  | k + 1 => flatP ls k ++ ls.getD k []
theorem flatP_le (ls : List (List Pl)) {a b : Nat} (h : a ≤ b) : (flatP ls a).length ≤ (flatP ls b).length := by
  induction b with
  | zero => have : a = 0 := by omega
            subst this; exact Nat.le_refl _
  | succ b ih =>
    by_cases e : a = b + 1
    · subst e; exact Nat.le_refl _
    · have := ih (by omega)
      rw [flatP, List.length_append]; omega

set_option maxRecDepth 100000 in
set_option maxHeartbeats 1000000 in
theorem lconcat_any (A : Option Addr) (c B : Nat) (ls : List (List Pl)) (w : World) (hr : RdPP w B A ls) (hB : B ≤ w.heap.size) (hn : ls.length ≤ 1099511627776) (hl : (flatP ls ls.length).length ≤ 1099511627776) :
    Calls Tryd.prog 55 #[.slice A ls.length c] w fun e w' => ∃ v, e = .returned v ∧ w'.ownsRow w.heap.size 64 2 v (flatP ls ls.length).length (plCells (flatP ls ls.length)) ∧ Below w.heap.size w w' := by
  obtain ⟨n, hnn⟩ : ∃ n, n = ls.length := ⟨_, rfl⟩
  rw [← hnn] at hn hl ⊢
  have HN := Lib.hid hnn
  clear hnn
  go_enter Tryd.func55, Tryd.ntmps55
  go_wp2_with fail
  go_loopw [3, 11] (fun s i wr => ∃ k : Nat, k ≤ n ∧ i = .int .i64 k ∧ s = .int .i64 (flatP ls k).length ∧ wr = w) (fun _ i _ => n - (intOf i).toNat)
  case atStart => exact ⟨0, Nat.zero_le _, rfl, rfl, rfl⟩
  case round =>
    obtain ⟨k, hk, rfl, rfl, rfl⟩ := hrel
    by_cases hlt : k < n
    · obtain ⟨ad, A1, c1, rfl, g0, _, _, _⟩ := hr.at_ (Below.refl _ _) (by have := HN.out; omega : k < ls.length)
      have hle := flatP_le ls (show k + 1 ≤ n by omega)
      have hsc : (flatP ls (k + 1)).length = (flatP ls k).length + (ls.getD k []).length := by rw [flatP, List.length_append]
      have HSC := Lib.hid hsc
      rw [hsc] at hle
      obtain ⟨s, hs⟩ : ∃ s, s = (flatP ls k).length := ⟨_, rfl⟩
      obtain ⟨m, hm⟩ : ∃ m, m = (ls.getD k []).length := ⟨_, rfl⟩
      rw [← hs, ← hm] at hle HSC
      rw [← hm] at g0
      rw [← hs]
      clear hsc hs hm
      have hi0 : (0 : Int) ≤ (k : Int) := by omega
      have hi1 : (k : Int) < (n : Int) := by omega
      have h0 : ¬ ((s : Int) + (m : Int) < 0) := by omega
      go_wp2_with fail
      go_roundw
      case rel => exact ⟨k + 1, by omega, by go_num, by rw [HSC.out]; go_num, trivial⟩
      case measure => simp [intOf]; omega
    · have e : k = n := by omega
      subst e
      have hgr := lgrow_nil (flatP ls k).length wr hl
      obtain ⟨s, hs⟩ : ∃ s, s = (flatP ls k).length := ⟨_, rfl⟩
      rw [← hs] at hgr hl ⊢
      have HS := Lib.hid hs
      clear hs
      go_wp2_with (first | (go_at_call 74; refine hgr.mono ?_; rintro e w1 ⟨v1, rfl, hown1, hb1⟩))
      go_loopw [6, 27] (fun s i w2 => ∃ j : Nat, j ≤ k ∧ i = .int .i64 j ∧ w2.ownsRow wr.heap.size 64 2 s (flatP ls j).length (plCells (flatP ls j)) ∧ Below wr.heap.size wr w2) (fun _ i _ => k - (intOf i).toNat)
      case atStart => exact ⟨0, Nat.zero_le _, rfl, hown1, hb1⟩
      case round =>
        clear hown1 hb1
        obtain ⟨j, hj, rfl, hown2, hb2⟩ := hrel
        by_cases hlt : j < k
        · obtain ⟨ad, A1, c1, rfl, g0, _, _, hr2⟩ := (hr.below (hb2.mono hB)).at_ (Below.refl _ _) (by have := HN.out; omega : j < ls.length)
          have hle := flatP_le ls (show j + 1 ≤ k by omega)
          have hsc : flatP ls (j + 1) = flatP ls j ++ ls.getD j [] := rfl
          have HSC := Lib.hid hsc
          rw [hsc, List.length_append, ← HS.out] at hle
          obtain ⟨q, hq⟩ : ∃ q, q = ls.getD j [] := ⟨_, rfl⟩
          obtain ⟨p, hp⟩ : ∃ p, p = flatP ls j := ⟨_, rfl⟩
          rw [← hq, ← hp] at hle HSC
          rw [← hq] at g0 hr2
          rw [← hp] at hown2
          clear hsc hq hp
          have hi0 : (0 : Int) ≤ (j : Int) := by omega
          have hi1 : (j : Int) < (k : Int) := by omega
          obtain ⟨m, hm⟩ : ∃ m, m = q.length := ⟨_, rfl⟩
          rw [← hm] at hle g0 hr2
          have HM := Lib.hid hm
          clear hm
          go_wp2_with (first
            | (with_reducible show wpList _ _ _ (⟨some 33, _, _, _, _, _⟩ :: _) _ _; go_must (refine wpList_rd (.tmp 31) (.tmp 32) el_line rfl rfl hown2 rfl hr2 rfl (plCells_one _) (by omega) hb2.size ?_); intro v4 w4 hown4 hb4 hg4 ha4))
          go_roundw
          case rel => exact ⟨j + 1, by omega, by go_num, by rw [HSC.out, List.length_append, plCells_append, ← HM.out]; exact hown4, hb2.trans hb4⟩
          case measure => simp [intOf]; omega
        · have e : j = k := by omega
          subst e
          rw [← HS.out] at hown2
          go_wp2_with fail
          go_ret
          exact ⟨_, rfl, by rw [← HS.out]; exact hown2, hb2⟩
theorem lconcat_two {A1 A2 : Option Addr} {c1 c2 B n1 n2 : Nat} {p1 p2 : List Pl} {w : World} (hr1 : RdPs w B A1 n1 p1) (hr2 : RdPs w B A2 n2 p2) (hB : B ≤ w.heap.size) (hc1 : n1 ≤ c1) (hc2 : n2 ≤ c2) (hm1 : c1 ≤ maxLen) (hm2 : c2 ≤ maxLen) (hl : n1 + n2 ≤ 1099511627776) {N : Nat} (hNN : N = n1 + n2) :
    Calls Tryd.prog 55 #[.slice (some ⟨w.heap.size, 0, none⟩) 2 2] (w.alloc (.cells #[.slice A1 n1 c1, .slice A2 n2 c2] 56)) fun e w' => ∃ A3 c3, e = .returned (.slice A3 N c3) ∧ Rd w' w'.heap.size 2 A3 N (plCells (p1 ++ p2)) ∧ Below w.heap.size w w' := by
  have hb := (Below.refl w.heap.size w).alloc (Nat.le_refl _) (.cells #[.slice A1 n1 c1, .slice A2 n2 c2] 56)
  have hx := Blk.new w 56 #[.slice A1 n1 c1, .slice A2 n2 c2]
  obtain ⟨x0, x1⟩ := cells2 hx
  have hfl : flatP [p1, p2] [p1, p2].length = p1 ++ p2 := by simp [flatP]
  have hN : (p1 ++ p2).length = n1 + n2 := by rw [List.length_append, hr1.len, hr2.len]
  have hP : RdPP (w.alloc (.cells #[.slice A1 n1 c1, .slice A2 n2 c2] 56)) (w.heap.size + 1) (some ⟨w.heap.size, 0, none⟩) [p1, p2] := by
    intro _
    refine ⟨_, rfl, by simp, fun i l hi => ?_⟩
    rcases i with _ | _ | i
    · obtain rfl : p1 = l := by simpa using hi
      exact ⟨A1, c1, by rw [hr1.len]; exact x0, by rw [hr1.len]; exact hc1, hm1, by rw [hr1.len]; exact (hr1.rd.below hb hB).more (by omega)⟩
    · obtain rfl : p2 = l := by simpa using hi
      exact ⟨A2, c2, by rw [hr2.len]; exact x1, by rw [hr2.len]; exact hc2, hm2, by rw [hr2.len]; exact (hr2.rd.below hb hB).more (by omega)⟩
    · simp at hi
  have hc := lconcat_any (some ⟨w.heap.size, 0, none⟩) 2 (w.heap.size + 1) [p1, p2] _ hP (by simp) (by simp) (by rw [hfl, hN]; exact hl)
  refine hc.mono ?_
  rintro e w' ⟨v, rfl, ho, hb2⟩
  rw [hfl, hN, ← hNN] at ho
  obtain ⟨A3, c3, rfl, _, _, _, r3⟩ := own_form ho
  exact ⟨A3, c3, rfl, r3, hb.trans (hb2.mono (by simp))⟩

end Go.Proofs.YtelailhghhjleaaDoor
