/- The walks of slices.Grow at nil, slices.Clone, slices.Concat, at texts. -/
import Derived.Test.YtelailhghhjleaaDoorWalkSpread
import Derived.Lib.AppendZerosOnto
import Derived.Lib.Walk
import Derived.Lib.SliceRun
namespace Go.Proofs.YtelailhghhjleaaDoor
open Go.RowKit

set_option maxRecDepth 100000 in
set_option maxHeartbeats 1000000 in
theorem grow_nil (n : Nat) (w : World) (hn : n ≤ 4398046511104) :
    Calls Tryd.prog 67 #[.slice none 0 0, .int .i64 n] w fun e w' => ∃ v, e = .returned v ∧ w'.ownsRow w.heap.size 9 1 v 0 [] ∧ Below w.heap.size w w' := by
  obtain ⟨i, hi, hz, hsize, hby⟩ := info_parts el_str.info
  by_cases h0 : n = 0
  · subst h0
    go_enter Tryd.func67, Tryd.ntmps67
    go_wp2
    go_ret
    exact ⟨_, rfl, World.ownsRow_nil _ _ _ _, Below.refl _ _⟩
  · have hfit : Builtin.nextslicecap (0 + n) 0 * i.bytes ≤ 281474976710656 := growslice_fits (by omega) (by rw [hby]; omega)
    have hap := fun ty => Lib.run_append_grow_zeros (P := Tryd.prog) w 33 3 ty 9 i (.string ByteArray.empty) .i64 .i64 Tryd.underlying33 Tryd.underlying3 hi hz none 0 0 [] (run_firstCells_none w.drew i.size 0 0 0) n (by omega) (by rw [hsize]; omega) (by omega) (by omega) (by rw [hby]; omega) hfit
    have hGn : 0 + n ≤ grownCap w (0 + n) 0 9 := grownCap_ge w _ _ _
    have hGm := grownCap_le_maxLen w (0 + n) 0 9 (by unfold maxLen; omega)
    obtain ⟨G, hG⟩ : ∃ G, G = grownCap w (0 + n) 0 9 := ⟨_, rfl⟩
    rw [← hG] at hap hGn hGm
    clear hG hfit hz hsize hby hi
    rw [Nat.zero_add] at hGn
    simp only [Nat.zero_add] at hap
    have hG63 : G ≤ 9223372036854775807 := by unfold maxLen at hGm; omega
    have h1 : ¬ ((n : Int) < 0) := by omega
    have h2 : (0 : Int) < (n : Int) := by omega
    go_enter Tryd.func67, Tryd.ntmps67
    go_wp2_with (at_builtin; refine Lib.wpList_append_run _ rfl _ _ _ _ rfl _ _ rfl rfl _ _ (hap _) ?_)
    go_ret
    refine ⟨_, rfl, ⟨rfl, .inr ⟨w.heap.size, G, _, rfl, Nat.le_refl _, heap_alloc_new w.drew _, Nat.zero_le _, hGm, ?_, rfl⟩⟩, ((Below.refl _ _).drew.alloc (Nat.le_refl _) _)⟩
    simp [size_zeroCells]
    omega

set_option maxRecDepth 100000 in
set_option maxHeartbeats 1000000 in
theorem clone_any (A : Option Addr) (c B : Nat) (l : List ByteArray) (w : World) (hr : Rd w B 1 A l.length (l.map sv)) (hB : B ≤ w.heap.size) (hl : l.length ≤ 4398046511104) :
    Calls Tryd.prog 40 #[.slice A l.length c] w fun e w' => ∃ v, e = .returned v ∧ w'.ownsRow w.heap.size 9 1 v l.length (l.map sv) ∧ Below w.heap.size w w' := by
  obtain ⟨n, hn⟩ : ∃ n, n = l.length := ⟨_, rfl⟩
  rw [← hn] at hr hl ⊢
  rcases A with _ | ad
  · have hn0 : n = 0 := by
      rcases Nat.eq_zero_or_pos n with h | h
      · exact h
      · obtain ⟨_, h, _⟩ := hr.2 h; cases h
    subst hn0
    have hl0 : l = [] := List.eq_nil_of_length_eq_zero hn.symm
    subst hl0
    clear hn
    have q := fun W => Lib.run_eql_slice_nil (P := Tryd.prog) W 33 9 none 0 c 0 0 Tryd.underlying33
    go_enter Tryd.func40, Tryd.ntmps40
    go_wp2
    go_ret
    exact ⟨_, rfl, World.ownsRow_nil _ _ _ _, Below.refl _ _⟩
  · clear hn
    have hb := (Below.refl w.heap.size w).alloc (Nat.le_refl _) (.cells #[] 9)
    have hown : (w.alloc (.cells #[] 9)).ownsRow w.heap.size 9 1 (.slice (some ⟨w.heap.size, 0, none⟩) 0 0) 0 [] := ⟨rfl, .inr ⟨w.heap.size, 0, _, rfl, Nat.le_refl _, heap_alloc_new w _, Nat.le_refl _, Nat.zero_le _, rfl, rfl⟩⟩
    have q := fun W => Lib.run_eql_slice_nil (P := Tryd.prog) W 33 9 (some ad) n c 0 0 Tryd.underlying33
    have hr2 := hr.alloc hB (.cells #[] 9)
    go_enter Tryd.func40, Tryd.ntmps40
    go_wp2_with (first
      | (with_reducible show wpList _ _ _ (⟨some 7, _, _, _, _, _⟩ :: _) _ _; go_must (refine wpList_rd (.tmp 5) (.tmp 6) el_str rfl rfl hown rfl hr2 rfl (svs_one _) (by omega) (by simp) ?_); intro v1 w1 hown1 hb1 hg1 ha1))
    go_ret
    exact ⟨v1, rfl, by simpa using hown1, hb.trans hb1⟩
end Go.Proofs.YtelailhghhjleaaDoor
