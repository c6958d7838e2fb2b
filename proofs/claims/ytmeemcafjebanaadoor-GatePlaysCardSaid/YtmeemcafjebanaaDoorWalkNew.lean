/- The walk of gate.New. -/
import Derived.Test.YtmeemcafjebanaaDoorWalkTake
import Derived.Deep.OwnRows
import Derived.Test.YtmeemcafjebanaaDoorPlainAligns
namespace Go.Proofs.YtmeemcafjebanaaDoor
open Go.RowKit

set_option maxRecDepth 100000 in
set_option maxHeartbeats 1000000 in
theorem new_bad (n : Int) (w : World) (hn : n < 1 ∨ 64 < n) (h0 : -9223372036854775808 ≤ n) (h1 : n ≤ 9223372036854775807) :
    Calls Tryd.prog 5 #[.int .i64 n] w fun e w' => e = .returned (.tuple #[.pointer none, .iface 66 (.int .i64 1)]) ∧ w = w' := by
  by_cases hl : n < 1
  · go_enter Tryd.func5, Tryd.ntmps5
    go_wp2
    go_ret2
    exact ⟨rfl, rfl⟩
  · have hg : 64 < n := by omega
    go_enter Tryd.func5, Tryd.ntmps5
    go_wp2
    go_ret2
    exact ⟨rfl, rfl⟩

theorem made_one (z : Value) (n : Nat) : madeCells #[z] n = (List.replicate n z).toArray := by
  rw [← toList_madeCells_one, Array.toArray_toList]
theorem newG_in {w : World} {Z : Nat → Prop} {G gw gl n : Nat} (h0 : 0 < n) (h1 : n ≤ 64)
    (hG : Blk w G 69 #[.slice (some ⟨gw, 0, none⟩) n n, .slice (some ⟨gl, 0, none⟩) n n, .int .i64 0]) (hw : Blk w gw 72 (madeCells #[.slice none 0 0] n)) (hl : Blk w gl 3 (madeCells #[.int .i64 0] n))
    (zG : ¬ Z G) (zw : ¬ Z gw) (zl : ¬ Z gl) (d1 : G ≠ gw) (d2 : G ≠ gl) (d3 : gw ≠ gl) : GateIn w Z G gw gl (List.replicate n (.slice none 0 0)) (newG n) := by
  have hn : (newG n).n = n := by simp [newG, Gat.n]
  have none_ : ∀ v ∈ List.replicate n (Value.slice none 0 0), v.ownBlock = none := fun v hv => by rw [List.eq_of_mem_replicate hv]; rfl
  have mem : ∀ (i : Nat) (v : Value), (List.replicate n (Value.slice none 0 0))[i]? = some v → v.ownBlock = none := fun i v hv => none_ v (List.mem_of_getElem? hv)
  refine ⟨newG_ok h0 h1, by rw [hn]; exact hG, by rw [made_one] at hw; exact hw, ?_, by rw [hn]; simp, ?_, zG, zw, zl, ?_, d1, d2, d3, ?_⟩
  · rw [made_one] at hl
    have e : ((newG n).last.map iv).toArray = (List.replicate n (Value.int .i64 0)).toArray := by simp [newG, iv]
    rw [e]; exact hl
  · refine ⟨by simp [newG], fun i v x hv hx => ?_, fun i j v u g hv _ e _ => ?_⟩
    · have e1 := List.eq_of_mem_replicate (List.mem_of_getElem? hv)
      have e2 : x = [] := by
        have := List.mem_of_getElem? hx
        simp only [newG, List.map_replicate] at this
        exact List.eq_of_mem_replicate this
      subst e1 e2
      exact World.ownsRow_nil _ _ _ _
    · rw [mem i v hv] at e; cases e
  · intro v hv g hg; rw [none_ v hv] at hg; cases hg
  · intro v hv g hg; rw [none_ v hv] at hg; cases hg
set_option maxRecDepth 100000 in
set_option maxHeartbeats 1000000 in
theorem new_good (n : Nat) (w : World) (Z : Nat → Prop) (h0 : 0 < n) (h1 : n ≤ 64) (hZ : ∀ k, Z k → k < w.heap.size) :
    Calls Tryd.prog 5 #[.int .i64 n] w fun e w' => ∃ G, e = .returned (.tuple #[.pointer (some ⟨G, 0, none⟩), .nilIface]) ∧ GateAt w' Z G (newG n) ∧ Keeps Z w w' := by
  have m1 := fun W => run_make_row' (P := Tryd.prog) 67 72 (.slice none 0 0) 24 Tryd.underlying67 (by kernel_rfl) rfl .i64 .i64 n (by omega) (by omega) W
  have m2 := fun W => run_make_row' (P := Tryd.prog) 31 3 (.int .i64 0) 8 Tryd.underlying31 (by kernel_rfl) rfl .i64 .i64 n (by omega) (by omega) W
  have hn1 : ¬ ((n : Int) < 1) := by omega
  have hn2 : ¬ (64 < (n : Int)) := by omega
  go_enter Tryd.func5, Tryd.ntmps5
  go_wp2
  go_region_held3 (fun _ => True) (trivial) (fail)
  all_goals go_wp2
  all_goals go_ret2
  · have b1 := ((Blk.new w 72 (madeCells #[.slice none 0 0] n)).alloc (.cells (madeCells #[.int .i64 0] n) 3)).alloc (.cells #[.slice (some ⟨w.heap.size, 0, none⟩) n n, .slice (some ⟨w.heap.size + 1, 0, none⟩) n n, .int .i64 0] 69)
    have b2 := (Blk.new (w.alloc (.cells (madeCells #[.slice none 0 0] n) 72)) 3 (madeCells #[.int .i64 0] n)).alloc (.cells #[.slice (some ⟨w.heap.size, 0, none⟩) n n, .slice (some ⟨w.heap.size + 1, 0, none⟩) n n, .int .i64 0] 69)
    have b3 := Blk.new ((w.alloc (.cells (madeCells #[.slice none 0 0] n) 72)).alloc (.cells (madeCells #[.int .i64 0] n) 3)) 69 #[.slice (some ⟨w.heap.size, 0, none⟩) n n, .slice (some ⟨w.heap.size + 1, 0, none⟩) n n, .int .i64 0]
    simp only [World.size_alloc] at b1 b2 b3
    refine ⟨_, rfl, ⟨_, _, _, GateIn.drew (newG_in h0 h1 b3 b1 b2 (fun h => ?_) (fun h => ?_) (fun h => ?_) (by omega) (by omega) (by omega))⟩, ((((Keeps.refl Z w).alloc hZ _).alloc (fun j hj => ?_) _).alloc (fun j hj => ?_) _).drew⟩
    all_goals first | (have := hZ _ h; omega) | (have := hZ _ hj; simp; omega)
  · have b1 := ((Blk.new w 3 (madeCells #[.int .i64 0] n)).alloc (.cells (madeCells #[.slice none 0 0] n) 72)).alloc (.cells #[.slice (some ⟨w.heap.size + 1, 0, none⟩) n n, .slice (some ⟨w.heap.size, 0, none⟩) n n, .int .i64 0] 69)
    have b2 := (Blk.new (w.alloc (.cells (madeCells #[.int .i64 0] n) 3)) 72 (madeCells #[.slice none 0 0] n)).alloc (.cells #[.slice (some ⟨w.heap.size + 1, 0, none⟩) n n, .slice (some ⟨w.heap.size, 0, none⟩) n n, .int .i64 0] 69)
    have b3 := Blk.new ((w.alloc (.cells (madeCells #[.int .i64 0] n) 3)).alloc (.cells (madeCells #[.slice none 0 0] n) 72)) 69 #[.slice (some ⟨w.heap.size + 1, 0, none⟩) n n, .slice (some ⟨w.heap.size, 0, none⟩) n n, .int .i64 0]
    simp only [World.size_alloc] at b1 b2 b3
    refine ⟨_, rfl, ⟨_, _, _, GateIn.drew (newG_in h0 h1 b3 b2 b1 (fun h => ?_) (fun h => ?_) (fun h => ?_) (by omega) (by omega) (by omega))⟩, ((((Keeps.refl Z w).alloc hZ _).alloc (fun j hj => ?_) _).alloc (fun j hj => ?_) _).drew⟩
    all_goals first | (have := hZ _ h; omega) | (have := hZ _ hj; simp; omega)
end Go.Proofs.YtmeemcafjebanaaDoor
