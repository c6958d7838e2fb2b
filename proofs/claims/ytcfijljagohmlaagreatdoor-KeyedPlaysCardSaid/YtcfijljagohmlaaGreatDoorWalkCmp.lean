/- The walks of cmp.Compare at int and string, and of cmp.Or. -/
import Derived.Test.YtcfijljagohmlaaGreatDoorProg
import Derived.Test.YtcfijljagohmlaaGreatDoorPlainCmp
namespace Go.Proofs.YtcfijljagohmlaaGreatDoor
open Go.RowKit

set_option maxRecDepth 100000 in
theorem nanI_any (x : Int) (w : World) : Calls Tryz.prog 118 #[.int .i64 x] w fun e w' => e = .returned (.bool false) ∧ w = w' := by
  go_enter Tryz.func118, Tryz.ntmps118
  go_wp2
  go_ret
  exact ⟨by simp, rfl⟩
set_option maxRecDepth 100000 in
theorem nanS_any (x : ByteArray) (w : World) : Calls Tryz.prog 119 #[.string x] w fun e w' => e = .returned (.bool false) ∧ w = w' := by
  go_enter Tryz.func119, Tryz.ntmps119
  go_wp2
  go_ret
  exact ⟨by simp, rfl⟩

set_option maxRecDepth 100000 in
set_option maxHeartbeats 400000 in
theorem cmpI_any (a b : Int) (w : World) : Calls Tryz.prog 81 #[.int .i64 a, .int .i64 b] w fun e w' => e = .returned (.int .i64 (cmpI a b)) ∧ w = w' := by
  by_cases h1 : a < b
  · have hf : cmpI a b = -1 := by rw [cmpI, if_pos h1]
    rw [hf]; clear hf
    go_enter Tryz.func81, Tryz.ntmps81
    go_wp2_with (first | (go_at_call 118; go_must (refine (nanI_any _ _).mono ?_); rintro e w' ⟨rfl, rfl⟩))
    go_ret
    exact ⟨rfl, rfl⟩
  · by_cases h2 : b < a
    · have hf : cmpI a b = 1 := by rw [cmpI, if_neg h1, if_pos h2]
      rw [hf]; clear hf
      go_enter Tryz.func81, Tryz.ntmps81
      go_wp2_with (first | (go_at_call 118; go_must (refine (nanI_any _ _).mono ?_); rintro e w' ⟨rfl, rfl⟩))
      go_ret
      exact ⟨rfl, rfl⟩
    · have hf : cmpI a b = 0 := by rw [cmpI, if_neg h1, if_neg h2]
      rw [hf]; clear hf
      go_enter Tryz.func81, Tryz.ntmps81
      go_wp2_with (first | (go_at_call 118; go_must (refine (nanI_any _ _).mono ?_); rintro e w' ⟨rfl, rfl⟩))
      go_ret
      exact ⟨rfl, rfl⟩

set_option maxRecDepth 100000 in
set_option maxHeartbeats 400000 in
theorem cmpS_any (a b : ByteArray) (w : World) : Calls Tryz.prog 82 #[.string a, .string b] w fun e w' => e = .returned (.int .i64 (cmpS a b)) ∧ w = w' := by
  rcases h1 : Op.bytesLess a.toList b.toList
  · rcases h2 : (a.toList == b.toList)
    · have hf : cmpS a b = 1 := by rw [cmpS, if_neg (by simp [h1]), if_neg (by simp [h2])]
      rw [hf]; clear hf
      go_enter Tryz.func82, Tryz.ntmps82
      go_wp2_with (first | (go_at_call 119; go_must (refine (nanS_any _ _).mono ?_); rintro e w' ⟨rfl, rfl⟩))
      go_ret
      exact ⟨rfl, rfl⟩
    · have hf : cmpS a b = 0 := by rw [cmpS, if_neg (by simp [h1]), if_pos h2]
      rw [hf]; clear hf
      go_enter Tryz.func82, Tryz.ntmps82
      go_wp2_with (first | (go_at_call 119; go_must (refine (nanS_any _ _).mono ?_); rintro e w' ⟨rfl, rfl⟩))
      go_ret
      exact ⟨rfl, rfl⟩
  · have hf : cmpS a b = -1 := by rw [cmpS, if_pos h1]
    rw [hf]; clear hf
    go_enter Tryz.func82, Tryz.ntmps82
    go_wp2_with (first | (go_at_call 119; go_must (refine (nanS_any _ _).mono ?_); rintro e w' ⟨rfl, rfl⟩))
    go_ret
    exact ⟨rfl, rfl⟩

set_option maxRecDepth 100000 in
set_option maxHeartbeats 400000 in
/-- cmp.Or of two numbers in a block of their own. -/
theorem or_any (g : Nat) (c : Nat) (x y : Int) (w : World) (h0 : w.cell? ⟨g, 0, none⟩ = some (.int .i64 x)) (h1 : w.cell? ⟨g, 1, none⟩ = some (.int .i64 y)) :
    Calls Tryz.prog 80 #[.slice (some ⟨g, 0, none⟩) 2 c] w fun e w' => e = .returned (.int .i64 (orI x y)) ∧ w = w' := by
  by_cases hx : x = 0
  · by_cases hy : y = 0
    · have hf : orI x y = 0 := by rw [orI, if_neg (by simp [hx]), hy]
      rw [hf]; clear hf
      subst hx hy
      go_enter Tryz.func80, Tryz.ntmps80
      go_wp2
      refine wp_loop_rounds 3 ?_
      iterate 3 (rw [rounds_succ]; go_wp2)
      go_ret
      exact ⟨rfl, rfl⟩
    · have hf : orI x y = y := by rw [orI, if_neg (by simp [hx])]
      rw [hf]; clear hf
      have ty : (y == 0) = false := by simpa using hy
      subst hx
      go_enter Tryz.func80, Tryz.ntmps80
      go_wp2
      refine wp_loop_rounds 2 ?_
      iterate 2 (rw [rounds_succ]; go_wp2)
      go_ret
      exact ⟨rfl, rfl⟩
  · have hf : orI x y = x := by rw [orI, if_pos hx]
    rw [hf]; clear hf
    have tx : (x == 0) = false := by simpa using hx
    go_enter Tryz.func80, Tryz.ntmps80
    go_wp2
    refine wp_loop_rounds 1 ?_
    rw [rounds_succ]
    go_wp2
    go_ret
    exact ⟨rfl, rfl⟩
end Go.Proofs.YtcfijljagohmlaaGreatDoor
