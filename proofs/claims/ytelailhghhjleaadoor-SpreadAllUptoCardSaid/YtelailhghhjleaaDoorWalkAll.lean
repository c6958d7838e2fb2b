/- The walk of weirlaw4.all. -/
import Derived.Test.YtelailhghhjleaaDoorWalkEvery
namespace Go.Proofs.YtelailhghhjleaaDoor
open Go.RowKit

set_option maxRecDepth 100000 in
set_option maxHeartbeats 1000000 in
theorem all_any (A : Option Addr) (c B : Nat) (ls : List (List ByteArray)) (w : World) (hr : RdTT w B A ls) (hB : B ≤ w.heap.size) (hn : ls.length ≤ 4398046511104) (hl : (flatTo ls ls.length).length ≤ 4398046511104) :
    Calls Tryd.prog 16 #[.slice A ls.length c] w fun e w' => ∃ v, e = .returned v ∧ w'.ownsRow w.heap.size 9 1 v (flatTo ls ls.length).length ((flatTo ls ls.length).map sv) ∧ Below w.heap.size w w' := by
  obtain ⟨k, hnn⟩ : ∃ n, n = ls.length := ⟨_, rfl⟩
  rw [← hnn] at hn hl ⊢
  have HN := Lib.hid hnn
  clear hnn
  obtain ⟨s, hs⟩ : ∃ s, s = (flatTo ls k).length := ⟨_, rfl⟩
  rw [← hs] at hl ⊢
  have HS := Lib.hid hs
  clear hs
  go_enter Tryd.func16, Tryd.ntmps16
  go_wp2_with fail
  go_loopw [3, 4] (fun s i w2 => ∃ j : Nat, j ≤ k ∧ i = .int .i64 j ∧ w2.ownsRow w.heap.size 9 1 s (flatTo ls j).length ((flatTo ls j).map sv) ∧ Below w.heap.size w w2) (fun _ i _ => k - (intOf i).toNat)
  case atStart => exact ⟨0, Nat.zero_le _, rfl, World.ownsRow_nil _ _ _ _, Below.refl _ _⟩
  case round =>
    obtain ⟨j, hj, rfl, hown2, hb2⟩ := hrel
    by_cases hlt : j < k
    · obtain ⟨ad, A1, c1, rfl, g0, _, _, hr2⟩ := (hr.below (hb2.mono hB)).at_ (Below.refl _ _) (by have := HN.out; omega : j < ls.length)
      have hle := flatTo_le ls (show j + 1 ≤ k by omega)
      have hsc : flatTo ls (j + 1) = flatTo ls j ++ ls.getD j [] := rfl
      have HSC := Lib.hid hsc
      rw [hsc, List.length_append, ← HS.out] at hle
      obtain ⟨q, hq⟩ : ∃ q, q = ls.getD j [] := ⟨_, rfl⟩
      obtain ⟨p, hp⟩ : ∃ p, p = flatTo ls j := ⟨_, rfl⟩
      rw [← hq, ← hp] at hle HSC
      rw [← hq] at g0 hr2
      rw [← hp] at hown2
      clear hsc hq hp
      have hi0 : (0 : Int) ≤ (j : Int) := by omega
      have hi1 : (j : Int) < (k : Int) := by omega
      obtain ⟨m, hm⟩ : ∃ m, m = q.length := ⟨_, rfl⟩
      rw [← hm] at hle g0 hr2
      have HM := Lib.hid hm
      clear hm
      go_wp2_with (first
        | (with_reducible show wpList _ _ _ (⟨some 16, _, _, _, _, _⟩ :: _) _ _; go_must (refine wpList_rd (.tmp 11) (.tmp 15) el_str rfl rfl hown2 rfl hr2 rfl (svs_one _) (by omega) hb2.size ?_); intro v4 w4 hown4 hb4 hg4 ha4))
      go_roundw
      case rel => exact ⟨j + 1, by omega, by go_num, by rw [HSC.out, List.length_append, List.map_append, ← HM.out]; exact hown4, hb2.trans hb4⟩
      case measure => simp [intOf]; omega
    · have e : j = k := by omega
      subst e
      rw [← HS.out] at hown2
      go_wp2_with fail
      go_ret
      exact ⟨_, rfl, hown2, hb2⟩
end Go.Proofs.YtelailhghhjleaaDoor
