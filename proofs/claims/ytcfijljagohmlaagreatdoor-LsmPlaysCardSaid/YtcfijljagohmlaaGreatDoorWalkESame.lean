/- The walk of weirref2.Same at two equal lists of entries. -/
import Derived.Test.YtcfijljagohmlaaGreatDoorProg
import Derived.Test.YtcfijljagohmlaaGreatDoorPlainTab
import Derived.Test.YtcfijljagohmlaaGreatDoorBase2
import Derived.Laws.StructEq
import Derived.BigQuiet
import Derived.Deep.QuietTactic
namespace Go.Proofs.YtcfijljagohmlaaGreatDoor
open Go.RowKit

theorem ent_eq (w : World) (x : Ent) : (binOp .neq 67 (.agg #[.string x.key, .string x.value, .bool x.dead]) (.agg #[.string x.key, .string x.value, .bool x.dead])).run Tryz.prog w = .ok (.bool false) w := by
  rw [run_neq_struct, run_equalIn_agg w _ _ _ _ (by kernel_rfl) (by kernel_rfl)]
  simp [Program.fieldsOf, Tryz.underlying67, go_sem]

set_option maxRecDepth 100000 in
set_option maxHeartbeats 4000000 in
theorem ents_same (A A' : Option Addr) (c c' B : Nat) (l : List Ent) (w : World) (hx : Rd w B 3 A l.length (entCells l)) (hy : Rd w B 3 A' l.length (entCells l)) (hl : l.length ≤ 140737488355328) :
    Calls Tryz.prog 33 #[.slice A l.length c, .slice A' l.length c'] w fun e w' => e = .returned (.bool true) ∧ ∃ q, w' = w.drewN q := by
  obtain ⟨n, hn⟩ : ∃ n, n = l.length := ⟨_, rfl⟩
  have Hn := Lib.hid hn
  rw [← hn] at hx hy hl ⊢
  clear hn
  go_enter Tryz.func33, Tryz.ntmps33
  go_wp2_with fail
  go_loopw [5] (fun i wr => ∃ k q : Nat, k ≤ n ∧ i = .int .i64 k ∧ wr = w.drewN q) (fun i _ => n - (intOf i).toNat)
  case atStart => exact ⟨0, 0, Nat.zero_le _, rfl, rfl⟩
  case round =>
    obtain ⟨k, q, hk, rfl, hw⟩ := hrel
    have HW := Lib.hid hw
    by_cases hlt : k < n
    · obtain ⟨ad, p, rfl, _, hp, g0, g1, g2⟩ := (show Rd wr B 3 A n (entCells l) by rw [hw]; exact hx.drewN q).ent_ hlt Hn.out.symm (Below.refl B wr) (Nat.le_refl _)
      obtain ⟨ad', p', rfl, _, hp', p0, p1, p2⟩ := (show Rd wr B 3 A' n (entCells l) by rw [hw]; exact hy.drewN q).ent_ hlt Hn.out.symm (Below.refl B wr) (Nat.le_refl _)
      have hpp : p' = p := by rw [hp] at hp'; injection hp' with e; exact e.symm
      subst hpp
      clear hp hp' hw
      have hi0 : (0 : Int) ≤ (k : Int) := by omega
      have hi1 : (k : Int) < (n : Int) := by omega
      have hq := fun W => ent_eq W p'
      go_wp2_with fail
      go_quiet (fail)
      go_wp2_with fail
      go_roundw
      case rel => exact ⟨k + 1, q + nq, by omega, by go_num, by rw [HW.out, World.drewN_drewN]⟩
      case measure => simp [intOf]; omega
    · clear hw
      go_wp2_with fail
      go_ret
      exact ⟨rfl, q, HW.out⟩
end Go.Proofs.YtcfijljagohmlaaGreatDoor
