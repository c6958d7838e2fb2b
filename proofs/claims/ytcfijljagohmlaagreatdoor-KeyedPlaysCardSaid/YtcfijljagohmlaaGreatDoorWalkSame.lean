/- The walks of weirsame.Records and weirsame.Helds. -/
import Derived.Test.YtcfijljagohmlaaGreatDoorPlainSame
import Derived.Test.YtcfijljagohmlaaGreatDoorBase2
import Derived.Test.YtcfijljagohmlaaGreatDoorErr
import Derived.Laws.StructEq
import Derived.BigQuiet
import Derived.Deep.QuietTactic
namespace Go.Proofs.YtcfijljagohmlaaGreatDoor
open Go.RowKit

theorem bytes_inj {a b : ByteArray} (h : a.toList = b.toList) : a = b := by
  rw [ByteArray.toList_eq, ByteArray.toList_eq] at h
  rcases a with ⟨⟨x⟩⟩; rcases b with ⟨⟨y⟩⟩
  simp only at h; rw [h]

theorem hld_ne (w : World) (x y : Hld) (h : x ≠ y) : (binOp .neq 29 (.agg #[.int .i64 x.node, .string x.key, .int .i64 x.a, .int .i64 x.b]) (.agg #[.int .i64 y.node, .string y.key, .int .i64 y.a, .int .i64 y.b])).run Tryz.prog w = .ok (.bool true) w := by
  rw [run_neq_struct, run_equalIn_agg w _ _ _ _ (by kernel_rfl) (by kernel_rfl)]
  simp [Program.fieldsOf, Tryz.underlying29, go_sem]
  intro h0 h1 h2 h3
  rcases x with ⟨n, a, b, c⟩; rcases y with ⟨n', a', b', c'⟩
  simp only at h0 h1 h2 h3
  exact h (by rw [h0, bytes_inj h1, h2, h3])
theorem hld_eq (w : World) (x : Hld) : (binOp .neq 29 (.agg #[.int .i64 x.node, .string x.key, .int .i64 x.a, .int .i64 x.b]) (.agg #[.int .i64 x.node, .string x.key, .int .i64 x.a, .int .i64 x.b])).run Tryz.prog w = .ok (.bool false) w := by
  rw [run_neq_struct, run_equalIn_agg w _ _ _ _ (by kernel_rfl) (by kernel_rfl)]
  simp [Program.fieldsOf, Tryz.underlying29, go_sem]

set_option maxRecDepth 100000 in
set_option maxHeartbeats 4000000 in
theorem samehelds_any (A A' : Option Addr) (c c' B : Nat) (x y : List Hld) (w : World) (hx : Rd w B 4 A x.length (hldCells x)) (hy : Rd w B 4 A' y.length (hldCells y)) (hB : B ≤ w.heap.size) (hlx : x.length ≤ 140737488355328) (hly : y.length ≤ 140737488355328) :
    Calls Tryz.prog 15 #[.slice A x.length c, .slice A' y.length c'] w fun e w' => ∃ b : Bool, e = .returned (.bool b) ∧ (b = true ↔ x = y) ∧ Below w.heap.size w w' := by
  obtain ⟨n, hn⟩ : ∃ n, n = x.length := ⟨_, rfl⟩
  obtain ⟨m, hm⟩ : ∃ m, m = y.length := ⟨_, rfl⟩
  have Hn := Lib.hid hn
  have Hm := Lib.hid hm
  rw [← hn] at hx hlx ⊢
  rw [← hm] at hy hly ⊢
  clear hn hm
  by_cases hnm : n = m
  · subst hnm
    go_enter Tryz.func15, Tryz.ntmps15
    go_wp2
    go_loopw [5] (fun i wr => ∃ k : Nat, k ≤ n ∧ i = .int .i64 k ∧ Hid (Agree x y k) ∧ Below w.heap.size w wr) (fun i _ => n - (intOf i).toNat)
    case atStart => exact ⟨0, Nat.zero_le _, rfl, Agree.zero _ _, Below.refl _ _⟩
    case round =>
      obtain ⟨k, hk, rfl, HA, hbel⟩ := hrel
      have hi : IntKind.i64.wrap (k : Int) = (k : Int) := IntWalk.i64_in _ (by omega)
      have hi0 : (0 : Int) ≤ (k : Int) := by omega
      by_cases hlt : k < n
      · have hi1 : (k : Int) < (n : Int) := by omega
        obtain ⟨ad, r, rfl, _, hxr, g0, g1, g2, g3⟩ := hx.hld_ hlt Hn.out.symm hbel hB
        obtain ⟨ad', r', rfl, _, hyr, p0, p1, p2, p3⟩ := hy.hld_ hlt Hm.out.symm hbel hB
        have HX := Lib.hid hxr
        have HY := Lib.hid hyr
        clear hxr hyr
        by_cases he : r = r'
        · subst he
          have hne := fun w => hld_eq w r
          go_wp2
          go_quiet (fail)
          go_wp2
          go_roundw
          case rel => exact ⟨k + 1, by omega, by go_num, HA.out.step HX.out HY.out rfl, below_drewN hbel nq⟩
          case measure => simp [intOf]; omega
        · have hne := fun w => hld_ne w r r' he
          have HE := Lib.hid he
          clear he
          go_wp2
          go_quiet (fail)
          go_wp2
          go_ret
          exact ⟨false, rfl, ⟨fun h => (by cases h), fun h => absurd h (agree_ne HX.out HY.out HE.out)⟩, below_drewN hbel nq⟩
      · go_wp2
        go_ret
        exact ⟨true, rfl, ⟨fun _ => HA.out.done (by have := Hn.out; omega) (by rw [← Hn.out, ← Hm.out]), fun _ => rfl⟩, hbel⟩
  · have hnm' : ¬ ((n : Int) = (m : Int)) := by omega
    go_enter Tryz.func15, Tryz.ntmps15
    go_wp2
    go_ret
    exact ⟨false, rfl, ⟨fun h => (by cases h), fun h => absurd (by rw [Hn.out, Hm.out, h]) hnm⟩, Below.refl _ _⟩
end Go.Proofs.YtcfijljagohmlaaGreatDoor
