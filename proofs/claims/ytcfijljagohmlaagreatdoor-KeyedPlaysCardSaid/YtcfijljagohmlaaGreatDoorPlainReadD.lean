/- Plain laws for the reference's reader. No program in sight. -/
import Derived.Test.YtcfijljagohmlaaGreatDoorPlainRead
namespace Go.Proofs.YtcfijljagohmlaaGreatDoor
open Go.RowKit
/-- How much the k-th byte of a number is worth. -/
def byN (k : Nat) : Nat := 128 ^ k
theorem byN_next {k : Nat} (hk : k ≤ 8) : IntKind.u64.wrap ((byN k : Int) * 128) = (byN (k + 1) : Int) := by
  have h8 : 128 ^ k ≤ 128 ^ 8 := Nat.pow_le_pow_right (by omega) hk
  have e : (byN k : Int) * 128 = ((byN (k + 1) : Nat) : Int) := by
    unfold byN; rw [Nat.pow_succ]; omega
  rw [e, IntWalk.u64_in _ (by unfold byN; rw [Nat.pow_succ]; omega)]

theorem acc_bd {X k b : Nat} (hX : X < 128 ^ k) (hk : k ≤ 9) (hb : k = 9 → b ≤ 1) : X + 128 ^ k * (b % 128) < 18446744073709551616 := by
  rcases Nat.lt_or_ge k 9 with h | h
  · have h8 : 128 ^ k ≤ 128 ^ 8 := Nat.pow_le_pow_right (by omega) (by omega)
    have : 128 ^ k * (b % 128) ≤ 128 ^ 8 * 127 := Nat.mul_le_mul h8 (by omega)
    omega
  · have : k = 9 := by omega
    subst this
    have h1 := hb rfl
    have : 128 ^ 9 * (b % 128) ≤ 128 ^ 9 * 1 := Nat.mul_le_mul (Nat.le_refl _) (by omega)
    omega
/-- The reference's own step. -/
theorem acc_mul {X k b Z Y : Nat} (hX : X < 128 ^ k) (hk : k ≤ 9) (hb : k = 9 → b ≤ 1) (hZ : Z = 128 ^ k * (b % 128)) (hY : Y = X + Z) :
    IntKind.u64.wrap ((b : Int) % 128 * (byN k : Int)) = (Z : Int) ∧ IntKind.u64.wrap ((X : Int) + (Z : Int)) = (Y : Int) := by
  have hm := acc_bd hX hk hb
  have e : (b : Int) % 128 * (byN k : Int) = ((128 ^ k * (b % 128) : Nat) : Int) := by
    rw [Int.natCast_mul, Int.mul_comm, Int.natCast_emod]; rfl
  rw [← hZ] at e hm
  have e2 : (X : Int) + (Z : Int) = (Y : Int) := by omega
  refine ⟨by rw [e, IntWalk.u64_in _ (by omega)], by rw [e2, IntWalk.u64_in _ (by omega)]⟩
theorem unzig_odd {Y : Nat} (h : Y < 18446744073709551616) (ho : Y % 2 = 1) : wrap64 (wrap64 (-wrap64 ((Y : Int) / 2)) - 1) = unzig Y := by
  have e : (Y : Int) / 2 = ((Y / 2 : Nat) : Int) := by omega
  rw [e, IntWalk.wrap64_in ((Y / 2 : Nat) : Int) (by omega), IntWalk.wrap64_in (-((Y / 2 : Nat) : Int)) (by omega), IntWalk.wrap64_in (-((Y / 2 : Nat) : Int) - 1) (by omega), unzig, if_pos ho]
theorem unzig_even {Y : Nat} (h : Y < 18446744073709551616) (ho : Y % 2 ≠ 1) : wrap64 ((Y : Int) / 2) = unzig Y := by
  have e : (Y : Int) / 2 = ((Y / 2 : Nat) : Int) := by omega
  rw [e, IntWalk.wrap64_in _ (by omega), unzig, if_neg ho]
end Go.Proofs.YtcfijljagohmlaaGreatDoor
