/- The walk of the reference's named. -/
import Derived.Test.YtmeemcafjebanaaGreatDoorDiskNamed
import Derived.Test.YtmeemcafjebanaaGreatDoorWalkNum
import Derived.BigQuiet
import Derived.Deep.QuietTactic
import Derived.Deep.Cut
namespace Go.Proofs.YtmeemcafjebanaaGreatDoor
open Go.RowKit

theorem all_take {l : List UInt8} {i : Nat} {ch : UInt8} (h : (l.take i).all okC = true) (hc : l[i]? = some ch) (hk : okC ch = true) : (l.take (i + 1)).all okC = true := by
  rw [List.take_add_one, hc, List.all_append, h]
  simpa using hk
theorem all_no {l : List UInt8} {i : Nat} {ch : UInt8} (hc : l[i]? = some ch) (hk : okC ch = false) : l.all okC = false := by
  rcases h : l.all okC
  · rfl
  · rw [List.all_eq_true.1 h ch (List.mem_of_getElem? hc)] at hk; cases hk
set_option maxRecDepth 100000 in
set_option maxHeartbeats 2000000 in
theorem knamed_any (s : ByteArray) (w : World) :
    Calls Tryz.prog 28 #[.string s] w fun e w' => e = .returned (.bool (namedB s)) ∧ w' = w := by
  by_cases h1 : s.toList = []
  · have HN := Lib.hid (named_empty h1)
    go_enter Tryz.func28, Tryz.ntmps28
    go_wp2_with fail
    go_ret
    exact ⟨by rw [HN.out]; rfl, rfl⟩
  have h0 : s.toList.isEmpty = false := by
    cases h : s.toList with
    | nil => exact absurd h h1
    | cons _ _ => rfl
  by_cases h2 : (s.size : Int) ≤ 20
  · have HN := Lib.hid (named_rest h1 h2)
    have h3 : ¬ (20 : Int) < (s.size : Int) := by omega
    go_enter Tryz.func28, Tryz.ntmps28
    go_upto_region 3 with fail
    go_wp2_with fail
    go_loopw [3] (fun x wr => ∃ i : Nat, i ≤ s.size ∧ x = .int .i64 i ∧ Hid ((s.data.toList.take i).all okC = true) ∧ wr = w) (fun x _ => s.size - (intOf x).toNat)
    case atStart => exact ⟨0, Nat.zero_le _, rfl, Lib.hid rfl, rfl⟩
    obtain ⟨i, hi, rfl, HJ, rfl⟩ := hrel
    by_cases hlt : i < s.size
    · have hi0 : (0 : Int) ≤ (i : Int) := by omega
      have hi1 : (i : Int) < (s.size : Int) := by omega
      go_upto_region 7 with fail
      have hch : s.data.toList[i]? = some s[i] := by
        rw [Array.getElem?_toList]
        exact Array.getElem?_eq_getElem hlt
      have HC := Lib.hid hch
      clear hch
      generalize s[i] = ch at *
      have hok : okC ch = (ch.toNat == 45 || (decide (48 ≤ ch.toNat) && decide (ch.toNat ≤ 57)) || (decide (97 ≤ ch.toNat) && decide (ch.toNat ≤ 122))) := rfl
      have hlim := ch.toNat_lt
      by_cases q1 : ch.toNat = 45
      · have hk : okC ch = true := by rw [hok, q1]; rfl
        rw [q1]
        clear hok hlim q1
        have HJ2 := Lib.hid (all_take HJ.out HC.out hk)
        clear hk
        go_wp2_with fail
        go_roundw
        case rel => exact ⟨i + 1, hlt, by go_num, HJ2, trivial⟩
        case measure => simp [intOf]; omega
      have e1 : ¬ ((ch.toNat : Int) = 45) := by omega
      by_cases q2 : ch.toNat < 48
      · have hk : okC ch = false := by rw [hok]; simp; omega
        have e2 : ((ch.toNat : Int) < 48) := by omega
        have e3 : ((ch.toNat : Int) < 97) := by omega
        clear hok hlim
        generalize ch.toNat = x at *
        have HB := Lib.hid (HN.out.trans (all_no HC.out hk))
        clear hk
        go_wp2_with fail
        go_ret
        exact ⟨by rw [HB.out]; rfl, rfl⟩
      have e2 : ¬ ((ch.toNat : Int) < 48) := by omega
      by_cases q3 : ch.toNat ≤ 57
      · have hk : okC ch = true := by rw [hok]; simp; omega
        have e3 : ¬ ((57 : Int) < (ch.toNat : Int)) := by omega
        clear hok hlim
        generalize ch.toNat = x at *
        have HJ2 := Lib.hid (all_take HJ.out HC.out hk)
        clear hk
        go_wp2_with fail
        go_roundw
        case rel => exact ⟨i + 1, hlt, by go_num, HJ2, trivial⟩
        case measure => simp [intOf]; omega
      have e3 : ((57 : Int) < (ch.toNat : Int)) := by omega
      by_cases q4 : ch.toNat < 97
      · have hk : okC ch = false := by rw [hok]; simp; omega
        have e4 : ((ch.toNat : Int) < 97) := by omega
        clear hok hlim
        generalize ch.toNat = x at *
        have HB := Lib.hid (HN.out.trans (all_no HC.out hk))
        clear hk
        go_wp2_with fail
        go_ret
        exact ⟨by rw [HB.out]; rfl, rfl⟩
      have e4 : ¬ ((ch.toNat : Int) < 97) := by omega
      by_cases q5 : ch.toNat ≤ 122
      · have hk : okC ch = true := by rw [hok]; simp; omega
        have e5 : ¬ ((122 : Int) < (ch.toNat : Int)) := by omega
        clear hok hlim
        generalize ch.toNat = x at *
        have HJ2 := Lib.hid (all_take HJ.out HC.out hk)
        clear hk
        go_wp2_with fail
        go_roundw
        case rel => exact ⟨i + 1, hlt, by go_num, HJ2, trivial⟩
        case measure => simp [intOf]; omega
      · have hk : okC ch = false := by rw [hok]; simp; omega
        have e5 : ((122 : Int) < (ch.toNat : Int)) := by omega
        clear hok hlim
        generalize ch.toNat = x at *
        have HB := Lib.hid (HN.out.trans (all_no HC.out hk))
        clear hk
        go_wp2_with fail
        go_ret
        exact ⟨by rw [HB.out]; rfl, rfl⟩
    · obtain rfl : i = s.size := by omega
      have HB : Hid (namedB s = true) := Lib.hid (by
        rw [HN.out, ← HJ.out, List.take_of_length_le]
        rw [Array.length_toList]; exact Nat.le_refl _)
      go_wp2_with fail
      go_ret
      exact ⟨by rw [HB.out]; rfl, rfl⟩
  · have HN := Lib.hid (named_long h2)
    have h3 : (20 : Int) < (s.size : Int) := by omega
    go_enter Tryz.func28, Tryz.ntmps28
    go_wp2_with fail
    go_ret
    exact ⟨by rw [HN.out]; rfl, rfl⟩
end Go.Proofs.YtmeemcafjebanaaGreatDoor
