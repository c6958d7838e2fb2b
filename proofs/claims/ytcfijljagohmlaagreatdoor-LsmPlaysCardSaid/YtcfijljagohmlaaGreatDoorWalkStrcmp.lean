/- The walk of strings.Compare. -/
import Derived.Test.YtcfijljagohmlaaGreatDoorProg
import Derived.Test.YtcfijljagohmlaaGreatDoorPlainCmp
import Derived.Test.YtcfijljagohmlaaGreatDoorPlainLow
import Derived.Test.YtcfijljagohmlaaGreatDoorBase2
namespace Go.Proofs.YtcfijljagohmlaaGreatDoor
open Go.RowKit

set_option maxRecDepth 100000 in
set_option maxHeartbeats 1000000 in
theorem cmpstring_any (a b : ByteArray) (w : World) : Calls Tryz.prog 152 #[.string a, .string b] w fun e w' => e = .returned (.int .i64 (cmpS a b)) ∧ w = w' := by
  have hc : Lib.compareBytes a.data.toList b.data.toList = cmpS a b := by rw [compareBytes_is, cmpS, ByteArray.toList_eq, ByteArray.toList_eq]
  go_enter Tryz.func152, Tryz.ntmps152
  go_wp2
  rw [run_callFunc_extern Tryz.func171 (by kernel_rfl) (by kernel_rfl) (by kernel_rfl) (e := Extern.BytealgCompare.compare) (by kernel_rfl), Lib.run_compareString, hc]
  simp only [Result.andThen]
  rw [Oper.upon_value]
  go_wp2
  go_ret
  exact ⟨rfl, rfl⟩
set_option maxRecDepth 100000 in
set_option maxHeartbeats 1000000 in
theorem strcmp_any (a b : ByteArray) (w : World) : Calls Tryz.prog 135 #[.string a, .string b] w fun e w' => e = .returned (.int .i64 (cmpS a b)) ∧ w = w' := by
  go_enter Tryz.func135, Tryz.ntmps135
  go_wp2_with (first | (go_at_call 152; refine (cmpstring_any _ _ _).mono ?_; rintro e w' ⟨rfl, rfl⟩))
  go_ret
  exact ⟨rfl, rfl⟩
theorem cmpS_lt {a b : ByteArray} (h : klt a b = true) : cmpS a b = -1 := by rw [cmpS, if_pos (show Op.bytesLess a.toList b.toList = true from h)]
theorem cmpS_ge {a b : ByteArray} (h : klt a b = false) : cmpS a b = if a = b then 0 else 1 := by
  have h' : Op.bytesLess a.toList b.toList = false := h
  rw [cmpS, h']
  simp only [Bool.false_eq_true, if_false]
  by_cases e : a = b
  · subst e; simp
  · have : (a.toList == b.toList) = false := by simpa using fun h => e (bytes_same h)
    simp [this, e]
end Go.Proofs.YtcfijljagohmlaaGreatDoor
