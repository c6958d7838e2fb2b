/- The walk of disk.Named: what a name is. -/
import Derived.Test.YtmeemcafjebanaaGreatDoorPlainDisk
import Derived.Test.YtmeemcafjebanaaGreatDoorShelfDisk
import Derived.Deep.RegionLaw
namespace Go.Proofs.YtmeemcafjebanaaGreatDoor
open Go.RowKit Go.Shelf

theorem named_empty {s : ByteArray} (h : s.toList = []) : namedB s = false := by
  have h1 : s.size = 0 := by
    rw [ByteArray.toList_eq] at h
    show s.data.size = 0
    rw [← Array.length_toList, h]; rfl
  simp [namedB, h1]
theorem named_long {s : ByteArray} (h : ¬ ((s.size : Int) ≤ 20)) : namedB s = false := by
  have h1 : decide (s.size ≤ 20) = false := by simp; omega
  simp [namedB, h1]
theorem named_rest {s : ByteArray} (h1 : ¬ s.toList = []) (h2 : (s.size : Int) ≤ 20) : namedB s = s.data.toList.all okC := by
  have h3 : 0 < s.size := by
    rcases Nat.eq_zero_or_pos s.size with h | h
    · exfalso
      apply h1
      rw [ByteArray.toList_eq]
      exact List.eq_nil_of_length_eq_zero (by rw [Array.length_toList]; exact h)
    · exact h
  have h4 : s.size ≤ 20 := by omega
  simp [namedB, h3, h4]
theorem trim_is (s : ByteArray) : (ByteArray.mk (Lib.trimS s.data.toList cutS).toArray).toList.isEmpty = s.data.toList.all okC := by
  rw [← trim_cut, ByteArray.toList_eq]
set_option maxRecDepth 100000 in
set_option maxHeartbeats 1000000 in
theorem named_any (s : ByteArray) (w : World) (hs : s.size ≤ 9223372036854775807) :
    Calls Tryz.prog 32 #[.string s] w fun e w' => e = .returned (.bool (namedB s)) ∧ Below w.heap.size w w' := by
  have htr : Calls Tryz.prog 52 #[.string s, .string ⟨#[97, 98, 99, 100, 101, 102, 103, 104, 105, 106, 107, 108, 109, 110, 111, 112, 113, 114, 115, 116, 117, 118, 119, 120, 121, 122, 48, 49, 50, 51, 52, 53, 54, 55, 56, 57, 45]⟩] w fun e w' => ∃ T : ByteArray, e = .returned (.string T) ∧ Hid (T.toList.isEmpty = s.data.toList.all okC) ∧ Below w.heap.size w w' :=
    (Any.strings_Trim_laid laysTrim (by kernel_rfl) s ⟨#[97, 98, 99, 100, 101, 102, 103, 104, 105, 106, 107, 108, 109, 110, 111, 112, 113, 114, 115, 116, 117, 118, 119, 120, 121, 122, 48, 49, 50, 51, 52, 53, 54, 55, 56, 57, 45]⟩ w hs (by decide +kernel) (ascii_of_all (by decide +kernel))).mono fun e w' ⟨h1, h2⟩ => ⟨_, h1, Lib.hid (trim_is s), h2⟩
  go_enter Tryz.func32, Tryz.ntmps32
  go_wp2_with (go_at_call 52; go_must (refine htr.mono ?_); rintro e w1 ⟨T, rfl, HT, hb1⟩)
  · rename_i h1
    go_ret
    exact ⟨by rw [named_empty h1]; rfl, Below.refl _ _⟩
  · rename_i h1 h2
    go_ret
    refine ⟨?_, hb1⟩
    have h3 : s.toList.isEmpty = false := by
      cases h : s.toList with
      | nil => exact absurd h h1
      | cons _ _ => rfl
    rw [named_rest h1 h2, HT.out, h3]
    rfl
  · rename_i h1 h2
    go_ret
    exact ⟨by rw [named_long (by omega)]; rfl, Below.refl _ _⟩
end Go.Proofs.YtmeemcafjebanaaGreatDoor
