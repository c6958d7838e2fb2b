/- weirlaw2.key gives some text; how many tables a step adds. -/
import Derived.Test.YtcfijljagohmlaaGreatDoorLsmCode
import Derived.Test.YtcfijljagohmlaaGreatDoorDigits
import Derived.Test.YtcfijljagohmlaaGreatDoorSteps
import Derived.Test.YtcfijljagohmlaaGreatDoorWalkESame
namespace Go.Proofs.YtcfijljagohmlaaGreatDoor
open Go.RowKit Go.Maps Go.WideMaps

set_option maxRecDepth 100000 in
set_option maxHeartbeats 1000000 in
theorem key_any (n : Int) (w : World) :
    Calls Tryz.prog 22 #[.int .i64 n] w fun e w' => ∃ d, e = .returned (.string d) ∧ Below w.heap.size w w' := by
  by_cases h0 : n < 0
  · go_enter Tryz.func22, Tryz.ntmps22
    go_wp2_with fail
    go_ret
    first | exact ⟨_, rfl, Below.refl _ _⟩ | exact ⟨⟨_, rfl⟩, Below.refl _ _⟩
  · by_cases h9 : 9 < n
    · go_enter Tryz.func22, Tryz.ntmps22
      go_wp2_with fail
      go_ret
      exact ⟨⟨_, rfl⟩, Below.refl _ _⟩
    · have hb := (Below.refl w.heap.size w).alloc (Nat.le_refl _) (.cells #[.int .u8 (97 + n)] 5)
      have hr : Rd (w.alloc (.cells #[.int .u8 (97 + n)] 5)) (w.heap.size + 1) 1 (some ⟨w.heap.size, 0, none⟩) 1 ([UInt8.ofNat (97 + n).toNat].map bv) := ⟨rfl, fun _ => ⟨_, rfl, by simp, fun j u hj => by
        rcases j with _ | j
        · have h1 := (Blk.new w 5 #[.int .u8 (97 + n)]).cell 0
          have e : bv (UInt8.ofNat (97 + n).toNat) = .int .u8 (97 + n) := by
            unfold bv
            congr 1
            rw [UInt8.toNat_ofNat']
            omega
          simp at hj
          rw [← hj, e]
          exact h1
        · simp at hj⟩⟩
      have q1 := run_string_rd (P := Tryz.prog) (c := 1) Tryz.underlying23 Tryz.underlying5 Tryz.underlying9 hr
      go_enter Tryz.func22, Tryz.ntmps22
      go_wp2_with fail
      go_ret
      first | exact ⟨_, rfl, hb⟩ | exact ⟨⟨_, rfl⟩, hb⟩
theorem live_of {s t : Lsm} (h : t.all = s.all) : t.live = s.live := by unfold Lsm.live; rw [h]
theorem live_open (LS : List (List Ent)) : (Lsm.all ⟨[], LS⟩) = mixL LS.flatten := rfl
theorem live_live {s t : Lsm} (h : t.all = s.live) : t.live = s.live := by
  unfold Lsm.live at h ⊢
  rw [h, List.filter_filter]
  exact List.filter_congr fun x _ => by simp
theorem flush_none (s : Lsm) : (lsmFlush s).F = [] := by
  unfold lsmFlush
  split
  · assumption
  · rfl
theorem flush_lists (s : Lsm) : (lsmFlush s).LS.length ≤ s.LS.length + 1 := by
  unfold lsmFlush
  split
  · omega
  · simp
theorem put_lists (lim : Int) (s : Lsm) (e : Ent) : (lsmPut lim s e).LS.length ≤ s.LS.length + 1 := by
  unfold lsmPut
  split
  · split
    · exact flush_lists (lsmSet s e)
    · exact Nat.le_succ _
  · exact Nat.le_succ _
theorem compact_lists (s : Lsm) : (lsmCompact s).LS.length ≤ 1 := by
  unfold lsmCompact
  simp only
  split <;> simp
/-- A list of the call's own reads as one. -/
theorem own_ents {w : World} {b : Nat} {v : Value} {l : List Ent} (h : w.ownsRow b 67 3 v l.length (entCells l)) : ∃ A c, v = .slice A l.length c ∧ Rd w w.heap.size 3 A l.length (entCells l) := by
  obtain ⟨A, c, e, _, _, _, hr⟩ := own_form h
  exact ⟨A, c, e, hr⟩
end Go.Proofs.YtcfijljagohmlaaGreatDoor
