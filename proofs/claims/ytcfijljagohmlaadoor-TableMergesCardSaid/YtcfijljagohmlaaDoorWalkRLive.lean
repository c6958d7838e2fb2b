/- The walk of weirref2.Live. -/
import Derived.Test.YtcfijljagohmlaaDoorPlainMix
import Derived.Test.YtcfijljagohmlaaDoorWalkSearch
import Derived.BigQuiet
namespace Go.Proofs.YtcfijljagohmlaaDoor
open Go.RowKit

def liveE (l : List Ent) : List Ent := l.filter fun e => !e.dead
theorem live_next {l : List Ent} {i : Nat} {x : Ent} (hx : l[i]? = some x) (hd : x.dead = false) : liveE (l.take (i + 1)) = liveE (l.take i) ++ [x] := by
  rw [liveE, List.take_add_one, hx, List.filter_append]; simp [liveE, hd]
theorem live_stay {l : List Ent} {i : Nat} {x : Ent} (hx : l[i]? = some x) (hd : x.dead = true) : liveE (l.take (i + 1)) = liveE (l.take i) := by
  rw [liveE, List.take_add_one, hx, List.filter_append]; simp [liveE, hd]
theorem live_le (l : List Ent) (i : Nat) : (liveE (l.take i)).length ≤ i := Nat.le_trans (List.length_filter_le _ _) (by rw [List.length_take]; omega)
theorem live_app (acc : List Ent) (r : Ent) : entCells (acc ++ [r]) = entCells acc ++ r.cells := by simp [entCells]
set_option maxRecDepth 100000 in
set_option maxHeartbeats 2000000 in
theorem rlive_any (A : Option Addr) (c B n : Nat) (l : List Ent) (w : World) (hr : Rd w B 3 A n (entCells l)) (hln : l.length = n) (hB : B ≤ w.heap.size) (hn : n ≤ 1000000) :
    Calls Tryd.prog 29 #[.slice A n c] w fun r w' => ∃ v, r = .returned v ∧ w'.ownsRow w.heap.size 57 3 v (liveE l).length (entCells (liveE l)) ∧ Below w.heap.size w w' := by
  have HLN := Lib.hid hln
  clear hln
  obtain ⟨LE, hLE⟩ : ∃ x, x = liveE l := ⟨_, rfl⟩
  have HLE := Lib.hid hLE
  rw [← hLE]
  clear hLE
  go_enter Tryd.func29, Tryd.ntmps29
  go_wp2_with fail
  go_loopw [3, 4] (fun o x wr => ∃ i t : Nat, i ≤ n ∧ x = .int .i64 i ∧ Hid (t = (liveE (l.take i)).length) ∧ t ≤ i ∧ wr.ownsRow w.heap.size 57 3 o t (entCells (liveE (l.take i))) ∧ Below w.heap.size w wr) (fun _ x _ => n - (intOf x).toNat)
  case atStart => exact ⟨0, 0, Nat.zero_le _, rfl, Lib.hid rfl, Nat.le_refl _, World.ownsRow_nil _ _ _ _, Below.refl _ _⟩
  obtain ⟨i, t, hi, rfl, HT, hti, hown, hbel⟩ := hrel
  have hsz := hbel.size
  have hby : (t + 1) * 40 ≤ 140737488355328 := by omega
  by_cases hlt : i < n
  · obtain ⟨ad, x, rfl, _, hx, x0, x1, x2⟩ := hr.ent_ hlt HLN.out hbel hB
    have hi0 : (0 : Int) ≤ (i : Int) := by omega
    have hi1 : (i : Int) < (n : Int) := by omega
    rcases hd : x.dead
    · have HN := Lib.hid (live_next hx hd)
      have HC : Hid ([.string x.key, .string x.value, .bool false] = x.cells) := Lib.hid (by rw [Ent.cells, hd])
      rw [hd] at x2
      clear hx hd
      go_wp2_with (first
        | (with_reducible show wpList _ _ _ (⟨some 23, _, _, _, _, _⟩ :: _) _ _; go_must (refine wpList_newg (.tmp 17) (.tmp 22) el_ent rfl rfl hown rfl rfl rfl rfl rfl hby hsz ?_); intro v4 w4 hown4 hb4 hg4 ha4))
      have hown5 : w4.ownsRow w.heap.size 57 3 v4 (t + 1) (entCells (liveE (l.take (i + 1)))) := by rw [HN.out, live_app, ← HC.out]; exact hown4
      have hb5 := hbel.trans hb4
      clear hown4
      go_roundw
      case rel => exact ⟨i + 1, t + 1, by omega, by go_num, Lib.hid (by rw [HN.out, List.length_append, ← HT.out]; rfl), by omega, hown5, hb5⟩
      case measure => simp [intOf]; omega
    · have HN := Lib.hid (live_stay hx hd)
      rw [hd] at x2
      clear hx hd
      go_wp2_with fail
      go_roundw
      case rel => exact ⟨i + 1, t, by omega, by go_num, Lib.hid (by rw [HN.out]; exact HT.out), by omega, by rw [HN.out]; exact hown, hbel⟩
      case measure => simp [intOf]; omega
  · obtain rfl : i = n := by omega
    have hall : l.take i = l := List.take_of_length_le (by rw [HLN.out]; exact Nat.le_refl _)
    have HA := Lib.hid hall
    clear hall
    go_wp2_with fail
    go_ret
    exact ⟨_, rfl, by rw [HLE.out, ← HA.out, ← HT.out]; exact hown, hbel⟩
end Go.Proofs.YtcfijljagohmlaaDoor
