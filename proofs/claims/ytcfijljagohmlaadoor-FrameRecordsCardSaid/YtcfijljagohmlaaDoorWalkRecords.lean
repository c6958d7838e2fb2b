/- The walks of what writes records. -/
import Derived.Test.YtcfijljagohmlaaDoorWalkSeal
import Derived.Test.YtcfijljagohmlaaDoorPlainRec
import Derived.Test.YtcfijljagohmlaaDoorErr
import Derived.Deep.RegionHeld3
import Derived.Deep.RegionWith
import Derived.Deep.DrawnRows
import Derived.BigQuiet
import Derived.Deep.QuietTactic
namespace Go.Proofs.YtcfijljagohmlaaDoor
open Go.RowKit

set_option maxRecDepth 100000 in
set_option maxHeartbeats 400000 in
theorem record_any (r : Rec) (w : World) (hr : r.key.size ≤ 9223372036854775807) :
    Calls Tryd.prog 35 #[r.val] w fun e w' => e = .returned (.bool (recOk r)) ∧ Below w.heap.size w w' := by
  go_enter Tryd.func35, Tryd.ntmps35
  unfold Rec.val
  go_wp2
  all_goals go_ret
  all_goals refine ⟨?_, (Below.refl _ _).alloc (Nat.le_refl _) _⟩
  all_goals (simp [recOk, *] <;> (intros; omega))

theorem record_true (r : Rec) (w : World) (hr : r.key.size ≤ 9223372036854775807) (h : recOk r = true) :
    Calls Tryd.prog 35 #[r.val] w fun e w' => e = .returned (.bool true) ∧ Below w.heap.size w w' := by
  have := record_any r w hr; rw [h] at this; exact this
theorem record_false (r : Rec) (w : World) (hr : r.key.size ≤ 9223372036854775807) (h : recOk r = false) :
    Calls Tryd.prog 35 #[r.val] w fun e w' => e = .returned (.bool false) ∧ Below w.heap.size w w' := by
  have := record_any r w hr; rw [h] at this; exact this

set_option maxRecDepth 100000 in
set_option maxHeartbeats 1000000 in
theorem records_any (A : Option Addr) (c B : Nat) (l : List Rec) (w : World) (hr : Rd w B 3 A l.length (recCells l)) (hB : B ≤ w.heap.size) (hok : ∀ r ∈ l, r.Ok) (hl : l.length ≤ 140737488355328) :
    Calls Tryd.prog 9 #[.slice A l.length c] w fun e w' => ∃ v, e = .returned (.tuple #[v, errV (recsE l)]) ∧ w'.ownsRow w.heap.size 5 1 v (recsB l).length ((recsB l).map bv) ∧ Below w.heap.size w w' := by
  obtain ⟨n, hn⟩ : ∃ n, n = l.length := ⟨_, rfl⟩
  have hsm := numB_le (n : Int)
  have Hn := Lib.hid hn
  rw [← hn] at hr hl ⊢
  clear hn
  by_cases hbig : 400 < n
  · go_enter Tryd.func9, Tryd.ntmps9
    go_wp2
    go_ret2
    obtain ⟨e1, e2⟩ := recE_long (l := l) (by have := Hn.out; omega)
    exact ⟨_, by rw [e1]; rfl, by rw [e2]; exact World.ownsRow_nil _ _ _ _, Below.refl _ _⟩
  go_enter Tryd.func9, Tryd.ntmps9
  go_wp2_with (first | (go_at_call 34; refine (num_any _ _ (by omega) (by omega)).mono ?_; rintro e w1 ⟨v1, rfl, ho1, hb1⟩))
  go_loopw [4, 16] (fun b i wr => ∃ k : Nat, ∃ m : Nat, k ≤ n ∧ i = .int .i64 k ∧ m ≤ 10 + 70 * k ∧ Hid (∀ j r, j < k → l[j]? = some r → recOk r = true) ∧ wr.ownsRow w.heap.size 5 1 b m ((numB n).map bv ++ ((l.take k).flatMap recB).map bv) ∧ Below w.heap.size w wr) (fun _ i _ => n - (intOf i).toNat)
  case atStart => exact ⟨0, _, Nat.zero_le _, rfl, hsm, by intro j r h; omega, by simpa using ho1, hb1⟩
  case round =>
    obtain ⟨k, m, hk, rfl, hm, Hall, hown, hbel⟩ := hrel
    have hbs := hbel.size
    by_cases hlt : k < n
    · obtain ⟨ad, r, rfl, hx, g0, g1, g2⟩ := hr.rec_ hlt (Hn.out).symm hbel hB
      have hro := hok r (List.mem_of_getElem? hx)
      have q1 := hro.1
      obtain ⟨q2, q3⟩ := hro.2.1
      obtain ⟨q4, q5⟩ := hro.2.2
      clear hro
      have Hx := Lib.hid hx
      clear hx
      by_cases hrk : recOk r = true
      · have HR := Lib.hid hrk
        clear hrk
        have hn2 : ∀ g, u4.ownBlock = some g → g ≠ wr.heap.size := fun g hg => by have := (hown.lt g hg).2; omega
        have hk40 := recOk_key HR.out
        go_wp2_with (first | (go_at_call 35; go_must (refine (record_true r _ q1 HR.out).mono ?_); rintro e w2 ⟨rfl, hb2⟩))
        have hown2 := own_drew (own_up (hown.alloc _) hb2)
        have hbx := keep3 (x := .string r.key) (y := .int .i64 r.num) (z := .int .i64 r.time) (g := wr.heap.size) hb2 (by simp) (by simp)
        have hbel2 := hbel.trans (((Below.refl wr.heap.size wr).alloc (Nat.le_refl _) (.cells #[.string r.key, .int .i64 r.num, .int .i64 r.time] 73)).trans (hb2.mono (by simp)) |>.mono hbs)
        have hl2 : wr.heap.size < w2.heap.size := by have := hb2.size; simp at this; omega
        have hbs2 := hbel2.size
        clear hb2 hown
        go_region_held3 (fun w' => w'.cell? ⟨wr.heap.size, 0, none⟩ = some (.string r.key) ∧ w'.cell? ⟨wr.heap.size, 1, none⟩ = some (.int .i64 r.num) ∧ w'.cell? ⟨wr.heap.size, 2, none⟩ = some (.int .i64 r.time)) (first | exact hbx8 | exact hbx7 | exact hbx6 | exact hbx5 | exact hbx4 | exact hbx3 | exact hbx)
          ((first
            | (go_at_call 36; go_must (refine (text_any _ _ (by omega)).mono ?_); rintro e w3 ⟨v3, rfl, ho3, hb3⟩; have hle3 := textB_le r.key 40 hk40; have hbx3 := keep3 hb3 hl2 hbx; have hown3 := own_up hown2 hb3; have hl3 : w2.heap.size ≤ w3.heap.size := hb3.size; obtain ⟨A3, c3, rfl, _, _, ha3, r3⟩ := own_form ho3)
            | (with_reducible show (if Region.wanted (⟨some 28, _, _, _, _, _⟩ : Oper) _ = true then _ else _); go_must (refine step_rd (.tmp 24) (.tmp 27) el_u8 rfl rfl hown3 rfl r3 rfl (bvs_one _) (by omega) (by omega) ?_); intro v4 w4 hown4 hb4 hg4 ha4; have hl4 := hb4.size; have hn4 := row_ne (g := wr.heap.size) ha4 hn2 (by omega); have hbx4 := keep3_grown hg4 hn2 hbx3)
            | (go_at_call_of 34 (r.num); go_must (refine (num_any r.num _ q2 q3).mono ?_); rintro e w5 ⟨v5, rfl, ho5, hb5⟩; have hle5 := numB_le r.num; have hl5 := hb5.size; have hbx5 := keep3 hb5 (by omega) hbx4; have hown5 := own_up hown4 hb5; obtain ⟨A5, c5, rfl, _, _, ha5, r5⟩ := own_form ho5)
            | (with_reducible show (if Region.wanted (⟨some 32, _, _, _, _, _⟩ : Oper) _ = true then _ else _); go_must (refine step_rd (.tmp 28) (.tmp 31) el_u8 rfl rfl hown5 rfl r5 rfl (bvs_one _) (by omega) (by omega) ?_); intro v6 w6 hown6 hb6 hg6 ha6; have hl6 := hb6.size; have hn6 := row_ne (g := wr.heap.size) ha6 hn4 (by omega); have hbx6 := keep3_grown hg6 hn4 hbx5)
            | (go_at_call_of 34 (r.time); go_must (refine (num_any r.time _ q4 q5).mono ?_); rintro e w7 ⟨v7, rfl, ho7, hb7⟩; have hle7 := numB_le r.time; have hl7 := hb7.size; have hbx7 := keep3 hb7 (by omega) hbx6; have hown7 := own_up hown6 hb7; obtain ⟨A7, c7, rfl, _, _, ha7, r7⟩ := own_form ho7)
            | (with_reducible show (if Region.wanted (⟨some 36, _, _, _, _, _⟩ : Oper) _ = true then _ else _); go_must (refine step_rd (.tmp 32) (.tmp 35) el_u8 rfl rfl hown7 rfl r7 rfl (bvs_one _) (by omega) (by omega) ?_); intro v8 w8 hown8 hb8 hg8 ha8; have hbx8 := keep3_grown hg8 hn6 hbx7)))
        go_wp2
        go_roundw
        case rel =>
          refine ⟨k + 1, m + (textB r.key.data.toList).length + (numB r.num).length + (numB r.time).length, by omega, by go_num, by omega, all_step Hall.out Hx.out HR.out, ?_, ?_⟩
          · rw [recs_step Hx.out]
            simpa only [List.append_assoc] using hown8
          · exact hbel2.drew.trans ((((((hb3.mono hbs2).trans hb4).trans (hb5.mono (by omega))).trans hb6).trans (hb7.mono (by omega))).trans hb8)
        case measure => simp [intOf]; omega
      · have hrf : recOk r = false := by simpa using hrk
        have HR := Lib.hid hrf
        clear hrk hrf
        go_wp2_with (first | (go_at_call 35; go_must (refine (record_false r _ q1 HR.out).mono ?_); rintro e w2 ⟨rfl, hb2⟩))
        go_ret2
        obtain ⟨e1, e2⟩ := recE_bad (by have := Hn.out; omega) Hx.out HR.out
        refine ⟨_, by rw [e1]; rfl, by rw [e2]; exact World.ownsRow_nil _ _ _ _, ?_⟩
        exact hbel.trans (((Below.refl wr.heap.size wr).alloc (Nat.le_refl _) (.cells #[.string r.key, .int .i64 r.num, .int .i64 r.time] 73)).trans (hb2.mono (by simp)) |>.mono hbs)
    · go_wp2
      go_ret2
      have e : k = n := by omega
      subst e
      obtain ⟨e1, e2⟩ := recE_good (l := l) (by have := Hn.out; omega) (fun j r hj => Hall.out j r (by have := Hn.out; omega))
      refine ⟨_, by rw [e1]; rfl, own_b hown ?_, hbel⟩
      rw [e2, List.map_append, ← Hn.out, List.take_of_length_le (by have := Hn.out; omega)]
end Go.Proofs.YtcfijljagohmlaaDoor
