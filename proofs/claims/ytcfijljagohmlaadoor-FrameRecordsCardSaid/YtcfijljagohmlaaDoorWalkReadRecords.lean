/- The walk of frame.ReadRecords. -/
import Derived.Test.YtcfijljagohmlaaDoorWalkReader2
import Derived.Test.YtcfijljagohmlaaDoorPlainRead2
import Derived.Test.YtcfijljagohmlaaDoorBase2
namespace Go.Proofs.YtcfijljagohmlaaDoor
open Go.RowKit

theorem el_rec : Elt Tryd.prog 22 73 (.agg #[.string ByteArray.empty, .int .i64 0, .int .i64 0]) 3 32 := ⟨Tryd.underlying22, by kernel_rfl, rfl, by omega, by omega⟩

set_option maxRecDepth 100000 in
set_option maxHeartbeats 4000000 in
theorem readrecs_any (A : Option Addr) (c B : Nat) (l : List UInt8) (w : World) (hr : Rd w B 1 A l.length (l.map bv)) (hB : B ≤ w.heap.size) (hl : l.length ≤ 140737488355328) (hc : l.length ≤ c) :
    Calls Tryd.prog 12 #[.slice A l.length c] w fun e w' => ∃ v, e = .returned (.tuple #[v, errV (rrE l)]) ∧
      w'.ownsRow w.heap.size 73 3 v ((readRecs l).getD []).length (recCells ((readRecs l).getD [])) ∧ Below w.heap.size w w' := by
  have hst : Stands l (some 0) := by intro a h; injection h with h; omega
  obtain ⟨hs0, hu0, hu1⟩ := uptoS_bd l 400 (some 0) hst (by omega)
  obtain ⟨N, hN⟩ : ∃ N : Nat, (uptoS l 400 (some 0)).1 = (N : Int) := ⟨(uptoS l 400 (some 0)).1.toNat, by omega⟩
  obtain ⟨s0, hs0'⟩ : ∃ s0, s0 = (uptoS l 400 (some 0)).2 := ⟨_, rfl⟩
  have HR : Hid (readRecs l = if endS l (recsS l N s0).2 then some (recsS l N s0).1 else none) := by rw [readRecs, hN, ← hs0', Int.toNat_natCast]; rfl
  rw [hN] at hu0 hu1
  rw [← hs0'] at hs0
  have CU := fun (w0 : World) (h : Rdr w0 w.heap.size A c l (some 0)) (h2 : Rd w0 B 1 A l.length (l.map bv)) => rdupto_any w.heap.size A c B l 400 (some 0) w0 h h2 hB hst hl
  simp only [hN, ← hs0'] at CU
  have HCU := Lib.hid CU
  clear CU hN hs0' hst
  go_enter Tryd.func12, Tryd.ntmps12
  go_wp2_with (first | (go_at_call 41; go_must (refine (HCU.out _ (Blk.new w _ _) (hr.alloc hB _)).mono ?_); rintro e w1 ⟨hg1, rfl, hr1⟩))
  have hbw1 : Below w.heap.size w w1 := below_of_only (w := w.alloc _) hg1 (Nat.le_refl _) (by simp) |> fun h => ((Below.refl _ _).alloc (Nat.le_refl _) _).trans h
  go_loopw [5, 11] (fun v i wr => ∃ k : Nat, ∃ s : Option Nat, ∃ acc : List Rec, k ≤ N ∧ acc.length ≤ k ∧ i = .int .i64 k ∧ Rdr wr w.heap.size A c l s ∧ Hid (Stands l s) ∧ Hid (Reads2 l N s0 acc k s) ∧
      wr.ownsRow (w.heap.size + 1) 73 3 v acc.length (recCells acc) ∧ Below w.heap.size w wr) (fun _ i _ => N - (intOf i).toNat)
  case atStart => exact ⟨0, s0, [], Nat.zero_le _, Nat.le_refl _, rfl, hr1, hs0, Reads2.start _ _ _, World.ownsRow_nil _ _ _ _, hbw1⟩
  case round =>
    obtain ⟨k, s, acc, hk, hacc, rfl, hrd, Hst, Hrs, hown, hbel⟩ := hrel
    have hbs := hbel.size
    have hrr := hr.below hbel hB
    by_cases hlt : k < N
    · obtain ⟨kb, s2, n, s3, tm, s4, e1, e2, e3, e4, h2, h3, h4, hkb, hn0, hn1, ht0, ht1⟩ := rec_parts l s Hst.out
      have C1 := rdtext_any w.heap.size A c B l 40 s wr hrd hrr hB Hst.out hl (by omega) (by omega) hc
      have C2 := fun (w0 : World) (h : Rdr w0 w.heap.size A c l s2) (h2' : Rd w0 B 1 A l.length (l.map bv)) => rdnum_any w.heap.size A c B l s2 w0 h h2' hB h2 hl
      have C3 := fun (w0 : World) (h : Rdr w0 w.heap.size A c l s3) (h2' : Rd w0 B 1 A l.length (l.map bv)) => rdupto_any w.heap.size A c B l 1000000 s3 w0 h h2' hB h3 hl
      simp only [e1] at C1
      simp only [e2] at C2
      simp only [e3] at C3
      have HC1 := Lib.hid C1
      have HC2 := Lib.hid C2
      have HC3 := Lib.hid C3
      have E4 := Lib.hid e4
      have H4 := Lib.hid h4
      clear C1 C2 C3 e1 e2 e3 e4 h2 h3 h4
      rcases s4 with _ | a4
      · go_wp2_with (first
          | (go_at_call 42; go_must (refine HC1.out.mono ?_); rintro e w2 ⟨hg2, rfl, hr2⟩; have hbel2 := hbel.trans (below_of_only hg2 (Nat.le_refl _) hbs))
          | (go_at_call 43; go_must (refine (HC2.out _ hr2 (hr.below hbel2 hB)).mono ?_); rintro e w3 ⟨hg3, rfl, hr3⟩; have hbel3 := hbel2.trans (below_of_only hg3 (Nat.le_refl _) hbel2.size))
          | (go_at_call 41; go_must (refine (HC3.out _ hr3 (hr.below hbel3 hB)).mono ?_); rintro e w4 ⟨hg4, rfl, hr4⟩; have hbel4 := hbel3.trans (below_of_only hg4 (Nat.le_refl _) hbel3.size); obtain ⟨a4, ha4, hr4⟩ := hr4; have hl4 := Blk.lt hr4; have hr5 := Blk.alloc hr4 (.cells #[.string ⟨kb.toArray⟩, .int .i64 n, .int .i64 tm] 73); have d2 := Blk.cell hr5 2; simp only [List.size_toArray, List.length_cons, List.length_nil, Nat.reduceAdd, Nat.reduceLT, getElem?_pos, List.getElem_toArray, List.getElem_cons_succ, List.getElem_cons_zero, errV, Nat.reduceEqDiff, if_false] at d2; have hb5 := hbel4.trans ((Below.refl w.heap.size _).alloc hbel4.size (.cells #[.string ⟨kb.toArray⟩, .int .i64 n, .int .i64 tm] 73)))
          | (go_at_call 44; go_must (refine (rdend_any w.heap.size A c l none _ ⟨a4, ha4, hr5⟩ H4.out).mono ?_); rintro e w6 ⟨hg6, rfl⟩; rw [show errV (if endS l none = true then 0 else 9) = .iface 75 (.int .i64 9) from rfl]))
        go_ret2
        have hN : readRecs l = none := by rw [HR.out, Hrs.out.bad hlt E4.out]; rfl
        rw [rrE_none hN, hN]
        exact ⟨_, by rfl, World.ownsRow_nil _ _ _ _, hb5.trans (below_of_only hg6 (Nat.le_refl _) hb5.size)⟩
      · go_wp2_with (first
          | (go_at_call 42; go_must (refine HC1.out.mono ?_); rintro e w2 ⟨hg2, rfl, hr2⟩; have hbel2 := hbel.trans (below_of_only hg2 (Nat.le_refl _) hbs))
          | (go_at_call 43; go_must (refine (HC2.out _ hr2 (hr.below hbel2 hB)).mono ?_); rintro e w3 ⟨hg3, rfl, hr3⟩; have hbel3 := hbel2.trans (below_of_only hg3 (Nat.le_refl _) hbel2.size))
          | (go_at_call 41; go_must (refine (HC3.out _ hr3 (hr.below hbel3 hB)).mono ?_); rintro e w4 ⟨hg4, rfl, hr4⟩; have hbel4 := hbel3.trans (below_of_only hg4 (Nat.le_refl _) hbel3.size); have hl4 := Blk.lt hr4; have d2 := Blk.cell (Blk.alloc hr4 (.cells #[.string ⟨kb.toArray⟩, .int .i64 n, .int .i64 tm] 73)) 2; simp only [List.size_toArray, List.length_cons, List.length_nil, Nat.reduceAdd, Nat.reduceLT, getElem?_pos, List.getElem_toArray, List.getElem_cons_succ, List.getElem_cons_zero] at d2; have hown4 := (own_only (own_only (own_only hown hg2 (by omega)) hg3 (by omega)) hg4 (by omega)).alloc (.cells #[.string ⟨kb.toArray⟩, .int .i64 n, .int .i64 tm] 73))
          | (with_reducible show wpList _ _ _ (⟨some 23, _, _, _, _, _⟩ :: _) _ _; go_must (refine wpList_newg (.tmp 20) (.tmp 22) el_rec rfl rfl hown4 rfl rfl (by simp) rfl rfl (by omega) (by simp; omega) ?_); intro v5 w5 ho5 hb5 hg5 ha5))
        have hacc5 : (acc ++ [(⟨⟨kb.toArray⟩, n, tm⟩ : Rec)]).length = acc.length + 1 := by simp
        go_roundw
        case rel =>
          refine ⟨k + 1, some a4, acc ++ [⟨⟨kb.toArray⟩, n, tm⟩], by omega, by omega, by go_num, ?_, H4.out, Hrs.out.step hlt E4.out, ?_, ?_⟩
          · exact Blk.own (Blk.alloc hr4 _) hown4 hg5 (by omega)
          · rw [recCells_snoc, hacc5]; exact ho5
          · exact (hbel4.trans ((Below.refl w.heap.size _).alloc hbel4.size _)).trans (hb5.mono (by omega))
        case measure => simp [intOf]; omega
    · have hdone := Hrs.out.done (by omega)
      have HD := Lib.hid hdone
      clear hdone
      by_cases hE : endS l s = true
      · have HE := Lib.hid hE
        clear hE
        go_wp2_with (first | (go_at_call 44; go_must (refine (rdend_any w.heap.size A c l s _ hrd Hst.out).mono ?_); rintro e w6 ⟨hg6, rfl⟩; rw [HE.out]; simp only [if_true, errV_zero]))
        go_ret2
        have hN : readRecs l = some acc := by rw [HR.out, HD.out, if_pos HE.out]
        rw [rrE_some hN, hN]
        exact ⟨_, rfl, own_base (own_only hown hg6 (by omega)) (by omega), hbel.trans (below_of_only hg6 (Nat.le_refl _) hbs)⟩
      · have HE : Hid (errV (if endS l s = true then 0 else 9) = .iface 75 (.int .i64 9)) := by simp only [Hid]; rw [if_neg hE]; rfl
        have HE2 := Lib.hid hE
        clear hE
        go_wp2_with (first | (go_at_call 44; go_must (refine (rdend_any w.heap.size A c l s _ hrd Hst.out).mono ?_); rintro e w6 ⟨hg6, rfl⟩; rw [HE.out]))
        go_ret2
        have hN : readRecs l = none := by rw [HR.out, HD.out, if_neg HE2.out]
        rw [rrE_none hN, hN]
        exact ⟨_, by rfl, World.ownsRow_nil _ _ _ _, hbel.trans (below_of_only hg6 (Nat.le_refl _) hbs)⟩
end Go.Proofs.YtcfijljagohmlaaDoor
