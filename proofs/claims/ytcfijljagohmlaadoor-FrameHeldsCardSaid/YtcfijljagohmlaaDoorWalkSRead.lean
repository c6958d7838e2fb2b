/- The walk of the reference's ReadRecords. -/
import Derived.Test.YtcfijljagohmlaaDoorWalkSRec
namespace Go.Proofs.YtcfijljagohmlaaDoor
open Go.RowKit

theorem el_rec' : Elt Tryd.prog 22 73 (.agg #[.string ByteArray.empty, .int .i64 0, .int .i64 0]) 3 32 := ⟨Tryd.underlying22, by kernel_rfl, rfl, by omega, by omega⟩

/-- What is owned stays owned where another block is written. -/
theorem own_setc {w : World} {base : Nat} {e : TypeId} {size n : Nat} {v : Value} {xs : List Value} (h : w.ownsRow base e size v n xs) {g : Nat} (hne : ∀ k, v.ownBlock = some k → k ≠ g) (i : Nat) (u : Value) : (w.setCell ⟨g, i, none⟩ u).ownsRow base e size v n xs :=
  own_far h (only_set (only_refl w (some g)) i u) fun k hk e => hne k hk (by injection e with e; exact e.symm)
theorem recsS_none2 (l : List UInt8) (m : Nat) : (recsS l m none).2 = none := by
  cases m with
  | zero => rfl
  | succ m =>
    have : (recS l none).2 = none := by
      have h1 : (textS l 40 none) = ([], none) := rfl
      simp only [recS, h1, numS]; rfl
    rw [recsS_bad this]
/-- What has been read so far, and that what was wrong stays so. -/
def Reads4 (l : List UInt8) (N : Nat) (s0 : Option Nat) (acc : List Rec) (k : Nat) (s : Option Nat) : Prop := (s.isSome = true → Reads2 l N s0 acc k s) ∧ (s = none → (recsS l N s0).2 = none)
theorem Reads4.start (l : List UInt8) (N : Nat) (s0 : Option Nat) : Reads4 l N s0 [] 0 s0 := ⟨fun _ => Reads2.start _ _ _, fun h => by subst h; exact recsS_none2 _ _⟩
theorem Reads4.next {l : List UInt8} {N k a : Nat} {s0 s4 : Option Nat} {acc : List Rec} {r : Rec} (h : Reads4 l N s0 acc k (some a)) (hk : k < N) (hr : recS l (some a) = (r, s4)) : Reads4 l N s0 (acc ++ [r]) (k + 1) s4 := by
  refine ⟨fun hs => ?_, fun hs => ?_⟩
  · rcases s4 with _ | b
    · cases hs
    · exact (h.1 rfl).step hk hr
  · subst hs; rw [(h.1 rfl).bad hk hr]

set_option maxRecDepth 100000 in
set_option maxHeartbeats 4000000 in
theorem sreadrecs_any (A : Option Addr) (c B : Nat) (l : List UInt8) (w : World) (hr : Rd w B 1 A l.length (l.map bv)) (hB : B ≤ w.heap.size) (hl : l.length ≤ 140737488355328) (hc : l.length ≤ c) :
    Calls Tryd.prog 11 #[.slice A l.length c] w fun e w' => ∃ v, e = .returned (.tuple #[v, .bool (readRecs l).isSome]) ∧
      w'.ownsRow w.heap.size 73 3 v ((readRecs l).getD []).length (recCells ((readRecs l).getD [])) ∧ Below w.heap.size w w' := by
  have hst : Stands l (some 0) := by intro a h; injection h with h; omega
  obtain ⟨hs0, hu0, hu1⟩ := uptoS_bd l 400 (some 0) hst (by omega)
  obtain ⟨N, hN⟩ : ∃ N : Nat, (uptoS l 400 (some 0)).1 = (N : Int) := ⟨(uptoS l 400 (some 0)).1.toNat, by omega⟩
  obtain ⟨s0, hs0'⟩ : ∃ s0, s0 = (uptoS l 400 (some 0)).2 := ⟨_, rfl⟩
  have HR : Hid (readRecs l = if endS l (recsS l N s0).2 then some (recsS l N s0).1 else none) := Lib.hid (by rw [readRecs, hN, ← hs0', Int.toNat_natCast])
  rw [hN] at hu0 hu1
  rw [← hs0'] at hs0
  have CU := fun (w0 : World) (h : Drd w0 w.heap.size A c l (some 0)) (h2 : Rd w0 B 1 A l.length (l.map bv)) => dupto_any w.heap.size A c B l 400 (some 0) w0 h h2 hB hst hl
  simp only [hN, ← hs0'] at CU
  have HCU := Lib.hid CU
  clear CU hN hs0' hst
  go_enter Tryd.func11, Tryd.ntmps11
  go_wp2_with (first | (go_at_call 38; go_must (refine (HCU.out _ (Blk.new w _ _) (hr.alloc hB _)).mono ?_); rintro e w1 ⟨hg1, rfl, hr1⟩))
  have hbw1 : Below w.heap.size w w1 := below_of_only (w := w.alloc _) hg1 (Nat.le_refl _) (by simp) |> fun h => ((Below.refl _ _).alloc (Nat.le_refl _) _).trans h
  go_loopw [6, 7] (fun v i wr => ∃ k : Nat, ∃ s : Option Nat, ∃ acc : List Rec, k ≤ N ∧ acc.length ≤ k ∧ i = .int .i64 k ∧ Drd wr w.heap.size A c l s ∧ Hid (Stands l s) ∧ Hid (Reads4 l N s0 acc k s) ∧
      wr.ownsRow (w.heap.size + 1) 73 3 v acc.length (recCells acc) ∧ Below w.heap.size w wr) (fun _ i _ => N - (intOf i).toNat)
  case atStart => exact ⟨0, s0, [], Nat.zero_le _, Nat.le_refl _, rfl, hr1, hs0, Reads4.start _ _ _, World.ownsRow_nil _ _ _ _, hbw1⟩
  case round =>
    obtain ⟨k, s, acc, hk, hacc, rfl, hrd, Hst, Hrs, hown, hbel⟩ := hrel
    have hbs := hbel.size
    have hgl := hrd.lt
    have hrr := hr.below hbel hB
    rcases s with _ | a
    · have d2 := hrd.bad
      simp only [Option.isNone] at d2
      go_wp2
      all_goals go_ret2
      all_goals
        have hN : readRecs l = none := by rw [HR.out, Hrs.out.2 rfl]; rfl
        rw [hN]
        exact ⟨_, rfl, World.ownsRow_nil _ _ _ _, hbel⟩
    · have d1 := Blk.cell hrd 1
      have d2 := hrd.bad
      simp only [Option.isNone] at d2
      simp at d1
      by_cases hlt : k < N
      · obtain ⟨kb, s2, n, s3, tm, s4, e1, e2, e3, e4, h2, h3, h4, hkb, hn0, hn1, ht0, ht1⟩ := rec_parts l (some a) Hst.out
        have C1 := fun (w0 : World) (h : Drd w0 w.heap.size A c l (some a)) (h2' : Rd w0 B 1 A l.length (l.map bv)) => dtext_any w.heap.size A c B l 40 (some a) w0 h h2' hB Hst.out hl (by omega) (by omega) hc
        have C2 := fun (w0 : World) (h : Drd w0 w.heap.size A c l s2) (h2' : Rd w0 B 1 A l.length (l.map bv)) => dnum_any w.heap.size A c B l s2 w0 h h2' hB h2 hl
        have C3 := fun (w0 : World) (h : Drd w0 w.heap.size A c l s3) (h2' : Rd w0 B 1 A l.length (l.map bv)) => dupto_any w.heap.size A c B l 1000000 s3 w0 h h2' hB h3 hl
        simp only [e1] at C1
        simp only [e2] at C2
        simp only [e3] at C3
        have HC1 := Lib.hid C1
        have HC2 := Lib.hid C2
        have HC3 := Lib.hid C3
        have E4 := Lib.hid e4
        have H4 := Lib.hid h4
        have hvb : ∀ g, u6.ownBlock = some g → g ≠ wr.heap.size := fun g hg => by have := (hown.lt g hg).2; omega
        clear C1 C2 C3 e1 e2 e3 e4 h2 h3 h4
        go_wp2_with (first
          | (go_at_call 39; go_must (refine (HC1.out _ (hrd.kept fun _ _ h => h.alloc _) (hrr.alloc (by omega) _)).mono ?_); rintro e w2 ⟨hg2, rfl, hr2⟩; have hbel2 := (hbel.trans ((Below.refl w.heap.size wr).alloc hbs (.cells #[.string ByteArray.empty, .int .i64 0, .int .i64 0] 73))).trans (below_of_only hg2 (Nat.le_refl _) (by simp; omega)); have hx2 := (Blk.new wr 73 #[.string ByteArray.empty, .int .i64 0, .int .i64 0]).grown hg2 (by simp; omega); have hown2 := own_only (hown.alloc (.cells #[.string ByteArray.empty, .int .i64 0, .int .i64 0] 73)) hg2 (by omega); have x0 := hx2.cell 0; have y0 := hx2.frozen 0; simp at x0)
          | (go_at_call 40; go_must (refine (HC2.out _ (hr2.kept fun _ _ h => h.far (by simp; omega) _) ((hr.below hbel2 hB).setCell (by simp; omega) _)).mono ?_); rintro e w3 ⟨hg3, rfl, hr3⟩; have hx3 := (hx2.set_ 0 (.string ⟨kb.toArray⟩)).grown hg3 (by simp; omega); have hown3 := own_only (own_setc hown2 hvb 0 (.string ⟨kb.toArray⟩)) hg3 (by omega); have hbel3 := (hbel2.setCell (p := ⟨wr.heap.size, 0, none⟩) (by simp; omega) (.string ⟨kb.toArray⟩)).trans (below_of_only hg3 (Nat.le_refl _) (by simp; exact hbel2.size)); have x1 := hx3.cell 1; have y1 := hx3.frozen 1; simp at x1; clear x0 y0))
        go_wp2_with fail
        go_must (refine (HC3.out _ (hr3.kept fun _ _ h => h.far (by simp; omega) _) ((hr.below hbel3 hB).setCell (by simp; omega) _)).mono ?_)
        rintro e w4 ⟨hg4, rfl, hr4⟩
        have hx4 := (hx3.set_ 1 (.int .i64 n)).grown hg4 (by simp; omega)
        have hown4 := own_only (own_setc hown3 hvb 1 (.int .i64 n)) hg4 (by omega)
        have hbel4 := (hbel3.setCell (p := ⟨wr.heap.size, 1, none⟩) (by simp; omega) (.int .i64 n)).trans (below_of_only hg4 (Nat.le_refl _) (by simp; exact hbel3.size))
        have x2 := hx4.cell 2
        have y2 := hx4.frozen 2
        simp at x2
        have hx5 := hx4.set_ 2 (.int .i64 tm)
        have z0 := hx5.cell 0
        have z1 := hx5.cell 1
        have z2 := hx5.cell 2
        simp at z0 z1 z2
        have hown5 := own_setc hown4 hvb 2 (.int .i64 tm)
        have hbel5 := hbel4.setCell (p := ⟨wr.heap.size, 2, none⟩) (by simp; omega) (.int .i64 tm)
        clear x1 y1
        go_wp2_with (first | (with_reducible show wpList _ _ _ (⟨some 38, _, _, _, _, _⟩ :: _) _ _; go_must (refine wpList_newg (.tmp 35) (.tmp 37) el_rec' rfl rfl hown5 rfl rfl (by simp) rfl rfl (by omega) (by have := hr4.lt; simp; omega) ?_); intro v5 w6 ho6 hb6 hg6 ha6))
        have hacc5 : (acc ++ [(⟨⟨kb.toArray⟩, n, tm⟩ : Rec)]).length = acc.length + 1 := by simp
        go_roundw
        case rel =>
          refine ⟨k + 1, s4, acc ++ [⟨⟨kb.toArray⟩, n, tm⟩], by omega, by omega, by go_num, ?_, H4.out, Hrs.out.next hlt E4.out, ?_, hbel5.trans (hb6.mono (by omega))⟩
          · refine (hr4.kept fun _ _ h => h.far (by simp; omega) _).kept fun _ _ h => Blk.own h hown5 hg6 (by omega)
          · rw [recCells_snoc, hacc5]; exact ho6
        case measure => simp [intOf]; omega
      · have HD := Lib.hid ((Hrs.out.1 rfl).done (by omega))
        have Hs := Lib.hid (Hst.out a rfl)
        obtain ⟨n, hn⟩ : ∃ n, n = l.length := ⟨_, rfl⟩
        have Hn := Lib.hid hn
        rw [← hn]
        clear hn
        by_cases hE : a = n
        · have HE := Lib.hid hE
          have t1 : ((a : Int) != (n : Int)) = false := by simp; omega
          clear hE
          go_wp2
          go_ret2
          have hN : readRecs l = some acc := by rw [HR.out, HD.out, if_pos (by simp [endS, HE.out, Hn.out])]
          rw [hN]
          exact ⟨_, rfl, own_base hown (by omega), hbel⟩
        · have HE := Lib.hid hE
          have t1 : ((a : Int) != (n : Int)) = true := by simp; omega
          clear hE
          go_wp2
          go_ret2
          have hN : readRecs l = none := by rw [HR.out, HD.out, if_neg (by simp [endS]; have := HE.out; have := Hn.out; omega)]
          rw [hN]
          exact ⟨_, rfl, World.ownsRow_nil _ _ _ _, hbel⟩
end Go.Proofs.YtcfijljagohmlaaDoor
