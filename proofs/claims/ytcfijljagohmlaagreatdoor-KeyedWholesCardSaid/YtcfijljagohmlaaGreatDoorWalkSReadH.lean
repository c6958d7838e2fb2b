/- The walk of the reference's ReadHelds. -/
import Derived.Test.YtcfijljagohmlaaGreatDoorWalkSHld
import Derived.Test.YtcfijljagohmlaaGreatDoorPlainReadH
namespace Go.Proofs.YtcfijljagohmlaaGreatDoor
open Go.RowKit

theorem el_held' : Elt Tryz.prog 25 29 (.agg #[.int .i64 0, .string ByteArray.empty, .int .i64 0, .int .i64 0]) 4 40 := ⟨Tryz.underlying25, by kernel_rfl, rfl, by omega, by omega⟩

theorem hldsS_none2 (l : List UInt8) (m : Nat) (p : Option Hld) : (hldsS l m p none).2 = none := by
  cases m with
  | zero => rfl
  | succ m =>
    have h0 : (hldS l none).2 = none := by
      have h1 : uptoS l 11 none = (0, none) := by unfold uptoS; split <;> rfl
      have h2 : textS l 40 none = ([], none) := rfl
      simp only [hldS, h1, h2, numS]
    have : riseS p (hldS l none).1 (hldS l none).2 = none := by rw [h0]; unfold riseS; split <;> rfl
    rw [hldsS_bad this]
/-- What has been read so far, and that what was wrong stays so. -/
def Reads5 (l : List UInt8) (N : Nat) (s0 : Option Nat) (acc : List Hld) (k : Nat) (s : Option Nat) : Prop := (s.isSome = true → Reads3 l N s0 acc k s) ∧ (s = none → (hldsS l N none s0).2 = none)
theorem Reads5.start (l : List UInt8) (N : Nat) (s0 : Option Nat) : Reads5 l N s0 [] 0 s0 := ⟨fun _ => Reads3.start _ _ _, fun h => by subst h; exact hldsS_none2 _ _ _⟩
theorem Reads5.next {l : List UInt8} {N k a : Nat} {s0 s4 s5 : Option Nat} {acc : List Hld} {r : Hld} (h : Reads5 l N s0 acc k (some a)) (hk : k < N) (hr : hldS l (some a) = (r, s4)) (h5 : riseS (lastOf acc) r s4 = s5) : Reads5 l N s0 (acc ++ [r]) (k + 1) s5 := by
  refine ⟨fun hs => ?_, fun hs => ?_⟩
  · rcases s5 with _ | b
    · cases hs
    · exact (h.1 rfl).step hk hr h5
  · subst hs; rw [(h.1 rfl).bad hk hr h5]

set_option maxRecDepth 100000 in
set_option maxHeartbeats 8000000 in
theorem sreadhelds_any (A : Option Addr) (c B : Nat) (l : List UInt8) (w : World) (hr : Rd w B 1 A l.length (l.map bv)) (hB : B ≤ w.heap.size) (hl : l.length ≤ 140737488355328) (hc : l.length ≤ c) :
    Calls Tryz.prog 10 #[.slice A l.length c] w fun e w' => ∃ v, e = .returned (.tuple #[v, .bool (readHelds l).isSome]) ∧
      w'.ownsRow w.heap.size 29 4 v ((readHelds l).getD []).length (hldCells ((readHelds l).getD [])) ∧ Below w.heap.size w w' := by
  have hst : Stands l (some 0) := by intro a h; injection h with h; omega
  obtain ⟨hs0, hu0, hu1⟩ := uptoS_bd l 400 (some 0) hst (by omega)
  obtain ⟨N, hN⟩ : ∃ N : Nat, (uptoS l 400 (some 0)).1 = (N : Int) := ⟨(uptoS l 400 (some 0)).1.toNat, by omega⟩
  obtain ⟨s0, hs0'⟩ : ∃ s0, s0 = (uptoS l 400 (some 0)).2 := ⟨_, rfl⟩
  have HR : Hid (readHelds l = if endS l (hldsS l N none s0).2 then some (hldsS l N none s0).1 else none) := Lib.hid (by rw [readHelds, hN, ← hs0', Int.toNat_natCast])
  rw [hN] at hu0 hu1
  rw [← hs0'] at hs0
  have CU := fun (w0 : World) (h : Drd w0 w.heap.size A c l (some 0)) (h2 : Rd w0 B 1 A l.length (l.map bv)) => dupto_any w.heap.size A c B l 400 (some 0) w0 h h2 hB hst hl
  simp only [hN, ← hs0'] at CU
  have HCU := Lib.hid CU
  clear CU hN hs0' hst
  go_enter Tryz.func10, Tryz.ntmps10
  go_wp2_with (first | (go_at_call 46; go_must (refine (HCU.out _ (Blk.new w _ _) (hr.alloc hB _)).mono ?_); rintro e w1 ⟨hg1, rfl, hr1⟩))
  have hbw1 : Below w.heap.size w w1 := below_of_only (w := w.alloc _) hg1 (Nat.le_refl _) (by simp) |> fun h => ((Below.refl _ _).alloc (Nat.le_refl _) _).trans h
  clear HCU
  go_loopw [6, 7] (fun v i wr => ∃ k : Nat, ∃ s : Option Nat, ∃ acc : List Hld, k ≤ N ∧ acc.length ≤ k ∧ i = .int .i64 k ∧ Drd wr w.heap.size A c l s ∧ Hid (Stands l s) ∧ Hid (Reads5 l N s0 acc k s) ∧
      wr.ownsRow (w.heap.size + 1) 29 4 v acc.length (hldCells acc) ∧ Below w.heap.size w wr) (fun _ i _ => N - (intOf i).toNat)
  case atStart => exact ⟨0, s0, [], Nat.zero_le _, Nat.le_refl _, rfl, hr1, hs0, Reads5.start _ _ _, World.ownsRow_nil _ _ _ _, hbw1⟩
  case round =>
    obtain ⟨k, s, acc, hk, hacc, rfl, hrd, Hst, Hrs, hown, hbel⟩ := hrel
    have hbs := hbel.size
    have hgl := hrd.lt
    have hrr := hr.below hbel hB
    rcases s with _ | a
    · have d2 := hrd.bad
      simp only [Option.isNone] at d2
      go_wp2
      all_goals go_ret2
      all_goals
        have hN : readHelds l = none := by rw [HR.out, Hrs.out.2 rfl]; rfl
        rw [hN]
        exact ⟨_, rfl, World.ownsRow_nil _ _ _ _, hbel⟩
    · have d1 := Blk.cell hrd 1
      have d2 := hrd.bad
      simp only [Option.isNone] at d2
      simp at d1
      by_cases hlt : k < N
      · obtain ⟨nd, s1, kb, s2, va, s3, vb, s4, e1, e2, e3, e4, e5, h1, h2, h3, h4, hkb, hn0, hn1, ha0, ha1, hb0, hb1⟩ := hld_parts l (some a) Hst.out
        have C1 := fun (w0 : World) (h : Drd w0 w.heap.size A c l (some a)) (h2' : Rd w0 B 1 A l.length (l.map bv)) => dupto_any w.heap.size A c B l 11 (some a) w0 h h2' hB Hst.out hl
        have C2 := fun (w0 : World) (h : Drd w0 w.heap.size A c l s1) (h2' : Rd w0 B 1 A l.length (l.map bv)) => dtext_any w.heap.size A c B l 40 s1 w0 h h2' hB h1 hl (by omega) (by omega) hc
        have C3 := fun (w0 : World) (h : Drd w0 w.heap.size A c l s2) (h2' : Rd w0 B 1 A l.length (l.map bv)) => dnum_any w.heap.size A c B l s2 w0 h h2' hB h2 hl
        have C4 := fun (w0 : World) (h : Drd w0 w.heap.size A c l s3) (h2' : Rd w0 B 1 A l.length (l.map bv)) => dnum_any w.heap.size A c B l s3 w0 h h2' hB h3 hl
        simp only [e1] at C1
        simp only [e2] at C2
        simp only [e3] at C3
        simp only [e4] at C4
        have HC1 := Lib.hid C1
        have HC2 := Lib.hid C2
        have HC3 := Lib.hid C3
        have HC4 := Lib.hid C4
        have E5 := Lib.hid e5
        have H4 := Lib.hid h4
        have hvb : ∀ g, u6.ownBlock = some g → g ≠ wr.heap.size := fun g hg => by have := (hown.lt g hg).2; omega
        clear C1 C2 C3 C4 e1 e2 e3 e4 e5 h1 h2 h3 h4
        rcases List.eq_nil_or_concat acc with rfl | ⟨ac0, q, rfl⟩
        · obtain ⟨A', c', rfl, hA1, hA2, hA3, hA4⟩ := own_form hown
          clear hA1 hA2 hA3 hA4
          simp only [List.length_nil] at hown hvb
          go_wp2_with (first
            | (go_at_call_of 46 (Value.int .i64 11); go_must (refine (HC1.out _ (hrd.kept fun _ _ h => h.alloc _) (hrr.alloc (by omega) _)).mono ?_); rintro e w2 ⟨hg2, rfl, hr2⟩; have hbel2 := (hbel.trans ((Below.refl w.heap.size wr).alloc hbs (.cells #[.int .i64 0, .string ByteArray.empty, .int .i64 0, .int .i64 0] 29))).trans (below_of_only hg2 (Nat.le_refl _) (by simp; omega)); have hx2 := (Blk.new wr 29 #[.int .i64 0, .string ByteArray.empty, .int .i64 0, .int .i64 0]).grown hg2 (by simp; omega); have hown2 := own_only (hown.alloc (.cells #[.int .i64 0, .string ByteArray.empty, .int .i64 0, .int .i64 0] 29)) hg2 (by omega); have x0 := hx2.cell 0; have y0 := hx2.frozen 0; simp at x0)
            | (go_at_call 47; go_must (refine (HC2.out _ (hr2.kept fun _ _ h => h.far (by simp; omega) _) ((hr.below hbel2 hB).setCell (by simp; omega) _)).mono ?_); rintro e w3 ⟨hg3, rfl, hr3⟩; have hx3 := (hx2.set_ 0 (.int .i64 nd)).grown hg3 (by simp; omega); have hown3 := own_only (own_setc hown2 hvb 0 (.int .i64 nd)) hg3 (by omega); have hbel3 := (hbel2.setCell (p := ⟨wr.heap.size, 0, none⟩) (by simp; omega) (.int .i64 nd)).trans (below_of_only hg3 (Nat.le_refl _) (by simp; exact hbel2.size)); have x1 := hx3.cell 1; have y1 := hx3.frozen 1; simp at x1; clear x0 y0))
          go_wp2_with fail
          refine (HC3.out _ (hr3.kept fun _ _ h => h.far (by simp; omega) _) ((hr.below hbel3 hB).setCell (by simp; omega) _)).mono ?_
          rintro e w4 ⟨hg4, rfl, hr4⟩
          have hx4 := (hx3.set_ 1 (.string ⟨kb.toArray⟩)).grown hg4 (by simp; omega)
          have hown4 := own_only (own_setc hown3 hvb 1 (.string ⟨kb.toArray⟩)) hg4 (by omega)
          have hbel4 := (hbel3.setCell (p := ⟨wr.heap.size, 1, none⟩) (by simp; omega) (.string ⟨kb.toArray⟩)).trans (below_of_only hg4 (Nat.le_refl _) (by simp; exact hbel3.size))
          have x2 := hx4.cell 2
          have y2 := hx4.frozen 2
          simp at x2
          clear x1 y1
          go_wp2_with fail
          refine (HC4.out _ (hr4.kept fun _ _ h => h.far (by simp; omega) _) ((hr.below hbel4 hB).setCell (by simp; omega) _)).mono ?_
          rintro e w5 ⟨hg5, rfl, hr5⟩
          have hx5 := (hx4.set_ 2 (.int .i64 va)).grown hg5 (by simp; omega)
          have hown5 := own_only (own_setc hown4 hvb 2 (.int .i64 va)) hg5 (by omega)
          have hbel5 := (hbel4.setCell (p := ⟨wr.heap.size, 2, none⟩) (by simp; omega) (.int .i64 va)).trans (below_of_only hg5 (Nat.le_refl _) (by simp; exact hbel4.size))
          have x3 := hx5.cell 3
          have y3 := hx5.frozen 3
          simp at x3
          clear x2 y2
          go_wp2_with fail
          have hx6 := hx5.set_ 3 (.int .i64 vb)
          have hown6 := own_setc hown5 hvb 3 (.int .i64 vb)
          have hbel6 := hbel5.setCell (p := ⟨wr.heap.size, 3, none⟩) (by simp; omega) (.int .i64 vb)
          have hr6 := hr5.kept (w' := w5.setCell ⟨wr.heap.size, 3, none⟩ (.int .i64 vb)) (fun _ _ h => h.far (by simp; omega) _)
          simp at hx6
          clear hr2 hr3 hr4 hr5 hbel2 hbel3 hbel4 hbel5 hown2 hown3 hown4 hown5 hg2 hg3 hg4 hg5 hx2 hx3 hx4 hx5 x3 y3 HC1 HC2 HC3 HC4
          generalize w5.setCell ⟨wr.heap.size, 3, none⟩ (.int .i64 vb) = w6 at *
          have hl6 := hr6.lt
          have hgx := hx6.lt
          obtain ⟨gx, hgxe⟩ : ∃ gx, gx = wr.heap.size := ⟨_, rfl⟩
          rw [← hgxe] at hx6 hgx hvb ⊢
          have hgw : w.heap.size < gx := by omega
          clear hgxe
          go_quiet (fail)
          have hr8 := hr6.kept (w' := w6.drewN nq) (fun _ _ h => h)
          have hx8 := hx6.drewN nq
          have hown8 := own_drewN hown6 nq
          have hbel8 := below_drewN hbel6 nq
          generalize w6.drewN nq = w8 at *
          clear hr6 hx6 hown6 hbel6
          have HS : Hid (riseS (lastOf []) ⟨nd, ⟨kb.toArray⟩, va, vb⟩ s4 = s4) := Lib.hid rfl
          obtain ⟨b0, b1, b2, b3⟩ := cells4 hx8
          have hl8 := hr8.lt
          go_wp2_with (first | (with_reducible show wpList _ _ _ (⟨some 58, _, _, _, _, _⟩ :: _) _ _; go_must (refine wpList_newg (.tmp 55) (.tmp 57) el_held' rfl rfl hown8 rfl rfl (by simp) rfl rfl (by first | omega | (simp only [List.length_append, List.length_cons, List.length_nil] at hacc ⊢; omega)) (by omega) ?_); intro v9 w9 ho9 hb9 hg9 ha9))
          go_roundw
          case rel =>
            refine ⟨k + 1, s4, [] ++ [⟨nd, ⟨kb.toArray⟩, va, vb⟩], by omega, (by first | omega | (simp only [List.length_append, List.length_cons, List.length_nil] at hacc ⊢; omega) | (have h := Hn.out; simp only [List.length_append, List.length_cons, List.length_nil] at h ⊢; omega)), by go_num, ?_, H4.out, Hrs.out.next hlt E5.out HS.out, ?_, hbel8.trans (hb9.mono (by omega))⟩
            · exact hr8.kept fun _ _ h => Blk.own h hown8 hg9 (by omega)
            · rw [hldCells_snoc, List.length_append]; first | exact ho9 | (rw [← Hn.out]; exact ho9) | (simpa [Hld.cells] using ho9)
          case measure => simp [intOf]; omega
        · have hlen : (ac0 ++ [q]).length = ac0.length + 1 := by simp
          rw [List.concat_eq_append] at *
          obtain ⟨A', c', rfl, hA1, hA2, hA3, hA4⟩ := own_form hown
          obtain ⟨j, hj⟩ : ∃ j, j = ac0.length := ⟨_, rfl⟩
          obtain ⟨n, hn⟩ : ∃ n, n = (ac0 ++ [q]).length := ⟨_, rfl⟩
          have hnj : n = j + 1 := by rw [hn, hlen, hj]
          have Hn := Lib.hid hn
          rw [← hn] at hown hacc hvb ⊢
          have Hnj := Lib.hid hnj
          have hj1 := Lib.hid hj
          have hi1 : (j : Int) < (n : Int) := by omega
          have hi4 : 0 < n := by omega
          have hi5 : j < n := by omega
          have hi2 : IntKind.i64.wrap ((n : Int) - 1) = (j : Int) := by rw [IntWalk.i64_in _ (by omega)]; omega
          have hi3 : IntKind.i64.wrap (j : Int) = (j : Int) := IntWalk.i64_in _ (by omega)
          have hjN : j < 400 := by omega
          clear hn hnj hj hA1 hA2 hA3 hA4
          go_wp2_with (first
            | (go_at_call_of 46 (Value.int .i64 11); go_must (refine (HC1.out _ (hrd.kept fun _ _ h => h.alloc _) (hrr.alloc (by omega) _)).mono ?_); rintro e w2 ⟨hg2, rfl, hr2⟩; have hbel2 := (hbel.trans ((Below.refl w.heap.size wr).alloc hbs (.cells #[.int .i64 0, .string ByteArray.empty, .int .i64 0, .int .i64 0] 29))).trans (below_of_only hg2 (Nat.le_refl _) (by simp; omega)); have hx2 := (Blk.new wr 29 #[.int .i64 0, .string ByteArray.empty, .int .i64 0, .int .i64 0]).grown hg2 (by simp; omega); have hown2 := own_only (hown.alloc (.cells #[.int .i64 0, .string ByteArray.empty, .int .i64 0, .int .i64 0] 29)) hg2 (by omega); have x0 := hx2.cell 0; have y0 := hx2.frozen 0; simp at x0)
            | (go_at_call 47; go_must (refine (HC2.out _ (hr2.kept fun _ _ h => h.far (by simp; omega) _) ((hr.below hbel2 hB).setCell (by simp; omega) _)).mono ?_); rintro e w3 ⟨hg3, rfl, hr3⟩; have hx3 := (hx2.set_ 0 (.int .i64 nd)).grown hg3 (by simp; omega); have hown3 := own_only (own_setc hown2 hvb 0 (.int .i64 nd)) hg3 (by omega); have hbel3 := (hbel2.setCell (p := ⟨wr.heap.size, 0, none⟩) (by simp; omega) (.int .i64 nd)).trans (below_of_only hg3 (Nat.le_refl _) (by simp; exact hbel2.size)); have x1 := hx3.cell 1; have y1 := hx3.frozen 1; simp at x1; clear x0 y0))
          go_wp2_with fail
          refine (HC3.out _ (hr3.kept fun _ _ h => h.far (by simp; omega) _) ((hr.below hbel3 hB).setCell (by simp; omega) _)).mono ?_
          rintro e w4 ⟨hg4, rfl, hr4⟩
          have hx4 := (hx3.set_ 1 (.string ⟨kb.toArray⟩)).grown hg4 (by simp; omega)
          have hown4 := own_only (own_setc hown3 hvb 1 (.string ⟨kb.toArray⟩)) hg4 (by omega)
          have hbel4 := (hbel3.setCell (p := ⟨wr.heap.size, 1, none⟩) (by simp; omega) (.string ⟨kb.toArray⟩)).trans (below_of_only hg4 (Nat.le_refl _) (by simp; exact hbel3.size))
          have x2 := hx4.cell 2
          have y2 := hx4.frozen 2
          simp at x2
          clear x1 y1
          go_wp2_with fail
          refine (HC4.out _ (hr4.kept fun _ _ h => h.far (by simp; omega) _) ((hr.below hbel4 hB).setCell (by simp; omega) _)).mono ?_
          rintro e w5 ⟨hg5, rfl, hr5⟩
          have hx5 := (hx4.set_ 2 (.int .i64 va)).grown hg5 (by simp; omega)
          have hown5 := own_only (own_setc hown4 hvb 2 (.int .i64 va)) hg5 (by omega)
          have hbel5 := (hbel4.setCell (p := ⟨wr.heap.size, 2, none⟩) (by simp; omega) (.int .i64 va)).trans (below_of_only hg5 (Nat.le_refl _) (by simp; exact hbel4.size))
          have x3 := hx5.cell 3
          have y3 := hx5.frozen 3
          simp at x3
          clear x2 y2
          go_wp2_with fail
          have hx6 := hx5.set_ 3 (.int .i64 vb)
          have hown6 := own_setc hown5 hvb 3 (.int .i64 vb)
          have hbel6 := hbel5.setCell (p := ⟨wr.heap.size, 3, none⟩) (by simp; omega) (.int .i64 vb)
          have hr6 := hr5.kept (w' := w5.setCell ⟨wr.heap.size, 3, none⟩ (.int .i64 vb)) (fun _ _ h => h.far (by simp; omega) _)
          simp at hx6
          clear hr2 hr3 hr4 hr5 hbel2 hbel3 hbel4 hbel5 hown2 hown3 hown4 hown5 hg2 hg3 hg4 hg5 hx2 hx3 hx4 hx5 x3 y3 HC1 HC2 HC3 HC4
          generalize w5.setCell ⟨wr.heap.size, 3, none⟩ (.int .i64 vb) = w6 at *
          have hl6 := hr6.lt
          have hgx := hx6.lt
          obtain ⟨gx, hgxe⟩ : ∃ gx, gx = wr.heap.size := ⟨_, rfl⟩
          rw [← hgxe] at hx6 hgx hvb ⊢
          have hgw : w.heap.size < gx := by omega
          clear hgxe
          obtain ⟨ad, q', hq', hbq, hxq, p0, p1, p2, p3⟩ := (own_rd hown6).hld_ (k := j) hi5 Hn.out.symm (Below.refl w6.heap.size w6) (Nat.le_refl _)
          subst hq'
          have hqq : q' = q := by rw [hj1.out] at hxq; simpa using hxq.symm
          subst hqq
          clear hxq
          have hi0 : (0 : Int) ≤ (j : Int) := by omega
          by_cases hcmp : 0 ≤ cmpH q' ⟨nd, ⟨kb.toArray⟩, va, vb⟩
          · have HC : Hid (decide (cmpH q' ⟨nd, ⟨kb.toArray⟩, va, vb⟩ < 0) = false) := Lib.hid (by simp; omega)
            have HS : Hid (riseS (lastOf (ac0 ++ [q'])) ⟨nd, ⟨kb.toArray⟩, va, vb⟩ s4 = none) := Lib.hid (by simp only [lastOf_snoc, riseS, notAfter]; rw [if_pos (by simpa using hcmp)])
            clear hcmp
            go_region_held3 (fun w' => (w'.cell? (ad.add (j * 4)) = some (.int .i64 q'.node) ∧ w'.cell? ⟨(ad.add (j * 4)).block, (ad.add (j * 4)).off + 1, none⟩ = some (.string q'.key) ∧ w'.cell? ⟨(ad.add (j * 4)).block, (ad.add (j * 4)).off + 2, none⟩ = some (.int .i64 q'.a) ∧ w'.cell? ⟨(ad.add (j * 4)).block, (ad.add (j * 4)).off + 3, none⟩ = some (.int .i64 q'.b)) ∧ w'.cell? ⟨gx, 0, none⟩ = some (.int .i64 nd) ∧ w'.cell? ⟨gx, 1, none⟩ = some (.string ⟨kb.toArray⟩) ∧ w'.cell? ⟨gx, 2, none⟩ = some (.int .i64 va) ∧ w'.cell? ⟨gx, 3, none⟩ = some (.int .i64 vb)) (first | exact ⟨pc, cells4 hx7⟩ | exact ⟨⟨p0, p1, p2, p3⟩, cells4 hx6⟩)
              ((first
                | (go_at_call 39; go_must (refine (sahead_is q' ⟨nd, ⟨kb.toArray⟩, va, vb⟩ _ HC.out).mono ?_); rintro e w7 ⟨rfl, hb8⟩; have hx7 := Blk.up hx6.drew hb8; have pc := keep4 hb8 hbq p0 p1 p2 p3; have hown7 := own_up (own_drew hown6) hb8; have hbel7 := hbel6.drew.trans (hb8.mono hbel6.size); have hr7 := hr6.kept (w' := w7) (fun _ _ h => Blk.up h.drew hb8))))
            clear hr6 hx6 hown6 hbel6 pc p0 p1 p2 p3 hb8
            have d2 := hr7.bad
            have f2 := hr7.free 2
            have hr8 := hr7.fail H4.out
            have hx8 := hx7.far (p := ⟨w.heap.size, 2, none⟩) (by simp; omega) (.bool true)
            have hown8 := own_setc hown7 (g := w.heap.size) (fun g hg => by have := (hown7.lt g hg).1; omega) 2 (.bool true)
            have hbel8 := hbel7.setCell (p := ⟨w.heap.size, 2, none⟩) (by simp) (.bool true)
            clear hown7 hbel7
            have HN : Hid (Stands l none) := Lib.hid (fun _ h => by cases h)
            obtain ⟨b0, b1, b2, b3⟩ := cells4 hx8
            have hl8 := hr8.lt
            go_wp2_with (first | (with_reducible show wpList _ _ _ (⟨some 58, _, _, _, _, _⟩ :: _) _ _; go_must (refine wpList_newg (.tmp 55) (.tmp 57) el_held' rfl rfl hown8 rfl rfl (by simp) rfl rfl (by first | omega | (simp only [List.length_append, List.length_cons, List.length_nil] at hacc ⊢; omega)) (by omega) ?_); intro v9 w9 ho9 hb9 hg9 ha9))
            go_roundw
            case rel =>
              refine ⟨k + 1, none, (ac0++[q']) ++ [⟨nd, ⟨kb.toArray⟩, va, vb⟩], by omega, (by first | omega | (simp only [List.length_append, List.length_cons, List.length_nil] at hacc ⊢; omega) | (have h := Hn.out; simp only [List.length_append, List.length_cons, List.length_nil] at h ⊢; omega)), by go_num, ?_, HN.out, Hrs.out.next hlt E5.out HS.out, ?_, hbel8.trans (hb9.mono (by omega))⟩
              · exact hr8.kept fun _ _ h => Blk.own h hown8 hg9 (by omega)
              · rw [hldCells_snoc, List.length_append]; first | exact ho9 | (rw [← Hn.out]; exact ho9) | (simpa [Hld.cells] using ho9)
            case measure => simp [intOf]; omega
          · have HC : Hid (decide (cmpH q' ⟨nd, ⟨kb.toArray⟩, va, vb⟩ < 0) = true) := Lib.hid (by simp; omega)
            have HS : Hid (riseS (lastOf (ac0 ++ [q'])) ⟨nd, ⟨kb.toArray⟩, va, vb⟩ s4 = s4) := Lib.hid (by simp only [lastOf_snoc, riseS, notAfter]; rw [if_neg (by simpa using hcmp)])
            clear hcmp
            go_region_held3 (fun w' => (w'.cell? (ad.add (j * 4)) = some (.int .i64 q'.node) ∧ w'.cell? ⟨(ad.add (j * 4)).block, (ad.add (j * 4)).off + 1, none⟩ = some (.string q'.key) ∧ w'.cell? ⟨(ad.add (j * 4)).block, (ad.add (j * 4)).off + 2, none⟩ = some (.int .i64 q'.a) ∧ w'.cell? ⟨(ad.add (j * 4)).block, (ad.add (j * 4)).off + 3, none⟩ = some (.int .i64 q'.b)) ∧ w'.cell? ⟨gx, 0, none⟩ = some (.int .i64 nd) ∧ w'.cell? ⟨gx, 1, none⟩ = some (.string ⟨kb.toArray⟩) ∧ w'.cell? ⟨gx, 2, none⟩ = some (.int .i64 va) ∧ w'.cell? ⟨gx, 3, none⟩ = some (.int .i64 vb)) (first | exact ⟨pc, cells4 hx7⟩ | exact ⟨⟨p0, p1, p2, p3⟩, cells4 hx6⟩)
              ((first
                | (go_at_call 39; go_must (refine (sahead_is q' ⟨nd, ⟨kb.toArray⟩, va, vb⟩ _ HC.out).mono ?_); rintro e w7 ⟨rfl, hb8⟩; have hx7 := Blk.up hx6.drew hb8; have pc := keep4 hb8 hbq p0 p1 p2 p3; have hown7 := own_up (own_drew hown6) hb8; have hbel7 := hbel6.drew.trans (hb8.mono hbel6.size); have hr7 := hr6.kept (w' := w7) (fun _ _ h => Blk.up h.drew hb8))))
            clear hr6 hx6 hown6 hbel6 pc p0 p1 p2 p3 hb8
            obtain ⟨w8, hw8⟩ : ∃ w8, w8 = w7 := ⟨_, rfl⟩
            subst hw8
            have hr8 := hr7
            have hx8 := hx7
            have hown8 := hown7
            have hbel8 := hbel7
            clear hr7 hx7 hown7 hbel7
            obtain ⟨b0, b1, b2, b3⟩ := cells4 hx8
            have hl8 := hr8.lt
            go_wp2_with (first | (with_reducible show wpList _ _ _ (⟨some 58, _, _, _, _, _⟩ :: _) _ _; go_must (refine wpList_newg (.tmp 55) (.tmp 57) el_held' rfl rfl hown8 rfl rfl (by simp) rfl rfl (by first | omega | (simp only [List.length_append, List.length_cons, List.length_nil] at hacc ⊢; omega)) (by omega) ?_); intro v9 w9 ho9 hb9 hg9 ha9))
            go_roundw
            case rel =>
              refine ⟨k + 1, s4, (ac0++[q']) ++ [⟨nd, ⟨kb.toArray⟩, va, vb⟩], by omega, (by first | omega | (simp only [List.length_append, List.length_cons, List.length_nil] at hacc ⊢; omega) | (have h := Hn.out; simp only [List.length_append, List.length_cons, List.length_nil] at h ⊢; omega)), by go_num, ?_, H4.out, Hrs.out.next hlt E5.out HS.out, ?_, hbel8.trans (hb9.mono (by omega))⟩
              · exact hr8.kept fun _ _ h => Blk.own h hown8 hg9 (by omega)
              · rw [hldCells_snoc, List.length_append]; first | exact ho9 | (rw [← Hn.out]; exact ho9) | (simpa [Hld.cells] using ho9)
            case measure => simp [intOf]; omega
      · have HD := Lib.hid ((Hrs.out.1 rfl).done (by omega))
        have Hs := Lib.hid (Hst.out a rfl)
        obtain ⟨n, hn⟩ : ∃ n, n = l.length := ⟨_, rfl⟩
        have Hn := Lib.hid hn
        rw [← hn]
        clear hn
        by_cases hE : a = n
        · have HE := Lib.hid hE
          have t1 : ((a : Int) != (n : Int)) = false := by simp; omega
          clear hE
          go_wp2
          go_ret2
          have hN : readHelds l = some acc := by rw [HR.out, HD.out, if_pos (by simp [endS, HE.out, Hn.out])]
          rw [hN]
          exact ⟨_, rfl, own_base hown (by omega), hbel⟩
        · have HE := Lib.hid hE
          have t1 : ((a : Int) != (n : Int)) = true := by simp; omega
          clear hE
          go_wp2
          go_ret2
          have hN : readHelds l = none := by rw [HR.out, HD.out, if_neg (by simp [endS]; have := HE.out; have := Hn.out; omega)]
          rw [hN]
          exact ⟨_, rfl, World.ownsRow_nil _ _ _ _, hbel⟩
end Go.Proofs.YtcfijljagohmlaaGreatDoor
