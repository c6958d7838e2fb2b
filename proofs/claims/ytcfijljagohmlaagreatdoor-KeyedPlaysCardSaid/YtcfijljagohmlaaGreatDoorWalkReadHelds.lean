/- The walk of frame.ReadHelds. -/
import Derived.Test.YtcfijljagohmlaaGreatDoorWalkReader2
import Derived.Test.YtcfijljagohmlaaGreatDoorWalkHeld
import Derived.Test.YtcfijljagohmlaaGreatDoorPlainReadH
import Derived.Test.YtcfijljagohmlaaGreatDoorBase2
namespace Go.Proofs.YtcfijljagohmlaaGreatDoor
open Go.RowKit

theorem el_held : Elt Tryz.prog 25 29 (.agg #[.int .i64 0, .string ByteArray.empty, .int .i64 0, .int .i64 0]) 4 40 := ⟨Tryz.underlying25, by kernel_rfl, rfl, by omega, by omega⟩

theorem Rdr.kept {w w' : World} {g : Nat} {A : Option Addr} {c : Nat} {l : List UInt8} {s : Option Nat} (h : Rdr w g A c l s) (hk : ∀ t cs, Blk w g t cs → Blk w' g t cs) : Rdr w' g A c l s := by
  rcases s with _ | a
  · obtain ⟨a, ha, hb⟩ := h
    exact ⟨a, ha, hk _ _ hb⟩
  · exact hk _ _ h
theorem Rdr.lt {w : World} {g : Nat} {A : Option Addr} {c : Nat} {l : List UInt8} {s : Option Nat} (h : Rdr w g A c l s) : g < w.heap.size := by
  rcases s with _ | a
  · obtain ⟨a, ha, hb⟩ := h
    exact hb.lt
  · exact Blk.lt h
/-- The error in a reader. -/
theorem Rdr.err {w : World} {g : Nat} {A : Option Addr} {c : Nat} {l : List UInt8} {s : Option Nat} (h : Rdr w g A c l s) : w.cell? ⟨g, 2, none⟩ = some (errV (if s.isSome then 0 else 9)) := by
  rcases s with _ | a
  · obtain ⟨a, ha, hb⟩ := h
    exact hb.cell 2
  · exact Blk.cell h 2

set_option maxRecDepth 100000 in
set_option maxHeartbeats 8000000 in
theorem readhelds_any (A : Option Addr) (c B : Nat) (l : List UInt8) (w : World) (hr : Rd w B 1 A l.length (l.map bv)) (hB : B ≤ w.heap.size) (hl : l.length ≤ 140737488355328) (hc : l.length ≤ c) :
    Calls Tryz.prog 41 #[.slice A l.length c] w fun e w' => ∃ v, e = .returned (.tuple #[v, errV (rhE l)]) ∧
      w'.ownsRow w.heap.size 29 4 v ((readHelds l).getD []).length (hldCells ((readHelds l).getD [])) ∧ Below w.heap.size w w' := by
  have hst : Stands l (some 0) := by intro a h; injection h with h; omega
  obtain ⟨hs0, hu0, hu1⟩ := uptoS_bd l 400 (some 0) hst (by omega)
  obtain ⟨N, hN⟩ : ∃ N : Nat, (uptoS l 400 (some 0)).1 = (N : Int) := ⟨(uptoS l 400 (some 0)).1.toNat, by omega⟩
  obtain ⟨s0, hs0'⟩ : ∃ s0, s0 = (uptoS l 400 (some 0)).2 := ⟨_, rfl⟩
  have HR : Hid (readHelds l = if endS l (hldsS l N none s0).2 then some (hldsS l N none s0).1 else none) := by rw [readHelds, hN, ← hs0', Int.toNat_natCast]; rfl
  rw [hN] at hu0 hu1
  rw [← hs0'] at hs0
  have CU := fun (w0 : World) (h : Rdr w0 w.heap.size A c l (some 0)) (h2 : Rd w0 B 1 A l.length (l.map bv)) => rdupto_any w.heap.size A c B l 400 (some 0) w0 h h2 hB hst hl
  simp only [hN, ← hs0'] at CU
  have HCU := Lib.hid CU
  clear CU hN hs0' hst
  go_enter Tryz.func41, Tryz.ntmps41
  go_wp2_with (first | (go_at_call 73; go_must (refine (HCU.out _ (Blk.new w _ _) (hr.alloc hB _)).mono ?_); rintro e w1 ⟨hg1, rfl, hr1⟩))
  have hbw1 : Below w.heap.size w w1 := below_of_only (w := w.alloc _) hg1 (Nat.le_refl _) (by simp) |> fun h => ((Below.refl _ _).alloc (Nat.le_refl _) _).trans h
  clear HCU
  go_loopw [5, 12] (fun v i wr => ∃ k : Nat, ∃ s : Option Nat, ∃ acc : List Hld, k ≤ N ∧ acc.length ≤ k ∧ i = .int .i64 k ∧ Rdr wr w.heap.size A c l s ∧ Hid (Stands l s) ∧ Hid (Reads3 l N s0 acc k s) ∧
      wr.ownsRow (w.heap.size + 1) 29 4 v acc.length (hldCells acc) ∧ Below w.heap.size w wr) (fun _ i _ => N - (intOf i).toNat)
  case atStart => exact ⟨0, s0, [], Nat.zero_le _, Nat.le_refl _, rfl, hr1, hs0, Reads3.start _ _ _, World.ownsRow_nil _ _ _ _, hbw1⟩
  case round =>
    obtain ⟨k, s, acc, hk, hacc, rfl, hrd, Hst, Hrs, hown, hbel⟩ := hrel
    have hbs := hbel.size
    have hrr := hr.below hbel hB
    by_cases hlt : k < N
    · obtain ⟨A', c', rfl, hA1, hA2, hA3, hA4⟩ := own_form hown
      obtain ⟨nd, s1, kb, s2, a, s3, b, s4, e1, e2, e3, e4, e5, h1, h2, h3, h4, hkb, hn0, hn1, ha0, ha1, hb0, hb1⟩ := hld_parts l s Hst.out
      have C1 := rdupto_any w.heap.size A c B l 11 s wr hrd hrr hB Hst.out hl
      have C2 := fun (w0 : World) (h : Rdr w0 w.heap.size A c l s1) (h2' : Rd w0 B 1 A l.length (l.map bv)) => rdtext_any w.heap.size A c B l 40 s1 w0 h h2' hB h1 hl (by omega) (by omega) hc
      have C3 := fun (w0 : World) (h : Rdr w0 w.heap.size A c l s2) (h2' : Rd w0 B 1 A l.length (l.map bv)) => rdnum_any w.heap.size A c B l s2 w0 h h2' hB h2 hl
      have C4 := fun (w0 : World) (h : Rdr w0 w.heap.size A c l s3) (h2' : Rd w0 B 1 A l.length (l.map bv)) => rdnum_any w.heap.size A c B l s3 w0 h h2' hB h3 hl
      simp only [e1] at C1
      simp only [e2] at C2
      simp only [e3] at C3
      simp only [e4] at C4
      have HC1 := Lib.hid C1
      have HC2 := Lib.hid C2
      have HC3 := Lib.hid C3
      have HC4 := Lib.hid C4
      have E5 := Lib.hid e5
      have H4 := Lib.hid h4
      clear C1 C2 C3 C4 e1 e2 e3 e4 e5 h1 h2 h3 h4
      rcases List.eq_nil_or_concat acc with rfl | ⟨ac0, q, rfl⟩
      ·
        go_wp2_with (first
          | (go_at_call_of 73 (Value.int .i64 11); go_must (refine HC1.out.mono ?_); rintro e w2 ⟨hg2, rfl, hr2⟩; have hbel2 := hbel.trans (below_of_only hg2 (Nat.le_refl _) hbs); have hwn2 := own_only hown hg2 (by omega))
          | (go_at_call 74; go_must (refine (HC2.out _ hr2 (hr.below hbel2 hB)).mono ?_); rintro e w3 ⟨hg3, rfl, hr3⟩; have hbel3 := hbel2.trans (below_of_only hg3 (Nat.le_refl _) hbel2.size); have hwn3 := own_only hwn2 hg3 (by omega))
          | (go_at_call 75; refine (HC3.out _ hr3 (hr.below hbel3 hB)).mono ?_; rintro e w4 ⟨hg4, rfl, hr4⟩; have hbel4 := hbel3.trans (below_of_only hg4 (Nat.le_refl _) hbel3.size); have hwn4 := own_only hwn3 hg4 (by omega); clear HC3)
          | (go_at_call 75; go_must (refine (HC4.out _ hr4 (hr.below hbel4 hB)).mono ?_); rintro e w5 ⟨hg5, rfl, hr5⟩; have hbel5 := hbel4.trans (below_of_only hg5 (Nat.le_refl _) hbel4.size); have hwn5 := own_only hwn4 hg5 (by omega)))
        have hr6 := hr5.kept (w' := w5.alloc (.cells #[.int .i64 nd, .string ⟨kb.toArray⟩, .int .i64 a, .int .i64 b] 29)) (fun _ _ h => h.alloc _)
        have hbx := Blk.new w5 29 #[.int .i64 nd, .string ⟨kb.toArray⟩, .int .i64 a, .int .i64 b]
        have hwn6 := hwn5.alloc (.cells #[.int .i64 nd, .string ⟨kb.toArray⟩, .int .i64 a, .int .i64 b] 29)
        have hbel6 := hbel5.trans ((Below.refl w.heap.size _).alloc hbel5.size (.cells #[.int .i64 nd, .string ⟨kb.toArray⟩, .int .i64 a, .int .i64 b] 29))
        have hl5 := hr5.lt
        have hl6 : w5.heap.size < (w5.alloc (.cells #[.int .i64 nd, .string ⟨kb.toArray⟩, .int .i64 a, .int .i64 b] 29)).heap.size := by simp
        generalize w5.alloc (.cells #[.int .i64 nd, .string ⟨kb.toArray⟩, .int .i64 a, .int .i64 b] 29) = w6 at *
        clear hr2 hr3 hr4 hr5 hbel2 hbel3 hbel4 hwn2 hwn3 hwn4 hwn5 hg2 hg3 hg4 hg5 HC1 HC2 HC4
        obtain ⟨g6, hg6⟩ : ∃ g6, g6 = w5.heap.size := ⟨_, rfl⟩
        rw [← hg6] at hbx hl6 hl5 ⊢
        clear hg6 hbel5
        go_quiet (fail)
        have hr7 := hr6.kept (w' := w6.drewN nq) (fun _ _ h => h)
        have hbx7 := hbx.drewN nq
        have hwn7 := own_drewN hwn6 nq
        have hbel7 := below_drewN hbel6 nq
        have hl7 : g6 < (w6.drewN nq).heap.size := hl6
        generalize w6.drewN nq = w7 at *
        rcases s4 with _ | a4
        · have HS : Hid (riseS (lastOf []) ⟨nd, ⟨kb.toArray⟩, a, b⟩ none = none) := rfl
          have d2 := hr7.err
          simp only [Option.isSome, Bool.false_eq_true, if_false, errV, Nat.reduceEqDiff] at d2
          go_wp2_with (first | (go_at_call 77; go_must (refine (rdend_any w.heap.size A c l none _ hr7 (by intro _ h; cases h)).mono ?_); rintro e w8 ⟨hg8, rfl⟩; rw [show errV (if endS l none = true then 0 else 9) = .iface 86 (.int .i64 9) from rfl]))
          go_ret2
          have hN : readHelds l = none := by rw [HR.out, Hrs.out.bad hlt E5.out HS.out]; rfl
          rw [rhE_none hN, hN]
          exact ⟨_, by rfl, World.ownsRow_nil _ _ _ _, hbel7.trans (below_of_only hg8 (Nat.le_refl _) hbel7.size)⟩
        · have HS : Hid (riseS (lastOf []) ⟨nd, ⟨kb.toArray⟩, a, b⟩ (some a4) = some a4) := rfl
          have d2 := hr7.err
          simp only [Option.isSome, if_true, errV] at d2
          obtain ⟨b0, b1, b2, b3⟩ := cells4 hbx7
          go_wp2_with (first | (with_reducible show wpList _ _ _ (⟨some 40, _, _, _, _, _⟩ :: _) _ _; go_must (refine wpList_newg (.tmp 37) (.tmp 39) el_held rfl rfl hwn7 rfl rfl (by simp) rfl rfl (by first | omega | (simp only [List.length_append, List.length_cons, List.length_nil] at hacc ⊢; omega)) (by omega) ?_); intro v9 w9 ho9 hb9 hg9 ha9))
          go_roundw
          case rel =>
            refine ⟨k + 1, some a4, [] ++ [⟨nd, ⟨kb.toArray⟩, a, b⟩], by omega, (by first | omega | (simp only [List.length_append, List.length_cons, List.length_nil] at hacc ⊢; omega) | (have h := Hn.out; simp only [List.length_append, List.length_cons, List.length_nil] at h ⊢; omega)), by go_num, ?_, H4.out, Hrs.out.step hlt E5.out HS.out, ?_, ?_⟩
            · exact hr7.kept fun t cs h => h.grown hg9 fun e => by have := (hwn7.lt _ e.symm).1; omega
            · rw [hldCells_snoc, List.length_append]; first | exact ho9 | (rw [← Hn.out]; exact ho9) | (simpa [Hld.cells] using ho9)
            · exact hbel7.trans (hb9.mono (by omega))
          case measure => simp [intOf]; omega
      · have hlen : (ac0 ++ [q]).length = ac0.length + 1 := by simp
        rw [List.concat_eq_append] at *
        obtain ⟨j, hj⟩ : ∃ j, j = ac0.length := ⟨_, rfl⟩
        obtain ⟨n, hn⟩ : ∃ n, n = (ac0 ++ [q]).length := ⟨_, rfl⟩
        have hnj : n = j + 1 := by rw [hn, hlen, hj]
        have Hn := Lib.hid hn
        rw [← hn] at hown hacc ⊢
        have Hnj := Lib.hid hnj
        have hj1 := Lib.hid hj
        have hi1 : (j : Int) < (n : Int) := by omega
        have hi4 : 0 < n := by omega
        have hi5 : j < n := by omega
        have hi2 : IntKind.i64.wrap ((n : Int) - 1) = (j : Int) := by rw [IntWalk.i64_in _ (by omega)]; omega
        have hi3 : IntKind.i64.wrap (j : Int) = (j : Int) := IntWalk.i64_in _ (by omega)
        have hjN : j < 400 := by omega
        clear hn hnj hj
        go_wp2_with (first
          | (go_at_call_of 73 (Value.int .i64 11); go_must (refine HC1.out.mono ?_); rintro e w2 ⟨hg2, rfl, hr2⟩; have hbel2 := hbel.trans (below_of_only hg2 (Nat.le_refl _) hbs); have hwn2 := own_only hown hg2 (by omega))
          | (go_at_call 74; go_must (refine (HC2.out _ hr2 (hr.below hbel2 hB)).mono ?_); rintro e w3 ⟨hg3, rfl, hr3⟩; have hbel3 := hbel2.trans (below_of_only hg3 (Nat.le_refl _) hbel2.size); have hwn3 := own_only hwn2 hg3 (by omega))
          | (go_at_call 75; refine (HC3.out _ hr3 (hr.below hbel3 hB)).mono ?_; rintro e w4 ⟨hg4, rfl, hr4⟩; have hbel4 := hbel3.trans (below_of_only hg4 (Nat.le_refl _) hbel3.size); have hwn4 := own_only hwn3 hg4 (by omega); clear HC3)
          | (go_at_call 75; go_must (refine (HC4.out _ hr4 (hr.below hbel4 hB)).mono ?_); rintro e w5 ⟨hg5, rfl, hr5⟩; have hbel5 := hbel4.trans (below_of_only hg5 (Nat.le_refl _) hbel4.size); have hwn5 := own_only hwn4 hg5 (by omega)))
        have hr6 := hr5.kept (w' := w5.alloc (.cells #[.int .i64 nd, .string ⟨kb.toArray⟩, .int .i64 a, .int .i64 b] 29)) (fun _ _ h => h.alloc _)
        have hbx := Blk.new w5 29 #[.int .i64 nd, .string ⟨kb.toArray⟩, .int .i64 a, .int .i64 b]
        have hwn6 := hwn5.alloc (.cells #[.int .i64 nd, .string ⟨kb.toArray⟩, .int .i64 a, .int .i64 b] 29)
        have hbel6 := hbel5.trans ((Below.refl w.heap.size _).alloc hbel5.size (.cells #[.int .i64 nd, .string ⟨kb.toArray⟩, .int .i64 a, .int .i64 b] 29))
        have hl5 := hr5.lt
        have hl6 : w5.heap.size < (w5.alloc (.cells #[.int .i64 nd, .string ⟨kb.toArray⟩, .int .i64 a, .int .i64 b] 29)).heap.size := by simp
        generalize w5.alloc (.cells #[.int .i64 nd, .string ⟨kb.toArray⟩, .int .i64 a, .int .i64 b] 29) = w6 at *
        clear hr2 hr3 hr4 hr5 hbel2 hbel3 hbel4 hwn2 hwn3 hwn4 hwn5 hg2 hg3 hg4 hg5 HC1 HC2 HC4
        obtain ⟨g6, hg6⟩ : ∃ g6, g6 = w5.heap.size := ⟨_, rfl⟩
        rw [← hg6] at hbx hl6 hl5 ⊢
        clear hg6 hbel5
        obtain ⟨ad, q', hq', hbq, hxq, p0, p1, p2, p3⟩ := (own_rd hwn6).hld_ (k := j) hi5 Hn.out.symm (Below.refl w6.heap.size w6) (Nat.le_refl _)
        subst hq'
        have hqq : q' = q := by rw [hj1.out] at hxq; simpa using hxq.symm
        subst hqq
        clear hxq
        have hi0 : (0 : Int) ≤ (j : Int) := by omega
        by_cases hcmp : 0 ≤ cmpH q' ⟨nd, ⟨kb.toArray⟩, a, b⟩
        · have tc : decide (0 ≤ cmpH q' ⟨nd, ⟨kb.toArray⟩, a, b⟩) = true := by simpa using hcmp
          have HS : Hid (riseS (lastOf (ac0 ++ [q'])) ⟨nd, ⟨kb.toArray⟩, a, b⟩ s4 = none) := by simp only [Hid, lastOf_snoc, riseS, notAfter, tc]; rfl
          clear hcmp
          go_region_held3 (fun w' => (w'.cell? (ad.add (j * 4)) = some (.int .i64 q'.node) ∧ w'.cell? ⟨(ad.add (j * 4)).block, (ad.add (j * 4)).off + 1, none⟩ = some (.string q'.key) ∧ w'.cell? ⟨(ad.add (j * 4)).block, (ad.add (j * 4)).off + 2, none⟩ = some (.int .i64 q'.a) ∧ w'.cell? ⟨(ad.add (j * 4)).block, (ad.add (j * 4)).off + 3, none⟩ = some (.int .i64 q'.b)) ∧ w'.cell? ⟨g6, 0, none⟩ = some (.int .i64 nd) ∧ w'.cell? ⟨g6, 1, none⟩ = some (.string ⟨kb.toArray⟩) ∧ w'.cell? ⟨g6, 2, none⟩ = some (.int .i64 a) ∧ w'.cell? ⟨g6, 3, none⟩ = some (.int .i64 b)) (first | exact ⟨pc, cells4 hbx8⟩ | exact ⟨⟨p0, p1, p2, p3⟩, cells4 hbx⟩)
            ((first
              | (go_at_call 43; go_must (refine (compare_any q' ⟨nd, ⟨kb.toArray⟩, a, b⟩ _).mono ?_); rintro e w8 ⟨rfl, hb8⟩; have hbx8 := Blk.up hbx.drew hb8; have pc := keep4 hb8 hbq p0 p1 p2 p3; have hwn8 := own_up (own_drew hwn6) hb8; have hbel8 := hbel6.drew.trans (hb8.mono hbel6.size); have hr8 := hr6.kept (w' := w8) (fun _ _ h => Blk.up h.drew hb8))))
          go_wp2_with (first
            | (go_at_call 76; go_must (refine (rdfail_any w.heap.size A c l s4 _ hr8 H4.out).mono ?_); rintro e w9 ⟨hg9, rfl, hr9⟩; have d2 := hr9.err; simp only [Option.isSome, Bool.false_eq_true, if_false, errV, Nat.reduceEqDiff] at d2; have hbel9 := hbel8.trans (below_of_only hg9 (Nat.le_refl _) hbel8.size))
            | (go_at_call 77; go_must (refine (rdend_any w.heap.size A c l none _ hr9 (by intro _ h; cases h)).mono ?_); rintro e wa ⟨hga, rfl⟩; rw [show errV (if endS l none = true then 0 else 9) = .iface 86 (.int .i64 9) from rfl]))
          go_ret2
          have hN : readHelds l = none := by rw [HR.out, Hrs.out.bad hlt E5.out HS.out]; rfl
          rw [rhE_none hN, hN]
          exact ⟨_, by rfl, World.ownsRow_nil _ _ _ _, hbel9.trans (below_of_only hga (Nat.le_refl _) hbel9.size)⟩
        · have tc : decide (0 ≤ cmpH q' ⟨nd, ⟨kb.toArray⟩, a, b⟩) = false := by simpa using hcmp
          have HS : Hid (riseS (lastOf (ac0 ++ [q'])) ⟨nd, ⟨kb.toArray⟩, a, b⟩ s4 = s4) := by simp only [Hid, lastOf_snoc, riseS, notAfter, tc]; rfl
          clear hcmp
          go_region_held3 (fun w' => (w'.cell? (ad.add (j * 4)) = some (.int .i64 q'.node) ∧ w'.cell? ⟨(ad.add (j * 4)).block, (ad.add (j * 4)).off + 1, none⟩ = some (.string q'.key) ∧ w'.cell? ⟨(ad.add (j * 4)).block, (ad.add (j * 4)).off + 2, none⟩ = some (.int .i64 q'.a) ∧ w'.cell? ⟨(ad.add (j * 4)).block, (ad.add (j * 4)).off + 3, none⟩ = some (.int .i64 q'.b)) ∧ w'.cell? ⟨g6, 0, none⟩ = some (.int .i64 nd) ∧ w'.cell? ⟨g6, 1, none⟩ = some (.string ⟨kb.toArray⟩) ∧ w'.cell? ⟨g6, 2, none⟩ = some (.int .i64 a) ∧ w'.cell? ⟨g6, 3, none⟩ = some (.int .i64 b)) (first | exact ⟨pc, cells4 hbx8⟩ | exact ⟨⟨p0, p1, p2, p3⟩, cells4 hbx⟩)
            ((first
              | (go_at_call 43; go_must (refine (compare_any q' ⟨nd, ⟨kb.toArray⟩, a, b⟩ _).mono ?_); rintro e w8 ⟨rfl, hb8⟩; have hbx8 := Blk.up hbx.drew hb8; have pc := keep4 hb8 hbq p0 p1 p2 p3; have hwn8 := own_up (own_drew hwn6) hb8; have hbel8 := hbel6.drew.trans (hb8.mono hbel6.size); have hr8 := hr6.kept (w' := w8) (fun _ _ h => Blk.up h.drew hb8))))
          have hr7 := hr8
          have hwn7 := hwn8
          have hbx7 := hbx8
          have hbel7 := hbel8
          have hl7 : g6 < w8.heap.size := hbx8.lt
          clear hr8 hwn8 hbx8 hbel8 hb8 pc p0 p1 p2 p3 hbx hr6
          rcases s4 with _ | a4
          ·
            have d2 := hr7.err
            simp only [Option.isSome, Bool.false_eq_true, if_false, errV, Nat.reduceEqDiff] at d2
            go_wp2_with (first | (go_at_call 77; go_must (refine (rdend_any w.heap.size A c l none _ hr7 (by intro _ h; cases h)).mono ?_); rintro e w8 ⟨hg8, rfl⟩; rw [show errV (if endS l none = true then 0 else 9) = .iface 86 (.int .i64 9) from rfl]))
            go_ret2
            have hN : readHelds l = none := by rw [HR.out, Hrs.out.bad hlt E5.out HS.out]; rfl
            rw [rhE_none hN, hN]
            exact ⟨_, by rfl, World.ownsRow_nil _ _ _ _, hbel7.trans (below_of_only hg8 (Nat.le_refl _) hbel7.size)⟩
          ·
            have d2 := hr7.err
            simp only [Option.isSome, if_true, errV] at d2
            obtain ⟨b0, b1, b2, b3⟩ := cells4 hbx7
            go_wp2_with (first | (with_reducible show wpList _ _ _ (⟨some 40, _, _, _, _, _⟩ :: _) _ _; go_must (refine wpList_newg (.tmp 37) (.tmp 39) el_held rfl rfl hwn7 rfl rfl (by simp) rfl rfl (by first | omega | (simp only [List.length_append, List.length_cons, List.length_nil] at hacc ⊢; omega)) (by omega) ?_); intro v9 w9 ho9 hb9 hg9 ha9))
            go_roundw
            case rel =>
              refine ⟨k + 1, some a4, (ac0++[q']) ++ [⟨nd, ⟨kb.toArray⟩, a, b⟩], by omega, (by first | omega | (simp only [List.length_append, List.length_cons, List.length_nil] at hacc ⊢; omega) | (have h := Hn.out; simp only [List.length_append, List.length_cons, List.length_nil] at h ⊢; omega)), by go_num, ?_, H4.out, Hrs.out.step hlt E5.out HS.out, ?_, ?_⟩
              · exact hr7.kept fun t cs h => h.grown hg9 fun e => by have := (hwn7.lt _ e.symm).1; omega
              · rw [hldCells_snoc, List.length_append]; first | exact ho9 | (rw [← Hn.out]; exact ho9) | (simpa [Hld.cells] using ho9)
              · exact hbel7.trans (hb9.mono (by omega))
            case measure => simp [intOf]; omega
    · have hdone := Hrs.out.done (by omega)
      have HD := Lib.hid hdone
      clear hdone
      by_cases hE : endS l s = true
      · have HE := Lib.hid hE
        clear hE
        go_wp2_with (first | (go_at_call 77; go_must (refine (rdend_any w.heap.size A c l s _ hrd Hst.out).mono ?_); rintro e w6 ⟨hg6, rfl⟩; rw [HE.out]; simp only [if_true, errV_zero]))
        go_ret2
        have hN : readHelds l = some acc := by rw [HR.out, HD.out, if_pos HE.out]
        rw [rhE_some hN, hN]
        exact ⟨_, rfl, own_base (own_only hown hg6 (by omega)) (by omega), hbel.trans (below_of_only hg6 (Nat.le_refl _) hbs)⟩
      · have HE : Hid (errV (if endS l s = true then 0 else 9) = .iface 86 (.int .i64 9)) := by simp only [Hid]; rw [if_neg hE]; rfl
        have HE2 := Lib.hid hE
        clear hE
        go_wp2_with (first | (go_at_call 77; go_must (refine (rdend_any w.heap.size A c l s _ hrd Hst.out).mono ?_); rintro e w6 ⟨hg6, rfl⟩; rw [HE.out]))
        go_ret2
        have hN : readHelds l = none := by rw [HR.out, HD.out, if_neg HE2.out]
        rw [rhE_none hN, hN]
        exact ⟨_, by rfl, World.ownsRow_nil _ _ _ _, hbel.trans (below_of_only hg6 (Nat.le_refl _) hbs)⟩
end Go.Proofs.YtcfijljagohmlaaGreatDoor
