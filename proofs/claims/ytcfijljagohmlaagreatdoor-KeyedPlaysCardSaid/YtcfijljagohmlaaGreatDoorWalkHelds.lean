/- The walk of frame.Helds. -/
import Derived.Test.YtcfijljagohmlaaGreatDoorWalkHeld
import Derived.Test.YtcfijljagohmlaaGreatDoorWalkSeal
import Derived.Test.YtcfijljagohmlaaGreatDoorPlainHelds
import Derived.Test.YtcfijljagohmlaaGreatDoorBase2
namespace Go.Proofs.YtcfijljagohmlaaGreatDoor
open Go.RowKit

set_option maxRecDepth 100000 in
set_option maxHeartbeats 8000000 in
theorem helds_any (A : Option Addr) (c B : Nat) (l : List Hld) (w : World) (hr : Rd w B 4 A l.length (hldCells l)) (hB : B ≤ w.heap.size) (hok : ∀ r ∈ l, r.Ok) (hl : l.length ≤ 140737488355328) :
    Calls Tryz.prog 44 #[.slice A l.length c] w fun e w' => ∃ v, e = .returned (.tuple #[v, errV (heldsE l)]) ∧ w'.ownsRow w.heap.size 5 1 v (heldsB l).length ((heldsB l).map bv) ∧ Below w.heap.size w w' := by
  obtain ⟨n, hn⟩ : ∃ n, n = l.length := ⟨_, rfl⟩
  have hsm := numB_le (n : Int)
  have Hn := Lib.hid hn
  rw [← hn] at hr hl ⊢
  clear hn
  by_cases hbig : 400 < n
  · go_enter Tryz.func44, Tryz.ntmps44
    go_wp2
    go_ret2
    have e1 := hldE_long (l := l) (by have := Hn.out; omega)
    exact ⟨_, by rw [e1]; rfl, by rw [hldE_bad e1 (by omega)]; exact World.ownsRow_nil _ _ _ _, Below.refl _ _⟩
  go_enter Tryz.func44, Tryz.ntmps44
  go_wp2_with (first | (go_at_call 83; refine (num_any _ _ (by omega) (by omega)).mono ?_; rintro e w1 ⟨v1, rfl, ho1, hb1⟩))
  go_loopw [4, 16] (fun b i wr => ∃ k : Nat, ∃ m : Nat, k ≤ n ∧ i = .int .i64 k ∧ m ≤ 10 + 90 * k ∧ Hid (heldsGo none l = heldsGo (prevAt l k) (l.drop k)) ∧ wr.ownsRow w.heap.size 5 1 b m ((numB n).map bv ++ ((l.take k).flatMap hldB).map bv) ∧ Below w.heap.size w wr) (fun _ i _ => n - (intOf i).toNat)
  case atStart => exact ⟨0, _, Nat.zero_le _, rfl, hsm, rfl, by simpa using ho1, hb1⟩
  case round =>
    obtain ⟨k, m, hk, rfl, hm, Hgo, hown, hbel⟩ := hrel
    have hbs := hbel.size
    by_cases hlt : k < n
    · obtain ⟨ad, r, rfl, hbk0, hx, g0, g1, g2, g3⟩ := hr.hld_ hlt (Hn.out).symm hbel hB
      have hro := hok r (List.mem_of_getElem? hx)
      have q1 := hro.1
      obtain ⟨q2, q3⟩ := hro.2.1
      obtain ⟨q4, q5⟩ := hro.2.2.1
      obtain ⟨q6, q7⟩ := hro.2.2.2
      clear hro
      have Hx := Lib.hid hx
      clear hx
      by_cases hrk : hldOk r = true
      · have HR := Lib.hid hrk
        clear hrk
        have hn2 : ∀ g, u4.ownBlock = some g → g ≠ wr.heap.size := fun g hg => by have := (hown.lt g hg).2; omega
        have hk40 := hldOk_key HR.out
        rcases k with _ | j
        · have HG := Lib.hid (Hgo.out.trans (go_next0 Hx.out HR.out))
          simp only [Nat.zero_mul, Addr.add, if_true] at g0 g1 g2 g3
          go_wp2_with (first | (go_at_call 49; go_must (refine (held_true r _ q1 HR.out).mono ?_); rintro e w1b ⟨rfl, hb2⟩))
          have hownb := own_up (hown.alloc (.cells #[.int .i64 r.node, .string r.key, .int .i64 r.a, .int .i64 r.b] 29)) hb2
          have hbxb := Blk.up (Blk.new wr 29 #[.int .i64 r.node, .string r.key, .int .i64 r.a, .int .i64 r.b]) hb2
          have hbelb := hbel.trans ((((Below.refl wr.heap.size wr).alloc (Nat.le_refl _) (.cells #[.int .i64 r.node, .string r.key, .int .i64 r.a, .int .i64 r.b] 29)).trans (hb2.mono (by simp))).mono hbs)
          clear hb2
          go_quiet (fail)
          go_wp2_with fail
          obtain ⟨w2, hw2⟩ : ∃ w2, w2 = w1b.drewN nq := ⟨_, rfl⟩
          have hown2 := own_drewN hownb nq
          have hbx := hbxb.drewN nq
          have hbel2 := below_drewN hbelb nq
          rw [← hw2] at hown2 hbx hbel2 ⊢
          clear hw2 hownb hbxb hbelb
          have hl2 : wr.heap.size < w2.heap.size := hbx.lt
          have hbs2 := hbel2.size
          go_region_held3 (fun w' => w'.cell? ⟨wr.heap.size, 0, none⟩ = some (.int .i64 r.node) ∧ w'.cell? ⟨wr.heap.size, 1, none⟩ = some (.string r.key) ∧ w'.cell? ⟨wr.heap.size, 2, none⟩ = some (.int .i64 r.a) ∧ w'.cell? ⟨wr.heap.size, 3, none⟩ = some (.int .i64 r.b)) (first | exact cells4 hbx6 | exact cells4 hbx5 | exact cells4 hbx4 | exact cells4 hbx3 | exact cells4 hbx)
            ((first
              | (go_at_call_of 83 (r.node); go_must (refine (num_any r.node _ q2 q3).mono ?_); rintro e w3 ⟨v3, rfl, ho3, hb3⟩; have hle3 := numB_le r.node; have hl3 : w2.heap.size ≤ w3.heap.size := hb3.size; have hbx3 := Blk.up hbx.drew hb3; have hown3 := own_up (own_drew hown2) hb3; obtain ⟨A3, c3, rfl, _, _, ha3, r3⟩ := own_form ho3)
              | (with_reducible show (if Region.wanted (⟨some 44, _, _, _, _, _⟩ : Oper) _ = true then _ else _); go_must (refine step_rd (.tmp 40) (.tmp 43) el_u8 rfl rfl hown3 rfl r3 rfl (bvs_one _) (by omega) (by omega) ?_); intro v4 w4 hown4 hb4 hg4 ha4; have hl4 := hb4.size; have hn4 := row_ne (g := wr.heap.size) ha4 hn2 (by omega); have hbx4 := Blk.app hbx3 hg4 hn2)
              | (go_at_call 84; go_must (refine (text_any _ _ (by omega)).mono ?_); rintro e w5 ⟨v5, rfl, ho5, hb5⟩; have hle5 := textB_le r.key 40 hk40; have hl5 := hb5.size; have hbx5 := Blk.up hbx4 hb5; have hown5 := own_up hown4 hb5; obtain ⟨A5, c5, rfl, _, _, ha5, r5⟩ := own_form ho5)
              | (with_reducible show (if Region.wanted (⟨some 48, _, _, _, _, _⟩ : Oper) _ = true then _ else _); go_must (refine step_rd (.tmp 44) (.tmp 47) el_u8 rfl rfl hown5 rfl r5 rfl (bvs_one _) (by omega) (by omega) ?_); intro v6 w6 hown6 hb6 hg6 ha6; have hl6 := hb6.size; have hn6 := row_ne (g := wr.heap.size) ha6 hn4 (by omega); have hbx6 := Blk.app hbx5 hg6 hn4)))
          have hbel6 := hbel2.drew.trans ((((hb3.mono hbs2).trans hb4).trans (hb5.mono (by omega))).trans hb6)
          have hm6 : m + (numB r.node).length + (textB r.key.data.toList).length ≤ 10 + 90 * 0 + 60 := by omega
          clear hown2 hown3 hown5 ho3 ho5 r3 r5 hb3 hb4 hb5 hg4 hg6 ha4 ha3 ha5 ha6 hbx3 hbx4 hbx5
          go_wp2_with fail
          go_region_held3 (fun w' => w'.cell? ⟨wr.heap.size, 0, none⟩ = some (.int .i64 r.node) ∧ w'.cell? ⟨wr.heap.size, 1, none⟩ = some (.string r.key) ∧ w'.cell? ⟨wr.heap.size, 2, none⟩ = some (.int .i64 r.a) ∧ w'.cell? ⟨wr.heap.size, 3, none⟩ = some (.int .i64 r.b)) (first | exact cells4 hbz | exact cells4 hbz9 | exact cells4 hbz8 | exact cells4 hbz7 | exact cells4 hbx6)
            ((first
              | (go_at_call_of 83 (r.a); go_must (refine (num_any r.a _ q4 q5).mono ?_); rintro e w7 ⟨v7, rfl, ho7, hb7⟩; have hle7 := numB_le r.a; have hl7 : w6.heap.size ≤ w7.heap.size := hb7.size; have hbz7 := Blk.up hbx6.drew hb7; have hown7 := own_up (own_drew hown6) hb7; obtain ⟨A7, c7, rfl, _, _, ha7, r7⟩ := own_form ho7)
              | (with_reducible show (if Region.wanted (⟨some 53, _, _, _, _, _⟩ : Oper) _ = true then _ else _); go_must (refine step_rd (.tmp 49) (.tmp 52) el_u8 rfl rfl hown7 rfl r7 rfl (bvs_one _) (by omega) (by omega) ?_); intro v8 w8 hown8 hb8 hg8 ha8; have hl8 := hb8.size; have hn8 := row_ne (g := wr.heap.size) ha8 hn6 (by omega); have hbz8 := Blk.app hbz7 hg8 hn6)
              | (go_at_call_of 83 (r.b); go_must (refine (num_any r.b _ q6 q7).mono ?_); rintro e w9 ⟨v9, rfl, ho9, hb9⟩; have hle9 := numB_le r.b; have hl9 := hb9.size; have hbz9 := Blk.up hbz8 hb9; have hown9 := own_up hown8 hb9; obtain ⟨A9, c9, rfl, _, _, ha9, r9⟩ := own_form ho9)
              | (with_reducible show (if Region.wanted (⟨some 57, _, _, _, _, _⟩ : Oper) _ = true then _ else _); go_must (refine step_rd (.tmp 53) (.tmp 56) el_u8 rfl rfl hown9 rfl r9 rfl (bvs_one _) (by omega) (by omega) ?_); intro vz wz hownz hbz' hgz haz; have hbz := Blk.app hbz9 hgz hn8)))
          go_wp2
          go_roundw
          case rel =>
            refine ⟨0 + 1, m + (numB r.node).length + (textB r.key.data.toList).length + (numB r.a).length + (numB r.b).length, by omega, by go_num, by omega, HG.out, ?_, ?_⟩
            · rw [hlds_step Hx.out]
              simpa only [List.append_assoc] using hownz
            · exact hbel6.drew.trans ((((hb7.mono hbel6.size).trans hb8).trans (hb9.mono (by omega))).trans hbz')
          case measure => simp [intOf]; omega
        ·
          go_wp2_with (first | (go_at_call 49; go_must (refine (held_true r _ q1 HR.out).mono ?_); rintro e w1b ⟨rfl, hb2⟩))
          have hownb := own_up (hown.alloc (.cells #[.int .i64 r.node, .string r.key, .int .i64 r.a, .int .i64 r.b] 29)) hb2
          have hbxb := Blk.up (Blk.new wr 29 #[.int .i64 r.node, .string r.key, .int .i64 r.a, .int .i64 r.b]) hb2
          have hbelb := hbel.trans ((((Below.refl wr.heap.size wr).alloc (Nat.le_refl _) (.cells #[.int .i64 r.node, .string r.key, .int .i64 r.a, .int .i64 r.b] 29)).trans (hb2.mono (by simp))).mono hbs)
          clear hb2
          obtain ⟨ad', q, hq', hbq, hxq, p0, p1, p2, p3⟩ := hr.hld_ (k := j) (by omega) (Hn.out).symm hbelb hB
          injection hq' with hq'
          subst hq'
          have Hxq := Lib.hid hxq
          clear hxq
          have hbw := hbelb.size
          have hi0 : (0 : Int) ≤ (j : Int) := by omega
          have hi1 : (j : Int) < (n : Int) := by omega
          have hi2 : IntKind.i64.wrap ((j : Int) + 1 - 1) = (j : Int) := by rw [IntWalk.i64_in _ (by omega)]; omega
          have hi3 : IntKind.i64.wrap (j : Int) = (j : Int) := IntWalk.i64_in _ (by omega)
          by_cases hcmp : 0 ≤ cmpH q r
          · have tc : decide (0 ≤ cmpH q r) = true := by simpa using hcmp
            have HC := Lib.hid hcmp
            clear hcmp
            go_region_held3 (fun w' => (w'.cell? (ad.add (j * 4)) = some (.int .i64 q.node) ∧ w'.cell? ⟨(ad.add (j * 4)).block, (ad.add (j * 4)).off + 1, none⟩ = some (.string q.key) ∧ w'.cell? ⟨(ad.add (j * 4)).block, (ad.add (j * 4)).off + 2, none⟩ = some (.int .i64 q.a) ∧ w'.cell? ⟨(ad.add (j * 4)).block, (ad.add (j * 4)).off + 3, none⟩ = some (.int .i64 q.b)) ∧ w'.cell? ⟨wr.heap.size, 0, none⟩ = some (.int .i64 r.node) ∧ w'.cell? ⟨wr.heap.size, 1, none⟩ = some (.string r.key) ∧ w'.cell? ⟨wr.heap.size, 2, none⟩ = some (.int .i64 r.a) ∧ w'.cell? ⟨wr.heap.size, 3, none⟩ = some (.int .i64 r.b)) (first | exact ⟨pc, cells4 hbx⟩ | exact ⟨⟨p0, p1, p2, p3⟩, cells4 hbxb⟩)
              ((first
                | (go_at_call 43; go_must (refine (compare_any q r _).mono ?_); rintro e w2 ⟨rfl, hb3⟩; have hbx := Blk.up hbxb.drew hb3; have pc := keep4 hb3 (Nat.lt_of_lt_of_le hbq (Nat.le_trans hB hbw)) p0 p1 p2 p3; have hown2 := own_up (own_drew hownb) hb3; have hbel2 := hbelb.drew.trans (hb3.mono hbw))))
            go_wp2_with fail
            go_ret2
            have e1 := hldE_of (l := l) (by have := Hn.out; omega) (Hgo.out.trans (go_order Hxq.out Hx.out HR.out HC.out))
            exact ⟨_, by rw [e1]; rfl, by rw [hldE_bad e1 (by omega)]; exact World.ownsRow_nil _ _ _ _, hbel2⟩
          · have tc : decide (0 ≤ cmpH q r) = false := by simpa using hcmp
            have HG := Lib.hid (Hgo.out.trans (go_next Hxq.out Hx.out HR.out (by omega)))
            clear hcmp
            go_region_held3 (fun w' => (w'.cell? (ad.add (j * 4)) = some (.int .i64 q.node) ∧ w'.cell? ⟨(ad.add (j * 4)).block, (ad.add (j * 4)).off + 1, none⟩ = some (.string q.key) ∧ w'.cell? ⟨(ad.add (j * 4)).block, (ad.add (j * 4)).off + 2, none⟩ = some (.int .i64 q.a) ∧ w'.cell? ⟨(ad.add (j * 4)).block, (ad.add (j * 4)).off + 3, none⟩ = some (.int .i64 q.b)) ∧ w'.cell? ⟨wr.heap.size, 0, none⟩ = some (.int .i64 r.node) ∧ w'.cell? ⟨wr.heap.size, 1, none⟩ = some (.string r.key) ∧ w'.cell? ⟨wr.heap.size, 2, none⟩ = some (.int .i64 r.a) ∧ w'.cell? ⟨wr.heap.size, 3, none⟩ = some (.int .i64 r.b)) (first | exact ⟨pc, cells4 hbx⟩ | exact ⟨⟨p0, p1, p2, p3⟩, cells4 hbxb⟩)
              ((first
                | (go_at_call 43; go_must (refine (compare_any q r _).mono ?_); rintro e w2 ⟨rfl, hb3⟩; have hbx := Blk.up hbxb.drew hb3; have pc := keep4 hb3 (Nat.lt_of_lt_of_le hbq (Nat.le_trans hB hbw)) p0 p1 p2 p3; have hown2 := own_up (own_drew hownb) hb3; have hbel2 := hbelb.drew.trans (hb3.mono hbw))))
            go_wp2_with fail
            clear p0 p1 p2 p3 pc hi2 hi3 hownb hbxb hbelb hb3
            have hl2 : wr.heap.size < w2.heap.size := hbx.lt
            have hbs2 := hbel2.size
            go_region_held3 (fun w' => w'.cell? ⟨wr.heap.size, 0, none⟩ = some (.int .i64 r.node) ∧ w'.cell? ⟨wr.heap.size, 1, none⟩ = some (.string r.key) ∧ w'.cell? ⟨wr.heap.size, 2, none⟩ = some (.int .i64 r.a) ∧ w'.cell? ⟨wr.heap.size, 3, none⟩ = some (.int .i64 r.b)) (first | exact cells4 hbx6 | exact cells4 hbx5 | exact cells4 hbx4 | exact cells4 hbx3 | exact cells4 hbx)
              ((first
                | (go_at_call_of 83 (r.node); go_must (refine (num_any r.node _ q2 q3).mono ?_); rintro e w3 ⟨v3, rfl, ho3, hb3⟩; have hle3 := numB_le r.node; have hl3 : w2.heap.size ≤ w3.heap.size := hb3.size; have hbx3 := Blk.up hbx.drew hb3; have hown3 := own_up (own_drew hown2) hb3; obtain ⟨A3, c3, rfl, _, _, ha3, r3⟩ := own_form ho3)
                | (with_reducible show (if Region.wanted (⟨some 44, _, _, _, _, _⟩ : Oper) _ = true then _ else _); go_must (refine step_rd (.tmp 40) (.tmp 43) el_u8 rfl rfl hown3 rfl r3 rfl (bvs_one _) (by omega) (by omega) ?_); intro v4 w4 hown4 hb4 hg4 ha4; have hl4 := hb4.size; have hn4 := row_ne (g := wr.heap.size) ha4 hn2 (by omega); have hbx4 := Blk.app hbx3 hg4 hn2)
                | (go_at_call 84; go_must (refine (text_any _ _ (by omega)).mono ?_); rintro e w5 ⟨v5, rfl, ho5, hb5⟩; have hle5 := textB_le r.key 40 hk40; have hl5 := hb5.size; have hbx5 := Blk.up hbx4 hb5; have hown5 := own_up hown4 hb5; obtain ⟨A5, c5, rfl, _, _, ha5, r5⟩ := own_form ho5)
                | (with_reducible show (if Region.wanted (⟨some 48, _, _, _, _, _⟩ : Oper) _ = true then _ else _); go_must (refine step_rd (.tmp 44) (.tmp 47) el_u8 rfl rfl hown5 rfl r5 rfl (bvs_one _) (by omega) (by omega) ?_); intro v6 w6 hown6 hb6 hg6 ha6; have hl6 := hb6.size; have hn6 := row_ne (g := wr.heap.size) ha6 hn4 (by omega); have hbx6 := Blk.app hbx5 hg6 hn4)))
            have hbel6 := hbel2.drew.trans ((((hb3.mono hbs2).trans hb4).trans (hb5.mono (by omega))).trans hb6)
            have hm6 : m + (numB r.node).length + (textB r.key.data.toList).length ≤ 10 + 90 * (j+1) + 60 := by omega
            clear hown2 hown3 hown5 ho3 ho5 r3 r5 hb3 hb4 hb5 hg4 hg6 ha4 ha3 ha5 ha6 hbx3 hbx4 hbx5
            go_wp2_with fail
            go_region_held3 (fun w' => w'.cell? ⟨wr.heap.size, 0, none⟩ = some (.int .i64 r.node) ∧ w'.cell? ⟨wr.heap.size, 1, none⟩ = some (.string r.key) ∧ w'.cell? ⟨wr.heap.size, 2, none⟩ = some (.int .i64 r.a) ∧ w'.cell? ⟨wr.heap.size, 3, none⟩ = some (.int .i64 r.b)) (first | exact cells4 hbz | exact cells4 hbz9 | exact cells4 hbz8 | exact cells4 hbz7 | exact cells4 hbx6)
              ((first
                | (go_at_call_of 83 (r.a); go_must (refine (num_any r.a _ q4 q5).mono ?_); rintro e w7 ⟨v7, rfl, ho7, hb7⟩; have hle7 := numB_le r.a; have hl7 : w6.heap.size ≤ w7.heap.size := hb7.size; have hbz7 := Blk.up hbx6.drew hb7; have hown7 := own_up (own_drew hown6) hb7; obtain ⟨A7, c7, rfl, _, _, ha7, r7⟩ := own_form ho7)
                | (with_reducible show (if Region.wanted (⟨some 53, _, _, _, _, _⟩ : Oper) _ = true then _ else _); go_must (refine step_rd (.tmp 49) (.tmp 52) el_u8 rfl rfl hown7 rfl r7 rfl (bvs_one _) (by omega) (by omega) ?_); intro v8 w8 hown8 hb8 hg8 ha8; have hl8 := hb8.size; have hn8 := row_ne (g := wr.heap.size) ha8 hn6 (by omega); have hbz8 := Blk.app hbz7 hg8 hn6)
                | (go_at_call_of 83 (r.b); go_must (refine (num_any r.b _ q6 q7).mono ?_); rintro e w9 ⟨v9, rfl, ho9, hb9⟩; have hle9 := numB_le r.b; have hl9 := hb9.size; have hbz9 := Blk.up hbz8 hb9; have hown9 := own_up hown8 hb9; obtain ⟨A9, c9, rfl, _, _, ha9, r9⟩ := own_form ho9)
                | (with_reducible show (if Region.wanted (⟨some 57, _, _, _, _, _⟩ : Oper) _ = true then _ else _); go_must (refine step_rd (.tmp 53) (.tmp 56) el_u8 rfl rfl hown9 rfl r9 rfl (bvs_one _) (by omega) (by omega) ?_); intro vz wz hownz hbz' hgz haz; have hbz := Blk.app hbz9 hgz hn8)))
            go_wp2
            go_roundw
            case rel =>
              refine ⟨(j+1) + 1, m + (numB r.node).length + (textB r.key.data.toList).length + (numB r.a).length + (numB r.b).length, by omega, by go_num, by omega, HG.out, ?_, ?_⟩
              · rw [hlds_step Hx.out]
                simpa only [List.append_assoc] using hownz
              · exact hbel6.drew.trans ((((hb7.mono hbel6.size).trans hb8).trans (hb9.mono (by omega))).trans hbz')
            case measure => simp [intOf]; omega
      · have hrf : hldOk r = false := by simpa using hrk
        have HR := Lib.hid hrf
        clear hrk hrf
        go_wp2_with (first | (go_at_call 49; go_must (refine (held_false r _ q1 HR.out).mono ?_); rintro e w2 ⟨rfl, hb2⟩))
        go_ret2
        have e1 := hldE_of (l := l) (by have := Hn.out; omega) (Hgo.out.trans (go_range Hx.out HR.out))
        refine ⟨_, by rw [e1]; rfl, by rw [hldE_bad e1 (by omega)]; exact World.ownsRow_nil _ _ _ _, ?_⟩
        exact hbel.trans ((((Below.refl wr.heap.size wr).alloc (Nat.le_refl _) (.cells #[.int .i64 r.node, .string r.key, .int .i64 r.a, .int .i64 r.b] 29)).trans (hb2.mono (by simp))).mono hbs)
    · go_wp2
      go_ret2
      have e : k = n := by omega
      subst e
      have e1 := hldE_of (l := l) (by have := Hn.out; omega) (Hgo.out.trans (by rw [List.drop_eq_nil_of_le (by have := Hn.out; omega), heldsGo]))
      refine ⟨_, by rw [e1]; rfl, own_b hown ?_, hbel⟩
      rw [hldE_good e1, List.map_append, ← Hn.out, List.take_of_length_le (by have := Hn.out; omega)]
end Go.Proofs.YtcfijljagohmlaaGreatDoor
