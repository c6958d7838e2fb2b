/- The walks of the reference's Held, Ahead, Helds. -/
import Derived.Test.YtcfijljagohmlaaGreatDoorWalkSRead
import Derived.Test.YtcfijljagohmlaaGreatDoorPlainReadH
namespace Go.Proofs.YtcfijljagohmlaaGreatDoor
open Go.RowKit

set_option maxRecDepth 100000 in
set_option maxHeartbeats 400000 in
theorem sheld_any (r : Hld) (w : World) (hr : r.key.size ≤ 9223372036854775807) :
    Calls Tryz.prog 17 #[r.val] w fun e w' => e = .returned (.bool (hldOk r)) ∧ Below w.heap.size w w' := by
  go_enter Tryz.func17, Tryz.ntmps17
  unfold Hld.val
  go_wp2
  all_goals go_ret
  all_goals refine ⟨?_, (Below.refl _ _).alloc (Nat.le_refl _) _⟩
  all_goals (simp [hldOk, *] <;> (intros; omega))
theorem sheld_is (r : Hld) (w : World) (hr : r.key.size ≤ 9223372036854775807) {b : Bool} (h : hldOk r = b) :
    Calls Tryz.prog 17 #[r.val] w fun e w' => e = .returned (.bool b) ∧ Below w.heap.size w w' := by
  have := sheld_any r w hr; rw [h] at this; exact this

set_option maxRecDepth 100000 in
set_option maxHeartbeats 400000 in
theorem sahead_any (x y : Hld) (w : World) :
    Calls Tryz.prog 39 #[x.val, y.val] w fun e w' => e = .returned (.bool (decide (cmpH x y < 0))) ∧ Below w.heap.size w w' := by
  by_cases hn : x.node = y.node
  · have t1 : (x.node != y.node) = false := by simpa using hn
    have HE : Hid ((decide (cmpH x y < 0)) = Op.bytesLess x.key.toList y.key.toList) := Lib.hid (by
      rw [cmpH, cmpI, if_neg (by omega), if_neg (by omega), orI]
      rw [if_neg (by omega), cmpS]
      by_cases hb : Op.bytesLess x.key.toList y.key.toList = true
      · rw [if_pos hb, hb]; rfl
      · rw [if_neg hb]
        have hf : Op.bytesLess x.key.toList y.key.toList = false := by simpa using hb
        rw [hf]
        by_cases he : (x.key.toList == y.key.toList) = true
        · rw [if_pos he]; rfl
        · rw [if_neg he]; rfl)
    rw [HE.out]
    clear hn
    go_enter Tryz.func39, Tryz.ntmps39
    unfold Hld.val
    go_wp2
    go_ret
    exact ⟨rfl, ((Below.refl _ _).alloc (Nat.le_refl _) _).alloc (by simp) _⟩
  · have t1 : (x.node != y.node) = true := by simpa using hn
    have HE : Hid ((decide (cmpH x y < 0)) = decide (x.node < y.node)) := Lib.hid (by
      rw [cmpH, cmpI]
      by_cases h : x.node < y.node
      · rw [if_pos h, orI]; simp [h]
      · rw [if_neg h, if_pos (by omega), orI]; simp [h])
    rw [HE.out]
    clear hn
    go_enter Tryz.func39, Tryz.ntmps39
    unfold Hld.val
    go_wp2
    go_ret
    exact ⟨rfl, ((Below.refl _ _).alloc (Nat.le_refl _) _).alloc (by simp) _⟩
theorem sahead_is (x y : Hld) (w : World) {b : Bool} (h : decide (cmpH x y < 0) = b) :
    Calls Tryz.prog 39 #[x.val, y.val] w fun e w' => e = .returned (.bool b) ∧ Below w.heap.size w w' := by
  have := sahead_any x y w; rw [h] at this; exact this

set_option maxRecDepth 100000 in
set_option maxHeartbeats 8000000 in
theorem shelds_any (A : Option Addr) (c B : Nat) (l : List Hld) (w : World) (hr : Rd w B 4 A l.length (hldCells l)) (hB : B ≤ w.heap.size) (hok : ∀ r ∈ l, r.Ok) (hl : l.length ≤ 140737488355328) :
    Calls Tryz.prog 6 #[.slice A l.length c] w fun e w' => ∃ v, e = .returned (.tuple #[v, .int .i64 (heldsE l)]) ∧ w'.ownsRow w.heap.size 5 1 v (heldsB l).length ((heldsB l).map bv) ∧ Below w.heap.size w w' := by
  obtain ⟨n, hn⟩ : ∃ n, n = l.length := ⟨_, rfl⟩
  have hsm := numB_le (n : Int)
  have Hn := Lib.hid hn
  rw [← hn] at hr hl ⊢
  clear hn
  by_cases hbig : 400 < n
  · go_enter Tryz.func6, Tryz.ntmps6
    go_wp2
    go_ret2
    have e1 := hldE_long (l := l) (by have := Hn.out; omega)
    exact ⟨_, by rw [e1]; rfl, by rw [hldE_bad e1 (by omega)]; exact World.ownsRow_nil _ _ _ _, Below.refl _ _⟩
  go_enter Tryz.func6, Tryz.ntmps6
  go_wp2_with (first | (go_at_call 38; refine (rnum_any _ _ (by omega) (by omega)).mono ?_; rintro e w1 ⟨v1, rfl, ho1, hb1⟩))
  go_loopw [4, 5] (fun b i wr => ∃ k : Nat, ∃ m : Nat, k ≤ n ∧ i = .int .i64 k ∧ m ≤ 10 + 90 * k ∧ Hid (heldsGo none l = heldsGo (prevAt l k) (l.drop k)) ∧ wr.ownsRow w.heap.size 5 1 b m ((numB n).map bv ++ ((l.take k).flatMap hldB).map bv) ∧ Below w.heap.size w wr) (fun _ i _ => n - (intOf i).toNat)
  case atStart => exact ⟨0, _, Nat.zero_le _, rfl, hsm, rfl, by simpa using ho1, hb1⟩
  case round =>
    obtain ⟨k, m, hk, rfl, hm, Hgo, hown, hbel⟩ := hrel
    have hbs := hbel.size
    by_cases hlt : k < n
    · obtain ⟨ad, r, rfl, hbk0, hx, g0, g1, g2, g3⟩ := hr.hld_ hlt (Hn.out).symm hbel hB
      have hro := hok r (List.mem_of_getElem? hx)
      have q1 := hro.1
      obtain ⟨q2, q3⟩ := hro.2.1
      obtain ⟨q4, q5⟩ := hro.2.2.1
      obtain ⟨q6, q7⟩ := hro.2.2.2
      clear hro
      have Hx := Lib.hid hx
      clear hx
      by_cases hrk : hldOk r = true
      · have HR := Lib.hid hrk
        clear hrk
        have hk40 := hldOk_key HR.out
        have hle3 := numB_le r.node
        have hle5 := textB_le r.key 40 hk40
        have hle7 := numB_le r.a
        have hle9 := numB_le r.b
        rcases k with _ | j
        · have HG := Lib.hid (Hgo.out.trans (go_next0 Hx.out HR.out))
          simp only [Nat.zero_mul, Addr.add, if_true] at g0 g1 g2 g3 hbk0
          go_wp2_with (first | (go_at_call 17; go_must (refine (sheld_is r _ q1 HR.out).mono ?_); rintro e w1b ⟨rfl, hb2⟩))
          replace hown := own_up hown hb2
          have hbelb := hbel.trans (hb2.mono hbs)
          have hbsb := hbelb.size
          obtain ⟨g0, g1, g2, g3⟩ := keep4 hb2 (by omega) g0 g1 g2 g3
          clear hb2
          go_quiet (fail)
          go_wp2_with fail
          have hown2 := own_drewN hown nq
          have hbel2 := below_drewN hbelb nq
          obtain ⟨g0, g1, g2, g3⟩ : (w1b.drewN nq).cell? ad = some (.int .i64 r.node) ∧ (w1b.drewN nq).cell? ⟨ad.block, ad.off + 1, none⟩ = some (.string r.key) ∧ (w1b.drewN nq).cell? ⟨ad.block, ad.off + 2, none⟩ = some (.int .i64 r.a) ∧ (w1b.drewN nq).cell? ⟨ad.block, ad.off + 3, none⟩ = some (.int .i64 r.b) := ⟨g0, g1, g2, g3⟩
          generalize w1b.drewN nq = w2 at *
          clear hown hbelb
          have hbs2 := hbel2.size
          go_wp2_with (first
            | (go_at_call_of 38 (r.node); go_must (refine (rnum_any r.node _ q2 q3).mono ?_); rintro e w3 ⟨v3, rfl, ho3, hb3⟩; have hbel3 := hbel2.trans (hb3.mono hbel2.size); replace hown2 := own_up hown2 hb3; obtain ⟨g0, g1, g2, g3⟩ := keep4 hb3 (by omega) g0 g1 g2 g3; clear hb3 hbel2; obtain ⟨A3, c3, rfl, _, _, ha3, r3⟩ := own_form ho3)
            | (with_reducible show wpList _ _ _ (⟨some 48, _, _, _, _, _⟩ :: _) _ _; go_must (refine wpList_rd (.tmp 41) (.tmp 47) el_u8 rfl rfl hown2 rfl r3 rfl (bvs_one _) (by omega) hbel3.size ?_); intro v4 w4 hown4 hb4 hg4 ha4; have hbel4 := hbel3.trans hb4; have hbs4 := hbel4.size; obtain ⟨g0, g1, g2, g3⟩ := keep4 hb4 (by omega) g0 g1 g2 g3; clear hown2 ho3 r3 hb4 hg4 ha4 hbel3 ha3)
            | (go_at_call 40; go_must (refine (rtext_any _ _ (by omega)).mono ?_); rintro e w5 ⟨v5, rfl, ho5, hb5⟩; have hbel5 := hbel4.trans (hb5.mono hbel4.size); replace hown4 := own_up hown4 hb5; obtain ⟨g0, g1, g2, g3⟩ := keep4 hb5 (by omega) g0 g1 g2 g3; clear hb5 hbel4; obtain ⟨A5, c5, rfl, _, _, ha5, r5⟩ := own_form ho5)
            | (with_reducible show wpList _ _ _ (⟨some 56, _, _, _, _, _⟩ :: _) _ _; go_must (refine wpList_rd (.tmp 49) (.tmp 55) el_u8 rfl rfl hown4 rfl r5 rfl (bvs_one _) (by omega) hbel5.size ?_); intro v6 w6 hown6 hb6 hg6 ha6; have hbel6 := hbel5.trans hb6; have hbs6 := hbel6.size; obtain ⟨g0, g1, g2, g3⟩ := keep4 hb6 (by omega) g0 g1 g2 g3; clear hown4 ho5 r5 hb6 hg6 ha6 hbel5 ha5)
            | (go_at_call_of 38 (r.a); go_must (refine (rnum_any r.a _ q4 q5).mono ?_); rintro e w7 ⟨v7, rfl, ho7, hb7⟩; have hbel7 := hbel6.trans (hb7.mono hbel6.size); replace hown6 := own_up hown6 hb7; obtain ⟨g0, g1, g2, g3⟩ := keep4 hb7 (by omega) g0 g1 g2 g3; clear hb7 hbel6; obtain ⟨A7, c7, rfl, _, _, ha7, r7⟩ := own_form ho7)
            | (with_reducible show wpList _ _ _ (⟨some 64, _, _, _, _, _⟩ :: _) _ _; go_must (refine wpList_rd (.tmp 57) (.tmp 63) el_u8 rfl rfl hown6 rfl r7 rfl (bvs_one _) (by omega) hbel7.size ?_); intro v8 w8 hown8 hb8 hg8 ha8; have hbel8 := hbel7.trans hb8; have hbs8 := hbel8.size; obtain ⟨g0, g1, g2, g3⟩ := keep4 hb8 (by omega) g0 g1 g2 g3; clear hown6 ho7 r7 hb8 hg8 ha8 hbel7 ha7)
            | (go_at_call_of 38 (r.b); go_must (refine (rnum_any r.b _ q6 q7).mono ?_); rintro e w9 ⟨v9, rfl, ho9, hb9⟩; have hbel9 := hbel8.trans (hb9.mono hbel8.size); replace hown8 := own_up hown8 hb9; clear hb9 hbel8; obtain ⟨A9, c9, rfl, _, _, ha9, r9⟩ := own_form ho9)
            | (with_reducible show wpList _ _ _ (⟨some 72, _, _, _, _, _⟩ :: _) _ _; go_must (refine wpList_rd (.tmp 65) (.tmp 71) el_u8 rfl rfl hown8 rfl r9 rfl (bvs_one _) (by omega) hbel9.size ?_); intro vz wz hownz hbz hgz haz; have hbelz := hbel9.trans hbz; clear hown8 ho9 r9 hbz hgz haz hbel9 ha9))
          go_roundw
          case rel =>
            refine ⟨0 + 1, m + (numB r.node).length + (textB r.key.data.toList).length + (numB r.a).length + (numB r.b).length, by omega, by go_num, by omega, HG.out, ?_, hbelz⟩
            rw [hlds_step Hx.out]
            simpa only [List.append_assoc] using hownz
          case measure => simp [intOf]; omega
        ·
          go_wp2_with (first | (go_at_call 17; go_must (refine (sheld_is r _ q1 HR.out).mono ?_); rintro e w1b ⟨rfl, hb2⟩))
          replace hown := own_up hown hb2
          have hbelb := hbel.trans (hb2.mono hbs)
          have hbsb := hbelb.size
          obtain ⟨g0, g1, g2, g3⟩ := keep4 hb2 (by omega) g0 g1 g2 g3
          clear hb2
          obtain ⟨ad', q, hq', hbq, hxq, p0, p1, p2, p3⟩ := hr.hld_ (k := j) (by omega) (Hn.out).symm hbelb hB
          injection hq' with hq'
          subst hq'
          have Hxq := Lib.hid hxq
          clear hxq
          have hi0 : (0 : Int) ≤ (j : Int) := by omega
          have hi1 : (j : Int) < (n : Int) := by omega
          have hi2 : IntKind.i64.wrap ((j : Int) + 1 - 1) = (j : Int) := by rw [IntWalk.i64_in _ (by omega)]; omega
          have hi3 : IntKind.i64.wrap (j : Int) = (j : Int) := IntWalk.i64_in _ (by omega)
          have hj0 : (0 : Int) ≤ (j : Int) + 1 := by omega
          have hj1 : (j : Int) + 1 < (n : Int) := by omega
          have hj2 : IntKind.i64.wrap ((j : Int) + 1) = (j : Int) + 1 := IntWalk.i64_in _ (by omega)
          have hj3 : ((j : Int) + 1).toNat = j + 1 := by omega
          by_cases hcmp : 0 ≤ cmpH q r
          · have HC : Hid (decide (cmpH q r < 0) = false) := Lib.hid (by simp; omega)
            have HCC := Lib.hid hcmp
            clear hcmp
            go_region_held3 (fun w' => (w'.cell? (ad.add (j * 4)) = some (.int .i64 q.node) ∧ w'.cell? ⟨(ad.add (j * 4)).block, (ad.add (j * 4)).off + 1, none⟩ = some (.string q.key) ∧ w'.cell? ⟨(ad.add (j * 4)).block, (ad.add (j * 4)).off + 2, none⟩ = some (.int .i64 q.a) ∧ w'.cell? ⟨(ad.add (j * 4)).block, (ad.add (j * 4)).off + 3, none⟩ = some (.int .i64 q.b)) ∧ w'.cell? (ad.add ((j + 1) * 4)) = some (.int .i64 r.node) ∧ w'.cell? ⟨(ad.add ((j + 1) * 4)).block, (ad.add ((j + 1) * 4)).off + 1, none⟩ = some (.string r.key) ∧ w'.cell? ⟨(ad.add ((j + 1) * 4)).block, (ad.add ((j + 1) * 4)).off + 2, none⟩ = some (.int .i64 r.a) ∧ w'.cell? ⟨(ad.add ((j + 1) * 4)).block, (ad.add ((j + 1) * 4)).off + 3, none⟩ = some (.int .i64 r.b)) (first | exact ⟨pc, rc⟩ | exact ⟨⟨p0, p1, p2, p3⟩, g0, g1, g2, g3⟩)
              ((first
                | (go_at_call 39; go_must (refine (sahead_is q r _ HC.out).mono ?_); rintro e w2 ⟨rfl, hb3⟩; have pc := keep4 hb3 (Nat.lt_of_lt_of_le hbq (Nat.le_trans hB hbsb)) p0 p1 p2 p3; have rc := keep4 hb3 (Nat.lt_of_lt_of_le hbk0 (Nat.le_trans hB hbsb)) g0 g1 g2 g3; have hown2 := own_up (own_drew hown) hb3; have hbel2 := hbelb.drew.trans (hb3.mono hbsb))))
            go_wp2_with fail
            go_ret2
            have e1 := hldE_of (l := l) (by have := Hn.out; omega) (Hgo.out.trans (go_order Hxq.out Hx.out HR.out HCC.out))
            exact ⟨_, by rw [e1]; rfl, by rw [hldE_bad e1 (by omega)]; exact World.ownsRow_nil _ _ _ _, hbel2⟩
          · have HC : Hid (decide (cmpH q r < 0) = true) := Lib.hid (by simp; omega)
            have HG := Lib.hid (Hgo.out.trans (go_next Hxq.out Hx.out HR.out (by omega)))
            clear hcmp
            go_region_held3 (fun w' => (w'.cell? (ad.add (j * 4)) = some (.int .i64 q.node) ∧ w'.cell? ⟨(ad.add (j * 4)).block, (ad.add (j * 4)).off + 1, none⟩ = some (.string q.key) ∧ w'.cell? ⟨(ad.add (j * 4)).block, (ad.add (j * 4)).off + 2, none⟩ = some (.int .i64 q.a) ∧ w'.cell? ⟨(ad.add (j * 4)).block, (ad.add (j * 4)).off + 3, none⟩ = some (.int .i64 q.b)) ∧ w'.cell? (ad.add ((j + 1) * 4)) = some (.int .i64 r.node) ∧ w'.cell? ⟨(ad.add ((j + 1) * 4)).block, (ad.add ((j + 1) * 4)).off + 1, none⟩ = some (.string r.key) ∧ w'.cell? ⟨(ad.add ((j + 1) * 4)).block, (ad.add ((j + 1) * 4)).off + 2, none⟩ = some (.int .i64 r.a) ∧ w'.cell? ⟨(ad.add ((j + 1) * 4)).block, (ad.add ((j + 1) * 4)).off + 3, none⟩ = some (.int .i64 r.b)) (first | exact ⟨pc, rc⟩ | exact ⟨⟨p0, p1, p2, p3⟩, g0, g1, g2, g3⟩)
              ((first
                | (go_at_call 39; go_must (refine (sahead_is q r _ HC.out).mono ?_); rintro e w2 ⟨rfl, hb3⟩; have pc := keep4 hb3 (Nat.lt_of_lt_of_le hbq (Nat.le_trans hB hbsb)) p0 p1 p2 p3; have rc := keep4 hb3 (Nat.lt_of_lt_of_le hbk0 (Nat.le_trans hB hbsb)) g0 g1 g2 g3; have hown2 := own_up (own_drew hown) hb3; have hbel2 := hbelb.drew.trans (hb3.mono hbsb))))
            go_wp2_with fail
            obtain ⟨g0, g1, g2, g3⟩ := rc
            clear pc p0 p1 p2 p3 hown hbelb
            have hbs2 := hbel2.size
            go_wp2_with (first
              | (go_at_call_of 38 (r.node); go_must (refine (rnum_any r.node _ q2 q3).mono ?_); rintro e w3 ⟨v3, rfl, ho3, hb3⟩; have hbel3 := hbel2.trans (hb3.mono hbel2.size); replace hown2 := own_up hown2 hb3; obtain ⟨g0, g1, g2, g3⟩ := keep4 hb3 (by omega) g0 g1 g2 g3; clear hb3 hbel2; obtain ⟨A3, c3, rfl, _, _, ha3, r3⟩ := own_form ho3)
              | (with_reducible show wpList _ _ _ (⟨some 48, _, _, _, _, _⟩ :: _) _ _; go_must (refine wpList_rd (.tmp 41) (.tmp 47) el_u8 rfl rfl hown2 rfl r3 rfl (bvs_one _) (by omega) hbel3.size ?_); intro v4 w4 hown4 hb4 hg4 ha4; have hbel4 := hbel3.trans hb4; have hbs4 := hbel4.size; obtain ⟨g0, g1, g2, g3⟩ := keep4 hb4 (by omega) g0 g1 g2 g3; clear hown2 ho3 r3 hb4 hg4 ha4 hbel3 ha3)
              | (go_at_call 40; go_must (refine (rtext_any _ _ (by omega)).mono ?_); rintro e w5 ⟨v5, rfl, ho5, hb5⟩; have hbel5 := hbel4.trans (hb5.mono hbel4.size); replace hown4 := own_up hown4 hb5; obtain ⟨g0, g1, g2, g3⟩ := keep4 hb5 (by omega) g0 g1 g2 g3; clear hb5 hbel4; obtain ⟨A5, c5, rfl, _, _, ha5, r5⟩ := own_form ho5)
              | (with_reducible show wpList _ _ _ (⟨some 56, _, _, _, _, _⟩ :: _) _ _; go_must (refine wpList_rd (.tmp 49) (.tmp 55) el_u8 rfl rfl hown4 rfl r5 rfl (bvs_one _) (by omega) hbel5.size ?_); intro v6 w6 hown6 hb6 hg6 ha6; have hbel6 := hbel5.trans hb6; have hbs6 := hbel6.size; obtain ⟨g0, g1, g2, g3⟩ := keep4 hb6 (by omega) g0 g1 g2 g3; clear hown4 ho5 r5 hb6 hg6 ha6 hbel5 ha5)
              | (go_at_call_of 38 (r.a); go_must (refine (rnum_any r.a _ q4 q5).mono ?_); rintro e w7 ⟨v7, rfl, ho7, hb7⟩; have hbel7 := hbel6.trans (hb7.mono hbel6.size); replace hown6 := own_up hown6 hb7; obtain ⟨g0, g1, g2, g3⟩ := keep4 hb7 (by omega) g0 g1 g2 g3; clear hb7 hbel6; obtain ⟨A7, c7, rfl, _, _, ha7, r7⟩ := own_form ho7)
              | (with_reducible show wpList _ _ _ (⟨some 64, _, _, _, _, _⟩ :: _) _ _; go_must (refine wpList_rd (.tmp 57) (.tmp 63) el_u8 rfl rfl hown6 rfl r7 rfl (bvs_one _) (by omega) hbel7.size ?_); intro v8 w8 hown8 hb8 hg8 ha8; have hbel8 := hbel7.trans hb8; have hbs8 := hbel8.size; obtain ⟨g0, g1, g2, g3⟩ := keep4 hb8 (by omega) g0 g1 g2 g3; clear hown6 ho7 r7 hb8 hg8 ha8 hbel7 ha7)
              | (go_at_call_of 38 (r.b); go_must (refine (rnum_any r.b _ q6 q7).mono ?_); rintro e w9 ⟨v9, rfl, ho9, hb9⟩; have hbel9 := hbel8.trans (hb9.mono hbel8.size); replace hown8 := own_up hown8 hb9; clear hb9 hbel8; obtain ⟨A9, c9, rfl, _, _, ha9, r9⟩ := own_form ho9)
              | (with_reducible show wpList _ _ _ (⟨some 72, _, _, _, _, _⟩ :: _) _ _; go_must (refine wpList_rd (.tmp 65) (.tmp 71) el_u8 rfl rfl hown8 rfl r9 rfl (bvs_one _) (by omega) hbel9.size ?_); intro vz wz hownz hbz hgz haz; have hbelz := hbel9.trans hbz; clear hown8 ho9 r9 hbz hgz haz hbel9 ha9))
            go_roundw
            case rel =>
              refine ⟨(j+1) + 1, m + (numB r.node).length + (textB r.key.data.toList).length + (numB r.a).length + (numB r.b).length, by omega, by go_num, by omega, HG.out, ?_, hbelz⟩
              rw [hlds_step Hx.out]
              simpa only [List.append_assoc] using hownz
            case measure => simp [intOf]; omega
      · have hrf : hldOk r = false := by simpa using hrk
        have HR := Lib.hid hrf
        clear hrk hrf
        go_wp2_with (first | (go_at_call 17; go_must (refine (sheld_is r _ q1 HR.out).mono ?_); rintro e w2 ⟨rfl, hb2⟩))
        go_ret2
        have e1 := hldE_of (l := l) (by have := Hn.out; omega) (Hgo.out.trans (go_range Hx.out HR.out))
        exact ⟨_, by rw [e1]; rfl, by rw [hldE_bad e1 (by omega)]; exact World.ownsRow_nil _ _ _ _, hbel.trans (hb2.mono hbs)⟩
    · go_wp2
      go_ret2
      have e : k = n := by omega
      subst e
      have e0 : heldsE l = 0 := hldE_of (by have := Hn.out; omega) (Hgo.out.trans (by rw [List.drop_eq_nil_of_le (by have := Hn.out; omega)]; rfl))
      refine ⟨_, by rw [e0]; rfl, own_b hown ?_, hbel⟩
      rw [hldE_good e0, List.map_append, ← Hn.out, List.take_of_length_le (by have := Hn.out; omega)]
end Go.Proofs.YtcfijljagohmlaaGreatDoor
