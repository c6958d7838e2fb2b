/- The walks of the reference's Record, Records, ReadRecords. -/
import Derived.Test.YtcfijljagohmlaaDoorWalkD2
import Derived.Test.YtcfijljagohmlaaDoorWalkSeal
import Derived.Test.YtcfijljagohmlaaDoorPlainRead2
namespace Go.Proofs.YtcfijljagohmlaaDoor
open Go.RowKit

/-- The cells of the record at k, and where they lie. -/
theorem Rd.recb {w w' : World} {B D n k : Nat} {A : Option Addr} {l : List Rec} (h : Rd w B 3 A n (recCells l)) (hk : k < n) (hl : l.length = n) (hb : Below D w w') (hD : B ≤ D) :
    ∃ ad, ∃ r : Rec, A = some ad ∧ (ad.add (k * 3)).block < B ∧ l[k]? = some r ∧ w'.cell? (ad.add (k * 3)) = some (.string r.key) ∧ w'.cell? ⟨(ad.add (k * 3)).block, (ad.add (k * 3)).off + 1, none⟩ = some (.int .i64 r.num) ∧
      w'.cell? ⟨(ad.add (k * 3)).block, (ad.add (k * 3)).off + 2, none⟩ = some (.int .i64 r.time) := by
  obtain ⟨ad', e, hbb, _⟩ := h.2 (by omega)
  obtain ⟨ad, r, e2, h1, h2⟩ := h.rec_ hk hl hb hD
  rw [e] at e2; injection e2 with e2; subst e2
  exact ⟨ad', r, e, by rw [block_add]; exact hbb, h1, h2⟩
/-- A cell behind a call. -/
theorem cell_keep {w w' : World} {D : Nat} {p : Addr} {x : Value} (hb : Below D w w') (hp : p.block < D) (h : w.cell? p = some x) : w'.cell? p = some x := (hb.cell hp).trans h

set_option maxRecDepth 100000 in
set_option maxHeartbeats 400000 in
theorem srecord_any (r : Rec) (w : World) (hr : r.key.size ≤ 9223372036854775807) :
    Calls Tryd.prog 32 #[r.val] w fun e w' => e = .returned (.bool (recOk r)) ∧ Below w.heap.size w w' := by
  go_enter Tryd.func32, Tryd.ntmps32
  unfold Rec.val
  go_wp2
  all_goals go_ret
  all_goals refine ⟨?_, (Below.refl _ _).alloc (Nat.le_refl _) _⟩
  all_goals (simp [recOk, *] <;> (intros; omega))
theorem srecord_is (r : Rec) (w : World) (hr : r.key.size ≤ 9223372036854775807) {b : Bool} (h : recOk r = b) :
    Calls Tryd.prog 32 #[r.val] w fun e w' => e = .returned (.bool b) ∧ Below w.heap.size w w' := by
  have := srecord_any r w hr; rw [h] at this; exact this

set_option maxRecDepth 100000 in
set_option maxHeartbeats 1000000 in
theorem srecords_any (A : Option Addr) (c B : Nat) (l : List Rec) (w : World) (hr : Rd w B 3 A l.length (recCells l)) (hB : B ≤ w.heap.size) (hok : ∀ r ∈ l, r.Ok) (hl : l.length ≤ 140737488355328) :
    Calls Tryd.prog 8 #[.slice A l.length c] w fun e w' => ∃ v, e = .returned (.tuple #[v, .int .i64 (recsE l)]) ∧ w'.ownsRow w.heap.size 5 1 v (recsB l).length ((recsB l).map bv) ∧ Below w.heap.size w w' := by
  obtain ⟨n, hn⟩ : ∃ n, n = l.length := ⟨_, rfl⟩
  have hsm := numB_le (n : Int)
  have Hn := Lib.hid hn
  rw [← hn] at hr hl ⊢
  clear hn
  by_cases hbig : 400 < n
  · go_enter Tryd.func8, Tryd.ntmps8
    go_wp2
    go_ret2
    obtain ⟨e1, e2⟩ := recE_long (l := l) (by have := Hn.out; omega)
    exact ⟨_, by rw [e1]; rfl, by rw [e2]; exact World.ownsRow_nil _ _ _ _, Below.refl _ _⟩
  go_enter Tryd.func8, Tryd.ntmps8
  go_wp2_with (first | (go_at_call 31; refine (rnum_any _ _ (by omega) (by omega)).mono ?_; rintro e w1 ⟨v1, rfl, ho1, hb1⟩))
  go_loopw [4, 5] (fun b i wr => ∃ k : Nat, ∃ m : Nat, k ≤ n ∧ i = .int .i64 k ∧ m ≤ 10 + 70 * k ∧ Hid (∀ j r, j < k → l[j]? = some r → recOk r = true) ∧ wr.ownsRow w.heap.size 5 1 b m ((numB n).map bv ++ ((l.take k).flatMap recB).map bv) ∧ Below w.heap.size w wr) (fun _ i _ => n - (intOf i).toNat)
  case atStart => exact ⟨0, _, Nat.zero_le _, rfl, hsm, by intro j r h; omega, by simpa using ho1, hb1⟩
  case round =>
    obtain ⟨k, m, hk, rfl, hm, Hall, hown, hbel⟩ := hrel
    have hbs := hbel.size
    by_cases hlt : k < n
    · obtain ⟨ad, r, rfl, hbk, hx, g0, g1, g2⟩ := hr.recb hlt (Hn.out).symm hbel hB
      have hro := hok r (List.mem_of_getElem? hx)
      have q1 := hro.1
      obtain ⟨q2, q3⟩ := hro.2.1
      obtain ⟨q4, q5⟩ := hro.2.2
      clear hro
      have Hx := Lib.hid hx
      clear hx
      have hbw : (ad.add (k * 3)).block < w.heap.size := by omega
      by_cases hrk : recOk r = true
      · have HR := Lib.hid hrk
        clear hrk
        have hk40 := recOk_key HR.out
        have hle1 := textB_le r.key 40 hk40
        have hle2 := numB_le r.num
        have hle3 := numB_le r.time
        go_wp2_with (first
          | (go_at_call 32; go_must (refine (srecord_is r _ q1 HR.out).mono ?_); rintro e w2 ⟨rfl, hb2⟩; replace hown := own_up hown hb2; have hbel2 := hbel.trans (hb2.mono hbs); replace g0 := cell_keep hb2 (by omega) g0; replace g1 := cell_keep (p := ⟨_, _, none⟩) hb2 (by simp only; omega) g1; replace g2 := cell_keep (p := ⟨_, _, none⟩) hb2 (by simp only; omega) g2; clear hb2)
          | (go_at_call 33; go_must (refine (rtext_any _ _ (by omega)).mono ?_); rintro e w3 ⟨v3, rfl, ho3, hb3⟩; have hbel3 := hbel2.trans (hb3.mono hbel2.size); have hbs2 := hbel2.size; replace hown := own_up hown hb3; replace g1 := cell_keep (p := ⟨_, _, none⟩) hb3 (by simp only; omega) g1; replace g2 := cell_keep (p := ⟨_, _, none⟩) hb3 (by simp only; omega) g2; clear hb3 hbel2 g0; obtain ⟨A3, c3, rfl, _, _, ha3, r3⟩ := own_form ho3)
          | (with_reducible show wpList _ _ _ (⟨some 33, _, _, _, _, _⟩ :: _) _ _; go_must (refine wpList_rd (.tmp 26) (.tmp 32) el_u8 rfl rfl hown rfl r3 rfl (bvs_one _) (by omega) hbel3.size ?_); intro v4 w4 hown4 hb4 hg4 ha4; have hbel4 := hbel3.trans hb4; replace g1 := cell_keep (p := ⟨_, _, none⟩) hb4 (by simp only; omega) g1; replace g2 := cell_keep (p := ⟨_, _, none⟩) hb4 (by simp only; omega) g2; clear hown ho3 r3 hb4 hg4 ha4 hbel3 ha3)
          | (go_at_call_of 31 (r.num); go_must (refine (rnum_any r.num _ q2 q3).mono ?_); rintro e w5 ⟨v5, rfl, ho5, hb5⟩; have hbel5 := hbel4.trans (hb5.mono hbel4.size); have hbs4 := hbel4.size; replace hown4 := own_up hown4 hb5; replace g2 := cell_keep (p := ⟨_, _, none⟩) hb5 (by simp only; omega) g2; clear hb5 hbel4 g1; obtain ⟨A5, c5, rfl, _, _, ha5, r5⟩ := own_form ho5)
          | (with_reducible show wpList _ _ _ (⟨some 41, _, _, _, _, _⟩ :: _) _ _; go_must (refine wpList_rd (.tmp 34) (.tmp 40) el_u8 rfl rfl hown4 rfl r5 rfl (bvs_one _) (by omega) hbel5.size ?_); intro v6 w6 hown6 hb6 hg6 ha6; have hbel6 := hbel5.trans hb6; replace g2 := cell_keep (p := ⟨_, _, none⟩) hb6 (by simp only; omega) g2; clear hown4 ho5 r5 hb6 hg6 ha6 hbel5 ha5)
          | (go_at_call_of 31 (r.time); go_must (refine (rnum_any r.time _ q4 q5).mono ?_); rintro e w7 ⟨v7, rfl, ho7, hb7⟩; have hbel7 := hbel6.trans (hb7.mono hbel6.size); replace hown6 := own_up hown6 hb7; clear hb7 hbel6 g2; obtain ⟨A7, c7, rfl, _, _, ha7, r7⟩ := own_form ho7)
          | (with_reducible show wpList _ _ _ (⟨some 49, _, _, _, _, _⟩ :: _) _ _; go_must (refine wpList_rd (.tmp 42) (.tmp 48) el_u8 rfl rfl hown6 rfl r7 rfl (bvs_one _) (by omega) hbel7.size ?_); intro v8 w8 hown8 hb8 hg8 ha8; have hbel8 := hbel7.trans hb8; clear hown6 ho7 r7 hb8 hg8 ha8 hbel7 ha7))
        go_roundw
        case rel =>
          refine ⟨k + 1, m + (textB r.key.data.toList).length + (numB r.num).length + (numB r.time).length, by omega, by go_num, by omega, all_step Hall.out Hx.out HR.out, ?_, hbel8⟩
          rw [recs_step Hx.out]
          simpa only [List.append_assoc] using hown8
        case measure => simp [intOf]; omega
      · have hrf : recOk r = false := by simpa using hrk
        have HR := Lib.hid hrf
        clear hrk hrf
        go_wp2_with (first | (go_at_call 32; go_must (refine (srecord_is r _ q1 HR.out).mono ?_); rintro e w2 ⟨rfl, hb2⟩))
        go_ret2
        obtain ⟨e1, e2⟩ := recE_bad (by have := Hn.out; omega) Hx.out HR.out
        exact ⟨_, by rw [e1]; rfl, by rw [e2]; exact World.ownsRow_nil _ _ _ _, hbel.trans (hb2.mono hbs)⟩
    · go_wp2
      go_ret2
      have e : k = n := by omega
      subst e
      obtain ⟨e1, e2⟩ := recE_good (l := l) (by have := Hn.out; omega) (fun j r hj => Hall.out j r (by have := Hn.out; omega))
      refine ⟨_, by rw [e1]; rfl, own_b hown ?_, hbel⟩
      rw [e2, List.map_append, ← Hn.out, List.take_of_length_le (by have := Hn.out; omega)]
end Go.Proofs.YtcfijljagohmlaaDoor
