/- The walks of audit.count, audit.Less, weirsame.Lines. -/
import Derived.Test.YtelailhghhjleaaDoorWalkPrefix
namespace Go.Proofs.YtelailhghhjleaaDoor
open Go.RowKit

set_option maxRecDepth 100000 in
set_option maxHeartbeats 1000000 in
theorem acount_any (A : Option Addr) (c B n : Nat) (ps : List Pl) (w : World) (hr : RdPs w B A n ps) (hB : B ≤ w.heap.size) (hok : LnsOk (lnsOf ps)) :
    Calls Tryd.prog 58 #[.slice A n c] w fun e w' => e = .returned (.int .i64 (sumL (lnsOf ps))) ∧ Below w.heap.size w w' := by
  have Hn := Lib.hid hr.len
  have hn : n ≤ 400 := by have := hok.len; rwa [lnsOf_len, hr.len] at this
  have HSL := Lib.hid (sumL_le hok)
  have HF := Lib.hid hok.few
  clear hok
  go_enter Tryd.func58, Tryd.ntmps58
  go_wp2_with fail
  go_loopw [3, 8] (fun s i wr => ∃ k t : Nat, k ≤ n ∧ i = .int .i64 k ∧ s = .int .i64 t ∧ Hid (t = sumL ((lnsOf ps).take k)) ∧ Below w.heap.size w wr) (fun _ i _ => n - (intOf i).toNat)
  case atStart => exact ⟨0, 0, Nat.zero_le _, rfl, rfl, Lib.hid rfl, Below.refl _ _⟩
  case round =>
    obtain ⟨k, t, hk, rfl, rfl, HT, hbel⟩ := hrel
    have hws := hbel.size
    by_cases hlt : k < n
    · obtain ⟨ad, p, rfl, _, hx0, g0, g1, hpo⟩ := (hr.below hbel hB).at_ hlt
      have Hx := Lib.hid (lnsOf_at hx0)
      have hp4 := HF.out p.ln (List.mem_of_getElem? Hx.out)
      obtain ⟨m, hm⟩ : ∃ m, m = p.ln.nums.length := ⟨_, rfl⟩
      have HT2 : Hid (t + m = sumL ((lnsOf ps).take (k + 1))) := Lib.hid (by rw [sumL_next Hx.out, ← HT.out, hm])
      have ht2 : t + m ≤ 160000 := by rw [HT2.out]; exact Nat.le_trans (sumL_take_le _ _) HSL.out
      unfold Pl.val at g1
      rw [← hm] at g1
      clear hx0 hpo hm
      have hk0 : (0 : Int) ≤ (k : Int) := by omega
      have hk3 : (k : Int) < (n : Int) := by omega
      go_wp2_with fail
      go_roundw
      case rel => exact ⟨k + 1, t + m, by omega, by go_num, by go_num, HT2, hbel.alloc hws _⟩
      case measure => simp [intOf]; omega
    · have HE : Hid (sumL (lnsOf ps) = t) := Lib.hid (by rw [HT.out, List.take_of_length_le (by rw [lnsOf_len, Hn.out]; omega)])
      go_wp2_with fail
      go_ret
      exact ⟨by rw [HE.out]; rfl, hbel⟩

set_option maxRecDepth 100000 in
set_option maxHeartbeats 1000000 in
theorem aless_any (A1 A2 : Option Addr) (c1 c2 B n1 n2 : Nat) (p1 p2 : List Pl) (w : World) (hr1 : RdPs w B A1 n1 p1) (hr2 : RdPs w B A2 n2 p2) (hB : B ≤ w.heap.size) (hl1 : n1 ≤ 140737488355328) (hl2 : n2 ≤ 140737488355328) :
    Calls Tryd.prog 31 #[.slice A1 n1 c1, .slice A2 n2 c2] w fun e w' => e = .returned (.tuple #[.int .i64 (lessV (lnsOf p1) (lnsOf p2)), errV (lessE (lnsOf p1) (lnsOf p2))]) ∧ Below w.heap.size w w' := by
  have hbo := both_any A1 A2 c1 c2 B n1 n2 p1 p2 w hr1 hr2 hB hl1 hl2
  by_cases hE : bothE (lnsOf p1) (lnsOf p2) = 0
  · have h1 : linesE (lnsOf p1) = 0 := by
      apply Classical.byContradiction
      intro h
      rw [bothE, if_pos h] at hE
      exact h hE
    have h2 : linesE (lnsOf p2) = 0 := by rw [bothE, if_neg (by simp [h1])] at hE; exact hE
    have hk1 := linesE_ok h1
    have hk2 := linesE_ok h2
    have HK1 := Lib.hid hk1
    have HK2 := Lib.hid hk2
    have s1 := sumL_le hk1
    have s2 := sumL_le hk2
    have hdp := fun W (hb : Below w.heap.size w W) => dprefix_any A2 A1 c2 c1 B n2 n1 p2 p1 W (hr2.below hb hB) (hr1.below hb hB) (Nat.le_trans hB hb.size) hl2 hl1 (fun p hp => hk2.few p.ln (List.mem_map_of_mem hp)) (fun p hp => hk1.few p.ln (List.mem_map_of_mem hp))
    rw [hE, errV_zero] at hbo
    have e : bothL (lnsOf p1) (lnsOf p2) = 0 := hE
    rcases hp : prefB (lnsOf p2) (lnsOf p1)
    · have HL : Hid (lessE (lnsOf p1) (lnsOf p2) = 7) := Lib.hid (by rw [lessE, if_neg (by simp [e]), hp]; rfl)
      have HV : Hid (lessV (lnsOf p1) (lnsOf p2) = 0) := Lib.hid (by rw [lessV, HL.out]; rfl)
      rw [hp] at hdp
      clear hE h1 h2 hk1 hk2 e hp
      go_enter Tryd.func31, Tryd.ntmps31
      go_wp2_with (first
        | (go_at_call 54; go_must (refine hbo.mono ?_); rintro e w1 ⟨rfl, hb1⟩)
        | (go_at_call 57; go_must (refine (hdp _ hb1).mono ?_); rintro e w2 ⟨rfl, hb2⟩))
      go_ret2
      exact ⟨by rw [HL.out, HV.out]; rfl, below_up hb1 hb2⟩
    · have HL : Hid (lessE (lnsOf p1) (lnsOf p2) = 0) := Lib.hid (by rw [lessE, if_neg (by simp [e]), hp]; rfl)
      rw [hp] at hdp
      have hc1 := fun W (hb : Below w.heap.size w W) => acount_any A1 c1 B n1 p1 W (hr1.below hb hB) (Nat.le_trans hB hb.size) HK1.out
      have hc2 := fun W (hb : Below w.heap.size w W) => acount_any A2 c2 B n2 p2 W (hr2.below hb hB) (Nat.le_trans hB hb.size) HK2.out
      have HV : Hid (lessV (lnsOf p1) (lnsOf p2) = (sumL (lnsOf p1) : Int) - (sumL (lnsOf p2) : Int)) := Lib.hid (by rw [lessV, HL.out, if_pos rfl])
      generalize sumL (lnsOf p1) = S1 at *
      generalize sumL (lnsOf p2) = S2 at *
      clear hE h1 h2 hk1 hk2 e hp
      go_enter Tryd.func31, Tryd.ntmps31
      go_wp2_with (first
        | (go_at_call 54; go_must (refine hbo.mono ?_); rintro e w1 ⟨rfl, hb1⟩)
        | (go_at_call 57; go_must (refine (hdp _ hb1).mono ?_); rintro e w2 ⟨rfl, hb2⟩; have hb12 := below_up hb1 hb2)
        | (go_at_call_of 58 A1; go_must (refine (hc1 _ hb12).mono ?_); rintro e w3 ⟨rfl, hb3⟩; have hb13 := below_up hb12 hb3)
        | (go_at_call_of 58 A2; go_must (refine (hc2 _ hb13).mono ?_); rintro e w4 ⟨rfl, hb4⟩))
      go_ret2
      exact ⟨by rw [HL.out, HV.out]; rfl, below_up hb13 hb4⟩
  · have HE0 : Hid (errV (bothE (lnsOf p1) (lnsOf p2)) = .iface 75 (.int .i64 (bothE (lnsOf p1) (lnsOf p2) : Nat))) := Lib.hid (by rw [errV, if_neg hE])
    have HL : Hid (lessE (lnsOf p1) (lnsOf p2) = bothE (lnsOf p1) (lnsOf p2)) := Lib.hid (by
      have e : bothL (lnsOf p1) (lnsOf p2) = bothE (lnsOf p1) (lnsOf p2) := rfl
      rw [lessE, e, if_pos hE])
    have HV : Hid (lessV (lnsOf p1) (lnsOf p2) = 0) := Lib.hid (by rw [lessV, if_neg (by rw [HL.out]; exact hE)])
    clear hE
    go_enter Tryd.func31, Tryd.ntmps31
    go_wp2_with (first
      | (go_at_call 54; go_must (refine hbo.mono ?_); rintro e w1 ⟨rfl, hb1⟩; rw [HE0.out]))
    go_ret2
    exact ⟨by rw [HV.out, HL.out, HE0.out]; rfl, hb1⟩

theorem same_ln {p q : Pl} (h : p.ln = q.ln) : p.ln.key = q.ln.key ∧ p.ln.nums = q.ln.nums := by rw [h]; exact ⟨rfl, rfl⟩
set_option maxRecDepth 100000 in
set_option maxHeartbeats 1000000 in
/-- weirsame.Ints, which only reads. -/
theorem ints_sameq (A A' : Option Addr) (c c' B n : Nat) (l : List Int) (w : World) (hx : Rd w B 1 A n (l.map iv)) (hy : Rd w B 1 A' n (l.map iv)) (_hl : n ≤ 140737488355328) (_hn : l.length = n) :
    Calls Tryd.prog 13 #[.slice A n c, .slice A' n c'] w fun e w' => e = .returned (.bool true) ∧ ∃ q, w' = w.drewN q := by
  go_enter Tryd.func13, Tryd.ntmps13
  go_wp2_with fail
  go_loopw [5] (fun i wr => ∃ k : Nat, k ≤ n ∧ i = .int .i64 k ∧ ∃ q, wr = w.drewN q) (fun i _ => n - (intOf i).toNat)
  case atStart => exact ⟨0, Nat.zero_le _, rfl, 0, rfl⟩
  case round =>
    obtain ⟨k, hk, rfl, q, hw⟩ := hrel
    have hxr : Rd wr B 1 A n (l.map iv) := by rw [hw]; exact hx.drewN q
    have hyr : Rd wr B 1 A' n (l.map iv) := by rw [hw]; exact hy.drewN q
    have HW := Lib.hid hw
    clear hw
    by_cases hlt : k < n
    · obtain ⟨ad, rfl, _, g0⟩ := hxr.intm hlt
      obtain ⟨ad', rfl, _, p0⟩ := hyr.intm hlt
      obtain ⟨z, hz⟩ : ∃ z, z = l.getD k 0 := ⟨_, rfl⟩
      rw [← hz] at g0 p0
      clear hz
      have hi0 : (0 : Int) ≤ (k : Int) := by omega
      have hi1 : (k : Int) < (n : Int) := by omega
      go_wp2_with fail
      go_quiet (fail)
      go_wp2_with fail
      go_roundw
      case rel => exact ⟨k + 1, by omega, by go_num, q + nq, by rw [HW.out, World.drewN_drewN]⟩
      case measure => simp [intOf]; omega
    · go_wp2_with fail
      go_ret
      exact ⟨rfl, q, HW.out⟩
set_option maxRecDepth 100000 in
set_option maxHeartbeats 1000000 in
theorem lines_same (A A' : Option Addr) (c c' B n : Nat) (ps qs : List Pl) (w : World) (hr1 : RdPs w B A n ps) (hr2 : RdPs w B A' n qs) (hB : B ≤ w.heap.size) (hl : n ≤ 140737488355328) (hk : ∀ p ∈ ps, p.ln.nums.length ≤ 140737488355328) (hsame : lnsOf ps = lnsOf qs) :
    Calls Tryd.prog 29 #[.slice A n c, .slice A' n c'] w fun e w' => e = .returned (.bool true) ∧ Below w.heap.size w w' := by
  have HS := Lib.hid hsame
  have HK := Lib.hid hk
  clear hsame hk
  go_enter Tryd.func29, Tryd.ntmps29
  go_wp2_with fail
  go_loopw [5] (fun i wr => ∃ k : Nat, k ≤ n ∧ i = .int .i64 k ∧ Below w.heap.size w wr) (fun i _ => n - (intOf i).toNat)
  case atStart => exact ⟨0, Nat.zero_le _, rfl, Below.refl _ _⟩
  case round =>
    obtain ⟨k, hk, rfl, hbel⟩ := hrel
    by_cases hlt : k < n
    · obtain ⟨ad, p, rfl, _, hx0, g0, g1, hpo⟩ := (hr1.below hbel hB).at_ hlt
      obtain ⟨ad', q, rfl, _, hy0, y0, y1, hqo⟩ := (hr2.below hbel hB).at_ hlt
      have hpq : p.ln = q.ln := by
        have h1 := lnsOf_at hx0
        rw [HS.out, lnsOf_at hy0] at h1
        injection h1 with h1
        exact h1.symm
      have hp4 := HK.out p (List.mem_of_getElem? hx0)
      have hrp := hpo.rd
      have hrq := hqo.rd
      unfold Pl.val at g1 y1
      rw [← hpq] at y0 y1 hrq
      clear hx0 hy0 hpo hqo hpq
      obtain ⟨m, hm⟩ : ∃ m, m = p.ln.nums.length := ⟨_, rfl⟩
      have Hm := Lib.hid hm
      rw [← hm] at g1 y1 hrp hrq hp4
      have heq := fun W (h1 : Rd W B 1 p.A m (p.ln.nums.map iv)) (h2 : Rd W B 1 q.A m (p.ln.nums.map iv)) => ints_sameq p.A q.A p.c q.c B m p.ln.nums W h1 h2 hp4 Hm.out.symm
      clear hm
      have hk0 : (0 : Int) ≤ (k : Int) := by omega
      have hk3 : (k : Int) < (n : Int) := by omega
      go_wp2_with fail
      go_quiet (first
        | (go_at_call 13; refine Calls.quiet_of (heq _ ?_ ?_); exact hrp; exact hrq))
      have hbq := below_drewN hbel nq
      have ec : wr.cell? = (wr.drewN nq).cell? := rfl
      rw [ec] at g0 g1 y0 y1
      clear ec
      generalize wr.drewN nq = wq at *
      go_wp2_with fail
      go_quiet (fail)
      have hbq2 := below_drewN hbq nq
      generalize wq.drewN nq = wq2 at *
      go_wp2_with fail
      go_roundw
      case rel => exact ⟨k + 1, by omega, by go_num, hbq2⟩
      case measure => simp [intOf]; omega
    · go_wp2_with fail
      go_ret
      exact ⟨rfl, hbel⟩
end Go.Proofs.YtelailhghhjleaaDoor
