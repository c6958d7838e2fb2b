/- The walk of weirref2.Lines. -/
import Derived.Test.YtelailhghhjleaaDoorWalkLines
namespace Go.Proofs.YtelailhghhjleaaDoor
open Go.RowKit

set_option maxRecDepth 100000 in
set_option maxHeartbeats 4000000 in
theorem rlines_any (A : Option Addr) (c B n : Nat) (ps : List Pl) (w : World) (hr : RdPs w B A n ps) (hl : n ≤ 140737488355328) :
    Calls Tryd.prog 26 #[.slice A n c] w fun e w' => e = .returned (.int .i64 (linesE (lnsOf ps) : Nat)) ∧ ∃ q, w' = w.drewN q := by
  have Hn := Lib.hid hr.len.symm
  by_cases hbig : 400 < n
  · go_enter Tryd.func26, Tryd.ntmps26
    go_wp2
    go_ret
    exact ⟨by rw [linesE_long (by rw [lnsOf_len, ← Hn.out]; exact hbig)]; rfl, 0, rfl⟩
  go_enter Tryd.func26, Tryd.ntmps26
  go_wp2_with fail
  go_loopw [3] (fun i wr => ∃ k q : Nat, k ≤ n ∧ i = .int .i64 k ∧ Hid (linesGo none (lnsOf ps) = linesGo (prevK (lnsOf ps) k) ((lnsOf ps).drop k)) ∧ Hid (wr = w.drewN q)) (fun i _ => n - (intOf i).toNat)
  case atStart => exact ⟨0, 0, Nat.zero_le _, rfl, Lib.hid rfl, Lib.hid rfl⟩
  obtain ⟨k, q, hk, rfl, Hgo, HW⟩ := hrel
  have hrr : RdPs wr B A n ps := by rw [HW.out]; exact hr.drewN q
  by_cases hlt : k < n
  · obtain ⟨ad, p, rfl, _, hx0, g0, g1, hpo⟩ := hrr.at_ hlt
    have Hx := Lib.hid (lnsOf_at hx0)
    clear hx0
    have hpl := hpo.len
    obtain ⟨m, hm⟩ : ∃ m, m = p.ln.nums.length := ⟨_, rfl⟩
    have Hm := Lib.hid hm
    unfold Pl.val at g1
    rw [← hm] at g1 hpl
    clear hm
    have hk0 : (0 : Int) ≤ (k : Int) := by omega
    have hk1 : (k : Int) < (n : Int) := by omega
    by_cases h1 : 400 < m
    · have e1 := linesE_of (l := lnsOf ps) (by rw [lnsOf_len, ← Hn.out]; omega) (Hgo.out.trans (lngo_many Hx.out (by have := Hm.out; omega)))
      have H1 := Lib.hid e1
      clear e1
      go_wp2_with fail
      go_ret
      exact ⟨by rw [H1.out]; rfl, q, HW.out⟩
    · have h1' : ¬ ((400 : Int) < (m : Int)) := by omega
      rcases k with _ | j
      · have HS : Hid (lnStuck (prevK (lnsOf ps) 0) p.ln.key = false) := Lib.hid rfl
        simp only [Nat.zero_mul, Addr.add, if_true] at g0 g1
        go_wp2_with fail
        go_quiet (fail)
        have HQ : Hid (wr.drewN nq = w.drewN (q + nq)) := Lib.hid (by rw [HW.out, World.drewN_drewN])
        have ecell : wr.cell? = (wr.drewN nq).cell? := rfl
        rw [ecell] at g1
        clear ecell
        generalize wr.drewN nq = wq at *
        by_cases hz : m = 0
        · have e1 := linesE_of (l := lnsOf ps) (by rw [lnsOf_len, ← Hn.out]; omega) (Hgo.out.trans (lngo_none Hx.out (by have := Hm.out; omega) HS.out (by have := Hm.out; omega)))
          have H1 := Lib.hid e1
          clear e1
          subst hz
          go_wp2_with fail
          go_ret
          exact ⟨by rw [H1.out]; rfl, q + nq, HQ.out⟩
        · have hz0 : ¬ ((m : Int) = 0) := by omega
          have HG := Lib.hid (Hgo.out.trans (lngo_next Hx.out (by have := Hm.out; omega) HS.out (by have := Hm.out; omega)))
          go_wp2_with fail
          go_roundw
          case rel => exact ⟨0 + 1, q + nq, by omega, by go_num, HG, HQ⟩
          case measure => simp [intOf]; omega
      · obtain ⟨ad', pq, hq', _, hxq, q0, q1, _⟩ := hrr.at_ (k := j) (by omega)
        injection hq' with hq'
        subst hq'
        have Hxq := Lib.hid (lnsOf_at hxq)
        clear hxq q1
        have hi0 : (0 : Int) ≤ (j : Int) := by omega
        have hi1 : (j : Int) < (n : Int) := by omega
        have hi2 : IntKind.i64.wrap ((j : Int) + 1 - 1) = (j : Int) := by rw [IntWalk.i64_in _ (by omega)]; omega
        have hi3 : IntKind.i64.wrap (j : Int) = (j : Int) := IntWalk.i64_in _ (by omega)
        rcases hcmp : klt pq.ln.key p.ln.key
        · have HS : Hid (lnStuck (prevK (lnsOf ps) (j + 1)) p.ln.key = true) := Lib.hid (by rw [prevK_at Hxq.out, lnStuck, hcmp]; rfl)
          have tc : (Op.bytesLess pq.ln.key.toList p.ln.key.toList) = false := hcmp
          have e1 := linesE_of (l := lnsOf ps) (by rw [lnsOf_len, ← Hn.out]; omega) (Hgo.out.trans (lngo_order Hx.out (by have := Hm.out; omega) HS.out))
          have H1 := Lib.hid e1
          clear hcmp e1
          go_wp2_with fail
          go_quiet (fail)
          have HQ : Hid (wr.drewN nq = w.drewN (q + nq)) := Lib.hid (by rw [HW.out, World.drewN_drewN])
          have ecell : wr.cell? = (wr.drewN nq).cell? := rfl
          rw [ecell] at g1
          clear ecell
          generalize wr.drewN nq = wq at *
          go_wp2_with fail
          go_ret
          exact ⟨by rw [H1.out]; rfl, q + nq, HQ.out⟩
        · have HS : Hid (lnStuck (prevK (lnsOf ps) (j + 1)) p.ln.key = false) := Lib.hid (by rw [prevK_at Hxq.out, lnStuck, hcmp]; rfl)
          have tc : (Op.bytesLess pq.ln.key.toList p.ln.key.toList) = true := hcmp
          clear hcmp
          go_wp2_with fail
          go_quiet (fail)
          have HQ : Hid (wr.drewN nq = w.drewN (q + nq)) := Lib.hid (by rw [HW.out, World.drewN_drewN])
          have ecell : wr.cell? = (wr.drewN nq).cell? := rfl
          rw [ecell] at g1
          clear ecell
          generalize wr.drewN nq = wq at *
          by_cases hz : m = 0
          · have e1 := linesE_of (l := lnsOf ps) (by rw [lnsOf_len, ← Hn.out]; omega) (Hgo.out.trans (lngo_none Hx.out (by have := Hm.out; omega) HS.out (by have := Hm.out; omega)))
            have H1 := Lib.hid e1
            clear e1
            subst hz
            go_wp2_with fail
            go_ret
            exact ⟨by rw [H1.out]; rfl, q + nq, HQ.out⟩
          · have hz0 : ¬ ((m : Int) = 0) := by omega
            have HG := Lib.hid (Hgo.out.trans (lngo_next Hx.out (by have := Hm.out; omega) HS.out (by have := Hm.out; omega)))
            go_wp2_with fail
            go_roundw
            case rel => exact ⟨(j+1) + 1, q + nq, by omega, by go_num, HG, HQ⟩
            case measure => simp [intOf]; omega
  · have e1 := linesE_of (l := lnsOf ps) (by rw [lnsOf_len, ← Hn.out]; omega) (Hgo.out.trans (lngo_done (by rw [lnsOf_len, ← Hn.out]; omega)))
    have H1 := Lib.hid e1
    clear e1
    go_wp2_with fail
    go_ret
    exact ⟨by rw [H1.out]; rfl, q, HW.out⟩
end Go.Proofs.YtelailhghhjleaaDoor
