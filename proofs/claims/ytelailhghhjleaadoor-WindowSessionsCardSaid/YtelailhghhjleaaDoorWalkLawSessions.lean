/- The walk of weirlaw4.WindowSessions. -/
import Derived.Test.YtelailhghhjleaaDoorWalkSSess
import Derived.Test.YtelailhghhjleaaDoorWalkSess2
import Derived.Test.YtelailhghhjleaaDoorWalkPanes
import Derived.Test.YtelailhghhjleaaDoorWalkAs
namespace Go.Proofs.YtelailhghhjleaaDoor
open Go.RowKit

theorem lists_same {l : List Rec} {gap : Int} {N : Nat} {P Q : List Pane} (hok : ∀ r ∈ l, r.Ok) (hl : l.length ≤ N) (h1 : if sessE l gap = 0 then P = refSess gap l else P = []) (h2 : if sessE l gap = 0 then SessIs gap l Q else Q = []) : Q = P ∧ P.length ≤ N := by
  by_cases hE : sessE l gap = 0
  · rw [if_pos hE] at h1 h2
    obtain ⟨hg, hrok⟩ : 1 ≤ gap ∧ ∀ r ∈ l, recOk r = true := by
      unfold sessE at hE
      split at hE
      · rename_i h; exact absurd hE h
      · rename_i h
        split at hE
        · rename_i h3
          refine ⟨h3.1, ?_⟩
          have h0 : recsE l = 0 := by omega
          unfold recsE at h0
          split at h0
          · cases h0
          · split at h0
            · rename_i h5; exact List.all_eq_true.1 h5
            · cases h0
        · cases hE
    have e := refSess_is hg (fun r hr => ⟨hrok r hr, hok r hr⟩) h2
    have e2 : Q = P := by rw [e, h1]
    refine ⟨e2, ?_⟩
    obtain ⟨s, hp, _, e3⟩ := h2
    rw [← e2, e3]
    have := sess_len gap s
    have := hp.length_eq
    omega
  · rw [if_neg hE] at h1 h2
    subst h1; subst h2
    exact ⟨rfl, Nat.zero_le _⟩
set_option maxRecDepth 100000 in
set_option maxHeartbeats 2000000 in
theorem lawsess_walk (A : Option Addr) (c : Nat) (l : List Rec) (gap : Int) (w : World) (hg : HasErr w) (hr : Rd w w.heap.size 3 A l.length (recCells l)) (hok : ∀ r ∈ l, r.Ok) (hl : l.length ≤ 140737488355328)
    (hs0 : -9223372036854775808 ≤ gap) (hs1 : gap ≤ 9223372036854775807) :
    Calls Tryd.prog 6 #[.slice A l.length c, .int .i64 gap] w fun e w' => e = .returned (.bool true) ∧ Below w.heap.size w w' := by
  go_enter Tryd.func6, Tryd.ntmps6
  go_wp2_with fail
  refine (ssession_any A c w.heap.size l gap _ hr (Nat.le_refl _) hok hl hs0 hs1).mono ?_
  rintro e w1 ⟨v1, rfl, hp1⟩
  obtain ⟨P, hP, ho1, hb1⟩ := hp1
  have HP := Lib.hid hP
  clear hP
  go_wp2_with fail
  refine (session_any A c w.heap.size l gap _ (hr.below hb1 (Nat.le_refl _)) hb1.size hok hl hs0 hs1).mono ?_
  rintro e w2 ⟨v2, rfl, hp2⟩
  obtain ⟨Q, hQ, ho2, hb2⟩ := hp2
  obtain ⟨rfl, hPl⟩ := lists_same hok hl HP.out hQ
  clear hQ HP
  have hbb2 := below_up hb1 hb2
  replace ho1 := own_up ho1 hb2
  obtain ⟨E, hE⟩ : ∃ E, E = sessE l gap := ⟨_, rfl⟩
  rw [← hE]
  clear hE
  go_wp2_with fail
  refine (same_err E E _ (hg.up hbb2)).mono ?_
  rintro e w4 ⟨rfl, hb4⟩
  have hbb4 := below_up hbb2 hb4
  replace ho1 := own_up ho1 hb4
  replace ho2 := own_up ho2 hb4
  rw [decide_eq_true (rfl : (E : Int) = (E : Int))]
  obtain ⟨A1, c1, rfl, hn1, hc1, _, r1⟩ := own_form ho1
  obtain ⟨A2, c2, rfl, hn2, hc2, _, r2⟩ := own_form ho2
  clear ho1 ho2 hb1 hb2 hb4 hbb2
  go_wp2_with fail
  refine (panes_same A2 A1 c2 c1 w4.heap.size Q _ r2 r1 hPl).mono ?_
  rintro e w5 ⟨rfl, q, rfl⟩
  go_wp2
  go_ret
  exact ⟨rfl, below_drewN hbb4 q⟩
end Go.Proofs.YtelailhghhjleaaDoor
