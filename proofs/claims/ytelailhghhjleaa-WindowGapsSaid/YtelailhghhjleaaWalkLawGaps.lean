/- The walk of weirlaw4.WindowGaps. -/
import Derived.Test.YtelailhghhjleaaWalkSess2
import Derived.Test.YtelailhghhjleaaWalkPanes
namespace Go.Proofs.Ytelailhghhjleaa
open Go.RowKit Go.Sort Go.Shelf Go.Lib

def gapsFact : List Rec := [⟨⟨#[97]⟩, 0, 7⟩, ⟨⟨#[97]⟩, 0, 9⟩]
theorem gapsFact_up : Up (ltOf recCf) gapsFact := by
  refine List.pairwise_cons.2 ⟨fun x hx => ?_, List.pairwise_singleton _ _⟩
  obtain rfl := List.mem_singleton.1 hx
  exact recLe_iff.2 (.inr ⟨rfl, by decide⟩)
theorem gapsFact_is {P : List Pane} (h : SessIs 3 gapsFact P) : P = [⟨⟨#[97]⟩, 7, 12, 2, 0, 0⟩] := by
  have := h.unique (by omega) (P' := sess 3 gapsFact) ⟨gapsFact, .refl _, gapsFact_up, rfl⟩ (.refl _)
  rw [this]
  have e : joins ((Pane.new ⟨⟨#[97]⟩, 0, 7⟩).ext 3 ⟨⟨#[97]⟩, 0, 7⟩) ⟨⟨#[97]⟩, 0, 9⟩ = true := joins_iff.2 ⟨rfl, by decide⟩
  rw [sess, sessR, gapsFact, List.foldl_cons, List.foldl_cons, List.foldl_nil, stepR, stepR, if_pos e]
  rfl
theorem SessPost.out {w w' : World} {l : List Rec} {gap : Int} {v : Value} (h : SessPost w l gap v w') :
    ∃ P A c, v = .slice A P.length c ∧ Hid (if sessE l gap = 0 then SessIs gap l P else P = []) ∧ Rd w' w'.heap.size 6 A P.length (paneCells P) ∧ Below w.heap.size w w' := by
  obtain ⟨P, h1, h2, h3⟩ := h
  obtain ⟨A, c, e, _, _, _, h4⟩ := own_form h2
  exact ⟨P, A, c, e, Lib.hid h1, h4, h3⟩
theorem sessE_parts {l : List Rec} {gap : Int} (h : sessE l gap = 0) : l.length ≤ 400 ∧ (∀ r ∈ l, recOk r = true) ∧ 1 ≤ gap ∧ gap ≤ 1000000 ∧ recsE l = 0 := by
  unfold sessE at h
  split at h
  · rename_i h1; exact absurd h h1
  · rename_i h1
    have hE : recsE l = 0 := by simpa using h1
    split at h
    · rename_i h2
      have hE' := hE
      unfold recsE at hE'
      split at hE'
      · cases hE'
      · split at hE'
        · rename_i h3 h4; exact ⟨by omega, List.all_eq_true.1 h4, h2.1, h2.2, hE⟩
        · cases hE'
    · cases h
theorem sessE_of {l : List Rec} {gap : Int} (h : recsE l = 0) (h1 : 1 ≤ gap) (h2 : gap ≤ 1000000) : sessE l gap = 0 := by rw [sessE, if_neg (by simp [h]), if_pos ⟨h1, h2⟩]
theorem recsE_rev {l : List Rec} (h : recsE l = 0) : recsE l.reverse = 0 := by
  unfold recsE at h ⊢
  rw [List.length_reverse, List.all_reverse]; exact h
theorem sessE_bad {l : List Rec} {gap : Int} (h : sessE l gap ≠ 0) : ∃ q : Int, errV (sessE l gap) = .iface 63 (.int .i64 q) := by
  unfold sessE at h ⊢
  split
  · rename_i h1
    unfold recsE at h1 ⊢
    split
    · exact ⟨4, rfl⟩
    · rename_i h2
      rw [if_neg h2] at h1
      split
      · rename_i h3; exact absurd (if_pos h3) h1
      · exact ⟨1, rfl⟩
  · rename_i h1
    rw [if_neg h1] at h
    split
    · rename_i h2; exact absurd (if_pos h2) h
    · exact ⟨1, rfl⟩
theorem many_take {P : List Pane} (hp : ∀ p ∈ P, 1 ≤ p.many) (i : Nat) : 0 ≤ manyOf (P.take i) ∧ manyOf (P.take i) ≤ manyOf P := by
  have nn : ∀ Q : List Pane, (∀ p ∈ Q, 1 ≤ p.many) → 0 ≤ manyOf Q := by
    intro Q
    induction Q with
    | nil => intro _; exact Int.le_refl _
    | cons q Q ih =>
      intro h
      have h1 := h q (List.mem_cons_self ..)
      have h2 := ih fun x hx => h x (List.mem_cons_of_mem _ hx)
      unfold manyOf at *
      rw [List.map_cons, List.sum_cons]; omega
  have e : manyOf P = manyOf (P.take i) + manyOf (P.drop i) := by
    unfold manyOf
    rw [← List.sum_append, ← List.map_append, List.take_append_drop]
  have h1 := nn (P.take i) fun p h => hp p (List.mem_of_mem_take h)
  have h2 := nn (P.drop i) fun p h => hp p (List.mem_of_mem_drop h)
  omega
theorem many_next {P : List Pane} {i : Nat} {p : Pane} (h : P[i]? = some p) : manyOf (P.take (i + 1)) = manyOf (P.take i) + p.many := by
  unfold manyOf
  rw [List.take_add_one, h, List.map_append, List.sum_append]; simp
theorem sess_adj {P : List Pane} (h : P.Pairwise aheadP) {i : Nat} {p q : Pane} (hp : P[i]? = some p) (hq : P[i + 1]? = some q) (hk : p.key.toList = q.key.toList) : p.hi ≤ q.lo := by
  obtain ⟨h1, e1⟩ := List.getElem?_eq_some_iff.1 hp
  obtain ⟨h2, e2⟩ := List.getElem?_eq_some_iff.1 hq
  have := List.pairwise_iff_getElem.1 h i (i + 1) h1 h2 (by omega)
  rw [e1, e2] at this
  rcases this with h | h
  · rw [hk] at h; exact absurd h (bl_irrefl _)
  · exact h.2
theorem rev_step {l : List Rec} {j : Nat} {r : Rec} (h : l[j]? = some r) : recCells (l.drop j).reverse = recCells (l.drop (j + 1)).reverse ++ r.cells := by
  obtain ⟨h1, e1⟩ := List.getElem?_eq_some_iff.1 h
  rw [List.drop_eq_getElem_cons h1, e1, List.reverse_cons]
  simp [recCells]

theorem sess_less {gap more : Int} (hg : 1 ≤ gap) (hm : gap ≤ more) {l : List Rec} {P Q : List Pane} (h : SessIs gap l P) (k : SessIs more l Q) : Q.length ≤ P.length := by
  obtain ⟨s, h1, h2, rfl⟩ := h
  rw [k.unique (by omega) ⟨s, h1, h2, rfl⟩ (.refl _)]
  exact sess_mono hm s
set_option maxRecDepth 100000 in
set_option maxHeartbeats 1000000 in
theorem gaps_walk (A : Option Addr) (c B : Nat) (l : List Rec) (gap more : Int) (w : World) (hr : Rd w B 3 A l.length (recCells l)) (hB : B ≤ w.heap.size) (hok : ∀ r ∈ l, r.Ok) (hl : l.length ≤ 140737488355328) (hg0 : -9223372036854775808 ≤ gap) (hg1 : gap ≤ 9223372036854775807)
    (hm0 : -9223372036854775808 ≤ more) (hm1 : more ≤ 9223372036854775807) :
    Calls Try.prog 3 #[.slice A l.length c, .int .i64 gap, .int .i64 more] w fun e w' => e = .returned (.bool true) ∧ Below w.heap.size w w' := by
  have HS0 : Hid (Calls Try.prog 8 #[.slice (some ⟨w.heap.size, 0, none⟩) 2 2, .int .i64 3] (w.alloc (.cells #[.string ⟨#[97]⟩, .int .i64 0, .int .i64 7, .string ⟨#[97]⟩, .int .i64 0, .int .i64 9] 29)) fun e w' =>
      ∃ v, e = .returned (.tuple #[v, .nilIface]) ∧ SessPost (w.alloc (.cells #[.string ⟨#[97]⟩, .int .i64 0, .int .i64 7, .string ⟨#[97]⟩, .int .i64 0, .int .i64 9] 29)) gapsFact 3 v w') := Lib.hid (by
    have := session_any (some ⟨w.heap.size, 0, none⟩) 2 (w.heap.size + 1) gapsFact 3 (w.alloc (.cells #[.string ⟨#[97]⟩, .int .i64 0, .int .i64 7, .string ⟨#[97]⟩, .int .i64 0, .int .i64 9] 29)) (rd_new w #[.string ⟨#[97]⟩, .int .i64 0, .int .i64 7, .string ⟨#[97]⟩, .int .i64 0, .int .i64 9] 29 (size := 3) (m := 2) rfl) (by simp) (by
      intro r hr
      simp only [gapsFact, List.mem_cons, List.not_mem_nil, or_false] at hr
      rcases hr with rfl | rfl <;> exact ⟨by decide, by unfold i64ok; decide, by unfold i64ok; decide⟩) (by decide) (by omega) (by omega)
    exact this)
  have HS := Lib.hid (fun W g h0 h1 (h : Below w.heap.size w W) => session_any A c B l g W (hr.below h hB) (Nat.le_trans hB h.size) hok hl h0 h1)
  obtain ⟨n, hn⟩ : ∃ n, n = l.length := ⟨_, rfl⟩
  have HN := Lib.hid hn
  rw [← hn] at HS hr hl ⊢
  clear hn
  go_enter Try.func3, Try.ntmps3
  by_cases hE : sessE l gap = 0
  · obtain ⟨hl4, hrok, g1, g2, hrE⟩ := sessE_parts hE
    rw [← HN.out] at hl4
    have HS1 : Hid (∀ W, Below w.heap.size w W → Calls Try.prog 8 #[.slice A n c, .int .i64 gap] W fun e w' => ∃ v, e = .returned (.tuple #[v, .nilIface]) ∧ SessPost W l gap v w') := Lib.hid (fun W h => by
      have := HS.out W gap hg0 hg1 h
      rw [show errV (sessE l gap) = .nilIface from by rw [hE]; rfl] at this
      exact this)
    have HE := Lib.hid hE
    have HRE := Lib.hid hrE
    clear hE hrE
    go_wp2_with (first
      | (go_at_call_of 8 gap; go_must (refine (HS1.out _ hb1).mono ?_); rintro e w2 ⟨v1, rfl, hp1⟩; obtain ⟨P, A1, c1, rfl, hs1, hr1, hb2⟩ := hp1.out)
      | (go_at_call 8; go_must (refine HS0.out.mono ?_); rintro e w1 ⟨v0, rfl, hp0⟩; obtain ⟨P0, A0, c0, rfl, hs0, hr0, hb0⟩ := hp0.out; obtain rfl := gapsFact_is hs0.out; clear hp0 hs0; obtain ⟨ad0, q0, rfl, _, hq0, x0, x1, x2, x3, x4, x5⟩ := hr0.pane_ (k := 0) (by simp) rfl; obtain rfl : _ = q0 := Option.some.inj hq0; clear hq0 hr0; simp only [Nat.zero_mul, Addr.add, if_true] at x0 x1 x2 x3 x4 x5; have hb1 : Below w.heap.size w w1 := ((Below.refl _ _).alloc (Nat.le_refl _) _).trans (hb0.mono (by simp))))
    have hb2w := below_up hb1 hb2
    rw [HE.out, if_pos rfl] at hs1
    have HSI := Lib.hid hs1.out
    obtain ⟨hP1, hP2, hP3, hP4⟩ : (∀ p ∈ P, PaneOk gap p) ∧ P.Pairwise aheadP ∧ manyOf P = (n : Int) ∧ P.length ≤ n := by
      obtain ⟨s, h1, h2, rfl⟩ := HSI.out
      have hs : ∀ r ∈ s, recOk r = true := fun r hr => hrok r (h1.subset hr)
      have hsl : s.length = n := by rw [h1.length_eq]; exact HN.out.symm
      exact ⟨sess_ok g1 h2 hs, sess_pw g1 h2 hs, by rw [sess_many, hsl], hsl ▸ sess_len gap s⟩
    have HP1 := Lib.hid hP1
    have HP2 := Lib.hid hP2
    have HP3 := Lib.hid hP3
    clear hP1 hP2 hP3 hs1 hb0 x0 x1 x2 x3 x4 x5
    obtain ⟨m, hm⟩ : ∃ m, m = P.length := ⟨_, rfl⟩
    have HM := Lib.hid hm
    rw [← hm] at hr1 hP4 ⊢
    clear hm
    go_loopw [11, 12] (fun x i wr => ∃ (k : Nat) (t : Int), k ≤ m ∧ i = .int .i64 k ∧ x = .int .i64 t ∧ 0 ≤ t ∧ t ≤ n ∧ Hid (t = manyOf (P.take k)) ∧ ∃ q, wr = w2.drewN q) (fun _ i _ => m - (intOf i).toNat)
    case atStart => exact ⟨0, 0, Nat.zero_le _, rfl, rfl, by omega, by omega, Lib.hid rfl, 0, rfl⟩
    case round =>
      obtain ⟨k, t, hk, rfl, rfl, ht0, ht1, HT, q, hw⟩ := hrel
      have hrw : Rd wr w2.heap.size 6 A1 m (paneCells P) := by rw [hw]; exact hr1.drewN q
      have HW := Lib.hid hw
      clear hw
      by_cases hlt : k < m
      · obtain ⟨ad, p, rfl, hbk, hp, g0, g1', g2', g3, g4, g5⟩ := hrw.pane_ hlt HM.out.symm
        have hpo := HP1.out p (List.mem_of_getElem? hp)
        obtain ⟨_, o1, o2, o3, o4, o5⟩ := hpo
        have hmt := many_take (fun x hx => (HP1.out x hx).many) (P := P) (k + 1)
        rw [HP3.out, many_next hp, ← HT.out] at hmt
        have HT2 := Lib.hid ((many_next hp).trans (by rw [← HT.out]))
        rw [o4] at g5
        have HPK := Lib.hid hp
        clear hp
        have hlo : decide (p.hi - p.lo < gap) = false := by simp; omega
        rcases k with _ | j
        · simp only [Nat.zero_mul, Addr.add, if_true] at g0 g1' g2' g3 g4 g5
          go_wp2_with fail
          go_quiet (fail)
          go_wp2_with fail
          go_roundw
          case rel => exact ⟨0 + 1, t + p.many, by omega, by go_num, by go_num, by omega, by omega, Lib.hid HT2.out.symm, q + nq, by rw [HW.out, World.drewN_drewN]⟩
          case measure => simp [intOf]; omega
        · obtain ⟨ad', p', had, _, hp', y0, y1, y2, y3, y4, y5⟩ := hrw.pane_ (k := j) (by omega) HM.out.symm
          injection had with had
          subst had
          obtain ⟨_, o6, o7, o8, o9, o10⟩ := HP1.out p' (List.mem_of_getElem? hp')
          have HPJ := Lib.hid hp'
          clear hp'
          have hi0 : (0 : Int) ≤ (j : Int) := by omega
          have hi1 : (j : Int) < (m : Int) := by omega
          have hi4 : (j : Int) + 1 < (m : Int) := by omega
          have hi5 : (0 : Int) ≤ (j : Int) + 1 := by omega
          have hi6 : decide (0 < (j : Int) + 1) = true := by simp
          have hi2 : IntKind.i64.wrap ((j : Int) + 1 - 1) = (j : Int) := by rw [IntWalk.i64_in _ (by omega)]; omega
          have hi3 : IntKind.i64.wrap (j : Int) = (j : Int) := IntWalk.i64_in _ (by omega)
          by_cases hk2 : (p'.key.toList == p.key.toList) = true
          · have hov : decide (p.lo < p'.hi) = false := by
              have := sess_adj HP2.out HPJ.out HPK.out (by simpa using hk2)
              simp; omega
            go_wp2_with fail
            go_quiet (fail)
            go_wp2_with fail
            go_roundw
            case rel => exact ⟨(j + 1) + 1, t + p.many, by omega, by go_num, by go_num, by omega, by omega, Lib.hid HT2.out.symm, q + nq, by rw [HW.out, World.drewN_drewN]⟩
            case measure => simp [intOf]; omega
          · go_wp2_with fail
            go_quiet (fail)
            go_wp2_with fail
            go_roundw
            case rel => exact ⟨(j + 1) + 1, t + p.many, by omega, by go_num, by go_num, by omega, by omega, Lib.hid HT2.out.symm, q + nq, by rw [HW.out, World.drewN_drewN]⟩
            case measure => simp [intOf]; omega
      · obtain rfl : t = (n : Int) := by rw [HT.out, List.take_of_length_le (by have := HM.out; omega), HP3.out]
        have hb3w : Below w.heap.size w wr := by rw [HW.out]; exact below_drewN hb2w q
        have hbw0 := hb3w.size
        clear HT
        generalize wr = wb at *
        go_wp2_with fail
        go_loopw [13, 14] (fun o i wr => ∃ (j : Nat) (v : Int), j ≤ n ∧ i = .int .i64 v ∧ v + 1 = (j : Int) ∧ wr.ownsRow wb.heap.size 29 3 o (n - j) (recCells (l.drop j).reverse) ∧ Below wb.heap.size wb wr) (fun _ i _ => (intOf i + 1).toNat)
        case atStart => exact ⟨n, _, Nat.le_refl _, rfl, by omega, by rw [HN.out, List.drop_length, Nat.sub_self]; exact World.ownsRow_nil _ _ _ _, Below.refl _ _⟩
        case round =>
          obtain ⟨j, v, hj, rfl, hv, hown, hbx⟩ := hrel
          rcases j with _ | i
          · obtain rfl : v = -1 := by omega
            simp only [List.drop_zero, Nat.sub_zero] at hown
            obtain ⟨Ab, cb, rfl, _, _, _, hrb⟩ := own_form hown
            have HS2 : Hid (Calls Try.prog 8 #[.slice Ab n cb, .int .i64 gap] wr fun e w' => ∃ v, e = .returned (.tuple #[v, .nilIface]) ∧ SessPost wr l.reverse gap v w') := Lib.hid (by
              have hlr : l.reverse.length = n := by rw [List.length_reverse]; exact HN.out.symm
              have := session_any Ab cb wr.heap.size l.reverse gap wr (by rw [hlr]; exact hrb) (Nat.le_refl _) (fun r hr => hok r (List.mem_reverse.1 hr)) (by omega) hg0 hg1
              rw [hlr, show errV (sessE l.reverse gap) = .nilIface from by rw [sessE_of (recsE_rev HRE.out) g1 g2]; rfl] at this
              exact this)
            clear hrb hown
            have HPS : Hid (∀ (w4 : World) A3 c3, Below wr.heap.size wr w4 → Rd w4 w4.heap.size 6 A3 m (paneCells P) → Calls Try.prog 9 #[.slice A1 m c1, .slice A3 m c3] w4 fun e w' => e = .returned (.bool true) ∧ ∃ q, w' = w4.drewN q) := Lib.hid (fun w4 A3 c3 hb hr3 => by
              have hsz : w2.heap.size ≤ wb.heap.size := by rw [HW.out]; exact Nat.le_refl _
              have h4 : Rd w4 w4.heap.size 6 A1 m (paneCells P) := ((hrw.below hbx hsz).more hsz).below (hb.mono hbx.size) (Nat.le_refl _) |>.more (Nat.le_trans hbx.size hb.size)
              have := panes_same A1 A3 c1 c3 w4.heap.size P w4 (by rw [← HM.out]; exact h4) (by rw [← HM.out]; exact hr3) (by have := HM.out; omega)
              rwa [← HM.out] at this)
            have hbw5 := hb3w.trans (hbx.mono hbw0)
            clear hbx hrw hr1
            by_cases hmg : more < gap
            · go_wp2_with (first
                | (go_at_call 9; go_must (refine (HPS.out _ _ _ hb4 hr3).mono ?_); rintro e w5 ⟨rfl, q2, rfl⟩)
                | (go_at_call 8; go_must (refine HS2.out.mono ?_); rintro e w4 ⟨v3, rfl, hp3⟩; obtain ⟨P3, A3, c3, rfl, hs3, hr3, hb4⟩ := hp3.out; rw [sessE_of (recsE_rev HRE.out) g1 g2, if_pos rfl] at hs3; obtain rfl : P3 = P := hs3.out.unique g1 HSI.out (List.reverse_perm l); rw [← HM.out] at hr3 ⊢; have hb5 := below_up hbw5 hb4)
                )
              go_ret
              exact ⟨rfl, below_drewN hb5 q2⟩
            · by_cases hE2 : sessE l more = 0
              · have HS3 : Hid (∀ W, Below w.heap.size w W → Calls Try.prog 8 #[.slice A n c, .int .i64 more] W fun e w' => ∃ v, e = .returned (.tuple #[v, .nilIface]) ∧ SessPost W l more v w') := Lib.hid (fun W h => by
                  have := HS.out W more hm0 hm1 h
                  rw [show errV (sessE l more) = .nilIface from by rw [hE2]; rfl] at this
                  exact this)
                have HE2 := Lib.hid hE2
                clear hE2
                go_wp2_with (first
                  | (go_at_call_of 8 more; go_must (refine (HS3.out _ (below_drewN hb5 q2)).mono ?_); rintro e w6 ⟨v6, rfl, hp6⟩; obtain ⟨P6, A6, c6, rfl, hs6, hr6, hb6⟩ := hp6.out; rw [HE2.out, if_pos rfl] at hs6; have hle := sess_less (by omega) (by omega) HSI.out hs6.out; rw [← HM.out] at hle; have hbz := below_up (below_drewN hb5 q2) hb6)
                  | (go_at_call 9; go_must (refine (HPS.out _ _ _ hb4 hr3).mono ?_); rintro e w5 ⟨rfl, q2, rfl⟩)
                  | (go_at_call 8; go_must (refine HS2.out.mono ?_); rintro e w4 ⟨v3, rfl, hp3⟩; obtain ⟨P3, A3, c3, rfl, hs3, hr3, hb4⟩ := hp3.out; rw [sessE_of (recsE_rev HRE.out) g1 g2, if_pos rfl] at hs3; obtain rfl : P3 = P := hs3.out.unique g1 HSI.out (List.reverse_perm l); rw [← HM.out] at hr3 ⊢; have hb5 := below_up hbw5 hb4)
                  )
                go_ret
                exact ⟨by simp, hbz⟩
              · obtain ⟨x, hx⟩ := sessE_bad hE2
                have HS3 : Hid (∀ W, Below w.heap.size w W → Calls Try.prog 8 #[.slice A n c, .int .i64 more] W fun e w' => ∃ v, e = .returned (.tuple #[v, .iface 63 (.int .i64 x)]) ∧ SessPost W l more v w') := Lib.hid (fun W h => by
                  have := HS.out W more hm0 hm1 h
                  rw [hx] at this
                  exact this)
                clear hE2 hx
                go_wp2_with (first
                  | (go_at_call_of 8 more; go_must (refine (HS3.out _ (below_drewN hb5 q2)).mono ?_); rintro e w6 ⟨v6, rfl, hp6⟩; obtain ⟨P6, A6, c6, rfl, hs6, hr6, hb6⟩ := hp6.out; have hbz := below_up (below_drewN hb5 q2) hb6)
                  | (go_at_call 9; go_must (refine (HPS.out _ _ _ hb4 hr3).mono ?_); rintro e w5 ⟨rfl, q2, rfl⟩)
                  | (go_at_call 8; go_must (refine HS2.out.mono ?_); rintro e w4 ⟨v3, rfl, hp3⟩; obtain ⟨P3, A3, c3, rfl, hs3, hr3, hb4⟩ := hp3.out; rw [sessE_of (recsE_rev HRE.out) g1 g2, if_pos rfl] at hs3; obtain rfl : P3 = P := hs3.out.unique g1 HSI.out (List.reverse_perm l); rw [← HM.out] at hr3 ⊢; have hb5 := below_up hbw5 hb4)
                  )
                go_ret
                exact ⟨by simp, hbz⟩
          · obtain rfl : v = (i : Int) := by omega
            obtain ⟨ad, r, rfl, hx, g0, g1', g2'⟩ := hr.rec_ (k := i) (by omega) HN.out.symm (hb3w.trans (hbx.mono hbw0)) hB
            have HX := Lib.hid (rev_step hx)
            clear hx
            have hi0 : (0 : Int) ≤ (i : Int) := by omega
            have hi1 : (i : Int) < (n : Int) := by omega
            have hbs := hbx.size
            go_wp2_with (first | (with_reducible show wpList _ _ _ (⟨some 134, _, _, _, _, _⟩ :: _) _ _; go_must (refine wpList_newg (.tmp 128) (.tmp 133) el_recC rfl rfl hown rfl rfl (by simp) rfl rfl (by omega) (by first | omega | (simp; omega)) ?_); intro v2 w4 ho4 hb4 hg4 ha4))
            go_roundw
            case rel =>
              refine ⟨i, (i : Int) - 1, by omega, rfl, by omega, ?_, hbx.trans hb4⟩
              rw [HX.out, show n - i = n - (i + 1) + 1 from by omega]
              exact ho4
            case measure => simp [intOf]
  · obtain ⟨x, hx⟩ := sessE_bad hE
    have HS1 : Hid (∀ W, Below w.heap.size w W → Calls Try.prog 8 #[.slice A n c, .int .i64 gap] W fun e w' => ∃ v, e = .returned (.tuple #[v, .iface 63 (.int .i64 x)]) ∧ SessPost W l gap v w') := Lib.hid (fun W h => by
      have := HS.out W gap hg0 hg1 h
      rw [hx] at this
      exact this)
    clear hE hx HS
    go_wp2_with (first
      | (go_at_call_of 8 gap; go_must (refine (HS1.out _ hb1).mono ?_); rintro e w2 ⟨v1, rfl, hp1⟩; obtain ⟨P, A1, c1, rfl, hs1, hr1, hb2⟩ := hp1.out)
      | (go_at_call 8; go_must (refine HS0.out.mono ?_); rintro e w1 ⟨v0, rfl, hp0⟩; obtain ⟨P0, A0, c0, rfl, hs0, hr0, hb0⟩ := hp0.out; obtain rfl := gapsFact_is hs0.out; clear hp0 hs0; obtain ⟨ad0, q0, rfl, _, hq0, x0, x1, x2, x3, x4, x5⟩ := hr0.pane_ (k := 0) (by simp) rfl; obtain rfl : _ = q0 := Option.some.inj hq0; clear hq0 hr0; simp only [Nat.zero_mul, Addr.add, if_true] at x0 x1 x2 x3 x4 x5; have hb1 : Below w.heap.size w w1 := ((Below.refl _ _).alloc (Nat.le_refl _) _).trans (hb0.mono (by simp))))
    go_ret
    exact ⟨rfl, below_up hb1 hb2⟩
end Go.Proofs.Ytelailhghhjleaa
