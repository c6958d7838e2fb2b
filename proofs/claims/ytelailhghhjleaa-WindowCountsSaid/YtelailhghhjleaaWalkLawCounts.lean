/- The walk of weirlaw4.WindowCounts. -/
import Derived.Test.YtelailhghhjleaaWalkCounts1
import Derived.Test.YtelailhghhjleaaWalkPanes
import Derived.Test.YtelailhghhjleaaWalkMarks3
namespace Go.Proofs.Ytelailhghhjleaa
open Go.RowKit Go.Sort Go.Shelf Go.Lib

theorem rev_step {l : List Rec} {j : Nat} {r : Rec} (h : l[j]? = some r) : recCells (l.drop j).reverse = recCells (l.drop (j + 1)).reverse ++ r.cells := by
  obtain ⟨h1, e1⟩ := List.getElem?_eq_some_iff.1 h
  rw [List.drop_eq_getElem_cons h1, e1, List.reverse_cons]
  simp [recCells]
/-- One list alone, in a block of its own. -/
theorem rdll_one {w : World} {B : Nat} {A : Option Addr} {l : List Rec} {c : Nat} {t : TypeId} (h : Rd w B 3 A l.length (recCells l)) (hc : l.length ≤ c) (hm : c ≤ maxLen) (hB : B ≤ w.heap.size) :
    RdLL (w.alloc (.cells #[.slice A l.length c] t)) (w.heap.size + 1) (some ⟨w.heap.size, 0, none⟩) [l] := fun _ =>
  ⟨_, rfl, Nat.lt_succ_self _, fun i x hx => by
    rcases i with _ | i
    · obtain rfl : l = x := by simpa using hx
      have hn := rd_new w #[.slice A l.length c] t (size := 1) (m := 1) rfl
      obtain ⟨ad, e, _, hcell⟩ := hn.2 (by omega)
      injection e with e
      subst e
      exact ⟨A, c, hcell 0 _ rfl, hc, hm, (h.alloc hB _).more (by omega)⟩
    · simp at hx⟩
theorem marks_len {l : List Rec} {slack : Int} (h : recsE l = 0) (hs : 0 ≤ slack ∧ slack ≤ 1000000) : marksE [l] slack = 0 ∧ (marksL [l] slack).length = l.length ∧ ∀ i, i + 1 < l.length → (marksL [l] slack).getD i 0 ≤ (marksL [l] slack).getD (i + 1) 0 := by
  have h4 : l.length ≤ 400 ∧ l.all recOk = true := by
    unfold recsE at h
    split at h
    · cases h
    · split at h
      · rename_i h1 h2; exact ⟨by omega, h2⟩
      · cases h
  have e : marksE [l] slack = 0 := by
    rw [marksE, if_neg (by simp [totL]; omega), if_neg (by simp [allOk, h4.2]), if_neg (by omega)]
  have e2 : marksL [l] slack = (List.range l.length).map fun q => mk [l] slack 0 (q + 1) := by rw [marksL, if_pos e, marks_one h4.1]
  refine ⟨e, by rw [e2]; simp, fun i hi => ?_⟩
  rw [e2, List.getD_eq_getElem?_getD, List.getD_eq_getElem?_getD, List.getElem?_map, List.getElem?_map, List.getElem?_range (by omega), List.getElem?_range hi]
  exact mk_mono
set_option maxRecDepth 100000 in
set_option maxHeartbeats 2000000 in
theorem counts_walk (A : Option Addr) (c : Nat) (l : List Rec) (size slack : Int) (w : World) (hr : Rd w w.heap.size 3 A l.length (recCells l)) (hlc : l.length ≤ c) (hcm : c ≤ maxLen) (hok : ∀ r ∈ l, r.Ok) (hl : l.length ≤ 140737488355328)
    (hs0 : -9223372036854775808 ≤ size) (hs1 : size ≤ 9223372036854775807) (hk0 : -9223372036854775808 ≤ slack) (hk1 : slack ≤ 9223372036854775807) :
    Calls Try.prog 5 #[.slice A l.length c, .int .i64 size, .int .i64 slack] w fun e w' => e = .returned (.bool true) ∧ Below w.heap.size w w' := by
  have HS0 : Hid (Calls Try.prog 15 #[.slice (some ⟨w.heap.size, 0, none⟩) 1 1, .int .i64 5, .int .i64 0] (w.alloc (.cells #[.string ⟨#[97]⟩, .int .i64 5, .int .i64 7] 29)) fun e w' =>
      ∃ A' c', e = .returned (.tuple #[.slice A' 1 c', .nilIface]) ∧ Rd w' w'.heap.size 6 A' 1 (paneCells [⟨⟨#[97]⟩, 5, 10, 1, 5, 0⟩]) ∧ Below (w.heap.size + 1) (w.alloc (.cells #[.string ⟨#[97]⟩, .int .i64 5, .int .i64 7] 29)) w') := Lib.hid (by
    have := tumble_any (some ⟨w.heap.size, 0, none⟩) 1 (w.heap.size + 1) countFact 5 0 (w.alloc (.cells #[.string ⟨#[97]⟩, .int .i64 5, .int .i64 7] 29)) (rd_new w #[.string ⟨#[97]⟩, .int .i64 5, .int .i64 7] 29 (size := 3) (m := 1) rfl) (by simp) (by
      intro r hr
      obtain rfl := List.mem_singleton.1 hr
      exact ⟨by decide, by unfold i64ok; decide, by unfold i64ok; decide⟩) (by decide) (by omega) (by omega)
    rw [countFact_is, countFact_e] at this
    exact this.mono (by rintro e w' ⟨A', c', h1, h2, h3⟩; exact ⟨A', c', h1, h2, by simpa using h3⟩))
  have HS := Lib.hid (fun W k (h : Below w.heap.size w W) => tumble_any A c w.heap.size l size k W (hr.below h (Nat.le_refl _)) h.size hok hl hs0 hs1)
  have HBK := Lib.hid (fun (W : World) Ab cb (hx : Rd W W.heap.size 3 Ab l.reverse.length (recCells l.reverse)) => tumble_any Ab cb W.heap.size l.reverse size 1000000 W hx (Nat.le_refl _) (fun r hr => hok r (List.mem_reverse.1 hr)) (by rw [List.length_reverse]; exact hl) hs0 hs1)
  have HMK := Lib.hid (fun W (h : Below w.heap.size w W) => marks_any (some ⟨W.heap.size, 0, none⟩) 1 (W.heap.size + 1) [l] slack (W.alloc (.cells #[.slice A l.length c] 22)) (rdll_one ((hr.below h (Nat.le_refl _)).more h.size) hlc hcm (Nat.le_refl _)) (by simp) (fun x hx => by obtain rfl := List.mem_singleton.1 hx; exact ⟨hok, hl⟩) (by simp) hk0 hk1)
  obtain ⟨n, hn⟩ : ∃ n, n = l.length := ⟨_, rfl⟩
  have HN := Lib.hid hn
  rw [← hn] at HS HMK hr hl hlc ⊢
  clear hn
  go_enter Try.func5, Try.ntmps5
  by_cases hE : slideE l size size slack = 0
  · obtain ⟨hl4, hre, g1, g2, _, _, g5, g6, _⟩ := slideE_parts hE
    rw [← HN.out] at hl4
    obtain ⟨hP1, hP2, hP3⟩ := counts_ok hE
    obtain ⟨hE1, hE2⟩ := slideE_most hE
    have hQb := counts_back hE
    obtain ⟨k1, k2, k3⟩ := marks_len (slack := slack) hre ⟨g5, g6⟩
    rw [← HN.out] at k2 k3 hP2 hP1
    have hQl := panesOf_len l size size 1000000
    have hPl := panesOf_len l size size slack
    have HS1 : Hid (∀ W, Below w.heap.size w W → Calls Try.prog 15 #[.slice A n c, .int .i64 size, .int .i64 slack] W fun e w' => ∃ A' c', e = .returned (.tuple #[.slice A' (panesOf l size size slack).length c', .nilIface]) ∧ Rd w' w'.heap.size 6 A' (panesOf l size size slack).length (paneCells (panesOf l size size slack)) ∧ Below W.heap.size W w') := Lib.hid (fun W h => by
      have := HS.out W slack h
      rw [hE] at this
      exact this)
    have HS2 : Hid (∀ W, Below w.heap.size w W → Calls Try.prog 15 #[.slice A n c, .int .i64 size, .int .i64 1000000] W fun e w' => ∃ A' c', e = .returned (.tuple #[.slice A' (panesOf l size size 1000000).length c', .nilIface]) ∧ Rd w' w'.heap.size 6 A' (panesOf l size size 1000000).length (paneCells (panesOf l size size 1000000)) ∧ Below W.heap.size W w') := Lib.hid (fun W h => by
      have := HS.out W 1000000 h
      rw [hE1] at this
      exact this)
    have HS3 : Hid (∀ (W : World) Ab cb, Rd W W.heap.size 3 Ab n (recCells l.reverse) → Calls Try.prog 15 #[.slice Ab n cb, .int .i64 size, .int .i64 1000000] W fun e w' => ∃ A' c', e = .returned (.tuple #[.slice A' (panesOf l size size 1000000).length c', .nilIface]) ∧ Rd w' w'.heap.size 6 A' (panesOf l size size 1000000).length (paneCells (panesOf l size size 1000000)) ∧ Below W.heap.size W w') := Lib.hid (fun W Ab cb hx => by
      have := HBK.out W Ab cb (by rw [List.length_reverse, ← HN.out]; exact hx)
      rw [hQb, hE2, List.length_reverse, ← HN.out] at this
      exact this)
    have HS4 : Hid (∀ W, Below w.heap.size w W → Calls Try.prog 16 #[.slice (some ⟨W.heap.size, 0, none⟩) 1 1, .int .i64 slack] (W.alloc (.cells #[.slice A n c] 22)) fun e w' => ∃ A' c', e = .returned (.tuple #[.slice A' n c', .nilIface]) ∧ Rd w' w'.heap.size 1 A' n ((marksL [l] slack).map iv) ∧ Below W.heap.size W w') := Lib.hid (fun W h => by
      refine (HMK.out W h).mono ?_
      rintro e w' ⟨v, rfl, ho, hb⟩
      rw [k2] at ho
      obtain ⟨A', c', rfl, _, _, _, h7⟩ := own_form ho
      exact ⟨A', c', by rw [k1]; rfl, h7, ((Below.refl _ _).alloc (Nat.le_refl _) _).trans (hb.mono (by simp))⟩)
    generalize panesOf l size size slack = P at *
    generalize panesOf l size size 1000000 = Q at *
    generalize marksL [l] slack = M at *
    have HP1 := Lib.hid hP1
    have HP2 := Lib.hid hP2
    have HP3 := Lib.hid hP3
    have HK3 := Lib.hid k3
    clear hE hE1 hE2 hQb k1 k2 k3 hP1 hP2 hP3 hre HS HBK HMK
    obtain ⟨m, hm⟩ : ∃ m, m = P.length := ⟨_, rfl⟩
    have HM := Lib.hid hm
    rw [← hm] at HS1 hPl
    clear hm
    obtain ⟨m2, hm2⟩ : ∃ m2, m2 = Q.length := ⟨_, rfl⟩
    have HM2 := Lib.hid hm2
    rw [← hm2] at HS2 HS3 hQl
    clear hm2
    go_wp2_with (first
      | (go_at_call_of 15 slack; go_must (refine (HS1.out _ hb1).mono ?_); rintro e w2 ⟨A1, c1, rfl, hr1, hb2⟩)
      | (go_at_call 15; go_must (refine HS0.out.mono ?_); rintro e w1 ⟨A0, c0, rfl, hr0, hb0⟩; obtain ⟨ad0, q0, rfl, _, hq0, x0, x1, x2, x3, x4, x5⟩ := hr0.pane_ (k := 0) (by simp) rfl; obtain rfl : _ = q0 := Option.some.inj hq0; clear hq0 hr0; simp only [Nat.zero_mul, Addr.add, if_true] at x0 x1 x2 x3 x4 x5; have hb1 : Below w.heap.size w w1 := ((Below.refl _ _).alloc (Nat.le_refl _) _).trans (hb0.mono (by simp))))
    have hb2w := below_up hb1 hb2
    clear hb0 x0 x1 x2 x3 x4 x5
    go_loopw [11, 12] (fun x i wr => ∃ (k : Nat) (t : Int), k ≤ m ∧ i = .int .i64 k ∧ x = .int .i64 t ∧ 0 ≤ t ∧ t ≤ n ∧ Hid (t = cnt (P.take k)) ∧ ∃ q, wr = w2.drewN q) (fun _ i _ => m - (intOf i).toNat)
    case atStart => exact ⟨0, 0, Nat.zero_le _, rfl, rfl, by omega, by omega, Lib.hid rfl, 0, rfl⟩
    case round =>
      obtain ⟨k, t, hk, rfl, rfl, ht0, ht1, HT, q, hw⟩ := hrel
      have hrw : Rd wr w2.heap.size 6 A1 m (paneCells P) := by rw [hw]; exact hr1.drewN q
      have HW := Lib.hid hw
      clear hw
      by_cases hlt : k < m
      · obtain ⟨ad, p, rfl, hbk, hp, g0, y1, y2, y3, y4, y5⟩ := hrw.pane_ hlt HM.out.symm
        have hpo := HP1.out p (List.mem_of_getElem? hp)
        have hrem := rem_none hpo
        obtain ⟨o1, o2, o3, o4, o5, o6, o7, _⟩ := hpo
        have hmt := cnt_take (fun x hx => HP1.out x hx) (P := P) (k + 1)
        rw [HP2.out, cnt_next hp, ← HT.out] at hmt
        have HT2 := Lib.hid ((cnt_next hp).trans (by rw [← HT.out]))
        rw [o5] at y2
        have HPK := Lib.hid hp
        clear hp
        have d1 : (p.lo + size - p.lo != size) = false := by simp; omega
        have d2 : (p.lo.tmod size != 0) = false := by rw [hrem]; rfl
        have d3 : decide (p.many + p.late < 1) = false := by simp; omega
        have d4 : ¬ size = 0 := by omega
        have hi0 : (0 : Int) ≤ (k : Int) := by omega
        have hi1 : (k : Int) < (m : Int) := by omega
        rcases k with _ | j
        · simp only [Nat.zero_mul, Addr.add, if_true] at g0 y1 y2 y3 y4 y5
          go_wp2_with fail
          go_quiet (fail)
          go_wp2_with fail
          go_quiet (fail)
          go_wp2_with fail
          go_quiet (fail)
          go_wp2_with fail
          go_roundw
          case rel => exact ⟨0 + 1, t + (p.many + p.late), by omega, by go_num, by first | go_num | (congr 1; unfold wrap64; omega), by omega, by omega, Lib.hid HT2.out.symm, by rw [HW.out]; simp only [World.drewN_drewN]; exact ⟨_, rfl⟩⟩
          case measure => simp [intOf]; omega
        · obtain ⟨ad', p', had, _, hp', x0, x1, x2, x3, x4, x5⟩ := hrw.pane_ (k := j) (by omega) HM.out.symm
          injection had with had
          subst had
          obtain ⟨_, _, _, _, u5, u6, u7, _⟩ := HP1.out p' (List.mem_of_getElem? hp')
          rw [u5] at x2
          have HPJ := Lib.hid hp'
          clear hp' x1 x3 x4 x5
          have hi0 : (0 : Int) ≤ (j : Int) := by omega
          have hi1 : (j : Int) < (m : Int) := by omega
          have hi4 : (j : Int) + 1 < (m : Int) := by omega
          have hi5 : (0 : Int) ≤ (j : Int) + 1 := by omega
          have hi6 : decide (0 < (j : Int) + 1) = true := by simp
          have hi2 : IntKind.i64.wrap ((j : Int) + 1 - 1) = (j : Int) := by rw [IntWalk.i64_in _ (by omega)]; omega
          have hi3 : IntKind.i64.wrap (j : Int) = (j : Int) := IntWalk.i64_in _ (by omega)
          by_cases hk2 : (p'.key.toList == p.key.toList) = true
          · have hov : decide (p.lo < p'.lo + size) = false := by
              have := rise_adj g1 HP3.out HP1.out HPJ.out HPK.out (by simpa using hk2)
              simp; omega
            go_wp2_with fail
            go_quiet (fail)
            go_wp2_with fail
            go_quiet (fail)
            go_wp2_with fail
            go_quiet (fail)
            go_wp2_with fail
            go_roundw
            case rel => exact ⟨(j + 1) + 1, t + (p.many + p.late), by omega, by go_num, by first | go_num | (congr 1; unfold wrap64; omega), by omega, by omega, Lib.hid HT2.out.symm, by rw [HW.out]; simp only [World.drewN_drewN]; exact ⟨_, rfl⟩⟩
            case measure => simp [intOf]; omega
          · go_wp2_with fail
            go_quiet (fail)
            go_wp2_with fail
            go_quiet (fail)
            go_wp2_with fail
            go_quiet (fail)
            go_wp2_with fail
            go_roundw
            case rel => exact ⟨(j + 1) + 1, t + (p.many + p.late), by omega, by go_num, by first | go_num | (congr 1; unfold wrap64; omega), by omega, by omega, Lib.hid HT2.out.symm, by rw [HW.out]; simp only [World.drewN_drewN]; exact ⟨_, rfl⟩⟩
            case measure => simp [intOf]; omega
      · obtain rfl : t = (n : Int) := by rw [HT.out, List.take_of_length_le (by have := HM.out; omega), HP2.out]
        have hb3w : Below w.heap.size w wr := by rw [HW.out]; exact below_drewN hb2w q
        have hbw0 := hb3w.size
        clear HT HW hrw
        go_wp2_with (first
          | (go_at_call 15; go_must (refine (HS2.out _ hb3w).mono ?_); rintro e w4 ⟨A4, c4, rfl, hr4, hb4⟩))
        have hb4w := below_up hb3w hb4
        have hbw1 := hb4w.size
        generalize w4 = wb at *
        go_loopw [15, 16] (fun o i wr => ∃ (j : Nat) (v : Int), j ≤ n ∧ i = .int .i64 v ∧ v + 1 = (j : Int) ∧ wr.ownsRow wb.heap.size 29 3 o (n - j) (recCells (l.drop j).reverse) ∧ Below wb.heap.size wb wr) (fun _ i _ => (intOf i + 1).toNat)
        case atStart => exact ⟨n, _, Nat.le_refl _, rfl, by omega, by rw [HN.out, List.drop_length, Nat.sub_self]; exact World.ownsRow_nil _ _ _ _, Below.refl _ _⟩
        case round =>
          obtain ⟨j, v, hj, rfl, hv, hown, hbx⟩ := hrel
          rcases j with _ | i
          · obtain rfl : v = -1 := by omega
            simp only [List.drop_zero, Nat.sub_zero] at hown
            obtain ⟨Ab, cb, rfl, _, _, _, hrb⟩ := own_form hown
            have hbw5 := hb4w.trans (hbx.mono hbw1)
            have hr4b := (hr4.below hbx (Nat.le_refl _)).more hbx.size
            clear hown hbx
            have HPS : Hid (∀ (w6 : World) A6 c6, Below wr.heap.size wr w6 → Rd w6 w6.heap.size 6 A6 m2 (paneCells Q) → Calls Try.prog 9 #[.slice A4 m2 c4, .slice A6 m2 c6] w6 fun e w' => e = .returned (.bool true) ∧ ∃ q, w' = w6.drewN q) := Lib.hid (fun w6 A6 c6 hb hr6 => by
              have := panes_same A4 A6 c4 c6 w6.heap.size Q w6 (by rw [← HM2.out]; exact (hr4b.below hb (Nat.le_refl _)).more hb.size) (by rw [← HM2.out]; exact hr6) (by have := HM2.out; omega)
              rwa [← HM2.out] at this)
            go_wp2_with (first
              | (go_at_call 16; go_must (refine (HS4.out _ hbw8).mono ?_); rintro e w9 ⟨A9, c9, rfl, hr9, hb9⟩)
              | (go_at_call 9; go_must (refine (HPS.out _ _ _ hb6 hr6).mono ?_); rintro e w8 ⟨rfl, q8, rfl⟩; have hbw8 := below_drewN hbw6 q8)
              | (go_at_call 15; go_must (refine (HS3.out _ _ _ hrb).mono ?_); rintro e w6 ⟨A6, c6, rfl, hr6, hb6⟩; have hbw6 := below_up hbw5 hb6))
            have hbw9 := below_up hbw8 hb9
            clear HPS hrb hr4b hr6
            generalize w9 = wm at *
            go_loopw [22] (fun i wz => ∃ k : Nat, 1 ≤ k ∧ k ≤ n + 1 ∧ i = .int .i64 k ∧ Below wm.heap.size wm wz) (fun i _ => n + 1 - (intOf i).toNat)
            case atStart => exact ⟨1, Nat.le_refl _, by omega, rfl, Below.refl _ _⟩
            case round =>
              obtain ⟨k, hk1, hk2, rfl, hbz⟩ := hrel
              rcases k with _ | j
              · omega
              · by_cases hlt : j + 1 < n
                · have hrm := hr9.below hbz (Nat.le_refl _)
                  obtain ⟨ad, rfl, _, g0⟩ := hrm.intm hlt
                  obtain ⟨ad', had, _, p0⟩ := hrm.intm (k := j) (by omega)
                  injection had with had
                  subst had
                  have hge := HK3.out j hlt
                  obtain ⟨x, hx⟩ : ∃ x, x = M.getD (j + 1) 0 := ⟨_, rfl⟩
                  obtain ⟨y, hy⟩ : ∃ y, y = M.getD j 0 := ⟨_, rfl⟩
                  rw [← hx] at g0 hge
                  rw [← hy] at p0 hge
                  have hxy : decide (x < y) = false := by simp; exact hge
                  have g1 : wr.cell? ⟨ad.block, ad.off + (j + 1), none⟩ = some (.int .i64 x) := by have h := g0; rwa [Addr.add, if_neg (by omega)] at h
                  clear hx hy hge hrm
                  have hi0 : (0 : Int) ≤ (j : Int) := by omega
                  have hi1 : (j : Int) < (n : Int) := by omega
                  have hi4 : (j : Int) + 1 < (n : Int) := by omega
                  have hi5 : (0 : Int) ≤ (j : Int) + 1 := by omega
                  have hi2 : IntKind.i64.wrap ((j : Int) + 1 - 1) = (j : Int) := by rw [IntWalk.i64_in _ (by omega)]; omega
                  have hi3 : IntKind.i64.wrap (j : Int) = (j : Int) := IntWalk.i64_in _ (by omega)
                  go_wp2_with fail
                  go_quiet (fail)
                  have hbq := below_drewN hbz nq
                  generalize wr.drewN nq = wq at *
                  go_wp2_with fail
                  go_roundw
                  case rel => exact ⟨j + 1 + 1, by omega, by omega, by go_num, hbq⟩
                  case measure => simp [intOf]; omega
                · have hi4 : ¬ ((j : Int) + 1 < (n : Int)) := by omega
                  go_wp2_with fail
                  go_ret
                  exact ⟨by simp, hbw9.trans (hbz.mono hbw9.size)⟩
          · obtain rfl : v = (i : Int) := by omega
            obtain ⟨ad, r, rfl, hx, z0, z1, z2⟩ := hr.rec_ (k := i) (by omega) HN.out.symm (hb4w.trans (hbx.mono hbw1)) (Nat.le_refl _)
            have HX := Lib.hid (rev_step hx)
            clear hx
            have hi0 : (0 : Int) ≤ (i : Int) := by omega
            have hi1 : (i : Int) < (n : Int) := by omega
            have hbs := hbx.size
            go_wp2_with (first | (with_reducible show wpList _ _ _ (⟨some 168, _, _, _, _, _⟩ :: _) _ _; go_must (refine wpList_newg (.tmp 162) (.tmp 167) el_recC rfl rfl hown rfl rfl (by simp) rfl rfl (by omega) (by first | omega | (simp; omega)) ?_); intro v2 w4 ho4 hb4 hg4 ha4))
            go_roundw
            case rel =>
              refine ⟨i, (i : Int) - 1, by omega, rfl, by omega, ?_, hbx.trans hb4⟩
              rw [HX.out, show n - i = n - (i + 1) + 1 from by omega]
              exact ho4
            case measure => simp [intOf]
  · obtain ⟨x, hx⟩ := slideE_bad hE
    have HS1 : Hid (∀ W, Below w.heap.size w W → Calls Try.prog 15 #[.slice A n c, .int .i64 size, .int .i64 slack] W fun e w' => ∃ A' c', e = .returned (.tuple #[.slice A' (panesOf l size size slack).length c', .iface 63 (.int .i64 x)]) ∧ Rd w' w'.heap.size 6 A' (panesOf l size size slack).length (paneCells (panesOf l size size slack)) ∧ Below W.heap.size W w') := Lib.hid (fun W h => by
      have := HS.out W slack h
      rw [hx] at this
      exact this)
    clear hE hx HS HBK HMK
    go_wp2_with (first
      | (go_at_call_of 15 slack; go_must (refine (HS1.out _ hb1).mono ?_); rintro e w2 ⟨A1, c1, rfl, hr1, hb2⟩)
      | (go_at_call 15; go_must (refine HS0.out.mono ?_); rintro e w1 ⟨A0, c0, rfl, hr0, hb0⟩; obtain ⟨ad0, q0, rfl, _, hq0, x0, x1, x2, x3, x4, x5⟩ := hr0.pane_ (k := 0) (by simp) rfl; obtain rfl : _ = q0 := Option.some.inj hq0; clear hq0 hr0; simp only [Nat.zero_mul, Addr.add, if_true] at x0 x1 x2 x3 x4 x5; have hb1 : Below w.heap.size w w1 := ((Below.refl _ _).alloc (Nat.le_refl _) _).trans (hb0.mono (by simp))))
    go_ret
    exact ⟨rfl, below_up hb1 hb2⟩
end Go.Proofs.Ytelailhghhjleaa
