/- The walk of weirlaw4.AuditMerges. -/
import Derived.Test.YtelailhghhjleaaDoorWalkRMerge
import Derived.Test.YtelailhghhjleaaDoorWalkRPrefix
import Derived.Test.YtelailhghhjleaaDoorWalkLess
import Derived.Test.YtelailhghhjleaaDoorWalkAs
namespace Go.Proofs.YtelailhghhjleaaDoor
open Go.RowKit

theorem LnsAt.up {w w' : World} {L : List Ln} {v : Value} (h : LnsAt w L v) (hb : Below w.heap.size w w') : LnsAt w' L v := by
  obtain ⟨A, c, s, e, h1, h2, h3, h4⟩ := h
  exact ⟨A, c, s, e, h1, h2, h3, (h4.below hb (Nat.le_refl _)).more hb.size⟩
theorem lines_at {w : World} {L : List Ln} {v v' : Value} (h : LnsAt w L v) (h' : LnsAt w L v') (hl : L.length ≤ 140737488355328) (hn : ∀ x ∈ L, x.nums.length ≤ 140737488355328) :
    Calls Tryd.prog 29 #[v, v'] w fun e w' => e = .returned (.bool true) ∧ Below w.heap.size w w' := by
  obtain ⟨A, c, s, rfl, _, _, h3, h4⟩ := h
  obtain ⟨A', c', s', rfl, _, _, h3', h4'⟩ := h'
  have e1 : s.length = L.length := by rw [← h3, lnsOf_len]
  have e2 : s'.length = L.length := by rw [← h3', lnsOf_len]
  rw [e1] at h4 ⊢
  rw [e2] at h4' ⊢
  exact lines_same A A' c c' w.heap.size L.length s s' w h4 h4' (Nat.le_refl _) hl (fun p hp => hn p.ln (by rw [← h3]; exact List.mem_map_of_mem hp)) (by rw [h3, h3'])
theorem mergeO_few {a b : List Ln} : (mergeO a b).length ≤ 400 ∧ ∀ x ∈ mergeO a b, x.nums.length ≤ 400 := by
  by_cases h : mergeE a b = 0
  · rw [mergeO, if_pos h]
    have : linesE (mergeL (a ++ b)) = 0 := by
      rw [mergeE] at h
      split at h
      · exact absurd h (by assumption)
      · split at h
        · cases h
        · rename_i h2; exact Classical.not_not.1 h2
    exact ⟨(linesE_ok this).len, (linesE_ok this).few⟩
  · rw [mergeO, if_neg h]
    exact ⟨Nat.zero_le _, fun x hx => by cases hx⟩
set_option maxRecDepth 100000 in
set_option maxHeartbeats 4000000 in
theorem lawmerges_any (A1 A2 : Option Addr) (c1 c2 n1 n2 : Nat) (p1 p2 : List Pl) (w : World) (hg : HasErr w) (hr1 : RdPs w w.heap.size A1 n1 p1) (hr2 : RdPs w w.heap.size A2 n2 p2)
    (hc1 : n1 ≤ c1) (hc2 : n2 ≤ c2) (hm1 : c1 ≤ maxLen) (hm2 : c2 ≤ maxLen) (hl1 : n1 ≤ 140737488355328) (hl2 : n2 ≤ 140737488355328) (hk : ∀ p ∈ p1 ++ p2, p.ln.key.size ≤ maxLen) :
    Calls Tryd.prog 8 #[.slice A1 n1 c1, .slice A2 n2 c2] w fun e w' => e = .returned (.bool true) ∧ Below w.heap.size w w' := by
  have hmg := fun W (hW : Below w.heap.size w W) => merge_any A1 A2 c1 c2 w.heap.size n1 n2 p1 p2 W (hr1.below hW (Nat.le_refl _)) (hr2.below hW (Nat.le_refl _)) hW.size hc1 hm1 hc2 hm2 hl1 hl2 hk
  have hls := fun W (hW : Below w.heap.size w W) => aless_any A1 A2 c1 c2 w.heap.size n1 n2 p1 p2 W (hr1.below hW (Nat.le_refl _)) (hr2.below hW (Nat.le_refl _)) hW.size hl1 hl2
  by_cases h1 : linesE (lnsOf p1) = 0
  · by_cases h2 : linesE (lnsOf p2) = 0
    · have hb0 : bothL (lnsOf p1) (lnsOf p2) = 0 := by rw [bothL, if_neg (by simp [h1]), h2]
      have hk1 := linesE_ok h1
      have hk2 := linesE_ok h2
      have HK1 := Lib.hid hk1
      have HK2 := Lib.hid hk2
      have hn1 : n1 ≤ 400 := by have := hk1.len; rwa [lnsOf_len, hr1.len] at this
      have hn2 : n2 ≤ 400 := by have := hk2.len; rwa [lnsOf_len, hr2.len] at this
      have hrm := fun W (hW : Below w.heap.size w W) => rmerge_any A1 A2 c1 c2 w.heap.size n1 n2 p1 p2 W (hr1.below hW (Nat.le_refl _)) (hr2.below hW (Nat.le_refl _)) hW.size h1 h2
      have hrp := fun W (hW : Below w.heap.size w W) => rprefix_any A2 A1 c2 c1 w.heap.size n2 n1 p2 p1 W (hr2.below hW (Nat.le_refl _)) (hr1.below hW (Nat.le_refl _)) hl2 hl1 (fun p hp => hk2.few p.ln (List.mem_map_of_mem hp)) (fun p hp => hk1.few p.ln (List.mem_map_of_mem hp))
      have hmo := mergeO_few (a := lnsOf p1) (b := lnsOf p2)
      clear hk1 hk2
      have HMO := Lib.hid hmo
      clear hmo
      go_enter Tryd.func8, Tryd.ntmps8
      go_wp2_with fail
      refine (rlines_any A1 c1 w.heap.size _ p1 _ hr1 hl1).mono ?_
      rintro e w1 ⟨rfl, q1, hw1⟩
      have hb1 : Below w.heap.size w w1 := hw1 ▸ below_drewN (Below.refl _ _) q1
      clear hw1
      go_wp2_with fail
      refine (rlines_any A2 c2 w.heap.size _ p2 _ (hr2.below hb1 (Nat.le_refl _)) hl2).mono ?_
      rintro e w2 ⟨rfl, q2, hw2⟩
      have hb2 : Below w.heap.size w w2 := hw2 ▸ below_drewN hb1 q2
      clear hw2
      have HLE : Hid (lessE (lnsOf p1) (lnsOf p2) = if prefB (lnsOf p2) (lnsOf p1) = true then 0 else 7) := Lib.hid (by rw [lessE, if_neg (by rw [hb0]; simp)])
      have HLV : Hid (lessV (lnsOf p1) (lnsOf p2) = if lessE (lnsOf p1) (lnsOf p2) = 0 then (sumL (lnsOf p1) : Int) - sumL (lnsOf p2) else 0) := Lib.hid rfl
      generalize mergeE (lnsOf p1) (lnsOf p2) = ME at *
      generalize mergeO (lnsOf p1) (lnsOf p2) = MO at *
      have HMG := Lib.hid hmg
      have HLS := Lib.hid hls
      have HRM := Lib.hid hrm
      have HRP := Lib.hid hrp
      clear hmg hls hrm hrp hb0
      go_wp2_with fail
      refine (HRM.out _ hb2).mono ?_
      rintro e w3 ⟨v3, rfl, hv3, hb3⟩
      have hbb3 := below_up hb2 hb3
      go_wp2_with fail
      refine (HMG.out _ hbb3).mono ?_
      rintro e w4 ⟨v4, rfl, hv4, hb4⟩
      have hbb4 := below_up hbb3 hb4
      go_wp2_with fail
      refine (same_err _ _ _ (hg.below hbb4 hg.2)).mono ?_
      rintro e w5 ⟨rfl, hb5⟩
      have hbb5 := below_up hbb4 hb5
      have hs6 := lines_at (hv4.up hb5) ((hv3.up hb4).up hb5) (by have := HMO.out.1; omega) (fun x hx => by have := HMO.out.2 x hx; omega)
      go_wp2_with fail
      refine hs6.mono ?_
      rintro e w6 ⟨rfl, hb6⟩
      have hbb6 := below_up hbb5 hb6
      clear hs6 hv3 hv4 hb3 hb4 hb5 hb6 hbb3 hbb4 hbb5 h1 h2
      rcases hpf : prefB (lnsOf p2) (lnsOf p1)
      · have HE7 : Hid (lessE (lnsOf p1) (lnsOf p2) = 7) := Lib.hid (by rw [HLE.out, hpf]; rfl)
        have HV0 : Hid (lessV (lnsOf p1) (lnsOf p2) = 0) := Lib.hid (by rw [HLV.out, if_neg (by rw [HE7.out]; omega)])
        have hrq := HRP.out _ hbb6
        rw [hpf] at hrq
        clear hpf
        go_wp2_with fail
        refine hrq.mono ?_
        rintro e w7 ⟨rfl, q7, hw7⟩
        have hbb7 : Below w.heap.size w w7 := hw7 ▸ below_drewN hbb6 q7
        clear hw7 hrq
        go_wp2_with fail
        refine (HLS.out _ hbb7).mono ?_
        rintro e w8 ⟨rfl, hb8⟩
        rw [HE7.out, HV0.out]
        have hbb8 := below_up hbb7 hb8
        have hse := same_err 7 7 _ (hg.below hbb8 hg.2)
        go_wp2_with fail
        refine hse.mono ?_
        rintro e w9 ⟨rfl, hb9⟩
        have hbb9 := below_up hbb8 hb9
        go_wp2_with fail
        go_ret
        exact ⟨rfl, hbb9⟩
      · have HE7 : Hid (lessE (lnsOf p1) (lnsOf p2) = 0) := Lib.hid (by rw [HLE.out, hpf]; rfl)
        have HV0 : Hid (lessV (lnsOf p1) (lnsOf p2) = (sumL (lnsOf p1) : Int) - sumL (lnsOf p2)) := Lib.hid (by rw [HLV.out, if_pos HE7.out])
        have hrq := HRP.out _ hbb6
        rw [hpf] at hrq
        clear hpf
        go_wp2_with fail
        refine hrq.mono ?_
        rintro e w7 ⟨rfl, q7, hw7⟩
        have hbb7 : Below w.heap.size w w7 := hw7 ▸ below_drewN hbb6 q7
        clear hw7 hrq hbb6
        have HS1 := Lib.hid (sumL_le HK1.out)
        have HS2 := Lib.hid (sumL_le HK2.out)
        go_wp2_with fail
        go_loopw [12, 14] (fun s x wr => ∃ i t : Nat, i ≤ n1 ∧ x = .int .i64 i ∧ s = .int .i64 t ∧ Hid (t = sumL ((lnsOf p1).take i)) ∧ Below w.heap.size w wr) (fun _ x _ => n1 - (intOf x).toNat)
        case atStart => exact ⟨0, 0, Nat.zero_le _, rfl, rfl, Lib.hid rfl, hbb7⟩
        clear hbb7
        obtain ⟨i, t, hi, rfl, rfl, HT, hbel⟩ := hrel
        by_cases hlt : i < n1
        · obtain ⟨ad, p, rfl, _, hx0, g0, g1, hpo⟩ := (hr1.below hbel (Nat.le_refl _)).at_ hlt
          have Hx := Lib.hid (lnsOf_at hx0)
          obtain ⟨m, hm⟩ : ∃ m, m = p.ln.nums.length := ⟨_, rfl⟩
          have HT2 : Hid (t + m = sumL ((lnsOf p1).take (i + 1))) := Lib.hid (by rw [sumL_next Hx.out, ← HT.out, hm])
          have ht2 : t + m ≤ 160000 := by rw [HT2.out]; exact Nat.le_trans (sumL_take_le _ _) HS1.out
          unfold Pl.val at g1
          rw [← hm] at g1
          clear hx0 hpo hm g0
          have hi0 : (0 : Int) ≤ (i : Int) := by omega
          have hi1 : (i : Int) < (n1 : Int) := by omega
          go_wp2_with fail
          go_roundw
          case rel => exact ⟨i + 1, t + m, by omega, by go_num, by go_num, HT2, hbel⟩
          case measure => simp [intOf]; omega
        · have HST : Hid (t = sumL (lnsOf p1)) := Lib.hid (by rw [HT.out, List.take_of_length_le (by rw [lnsOf_len, hr1.len]; omega)])
          have hts : t ≤ 160000 := by rw [HST.out]; exact HS1.out
          have hbs := hbel
          go_wp2_with fail
          clear hlt hi
          go_loopw [12, 15] (fun s x wr => ∃ k u : Nat, k ≤ n2 ∧ x = .int .i64 k ∧ s = .int .i64 ((t : Int) - (u : Int)) ∧ Hid (u = sumL ((lnsOf p2).take k)) ∧ Below w.heap.size w wr) (fun _ x _ => n2 - (intOf x).toNat)
          case atStart => exact ⟨0, 0, Nat.zero_le _, rfl, by simp, Lib.hid rfl, hbs⟩
          clear hbs hbel
          obtain ⟨k, u, hk3, rfl, rfl, HU, hbel⟩ := hrel
          by_cases hlt : k < n2
          · obtain ⟨ad, p, rfl, _, hx0, g0, g1, hpo⟩ := (hr2.below hbel (Nat.le_refl _)).at_ hlt
            have Hx := Lib.hid (lnsOf_at hx0)
            obtain ⟨m, hm⟩ : ∃ m, m = p.ln.nums.length := ⟨_, rfl⟩
            have HU2 : Hid (u + m = sumL ((lnsOf p2).take (k + 1))) := Lib.hid (by rw [sumL_next Hx.out, ← HU.out, hm])
            have hu2 : u + m ≤ 160000 := by rw [HU2.out]; exact Nat.le_trans (sumL_take_le _ _) HS2.out
            unfold Pl.val at g1
            rw [← hm] at g1
            clear hx0 hpo hm g0
            have hi0 : (0 : Int) ≤ (k : Int) := by omega
            have hi1 : (k : Int) < (n2 : Int) := by omega
            go_wp2_with fail
            go_roundw
            case rel => exact ⟨k + 1, u + m, by omega, by go_num, by first | go_num | (congr 1; omega), HU2, hbel⟩
            case measure => simp [intOf]; omega
          · have HSU : Hid (u = sumL (lnsOf p2)) := Lib.hid (by rw [HU.out, List.take_of_length_le (by rw [lnsOf_len, hr2.len]; omega)])
            have HVV : Hid (lessV (lnsOf p1) (lnsOf p2) = (t : Int) - (u : Int)) := Lib.hid (by rw [HV0.out, HST.out, HSU.out])
            go_wp2_with fail
            refine (HLS.out _ hbel).mono ?_
            rintro e w8 ⟨rfl, hb8⟩
            rw [HE7.out, HVV.out]
            have hbb8 := below_up hbel hb8
            have hse := same_err 0 0 _ (hg.below hbb8 hg.2)
            rw [errV_zero] at hse ⊢
            go_wp2_with fail
            refine hse.mono ?_
            rintro e w9 ⟨rfl, hb9⟩
            have hbb9 := below_up hbb8 hb9
            go_wp2_with fail
            go_ret
            exact ⟨by simp, hbb9⟩
    · have hb0 : bothL (lnsOf p1) (lnsOf p2) = linesE (lnsOf p2) := by rw [bothL, if_neg (by simp [h1])]
      have e1 : mergeE (lnsOf p1) (lnsOf p2) = linesE (lnsOf p2) := by rw [mergeE, hb0, if_pos h2]
      have e2 : mergeO (lnsOf p1) (lnsOf p2) = [] := by rw [mergeO, if_neg (by rw [e1]; exact h2)]
      have e3 : lessE (lnsOf p1) (lnsOf p2) = linesE (lnsOf p2) := by rw [lessE, hb0, if_pos h2]
      have e4 : lessV (lnsOf p1) (lnsOf p2) = 0 := by rw [lessV, if_neg (by rw [e3]; exact h2)]
      rw [e1, e2] at hmg
      rw [e3, e4] at hls
      clear e1 e2 e3 e4 hb0
      go_enter Tryd.func8, Tryd.ntmps8
      go_wp2_with fail
      refine (rlines_any A1 c1 w.heap.size _ p1 _ hr1 hl1).mono ?_
      rintro e w1 ⟨rfl, q1, hw1⟩
      have hb1 : Below w.heap.size w w1 := hw1 ▸ below_drewN (Below.refl _ _) q1
      clear hw1
      go_wp2_with fail
      refine (rlines_any A2 c2 w.heap.size _ p2 _ (hr2.below hb1 (Nat.le_refl _)) hl2).mono ?_
      rintro e w2 ⟨rfl, q2, hw2⟩
      have hb2 : Below w.heap.size w w2 := hw2 ▸ below_drewN hb1 q2
      clear hw2
      generalize linesE (lnsOf p2) = E at *
      have h3 : ¬ ((E : Int) = 0) := by omega
      have HMG := Lib.hid hmg
      have HLS := Lib.hid hls
      clear hmg hls
      go_wp2_with fail
      refine (HMG.out _ hb2).mono ?_
      rintro e w3 ⟨v3, rfl, hv3, hb3⟩
      have hbb3 := below_up hb2 hb3
      go_wp2_with fail
      refine (same_err _ _ _ (hg.below hbb3 hg.2)).mono ?_
      rintro e w4 ⟨rfl, hb4⟩
      have hbb4 := below_up hbb3 hb4
      have hs5 := lines_at (hv3.up hb4) (LnsAt.nil_ w4) (by simp) (fun x hx => by cases hx)
      go_wp2_with fail
      refine hs5.mono ?_
      rintro e w5 ⟨rfl, hb5⟩
      have hbb5 := below_up hbb4 hb5
      go_wp2_with fail
      refine (HLS.out _ hbb5).mono ?_
      rintro e w6 ⟨rfl, hb6⟩
      have hbb6 := below_up hbb5 hb6
      go_wp2_with fail
      refine (same_err _ _ _ (hg.below hbb6 hg.2)).mono ?_
      rintro e w7 ⟨rfl, hb7⟩
      have hbb7 := below_up hbb6 hb7
      go_wp2_with fail
      go_ret
      exact ⟨rfl, hbb7⟩
  · have hb0 : bothL (lnsOf p1) (lnsOf p2) = linesE (lnsOf p1) := by rw [bothL, if_pos h1]
    have e1 : mergeE (lnsOf p1) (lnsOf p2) = linesE (lnsOf p1) := by rw [mergeE, hb0, if_pos h1]
    have e2 : mergeO (lnsOf p1) (lnsOf p2) = [] := by rw [mergeO, if_neg (by rw [e1]; exact h1)]
    have e3 : lessE (lnsOf p1) (lnsOf p2) = linesE (lnsOf p1) := by rw [lessE, hb0, if_pos h1]
    have e4 : lessV (lnsOf p1) (lnsOf p2) = 0 := by rw [lessV, if_neg (by rw [e3]; exact h1)]
    rw [e1, e2] at hmg
    rw [e3, e4] at hls
    clear e1 e2 e3 e4 hb0
    go_enter Tryd.func8, Tryd.ntmps8
    go_wp2_with fail
    refine (rlines_any A1 c1 w.heap.size _ p1 _ hr1 hl1).mono ?_
    rintro e w1 ⟨rfl, q1, hw1⟩
    have hb1 : Below w.heap.size w w1 := hw1 ▸ below_drewN (Below.refl _ _) q1
    clear hw1
    generalize linesE (lnsOf p1) = E at *
    have h3 : ¬ ((E : Int) = 0) := by omega
    have HMG := Lib.hid hmg
    have HLS := Lib.hid hls
    clear hmg hls
    go_wp2_with fail
    refine (HMG.out _ hb1).mono ?_
    rintro e w3 ⟨v3, rfl, hv3, hb3⟩
    have hbb3 := below_up hb1 hb3
    go_wp2_with fail
    refine (same_err _ _ _ (hg.below hbb3 hg.2)).mono ?_
    rintro e w4 ⟨rfl, hb4⟩
    have hbb4 := below_up hbb3 hb4
    have hs5 := lines_at (hv3.up hb4) (LnsAt.nil_ w4) (by simp) (fun x hx => by cases hx)
    go_wp2_with fail
    refine hs5.mono ?_
    rintro e w5 ⟨rfl, hb5⟩
    have hbb5 := below_up hbb4 hb5
    go_wp2_with fail
    refine (HLS.out _ hbb5).mono ?_
    rintro e w6 ⟨rfl, hb6⟩
    have hbb6 := below_up hbb5 hb6
    go_wp2_with fail
    refine (same_err _ _ _ (hg.below hbb6 hg.2)).mono ?_
    rintro e w7 ⟨rfl, hb7⟩
    have hbb7 := below_up hbb6 hb7
    go_wp2_with fail
    go_ret
    exact ⟨rfl, hbb7⟩
end Go.Proofs.YtelailhghhjleaaDoor
