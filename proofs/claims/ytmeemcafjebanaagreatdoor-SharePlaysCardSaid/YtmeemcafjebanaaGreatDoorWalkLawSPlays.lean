/- The walk of weirlaw2.SharePlays. -/
import Derived.Test.YtmeemcafjebanaaGreatDoorShareLaw2
import Derived.Test.YtmeemcafjebanaaGreatDoorDiskLaw1
import Derived.Test.YtmeemcafjebanaaGreatDoorSteps
import Derived.Deep.CutBlock
import Derived.Deep.CutRange
namespace Go.Proofs.YtmeemcafjebanaaGreatDoor
open Go.RowKit Go.Maps Go.WideMaps

set_option maxRecDepth 100000 in
set_option maxHeartbeats 16000000 in
theorem lawsplays_any (A : Option Addr) (c n : Nat) (ls : List (List Int)) (Af : Option Addr) (cf nf : Nat) (fs : List ByteArray) (w : World) (hg : HasErr w) (hr : RdII w w.heap.size A ls) (hln : ls.length = n) (hbd : ∀ l ∈ ls, ∀ z ∈ l, -9223372036854775808 ≤ z ∧ z ≤ 9223372036854775807)
    (hrf : Rd w w.heap.size 1 Af nf (fs.map sv)) (hnf : fs.length = nf) (hfc : nf ≤ cf) (_hcf : cf ≤ maxLen) (hfl : nf ≤ 140737488355328) (hsz : ∀ x ∈ fs, x.size ≤ maxLen) :
    Calls Tryz.prog 3 #[.slice A n c, .slice Af nf cf] w fun e w' => e = .returned (.bool true) ∧ Below w.heap.size w w' := by
  have HLN := Lib.hid hln
  have HBD := Lib.hid hbd
  have HNF := Lib.hid hnf
  have HSZ := Lib.hid hsz
  have HSE := Lib.hid (fun (k : Nat) (W : World) (h : Below w.heap.size w W) => same_errD k W (hg.up h))
  clear hln hbd hg hnf hsz
  have hnw := snew_any w
  go_enter Tryz.func3, Tryz.ntmps3
  go_upto_region 2 with (go_at_call 5; go_must (refine hnw.mono ?_); rintro e w1 ⟨g, rfl, hs1, hb1⟩)
  clear hnw
  go_wp2_with fail
  go_loopw [6, 7, 8] (fun P Q x wr => ∃ (i np : Nat) (pics : List Pic) (ps : List Int) (ks : List Nat), i ≤ n ∧ i ≤ 60 ∧ np ≤ i ∧ x = .int .i64 i ∧ ListsAt wr Af cf P Q ps ks np ∧ ShareIn wr w.heap.size g pics ∧ SimS fs pics ps ks ∧ Below w.heap.size w wr) (fun _ _ x _ => n - (intOf x).toNat)
  case atStart => exact ⟨0, 0, [], [], [], Nat.zero_le _, Nat.zero_le _, Nat.zero_le _, rfl, ListsAt.start _ _ _, hs1, SimS.start fs, hb1⟩
  clear hs1 hb1
  obtain ⟨i, np, pics, ps, ks, hi, hi60, hnp, rfl, hls, hsh, hsim, hbel⟩ := hrel
  have hws := hbel.size
  have HSIM := Lib.hid hsim
  have HPL := Lib.hid (hsim.plen.trans hls.pl)
  obtain ⟨AP, cP, AQ, cQ, rfl, _, _, rfl, _, _, _, _⟩ := hls.at_
  clear hsim
  by_cases hlt : i < n ∧ i < 60
  · obtain ⟨hlt, hlt8⟩ := hlt
    obtain ⟨ad, A2, c2, rfl, cl, hlc, hcm, hrl⟩ := hr.at_ (Below.refl _ _) (i := i) (by have := HLN.out; omega)
    have hbl := HBD.out (ls.getD i []) (by
      have hx : ls[i]? = some (ls.getD i []) := by rw [List.getD_eq_getElem?_getD, List.getElem?_eq_getElem (by have := HLN.out; omega)]; rfl
      exact List.mem_of_getElem? hx)
    have hadb : (ad.add i).block < w.heap.size := by
      obtain ⟨ad2, e2, hlt2, _⟩ := hr (by have := HLN.out; omega)
      injection e2 with e2; subst e2
      rw [block_add]; exact hlt2
    obtain ⟨l, hl9⟩ : ∃ l, l = ls.getD i [] := ⟨_, rfl⟩
    rw [← hl9] at cl hlc hrl hbl
    clear hl9
    obtain ⟨q, hq⟩ : ∃ q, q = l.length := ⟨_, rfl⟩
    rw [← hq] at cl hlc hrl
    have Hq := Lib.hid hq
    clear hq
    have CL := Lib.hid (fun (W : World) (h : Below w.heap.size w W) => (h.cell hadb).trans cl)
    have HG0 := Lib.hid (getD_in hbl)
    have hV := Blk.new wr 28 (cells3_ l 0)
    have hba := (Below.refl wr.heap.size wr).alloc (Nat.le_refl _) (.cells (cells3_ l 0) 28)
    have hls2 := hls.up hba
    have hsh2 := hsh.up hba
    have hbel2 := hbel.trans (hba.mono hws)
    obtain ⟨vb, hvb⟩ : ∃ vb, vb = wr.heap.size := ⟨_, rfl⟩
    have hvw : w.heap.size ≤ vb := by omega
    rw [← hvb] at hV
    rw [cells3_zero] at hls2 hsh2 hbel2
    have hV2 : Blk (wr.alloc (.cells #[.int .i64 0, .int .i64 0, .int .i64 0] 28)) vb 28 (cells3_ l 0) := hV
    have hi0 : (0 : Int) ≤ (i : Int) := by omega
    have hi1 : (i : Int) < (n : Int) := by omega
    have hi2 : (i : Int) < 60 := by omega
    have HLSO := Lib.hid (fun (W : World) (hb : Below wr.heap.size wr W) => hls.up hb)
    have HVB := Lib.hid hvb
    clear hV hls hsh hbl cl hbel hba
    go_upto_block 2 with fail
    rw [← HVB.out]
    have hbo : Below wr.heap.size wr (wr.alloc (.cells #[.int .i64 0, .int .i64 0, .int .i64 0] 28)) := (Below.refl wr.heap.size wr).alloc (Nat.le_refl _) _
    clear hls2 hvb
    generalize wr.alloc (.cells #[.int .i64 0, .int .i64 0, .int .i64 0] 28) = wv at *
    obtain ⟨wo, rfl⟩ : ∃ wo, wo = wr := ⟨_, rfl⟩
    go_cut [] from 51 to 72 (fun wx => Blk wx vb 28 #[.int .i64 (l.getD 0 0), .int .i64 (l.getD 1 0), .int .i64 (l.getD 2 0)] ∧ Below wo.heap.size wo wx ∧ ShareIn wx w.heap.size g pics ∧ Below w.heap.size w wx)
    case first =>
      as_aux_lemma =>
        go_wp2_with fail
        go_loopw [10] (fun v wr => ∃ j : Nat, j ≤ 3 ∧ j ≤ q ∧ v = .int .i64 j ∧ Blk wr vb 28 (cells3_ l j) ∧ Below wo.heap.size wo wr ∧ ShareIn wr w.heap.size g pics ∧ Below w.heap.size w wr) (fun v _ => 3 - (intOf v).toNat)
        case atStart => exact ⟨0, by omega, by omega, rfl, hV2, hbo, hsh2, hbel2⟩
        clear hV2 hbo hsh2 hbel2
        obtain ⟨j, hj3, hjq, rfl, hV, hbo, hsh, hbel⟩ := hrel
        have cl := CL.out _ hbel
        have HSH := Lib.hid hsh
        clear hsh
        by_cases hjl : j < q
        · by_cases hj : j < 3
          · obtain ⟨ad2, rfl, _, cj⟩ := (hrl.below hbel (Nat.le_refl _)).intc hjl
            obtain ⟨cu, hcu⟩ : ∃ u, wr.cell? ⟨vb, j, none⟩ = some u := ⟨_, (hV.cell j).trans (Array.getElem?_eq_getElem (by simp [cells3_]; omega))⟩
            have fv := hV.frozen j
            have hst := hV.set_ j (.int .i64 (l.getD j 0))
            rw [cells3_step l hj] at hst
            obtain ⟨z, hz⟩ : ∃ z, z = l.getD j 0 := ⟨_, rfl⟩
            rw [← hz] at cj hst
            have HV3 := Lib.hid (keepT_set hV j (.int .i64 z))
            have hj0 : (0 : Int) ≤ (j : Int) := by omega
            have hj1 : (j : Int) < (q : Int) := by omega
            have hj2 : (j : Int) < 3 := by omega
            have hvo : wo.heap.size ≤ vb := by have := HVB.out; omega
            clear hz
            go_wp2_with fail
            go_roundw
            case rel => exact ⟨j + 1, by omega, by omega, by go_num, hst, hbo.setCell hvo _, HSH.out.keepV HV3.out, hbel.setCell hvw _⟩
            case measure => simp [intOf]; omega
          · have hV3 := hV
            rw [cells3_end l (.inl (by omega))] at hV3
            have hj1 : (j : Int) < (q : Int) := by omega
            have hj2 : ¬ (j : Int) < 3 := by omega
            have HV3 := Lib.hid hV3
            clear hV hV3
            go_wp2_with fail
            go_meet
            exact ⟨HV3.out, hbo, HSH.out, hbel⟩
        · have hV3 := hV
          rw [cells3_end l (.inr (by have := Hq.out; omega))] at hV3
          have hj1 : ¬ (j : Int) < (q : Int) := by omega
          have HV3 := Lib.hid hV3
          clear hV hV3
          go_wp2_with fail
          go_meet
          exact ⟨HV3.out, hbo, HSH.out, hbel⟩
    case rest =>
      obtain ⟨hV, hbo, hsh, hbel⟩ := hcut
      have hls := HLSO.out _ hbo
      have x0 := hV.cell 0
      have x1 := hV.cell 1
      have x2 := hV.cell 2
      simp only [List.getElem?_toArray, List.getElem?_cons_zero, List.getElem?_cons_succ] at x0 x1 x2
      have hv1 := HG0.out 1
      have hv2 := HG0.out 2
      obtain ⟨a, ha⟩ : ∃ a, a = l.getD 0 0 := ⟨_, rfl⟩
      obtain ⟨b, hb⟩ : ∃ b, b = l.getD 1 0 := ⟨_, rfl⟩
      obtain ⟨d, hd1⟩ : ∃ d, d = l.getD 2 0 := ⟨_, rfl⟩
      rw [← ha] at x0
      rw [← hb] at x1 hv1
      rw [← hd1] at x2 hv2
      rw [← ha, ← hb, ← hd1] at hV
      have hlv := hV.lt
      clear ha hb hd1 HG0 CL hrl hlc hcm hadb Hq hV2 hsh2 hbel2 HLSO HVB
      go_upto_block 4 with fail
      obtain ⟨AP2, cP2, AQ2, cQ2, eP, hPc, hPm, eQ, hQc, hQm, hRP, hRQ⟩ := hls.at_
      injection eP with eP1 _ eP2
      injection eQ with eQ1 _ eQ2
      subst eP1 eP2 eQ1 eQ2
      have HPL2 := Lib.hid hls.pl
      have HLS := Lib.hid hls
      have HSH := Lib.hid hsh
      clear hls hsh
      obtain ⟨wp, rfl⟩ : ∃ wp, wp = wc := ⟨_, rfl⟩
      go_cut [11] from 73 to 86 (fun e wx => ∃ z : Int, e = .int .i64 z ∧ Hid (AtOk b ps np z) ∧ ∃ q9 : Nat, wx = wp.drewN q9)
      case first =>
        as_aux_lemma =>
          go_wp2_with fail
          go_loopw [11, 12] (fun e x wx => ∃ (j q9 : Nat) (z : Int), j ≤ np ∧ x = .int .i64 j ∧ e = .int .i64 z ∧ Hid (AtOk b ps j z) ∧ wx = wp.drewN q9) (fun _ x _ => np - (intOf x).toNat)
          case atStart => exact ⟨0, 0, -1, Nat.zero_le _, rfl, rfl, Lib.hid (AtOk.start b ps), rfl⟩
          rename World => wq
          obtain ⟨j, q9, z, hj, rfl, rfl, HZ, hw⟩ := hrel
          have HW := Lib.hid hw
          by_cases hlt9 : j < np
          · obtain ⟨ad9, y, rfl, hy, y0⟩ := (show Rd wq wp.heap.size 1 AP np (ps.map (Value.int .i64)) by rw [hw]; exact hRP.drewN q9).intv hlt9 HPL2.out
            have x19 : wq.cell? ⟨vb, 1, none⟩ = some (.int .i64 b) := by rw [hw]; exact x1
            have hj0 : (0 : Int) ≤ (j : Int) := by omega
            have hj1 : (j : Int) < (np : Int) := by omega
            clear hw
            by_cases hyb : y = b
            · have HZ2 := Lib.hid (AtOk.hit hy hyb)
              rw [hyb] at y0
              clear hy hyb
              go_wp2_with fail
              go_quiet (fail)
              go_wp2_with fail
              go_roundw
              case rel => exact ⟨j + 1, q9 + nq, _, by omega, by go_num, rfl, HZ2, by rw [HW.out, World.drewN_drewN]⟩
              case measure => simp [intOf]; omega
            · have HZ2 := Lib.hid (HZ.out.miss hy hyb)
              have hyb2 : (y == b) = false := by simpa using hyb
              clear hy
              go_wp2_with fail
              go_quiet (fail)
              go_wp2_with fail
              go_roundw
              case rel => exact ⟨j + 1, q9 + nq, _, by omega, by go_num, rfl, HZ2, by rw [HW.out, World.drewN_drewN]⟩
              case measure => simp [intOf]; omega
          · have hj1 : ¬ (j : Int) < (np : Int) := by omega
            obtain rfl : j = np := by omega
            clear hw
            go_wp2_with fail
            go_meet
            exact ⟨z, rfl, HZ, q9, HW.out⟩
      case rest =>
        obtain ⟨z, rfl, HZ, q9, hw⟩ := hcut
        have hbq : Below wp.heap.size wp wc := by rw [hw]; exact below_drewN (Below.refl _ _) _
        have hls := HLS.out.up hbq
        have hsh := HSH.out.up hbq
        have hbel := hbel.trans (hbq.mono hbel.size)
        have hV := hV.up hbq
        clear x0 x1 x2 hRP hRQ hw
        have x0 := hV.cell 0
        have x1 := hV.cell 1
        have x2 := hV.cell 2
        simp only [List.getElem?_toArray, List.getElem?_cons_zero, List.getElem?_cons_succ] at x0 x1 x2
        have HLS := Lib.hid hls
        have HSH := Lib.hid hsh
        clear hls hsh
        go_upto_region 19 with fail
        obtain ⟨bb, hbb⟩ : ∃ bb, bb = (decide (d < 0) || decide ((nf : Int) < d)) := ⟨_, rfl⟩
        have HBB := Lib.hid hbb
        clear hbb
        go_cut [96] from 89 to 95 (fun e wx => e = .bool bb ∧ wx = wc)
        case first =>
          by_cases h1 : d < 0
          · go_wp2_with fail
            go_meet
            exact ⟨by rw [HBB.out]; simp [h1], rfl⟩
          · by_cases h2 : (nf : Int) < d
            · go_wp2_with fail
              go_meet
              exact ⟨by rw [HBB.out]; simp [h2], rfl⟩
            · go_wp2_with fail
              go_meet
              exact ⟨by rw [HBB.out]; simp [h1, h2], rfl⟩
        case rest =>
          obtain ⟨rfl, rfl⟩ := hcut
          obtain ⟨kk, hkk⟩ : ∃ kk : Nat, kk = if bb = true then nf else d.toNat := ⟨_, rfl⟩
          have hkn : kk ≤ nf := by
            rw [hkk]
            split
            · exact Nat.le_refl _
            · rename_i hb
              rw [HBB.out] at hb
              simp at hb
              omega
          have HKK := Lib.hid hkk
          clear hkk
          go_upto_if 96 with fail
          go_cut [13] from 97 to 98 (fun e wx => e = .int .i64 kk ∧ wx = wc)
          case first =>
            rcases bb
            · have hd : Hid (d = (kk : Int)) := Lib.hid (by
                have h1 := HBB.out
                have h2 := HKK.out
                simp at h1 h2
                omega)
              go_wp2_with fail
              go_meet
              exact ⟨by rw [← hd.out], rfl⟩
            · have hd : Hid (kk = nf) := Lib.hid (by have h2 := HKK.out; simpa using h2)
              go_wp2_with fail
              go_meet
              exact ⟨by rw [hd.out], rfl⟩
          case rest =>
            obtain ⟨rfl, rfl⟩ := hcut
            have hkc : kk ≤ cf := Nat.le_trans hkn hfc
            go_upto_block 6 with fail
            go_cut [6, 7, 15, 16, 17, 18, 19, 20, 21, 22, 23, 24, 25, 26, 27, 28] from 104 to 245 (fun P Q _ _ _ _ _ _ _ _ _ _ _ _ _ _ wx => ∃ (np2 : Nat) (pics2 : List Pic) (ps2 : List Int) (ks2 : List Nat), np2 ≤ i + 1 ∧ ListsAt wx Af cf P Q ps2 ks2 np2 ∧ ShareIn wx w.heap.size g pics2 ∧ Hid (SimS fs pics2 ps2 ks2) ∧ Below w.heap.size w wx)
            case first =>
              by_cases hkind : a = 0 ∨ a = 1 ∨ a = 2 ∨ a = 3
              · by_cases h01 : a = 0 ∨ a = 1
                · as_aux_lemma =>
                    have hpl := HPL.out
                    have HTL := Lib.hid (take_len (fs := fs) hkn HNF.out)
                    have hlt2 : (fs.take kk).length = kk := HTL.out
                    obtain ⟨E, hE⟩ : ∃ E, E = takeE pics b (fs.take kk) := ⟨_, rfl⟩
                    have HE := Lib.hid hE
                    have HSM := Lib.hid (HZ.out.some_ HSIM.out (HSIM.out.plen.symm.trans HPL.out))
                    clear hE hlt2
                    go_upto_region 23 with fail
                    obtain ⟨b0, hb0⟩ : ∃ b0, b0 = decide (a = 0) := ⟨_, rfl⟩
                    have HB0 := Lib.hid hb0
                    clear hb0
                    go_cut [103, 104] from 105 to 105 (fun v e wx => v = .int .i64 a ∧ e = .bool b0 ∧ wx = wc)
                    case first =>
                      by_cases h0 : a = 0
                      · go_wp2_with fail
                        go_meet
                        exact ⟨by rw [h0], by rw [HB0.out]; simp [h0], rfl⟩
                      · go_wp2_with fail
                        go_meet
                        exact ⟨rfl, by rw [HB0.out]; simp [h0], rfl⟩
                    case rest =>
                      obtain ⟨rfl, rfl, rfl⟩ := hcut
                      go_upto_if 104 with fail
                      go_cut [103, 104] from 106 to 106 (fun v e wx => v = .int .i64 a ∧ e = .bool true ∧ wx = wc)
                      case first =>
                        rcases b0
                        · have h1 : a = 1 := by
                            rcases h01 with h | h
                            · have := HB0.out; simp [h] at this
                            · exact h
                          go_wp2_with fail
                          go_meet
                          exact ⟨by rw [h1], rfl, rfl⟩
                        · go_wp2_with fail
                          go_meet
                          exact ⟨rfl, rfl, rfl⟩
                      case rest =>
                        obtain ⟨rfl, rfl, rfl⟩ := hcut
                        clear HB0
                        go_upto_if 109 with fail
                        go_cut [15, 16, 17] from 109 to 127 (fun e _ _ wx => e = .int .i64 E ∧ wx = wc)
                        case first =>
                          as_aux_lemma =>
                            by_cases hb1 : b < 0
                            · go_wp2_with fail
                              go_meet
                              exact ⟨by rw [HE.out, takeE1 hb1]; rfl, rfl⟩
                            · by_cases hz1 : 0 ≤ z
                              · have HS8 := Lib.hid (takeE8 (l := fs.take kk) hb1 (HSM.out.trans (decide_eq_true hz1)))
                                go_wp2_with fail
                                go_meet
                                exact ⟨by rw [HE.out, HS8.out]; rfl, rfl⟩
                              · have HSM2 := Lib.hid (HSM.out.trans (decide_eq_false hz1))
                                by_cases hk4 : 400 < kk
                                · have HS4 := Lib.hid (takeE4 (l := fs.take kk) hb1 HSM2.out (by rw [HTL.out]; exact hk4))
                                  have hk5 : (400 : Int) < (kk : Int) := by omega
                                  go_wp2_with fail
                                  go_meet
                                  exact ⟨by rw [HE.out, HS4.out]; rfl, rfl⟩
                                · have HS2 := Lib.hid (takeE2 (l := fs.take kk) hb1 HSM2.out (by rw [HTL.out]; exact hk4))
                                  have hk5 : ¬ (400 : Int) < (kk : Int) := by omega
                                  obtain ⟨we, hwe⟩ : ∃ we, we = wc := ⟨_, rfl⟩
                                  have HWE := Lib.hid hwe
                                  clear hwe
                                  have HRE := Lib.hid (hrf.below hbel (Nat.le_refl _))
                                  go_wp2_with fail
                                  go_loopw [15, 16, 17] (fun e x _ wx => ∃ j : Nat, j ≤ kk ∧ x = .int .i64 j ∧ e = .int .i64 (namedN fs j) ∧ wx = wc) (fun _ x _ _ => kk - (intOf x).toNat)
                                  case atStart => exact ⟨0, Nat.zero_le _, rfl, rfl, rfl⟩
                                  obtain ⟨j, hj, rfl, rfl, rfl⟩ := hrel
                                  by_cases hj9 : j < kk
                                  · obtain ⟨ad9, rfl, _, s9⟩ := HRE.out.str_ (k := j) (by omega)
                                    have hj0 : (0 : Int) ≤ (j : Int) := by omega
                                    have hj1 : (j : Int) < (kk : Int) := by omega
                                    have hjf : j < fs.length := by have := HNF.out; omega
                                    have hn2 := named2_any (strAt fs j) wr
                                    rcases hnb : namedB (strAt fs j)
                                    · have HN9 := Lib.hid (namedN_no hjf hnb)
                                      rw [hnb] at hn2
                                      clear hjf hnb
                                      go_wp2_with (go_at_call 6; go_must (refine hn2.mono ?_); rintro e w8 ⟨rfl, rfl⟩)
                                      go_roundw
                                      case rel => exact ⟨j + 1, by omega, by go_num, by rw [HN9.out]; rfl, trivial⟩
                                      case measure => simp [intOf]; omega
                                    · have HN9 := Lib.hid (namedN_yes hjf hnb)
                                      rw [hnb] at hn2
                                      clear hjf hnb
                                      go_wp2_with (go_at_call 6; go_must (refine hn2.mono ?_); rintro e w8 ⟨rfl, rfl⟩)
                                      go_roundw
                                      case rel => exact ⟨j + 1, by omega, by go_num, by rw [HN9.out], trivial⟩
                                      case measure => simp [intOf]; omega
                                  · obtain rfl : j = kk := by omega
                                    have hj1 : ¬ (j : Int) < (j : Int) := by omega
                                    go_wp2_with fail
                                    go_meet
                                    exact ⟨by rw [HE.out, HS2.out]; rfl, rfl⟩
                        case rest =>
                          obtain ⟨rfl, rfl⟩ := hcut
                          have hrk : Rd wc w.heap.size 1 Af kk ((fs.take kk).map sv) := by
                            have h := (hrf.below hbel (Nat.le_refl _)).take hkn
                            rwa [Nat.mul_one, ← List.map_take] at h
                          have hwf := WalkArith.wf_i64 hv1
                          have HSZ9 := Lib.hid (fun (x : ByteArray) (hx : x ∈ fs.take kk) => show x.size ≤ 9223372036854775807 from by have := HSZ.out x (List.mem_of_mem_take hx); unfold maxLen at this; omega)
                          by_cases hE0 : E = 0
                          · as_aux_lemma =>
                              have hE2 : takeE pics b (fs.take kk) = 0 := by rw [← HE.out]; exact hE0
                              have htk := take_yes w.heap.size g pics b Af cf w.heap.size (fs.take kk) wc HSH.out hwf (by omega) (by rw [HTL.out]; exact hrk) hbel.size hbel.size HSZ9.out hE2
                              rw [HTL.out] at htk
                              have HNO := Lib.hid (take_fresh HSIM.out hE2)
                              subst hE0
                              clear hE2 hrk hwf hpl
                              go_upto_region 41 with (first
                                | (go_at_call 8; go_must (refine htk.mono ?_); rintro e w5 ⟨rfl, ⟨gg, cc, hs5⟩, hb5, hk5⟩; have hse := HSE.out 0 w5 (hbel.trans hb5))
                                | (go_at_call 7; go_must (refine hse.mono ?_); rintro e w6 ⟨rfl, hb6⟩))
                              have hbel5 := hbel.trans hb5
                              have hls6 := (HLS.out.keep hk5).up hb6
                              have hsh6 := hs5.up hb6
                              have hV6 := (hk5.blk hV rfl).up hb6
                              have hbel6 := hbel5.trans (hb6.mono hbel5.size)
                              clear htk hse hs5 hV hbel hbel5 HLS HSH x0 x1 x2
                              have x0 := hV6.cell 0
                              have x1 := hV6.cell 1
                              simp only [List.getElem?_toArray, List.getElem?_cons_zero, List.getElem?_cons_succ] at x0 x1
                              obtain ⟨AP3, cP3, AQ3, cQ3, eP, hPc3, hPm3, eQ, hQc3, hQm3, hRP6, hRQ6⟩ := hls6.at_
                              injection eP with eP1 _ eP2
                              injection eQ with eQ1 _ eQ2
                              subst eP1 eP2 eQ1 eQ2
                              have HSH := Lib.hid hsh6
                              have HPL4 := Lib.hid hls6.pl
                              have HLS := Lib.hid hls6
                              clear hls6 hsh6
                              go_upto_block 9 with fail
                              go_cut [19] from 139 to 153 (fun x wx => ∃ j q9 : Nat, x = .int .i64 j ∧ j ≤ np ∧ Hid (LessThan b ps j ∧ ∀ x ∈ ps.drop j, b < x) ∧ wx = w6.drewN q9)
                              case first =>
                                as_aux_lemma =>
                                  go_wp2_with fail
                                  go_loopw [19] (fun x wx => ∃ (j q9 : Nat), j ≤ np ∧ x = .int .i64 j ∧ Hid (LessThan b ps j) ∧ wx = w6.drewN q9) (fun x _ => np - (intOf x).toNat)
                                  case atStart => exact ⟨0, 0, Nat.zero_le _, rfl, Lib.hid (LessThan.start b ps), rfl⟩
                                  rename World => wq
                                  obtain ⟨j, q9, hj, rfl, HJ, hw⟩ := hrel
                                  have HW := Lib.hid hw
                                  have x19 : wq.cell? ⟨vb, 1, none⟩ = some (.int .i64 b) := by rw [hw]; exact x1
                                  by_cases hlt9 : j < np
                                  · obtain ⟨ad9, y, rfl, hy, y0⟩ := (show Rd wq w6.heap.size 1 AP np (ps.map (Value.int .i64)) by rw [hw]; exact hRP6.drewN q9).intv hlt9 HPL4.out
                                    have hj0 : (0 : Int) ≤ (j : Int) := by omega
                                    have hj1 : (j : Int) < (np : Int) := by omega
                                    have hd1 : decide ((j : Int) < (np : Int)) = true := decide_eq_true hj1
                                    have hd2 : decide (j < np) = true := decide_eq_true hlt9
                                    clear hw
                                    by_cases hyb : y < b
                                    · have HJ2 := Lib.hid (HJ.out.step hy hyb)
                                      clear hy
                                      go_wp2_with fail
                                      go_quiet (fail)
                                      go_wp2_with fail
                                      go_roundw
                                      case rel => exact ⟨j + 1, q9 + nq, by omega, by go_num, HJ2, by rw [HW.out, World.drewN_drewN]⟩
                                      case measure => simp [intOf]; omega
                                    · have HJ2 := Lib.hid (more_than HSIM.out HNO.out hy hyb)
                                      have hd3 : decide (y < b) = false := decide_eq_false hyb
                                      clear hy
                                      go_wp2_with fail
                                      go_quiet (fail)
                                      go_wp2_with fail
                                      go_meet
                                      exact ⟨j, q9 + nq, rfl, by omega, Lib.hid ⟨HJ.out, HJ2.out⟩, by rw [HW.out, World.drewN_drewN]⟩
                                  · obtain rfl : j = np := by omega
                                    have HJ2 := Lib.hid (more_end b HPL4.out)
                                    have hj1 : ¬ (j : Int) < (j : Int) := by omega
                                    have hd1 : decide ((j : Int) < (j : Int)) = false := decide_eq_false hj1
                                    have hd2 : decide (j < j) = false := decide_eq_false hlt9
                                    clear hw
                                    go_wp2_with fail
                                    go_quiet (fail)
                                    go_wp2_with fail
                                    go_meet
                                    exact ⟨j, q9 + nq, rfl, by omega, Lib.hid ⟨HJ.out, HJ2.out⟩, by rw [HW.out, World.drewN_drewN]⟩
                              case rest =>
                                obtain ⟨j, q9, rfl, hjn, HJ, hw⟩ := hcut
                                have hbq : Below w6.heap.size w6 wc := by rw [hw]; exact below_drewN (Below.refl _ _) _
                                have hbel := hbel6.trans (hbq.mono hbel6.size)
                                have hV := hV6.up hbq
                                have hls := HLS.out.up hbq
                                have hsh := HSH.out.up hbq
                                clear hRP6 hRQ6 hw HSH HLS hV6
                                obtain ⟨AP4, cP4, AQ4, cQ4, eP, hPc4, hPm4, eQ, hQc4, hQm4, hRP, hRQ⟩ := hls.at_
                                injection eP with eP1 _ eP2
                                injection eQ with eQ1 _ eQ2
                                subst eP1 eP2 eQ1 eQ2
                                have HKL := Lib.hid hls.kl
                                have hP1 := hRP.take hjn
                                have hQ1 := hRQ.take hjn
                                have hP3 := hRP.cut hjn hPc4
                                have hQ3 := hRQ.cut hjn hQc4
                                rw [Nat.mul_one, ← List.map_take] at hP1 hQ1
                                rw [Nat.mul_one, ← List.map_drop] at hP3 hQ3
                                have hown0 : wc.ownsRow wc.heap.size 3 1 (.slice none 0 0) 0 [] := World.ownsRow_nil _ _ _ _
                                have HSH := Lib.hid hsh
                                have hj0 : (0 : Int) ≤ (j : Int) := by omega
                                have hj1 : (j : Int) ≤ (np : Int) := by omega
                                have hz1 : (0 + j) * 8 ≤ 140737488355328 := by omega
                                have hz2 : (0 + j) * 24 ≤ 140737488355328 := by omega
                                have hz3 : (0 + j + 1) * 8 ≤ 140737488355328 := by omega
                                have hz4 : (0 + j + 1) * 24 ≤ 140737488355328 := by omega
                                have hz5 : (0 + j + 1 + (np - j)) * 8 ≤ 140737488355328 := by omega
                                have hz6 : (0 + j + 1 + (np - j)) * 24 ≤ 140737488355328 := by omega
                                have HQQ := Lib.hid (fun (W : World) (hb : Below wc.heap.size wc W) => (⟨hQ1.below hb (Nat.le_refl _), hP3.below hb (Nat.le_refl _), hQ3.below hb (Nat.le_refl _)⟩ : Rd W wc.heap.size 1 AQ j ((ks.take j).map (kvS Af cf)) ∧ Rd W wc.heap.size 1 (if cP = j then AP else AP.map (fun x => x.add j)) (np - j) ((ps.drop j).map (Value.int .i64)) ∧ Rd W wc.heap.size 1 (if cQ = j then AQ else AQ.map (fun x => x.add j)) (np - j) ((ks.drop j).map (kvS Af cf))))
                                clear hQ1 hP3 hQ3 hRP hRQ hls hsh hbel6 x0 x1
                                go_wp2_with (first
                                  | (with_reducible show wpList _ _ _ (⟨some 158, _, _, _, _, _⟩ :: _) _ _; go_must (refine wpList_rd (.tmp 154) (.tmp 157) el_intP rfl rfl hown0 rfl hP1 rfl (ints_one _) hz1 (Nat.le_refl _) ?_); intro v1 w1 ho1 hb1 hg1 ha1; obtain ⟨r2, _, _⟩ := HQQ.out w1 hb1; have hn1 : w1.ownsRow wc.heap.size 23 1 (.slice none 0 0) 0 [] := World.ownsRow_nil _ _ _ _)
                                  | (with_reducible show wpList _ _ _ (⟨some 163, _, _, _, _, _⟩ :: _) _ _; go_must (refine wpList_rd (.tmp 159) (.tmp 162) el_list rfl rfl hn1 rfl r2 rfl (kvs_one _ _ _) hz2 hb1.size ?_); intro v2 w2 ho2 hb2 hg2 ha2; have hP2 := own_far ho1 hg2 (fun g _ => nil_far g); have hbb2 := hb1.trans hb2; have x1 := (hV.up hbb2).cell 1; simp only [List.getElem?_toArray, List.getElem?_cons_zero, List.getElem?_cons_succ] at x1)
                                  | (with_reducible show wpList _ _ _ (⟨some 168, _, _, _, _, _⟩ :: _) _ _; go_must (refine wpList_newg (.tmp 164) (.tmp 167) el_intP rfl rfl hP2 rfl rfl (by simp) rfl rfl hz3 hbb2.size ?_); intro v3 w3 ho3 hb3 hg3 ha3; have hQ3 := own_far ho2 hg3 (own_neS ho2 hP2 (by decide)); have hbb3 := hbb2.trans hb3)
                                  | (with_reducible show wpList _ _ _ (⟨some 172, _, _, _, _, _⟩ :: _) _ _; go_must (refine wpList_newg (.tmp 169) (.tmp 171) el_list rfl rfl hQ3 rfl rfl (by simp) rfl rfl hz4 hbb3.size ?_); intro v4 w4 ho4 hb4 hg4 ha4; have hP4 := own_far ho3 hg4 (own_neS ho3 hQ3 (by decide)); have hbb4 := hbb3.trans hb4; obtain ⟨_, r5, _⟩ := HQQ.out w4 hbb4)
                                  | (with_reducible show wpList _ _ _ (⟨some 177, _, _, _, _, _⟩ :: _) _ _; go_must (refine wpList_rd (.tmp 173) (.tmp 176) el_intP rfl rfl hP4 rfl r5 rfl (ints_one _) hz5 hbb4.size ?_); intro v5 w5 ho5 hb5 hg5 ha5; have hQ5 := own_far ho4 hg5 (own_neS ho4 hP4 (by decide)); have hbb5 := hbb4.trans hb5; obtain ⟨_, _, r6⟩ := HQQ.out w5 hbb5)
                                  | (with_reducible show wpList _ _ _ (⟨some 182, _, _, _, _, _⟩ :: _) _ _; go_must (refine wpList_rd (.tmp 178) (.tmp 181) el_list rfl rfl hQ5 rfl r6 rfl (kvs_one _ _ _) hz6 hbb5.size ?_); intro v6 w7 ho6 hb6 hg6 ha6; have hP6 := own_far ho5 hg6 (own_neS ho5 hQ5 (by decide)); have hbb6 := hbb5.trans hb6))
                                all_goals
                                  go_meet
                                  exact ⟨np + 1, ⟨b, dsort (fs.take kk), gg, cc⟩ :: pics, ps.take j ++ b :: ps.drop j, ks.take j ++ kk :: ks.drop j, by omega, ListsAt.made hP6 ho6 (by omega) (by omega) (by simp) (by simp [kvS]), HSH.out.up hbb6, Lib.hid (HSIM.out.take_ gg cc (by have := HNF.out; omega) HJ.out.1 HJ.out.2), hbel.trans (hbb6.mono hbel.size)⟩
                          · as_aux_lemma =>
                              have htk := take_no w.heap.size g pics b Af cf w.heap.size (fs.take kk) wc HSH.out hwf (by omega) (by rw [HTL.out]; exact hrk) hbel.size (by rw [HTL.out]; omega) HSZ9.out (by rw [← HE.out]; exact hE0)
                              rw [HTL.out, ← HE.out] at htk
                              have hE1 : ¬ (E : Int) = 0 := by omega
                              clear hrk hwf hpl
                              go_wp2_with (first
                                | (go_at_call 8; go_must (refine htk.mono ?_); rintro e w5 ⟨rfl, hb5⟩; have hse := HSE.out E w5 (hbel.trans (hb5.mono hbel.size)))
                                | (go_at_call 7; go_must (refine hse.mono ?_); rintro e w6 ⟨rfl, hb6⟩))
                              go_meet
                              have hb56 := hb5.trans (hb6.mono hb5.size)
                              exact ⟨np, pics, ps, ks, by omega, HLS.out.up hb56, HSH.out.up hb56, HSIM, hbel.trans (hb56.mono hbel.size)⟩
                · by_cases h2 : a = 2
                  · subst h2
                    as_aux_lemma =>
                      have hwf := WalkArith.wf_i64 hv1
                      have hpl := HPL.out
                      have hsm := HZ.out.some_ HSIM.out (HSIM.out.plen.symm.trans HPL.out)
                      by_cases hz1 : 0 ≤ z
                      · obtain ⟨aa, rfl, haa, hpa⟩ := HZ.out.yes hz1
                        obtain ⟨p9, hp9⟩ : ∃ p9, atP b pics = some p9 := Option.isSome_iff_exists.1 (by rw [hsm]; simp)
                        have HPA := Lib.hid hpa
                        have HDR := Lib.hid (fun (W : World) (hb : Below wc.heap.size wc W) => drop_yes w.heap.size g pics b p9 W (HSH.out.up hb) hwf (by omega) (by have := hb.size; have := hbel.size; omega) hp9)
                        obtain ⟨AP4, cP4, AQ4, cQ4, eP, hPc4, hPm4, eQ, hQc4, hQm4, hRP, hRQ⟩ := HLS.out.at_
                        injection eP with eP1 _ eP2
                        injection eQ with eQ1 _ eQ2
                        subst eP1 eP2 eQ1 eQ2
                        have hP1 := hRP.take (k := aa) (by omega)
                        have hQ1 := hRQ.take (k := aa) (by omega)
                        have hP3 := hRP.cut (k := aa + 1) (by omega) hPc4
                        have hQ3 := hRQ.cut (k := aa + 1) (by omega) hQc4
                        rw [Nat.mul_one, ← List.map_take] at hP1 hQ1
                        rw [Nat.mul_one, ← List.map_drop] at hP3 hQ3
                        have hown0 : wc.ownsRow wc.heap.size 3 1 (.slice none 0 0) 0 [] := World.ownsRow_nil _ _ _ _
                        have hj0 : (0 : Int) ≤ (aa : Int) := by omega
                        have hj1 : (aa : Int) ≤ (np : Int) := by omega
                        have hj2 : (aa : Int) + 1 ≤ (np : Int) := by omega
                        have hz5 : (0 + aa) * 8 ≤ 140737488355328 := by omega
                        have hz2 : (0 + aa) * 24 ≤ 140737488355328 := by omega
                        have hz3 : (0 + aa + (np - (aa + 1))) * 8 ≤ 140737488355328 := by omega
                        have hz4 : (0 + aa + (np - (aa + 1))) * 24 ≤ 140737488355328 := by omega
                        have HQQ := Lib.hid (fun (W : World) (hb : Below wc.heap.size wc W) => (⟨hQ1.below hb (Nat.le_refl _), hP3.below hb (Nat.le_refl _), hQ3.below hb (Nat.le_refl _)⟩ : Rd W wc.heap.size 1 AQ aa ((ks.take aa).map (kvS Af cf)) ∧ Rd W wc.heap.size 1 (if cP = aa + 1 then AP else AP.map (fun x => x.add (aa + 1))) (np - (aa + 1)) ((ps.drop (aa + 1)).map (Value.int .i64)) ∧ Rd W wc.heap.size 1 (if cQ = aa + 1 then AQ else AQ.map (fun x => x.add (aa + 1))) (np - (aa + 1)) ((ks.drop (aa + 1)).map (kvS Af cf))))
                        have haa2 := Lib.hid haa
                        clear hQ1 hP3 hQ3 hRP hRQ hpl hsm hz1 hpa hp9 haa hwf x0 x2
                        go_wp2_with (first
                          | (with_reducible show wpList _ _ _ (⟨some 191, _, _, _, _, _⟩ :: _) _ _; go_must (refine wpList_rd (.tmp 187) (.tmp 190) el_intP rfl rfl hown0 rfl hP1 rfl (ints_one _) hz5 (Nat.le_refl _) ?_); intro v1 w1 ho1 hb1 hg1 ha1; obtain ⟨r2, _, _⟩ := HQQ.out w1 hb1; have hn1 : w1.ownsRow wc.heap.size 23 1 (.slice none 0 0) 0 [] := World.ownsRow_nil _ _ _ _)
                          | (with_reducible show wpList _ _ _ (⟨some 196, _, _, _, _, _⟩ :: _) _ _; go_must (refine wpList_rd (.tmp 192) (.tmp 195) el_list rfl rfl hn1 rfl r2 rfl (kvs_one _ _ _) hz2 hb1.size ?_); intro v2 w2 ho2 hb2 hg2 ha2; have hP2 := own_far ho1 hg2 (fun g _ => nil_far g); have hbb2 := hb1.trans hb2; obtain ⟨_, r5, _⟩ := HQQ.out w2 hbb2)
                          | (with_reducible show wpList _ _ _ (⟨some 202, _, _, _, _, _⟩ :: _) _ _; go_must (refine wpList_rd (.tmp 197) (.tmp 201) el_intP rfl rfl hP2 rfl r5 rfl (ints_one _) hz3 hbb2.size ?_); intro v3 w3 ho3 hb3 hg3 ha3; have hQ3 := own_far ho2 hg3 (own_neS ho2 hP2 (by decide)); have hbb3 := hbb2.trans hb3; obtain ⟨_, _, r6⟩ := HQQ.out w3 hbb3)
                          | (with_reducible show wpList _ _ _ (⟨some 208, _, _, _, _, _⟩ :: _) _ _; go_must (refine wpList_rd (.tmp 203) (.tmp 207) el_list rfl rfl hQ3 rfl r6 rfl (kvs_one _ _ _) hz4 hbb3.size ?_); intro v4 w4 ho4 hb4 hg4 ha4; have hP4 := own_far ho3 hg4 (own_neS ho3 hQ3 (by decide)); have hbb4 := hbb3.trans hb4; have x14 := (hV.up hbb4).cell 1; simp only [List.getElem?_toArray, List.getElem?_cons_zero, List.getElem?_cons_succ] at x14; have hdr := HDR.out w4 hbb4)
                          | (go_at_call 9; go_must (refine hdr.mono ?_); rintro e w5 ⟨rfl, hs5, hb5, hk5⟩; have hbel5 := (hbel.trans (hbb4.mono hbel.size)).trans hb5; have hse := HSE.out 0 w5 hbel5)
                          | (go_at_call 7; go_must (refine hse.mono ?_); rintro e w6 ⟨rfl, hb6⟩))
                        all_goals
                          go_meet
                          have haa := haa2.out
                          exact ⟨np - 1, offI b pics, ps.take aa ++ ps.drop (aa + 1), ks.take aa ++ ks.drop (aa + 1), by omega, ((ListsAt.made hP4 ho4 (by omega) (by omega) (by simp) (by simp)).keep hk5).up hb6, hs5.up hb6, Lib.hid (HSIM.out.drop_ HPA.out), hbel5.trans (hb6.mono hbel5.size)⟩
                      · have hno : atP b pics = none := by
                          rcases h : atP b pics with _ | p
                          · rfl
                          · rw [h] at hsm; simp [hz1] at hsm
                        have hdr := drop_no w.heap.size g pics b wc HSH.out hwf hno
                        have hse := HSE.out 6 wc hbel
                        clear hno hpl hsm hwf
                        go_wp2_with (first
                          | (go_at_call 9; go_must (refine hdr.mono ?_); rintro e w5 ⟨rfl, rfl⟩)
                          | (go_at_call 7; go_must (refine hse.mono ?_); rintro e w6 ⟨rfl, hb6⟩))
                        go_meet
                        exact ⟨np, pics, ps, ks, by omega, HLS.out.up hb6, HSH.out.up hb6, HSIM, hbel.trans (hb6.mono hbel.size)⟩
                  · have h3 : a = 3 := by omega
                    subst h3
                    as_aux_lemma =>
                      have hpl := HPL.out
                      go_upto_if 222 with fail
                      obtain ⟨m1, hm1⟩ : ∃ m1 : Int, m1 = max 0 d := ⟨_, rfl⟩
                      have hm0 : 0 ≤ m1 := by omega
                      have hm2 : m1 ≤ 9223372036854775807 := by have := hv2.2; omega
                      have HM1 := Lib.hid hm1
                      clear hm1
                      go_cut [26] from 222 to 222 (fun e wx => e = .int .i64 m1 ∧ wx = wc)
                      case first =>
                        by_cases hd0 : d < 0
                        · have hm : Hid (m1 = 0) := Lib.hid (by have := HM1.out; omega)
                          go_wp2_with fail
                          go_meet
                          exact ⟨by rw [hm.out], rfl⟩
                        · have hm : Hid (m1 = d) := Lib.hid (by have := HM1.out; omega)
                          go_wp2_with fail
                          go_meet
                          exact ⟨by rw [hm.out], rfl⟩
                      case rest =>
                        obtain ⟨rfl, rfl⟩ := hcut
                        have hnp0 : (0 : Int) ≤ (np : Int) := by omega
                        have hnp1 : (np : Int) ≤ 60 := by omega
                        have hwr : IntKind.i64.wrap ((np : Int) - m1) = (np : Int) - m1 := IntWalk.i64_in _ (by omega)
                        go_upto_if 228 with fail
                        obtain ⟨G, hG⟩ : ∃ G, G = goneK d np := ⟨_, rfl⟩
                        have HG := Lib.hid hG
                        have hGn : G ≤ np := by rw [hG]; unfold goneK; omega
                        clear hG
                        go_cut [26] from 228 to 228 (fun e wx => e = .int .i64 (G : Int) ∧ wx = wc)
                        case first =>
                          by_cases hd0 : (np : Int) - m1 < 0
                          · have hm : Hid ((G : Int) = 0) := Lib.hid (by have h1 := HM1.out; have h2 := HG.out; unfold goneK at h2; omega)
                            go_wp2_with fail
                            go_meet
                            exact ⟨by rw [hm.out], rfl⟩
                          · have hm : Hid ((G : Int) = np - m1) := Lib.hid (by have h1 := HM1.out; have h2 := HG.out; unfold goneK at h2; omega)
                            go_wp2_with fail
                            go_meet
                            exact ⟨by rw [hm.out], rfl⟩
                        case rest =>
                          obtain ⟨rfl, rfl⟩ := hcut
                          have hkp := keep_any w.heap.size g pics d wc HSH.out (by omega) hbel.size hv2.1 hv2.2
                          rw [HSIM.out.numsL_, HPL.out, ← HG.out] at hkp
                          obtain ⟨AP4, cP4, AQ4, cQ4, eP, hPc4, hPm4, eQ, hQc4, hQm4, hRP, hRQ⟩ := HLS.out.at_
                          injection eP with eP1 _ eP2
                          injection eQ with eQ1 _ eQ2
                          subst eP1 eP2 eQ1 eQ2
                          have hP1 := hRP.take hGn
                          rw [Nat.mul_one, ← List.map_take] at hP1
                          have HIN := Lib.hid (fun (W : World) (A : Option Addr) (c : Nat) (hb : KeepF offMap wc W) (hr : Rd W W.heap.size 1 A G ((ps.take G).map (Value.int .i64))) => ints_any A AP c cP W.heap.size W.heap.size G (ps.take G) W hr ((hP1.keepM hb).more hb.size) (by omega))
                          have HLT := Lib.hid (fun (W : World) (hk : KeepF offMap wc W) => (HLS.out.keep hk).tail hGn)
                          clear hRP hRQ hP1 hm0 hm2 hwr hpl
                          have hg0 : (0 : Int) ≤ (G : Int) := by omega
                          have hg1 : (G : Int) ≤ (np : Int) := by omega
                          go_wp2_with (first
                            | (go_at_call 10; go_must (refine hkp.mono ?_); rintro e w5 ⟨A5, c5, rfl, hr5, hs5, hb5, hk5⟩; have hin := HIN.out w5 A5 c5 hk5 hr5; have hbel5 := hbel.trans hb5)
                            | (go_at_call 11; go_must (refine hin.mono ?_); rintro e w6 ⟨rfl, hb6⟩))
                          all_goals
                            go_meet
                            refine ⟨np - G, offMany pics (ps.take G), ps.drop G, ks.drop G, by omega, ?_, hs5.up hb6, Lib.hid (HSIM.out.keep_ G), hbel5.trans (hb6.mono hbel5.size)⟩
                            have h := (HLT.out _ hk5).up hb6
                            (split at h) <;> (try split at h) <;> first
                              | (exfalso; omega)
                              | exact h
                              | (have z1 : cP - G = 0 := by omega
                                 have z2 : cQ - G = 0 := by omega
                                 rw [z1, z2] at h; exact h)
                              | (have z1 : cP - G = 0 := by omega
                                 rw [z1] at h; exact h)
                              | (have z2 : cQ - G = 0 := by omega
                                 rw [z2] at h; exact h)
              · as_aux_lemma =>
                  have n0 : ¬ a = 0 := fun h => hkind (.inl h)
                  have n1 : ¬ a = 1 := fun h => hkind (.inr (.inl h))
                  have n2 : ¬ a = 2 := fun h => hkind (.inr (.inr (.inl h)))
                  have n3 : ¬ a = 3 := fun h => hkind (.inr (.inr (.inr h)))
                  clear hkind
                  go_wp2_with fail
                  go_meet
                  exact ⟨np, pics, ps, ks, by omega, HLS.out, HSH.out, HSIM, hbel⟩
            case rest =>
              as_aux_lemma =>
                clear hV x0 x1 x2 hbq hlv HZ hkn hkc hv1 hv2 HLS HSH hbel hbo
                obtain ⟨np2, pics2, ps2, ks2, hnp2, hls2, hsh2, HS2, hbel2⟩ := hcut
                obtain ⟨AP2, cP2, AQ2, cQ2, rfl, hPc2, hPm2, rfl, hQc2, hQm2, hRP, hRQ⟩ := hls2.at_
                have hpl2 : pics2.length = np2 := HS2.out.plen.trans hls2.pl
                have hpc := pictures_any w.heap.size g pics2 wc hsh2 (by omega)
                rw [HS2.out.numsL_, hpl2] at hpc
                have HIN := Lib.hid (fun (W : World) (A : Option Addr) (c : Nat) (hb : Below wc.heap.size wc W) (hr : Rd W W.heap.size 1 A np2 (ps2.map (Value.int .i64))) => ints_any A AP2 c cP2 W.heap.size W.heap.size np2 ps2 W hr ((hRP.below hb (Nat.le_refl _)).more hb.size) (by omega))
                have HKL2 := Lib.hid hls2.kl
                go_upto_region 82 with (first
                  | (go_at_call 12; go_must (refine hpc.mono ?_); rintro e w5 ⟨v5, rfl, hown5, hb5⟩; obtain ⟨A5, c5, rfl, _, _, _, hr5⟩ := own_form hown5; have hin := HIN.out w5 A5 c5 hb5 hr5)
                  | (go_at_call 11; go_must (refine hin.mono ?_); rintro e w6 ⟨rfl, hb6⟩))
                have hb56 := hb5.trans (hb6.mono hb5.size)
                have hls6 := hls2.up hb56
                have hsh6 := hsh2.up hb56
                have hbel6 := hbel2.trans (hb56.mono hbel2.size)
                have hRQ6 := hRQ.below hb56 (Nat.le_refl _)
                have hrf6 := hrf.below hbel6 (Nat.le_refl _)
                have hcz := hb56.size
                clear hpc HIN hin hr5 hown5 hRP hRQ hb5 hb6 hls2 hsh2 hbel2
                obtain ⟨fL, hfL⟩ : ∃ fL, fL = cntL fs ks2 := ⟨_, rfl⟩
                have HFL := Lib.hid hfL
                clear hfL
                obtain ⟨BQ, hBQ⟩ : ∃ BQ, BQ = wc.heap.size := ⟨_, rfl⟩
                rw [← hBQ] at hRQ6
                clear hBQ
                go_upto_block 11 with fail
                go_cut [30, 31, 32, 33, 34, 35, 36, 37] from 252 to 322 (fun e _ _ _ _ _ _ _ wx => e = .int .i64 ((firstsL fL fs nf).length : Nat) ∧ ∃ q, wx = w6.drewN q)
                case first =>
                  as_aux_lemma =>
                    go_wp2_with fail
                    go_loopw [30, 31, 32, 33, 34, 35, 36, 37] (fun e x _ _ _ _ _ _ wx => ∃ m q : Nat, m ≤ nf ∧ x = .int .i64 m ∧ e = .int .i64 ((firstsL fL fs m).length : Nat) ∧ wx = w6.drewN q) (fun _ x _ _ _ _ _ _ _ => nf - (intOf x).toNat)
                    case atStart => exact ⟨0, 0, Nat.zero_le _, rfl, rfl, rfl⟩
                    rename World => wq
                    obtain ⟨m, q, hm, rfl, rfl, hw⟩ := hrel
                    have HW := Lib.hid hw
                    obtain ⟨fn, hfn⟩ : ∃ fn, fn = (firstsL fL fs m).length := ⟨_, rfl⟩
                    have hfnm : fn ≤ m := by rw [hfn]; exact firsts_le m
                    rw [← hfn]
                    have HFN := Lib.hid hfn
                    clear hfn
                    by_cases hmn : m < nf
                    · obtain ⟨adf, rfl, _, f0⟩ := hrf6.str_ hmn
                      obtain ⟨M, hM⟩ : ∃ M, M = strAt fs m := ⟨_, rfl⟩
                      rw [← hM] at f0
                      have HM := Lib.hid hM
                      clear hM
                      have hm0 : (0 : Int) ≤ (m : Int) := by omega
                      have hm1 : (m : Int) < (nf : Int) := by omega
                      have hfq : wq.cell? (adf.add m) = some (.string M) := by rw [hw]; exact f0
                      clear hw
                      go_upto_block 13 with fail
                      go_cut [32, 33, 34, 35] from 258 to 290 (fun e _ _ _ wx => e = .int .i64 (cntL fs ks2 M : Nat) ∧ ∃ q, wx = w6.drewN q)
                      case first =>
                        as_aux_lemma =>
                          go_wp2_with fail
                          go_loopw [32, 33, 34, 35] (fun e x _ _ wx => ∃ p q : Nat, p ≤ np2 ∧ x = .int .i64 p ∧ e = .int .i64 (cntL fs (ks2.take p) M : Nat) ∧ wx = w6.drewN q) (fun _ x _ _ _ => np2 - (intOf x).toNat)
                          case atStart => exact ⟨0, q, Nat.zero_le _, rfl, rfl, HW.out⟩
                          rename World => wp2
                          obtain ⟨p, q2, hp, rfl, rfl, hw⟩ := hrel
                          have HW2 := Lib.hid hw
                          obtain ⟨cn, hcn⟩ : ∃ cn, cn = cntL fs (ks2.take p) M := ⟨_, rfl⟩
                          have hcnp : cn ≤ np2 := by
                            rw [hcn]
                            exact Nat.le_trans (cntL_le _ _ _) (by rw [List.length_take]; have := HKL2.out; omega)
                          rw [← hcn]
                          have HCN := Lib.hid hcn
                          clear hcn
                          by_cases hpn : p < np2
                          · obtain ⟨k, hk⟩ : ∃ k, ks2[p]? = some k := ⟨_, List.getElem?_eq_getElem (by have := HKL2.out; omega)⟩
                            have hkf : k ≤ nf := by have := HS2.out.fit k (List.mem_of_getElem? hk); have := HNF.out; omega
                            obtain ⟨adp, u, rfl, _, hu, p0⟩ := hRQ6.at_ hpn
                            rw [List.getElem?_map, hk] at hu
                            injection hu with hu
                            subst hu
                            have HCS := Lib.hid (cntL_step (fs := fs) M hk)
                            have p1 : wp2.cell? (adp.add p) = some (.slice (some adf) k cf) := by rw [hw]; exact p0
                            have hp0 : (0 : Int) ≤ (p : Int) := by omega
                            have hp1 : (p : Int) < (np2 : Int) := by omega
                            clear hk hw p0
                            obtain ⟨inB, hin⟩ : ∃ inB, inB = anyN fs M k := ⟨_, rfl⟩
                            have HIN := Lib.hid hin
                            clear hin
                            go_upto_block 15 with fail
                            go_cut [34, 35] from 264 to 287 (fun e _ wx => e = .bool inB ∧ ∃ q, wx = w6.drewN q)
                            case first =>
                              as_aux_lemma =>
                                go_wp2_with fail
                                go_loopw [34, 35] (fun e x wx => ∃ j q : Nat, j ≤ k ∧ x = .int .i64 j ∧ e = .bool (anyN fs M j) ∧ wx = w6.drewN q) (fun _ x _ => k - (intOf x).toNat)
                                case atStart => exact ⟨0, q2, Nat.zero_le _, rfl, rfl, HW2.out⟩
                                rename World => wj
                                obtain ⟨j, q3, hj, rfl, rfl, hw⟩ := hrel
                                have HW3 := Lib.hid hw
                                by_cases hjk : j < k
                                · have hjf : j < fs.length := by have := HNF.out; omega
                                  obtain ⟨adj, eA, _, j0⟩ := hrf6.str_ (k := j) (by omega)
                                  injection eA with eA
                                  subst eA
                                  have hj0 : (0 : Int) ≤ (j : Int) := by omega
                                  have hj1 : (j : Int) < (k : Int) := by omega
                                  have p2 : wj.cell? (adp.add p) = some (.slice (some adf) k cf) := by rw [hw]; rw [HW2.out] at p1; exact p1
                                  have f2 : wj.cell? (adf.add m) = some (.string M) := by rw [hw]; exact f0
                                  have j2 : wj.cell? (adf.add j) = some (.string (strAt fs j)) := by rw [hw]; exact j0
                                  have hst := anyN_step M hjf
                                  have HST := Lib.hid hst
                                  clear hst hjf j0 hw
                                  rcases hb : anyN fs M j
                                  · by_cases hsm : strAt fs j = M
                                    · rw [hsm] at j2
                                      have HS8 : Hid (anyN fs M (j + 1) = true) := Lib.hid (by rw [HST.out, hsm]; simp)
                                      clear hb hsm
                                      go_wp2_with fail
                                      go_quiet (fail)
                                      go_wp2_with fail
                                      go_roundw
                                      case rel => exact ⟨j + 1, q3 + nq, by omega, by go_num, by rw [HS8.out], by rw [HW3.out, World.drewN_drewN]⟩
                                      case measure => simp [intOf]; omega
                                    · have hbe := bytes_ne hsm
                                      have HS8 : Hid (anyN fs M (j + 1) = false) := Lib.hid (by rw [HST.out, hb]; simp [hsm])
                                      clear hb hsm
                                      go_wp2_with fail
                                      go_quiet (fail)
                                      go_wp2_with fail
                                      go_roundw
                                      case rel => exact ⟨j + 1, q3 + nq, by omega, by go_num, by rw [HS8.out], by rw [HW3.out, World.drewN_drewN]⟩
                                      case measure => simp [intOf]; omega
                                  · have HS8 : Hid (anyN fs M (j + 1) = true) := Lib.hid (by rw [HST.out, hb]; simp)
                                    clear hb
                                    go_wp2_with fail
                                    go_quiet (fail)
                                    go_wp2_with fail
                                    go_roundw
                                    case rel => exact ⟨j + 1, q3 + nq, by omega, by go_num, by rw [HS8.out], by rw [HW3.out, World.drewN_drewN]⟩
                                    case measure => simp [intOf]; omega
                                · obtain rfl : j = k := by omega
                                  have p2 : wj.cell? (adp.add p) = some (.slice (some adf) j cf) := by rw [hw]; rw [HW2.out] at p1; exact p1
                                  have hj1 : ¬ (j : Int) < (j : Int) := by omega
                                  clear hw
                                  go_wp2_with fail
                                  go_meet
                                  exact ⟨by rw [HIN.out], q3, HW3.out⟩
                            case rest =>
                              obtain ⟨rfl, q3, hw⟩ := hcut
                              have HW3 := Lib.hid hw
                              clear hw
                              rcases inB
                              · have HC8 : Hid (cntL fs (ks2.take (p + 1)) M = cn) := Lib.hid (by rw [HCS.out, ← HIN.out, ← HCN.out]; rfl)
                                go_wp2_with fail
                                go_roundw
                                case rel => exact ⟨p + 1, q3, by omega, by go_num, by rw [HC8.out], HW3.out⟩
                                case measure => simp [intOf]; omega
                              · have HC8 : Hid (cntL fs (ks2.take (p + 1)) M = cn + 1) := Lib.hid (by rw [HCS.out, ← HIN.out, ← HCN.out]; rfl)
                                have hc0 : (0 : Int) ≤ (cn : Int) := by omega
                                have hc1 : (cn : Int) ≤ 61 := by omega
                                go_wp2_with fail
                                go_roundw
                                case rel => exact ⟨p + 1, q3, by omega, by go_num, by rw [HC8.out]; go_num, HW3.out⟩
                                case measure => simp [intOf]; omega
                          · obtain rfl : p = np2 := by omega
                            have HC8 : Hid (cntL fs ks2 M = cn) := Lib.hid (by rw [HCN.out, List.take_of_length_le (by rw [HKL2.out]; exact Nat.le_refl _)])
                            have hp1 : ¬ (p : Int) < (p : Int) := by omega
                            clear hw
                            go_wp2_with fail
                            go_meet
                            exact ⟨by rw [HC8.out], q2, HW2.out⟩
                      case rest =>
                        as_aux_lemma =>
                          obtain ⟨rfl, q2, hw⟩ := hcut
                          have hbq : Below w6.heap.size w6 wc := by rw [hw]; exact below_drewN (Below.refl _ _) _
                          have hct := count_any w.heap.size g pics2 M wc (hsh6.up hbq) (HSZ.out M (by rw [HM.out]; exact List.mem_of_getElem? (strAt_get (by have := HNF.out; omega))))
                          have hcnt : cntP pics2 M = cntL fs ks2 M := HS2.out.cnt M
                          rw [hcnt] at hct
                          clear hcnt
                          have HW2 := Lib.hid hw
                          have f2 : wc.cell? (adf.add m) = some (.string M) := by rw [hw]; exact f0
                          obtain ⟨C, hC⟩ : ∃ C, C = cntL fs ks2 M := ⟨_, rfl⟩
                          have hC1 : C ≤ np2 := by
                            rw [hC]
                            exact Nat.le_trans (cntL_le _ _ _) (by rw [HKL2.out]; exact Nat.le_refl _)
                          rw [← hC] at hct
                          rw [← hC]
                          have HC := Lib.hid hC
                          clear hC hw hfq hbq
                          obtain ⟨fb, hfb⟩ : ∃ fb, fb = !anyN fs M m := ⟨_, rfl⟩
                          have HFB := Lib.hid hfb
                          clear hfb
                          have HNB : Hid (newB fL fs m = (decide (0 < C) && fb)) := Lib.hid (by rw [newB_eq, ← HM.out, HFL.out, ← HC.out, ← HFB.out])
                          go_upto_block 17 with (go_at_call 13; go_must (refine hct.mono ?_); rintro e w8 ⟨rfl, rfl⟩)
                          clear hct
                          go_cut [36, 37] from 299 to 315 (fun e _ wx => e = .bool fb ∧ ∃ q, wx = w6.drewN q)
                          case first =>
                            go_wp2_with fail
                            go_loopw [36, 37] (fun e x wx => ∃ (j q : Nat) (tb : Bool), j ≤ m ∧ x = .int .i64 j ∧ e = .bool tb ∧ Hid (tb = !anyN fs M j) ∧ wx = w6.drewN q) (fun _ x _ => m - (intOf x).toNat)
                            case atStart => exact ⟨0, q2, true, Nat.zero_le _, rfl, rfl, Lib.hid rfl, HW2.out⟩
                            rename World => wj
                            obtain ⟨j, q3, tb, hj, rfl, rfl, HTB, hw⟩ := hrel
                            have HW3 := Lib.hid hw
                            by_cases hjk : j < m
                            · have hjf : j < fs.length := by have := HNF.out; omega
                              obtain ⟨adj, eA, _, j0⟩ := hrf6.str_ (k := j) (by omega)
                              injection eA with eA
                              subst eA
                              have hj0 : (0 : Int) ≤ (j : Int) := by omega
                              have hj1 : (j : Int) < (m : Int) := by omega
                              have f3 : wj.cell? (adf.add m) = some (.string M) := by rw [hw]; exact f0
                              have j2 : wj.cell? (adf.add j) = some (.string (strAt fs j)) := by rw [hw]; exact j0
                              have hst := anyN_step M hjf
                              have HST := Lib.hid hst
                              clear hst hjf j0 hw
                              rcases tb
                              · have HS8 : Hid (false = !anyN fs M (j + 1)) := Lib.hid (by have := HTB.out; rw [HST.out]; revert this; rcases anyN fs M j <;> simp)
                                go_wp2_with fail
                                go_quiet (fail)
                                go_wp2_with fail
                                go_roundw
                                case rel => exact ⟨j + 1, q3 + nq, false, by omega, by go_num, rfl, HS8, by rw [HW3.out, World.drewN_drewN]⟩
                                case measure => simp [intOf]; omega
                              · by_cases hsm : strAt fs j = M
                                · rw [hsm] at j2
                                  have HS8 : Hid (false = !anyN fs M (j + 1)) := Lib.hid (by rw [HST.out, hsm]; simp)
                                  clear hsm
                                  go_wp2_with fail
                                  go_quiet (fail)
                                  go_wp2_with fail
                                  go_roundw
                                  case rel => exact ⟨j + 1, q3 + nq, false, by omega, by go_num, rfl, HS8, by rw [HW3.out, World.drewN_drewN]⟩
                                  case measure => simp [intOf]; omega
                                · have hbe := bytes_ne hsm
                                  have HS8 : Hid (true = !anyN fs M (j + 1)) := Lib.hid (by rw [HST.out, HTB.out]; simp [hsm])
                                  clear hsm
                                  go_wp2_with fail
                                  go_quiet (fail)
                                  go_wp2_with fail
                                  go_roundw
                                  case rel => exact ⟨j + 1, q3 + nq, true, by omega, by go_num, rfl, HS8, by rw [HW3.out, World.drewN_drewN]⟩
                                  case measure => simp [intOf]; omega
                            · obtain rfl : j = m := by omega
                              have hj1 : ¬ (j : Int) < (j : Int) := by omega
                              clear hw
                              go_wp2_with fail
                              go_meet
                              exact ⟨by rw [HFB.out, ← HTB.out], q3, HW3.out⟩
                          case rest =>
                            obtain ⟨rfl, q3, hw⟩ := hcut
                            have HW3 := Lib.hid hw
                            clear hw
                            have HLN2 := Lib.hid (firstsL_len fL fs m)
                            have hn0 : (0 : Int) ≤ (fn : Int) := by omega
                            have hn1 : (fn : Int) ≤ 140737488355328 := by omega
                            by_cases hC0 : 0 < C
                            · have hc0 : (0 : Int) < (C : Int) := by omega
                              rcases fb
                              · have HF8 : Hid ((firstsL fL fs (m + 1)).length = fn) := Lib.hid (by rw [HLN2.out, HNB.out, ← HFN.out]; simp)
                                go_wp2_with fail
                                go_roundw
                                case rel => exact ⟨m + 1, q3, by omega, by go_num, by rw [HF8.out], HW3.out⟩
                                case measure => simp [intOf]; omega
                              · have HF8 : Hid ((firstsL fL fs (m + 1)).length = fn + 1) := Lib.hid (by rw [HLN2.out, HNB.out, ← HFN.out]; simp [hC0])
                                go_wp2_with fail
                                go_roundw
                                case rel => exact ⟨m + 1, q3, by omega, by go_num, by rw [HF8.out]; go_num, HW3.out⟩
                                case measure => simp [intOf]; omega
                            · have HF8 : Hid ((firstsL fL fs (m + 1)).length = fn) := Lib.hid (by rw [HLN2.out, HNB.out, ← HFN.out]; simp [hC0])
                              have hc0 : ¬ (0 : Int) < (C : Int) := by omega
                              go_wp2_with fail
                              go_roundw
                              case rel => exact ⟨m + 1, q3, by omega, by go_num, by rw [HF8.out], HW3.out⟩
                              case measure => simp [intOf]; omega
                    · obtain rfl : m = nf := by omega
                      have hm1 : ¬ (m : Int) < (m : Int) := by omega
                      clear hw
                      go_wp2_with fail
                      go_meet
                      exact ⟨by rw [HFN.out], q, HW.out⟩
                case rest =>
                  as_aux_lemma =>
                    obtain ⟨rfl, q, hw⟩ := hcut
                    have hbq : Below w6.heap.size w6 wc := by rw [hw]; exact below_drewN (Below.refl _ _) _
                    have hbel := hbel6.trans (hbq.mono hbel6.size)
                    have HLS := Lib.hid (hls6.up hbq)
                    have HSH := Lib.hid (hsh6.up hbq)
                    have hlv := live_any w.heap.size g pics2 wc HSH.out (by omega)
                    obtain ⟨fn, hfn⟩ : ∃ fn, fn = (firstsL fL fs nf).length := ⟨_, rfl⟩
                    have hfnm : fn ≤ nf := by rw [hfn]; exact firsts_le nf
                    have HFN := Lib.hid hfn
                    rw [← hfn]
                    have HLL := Lib.hid (fun (lv : List ByteArray) (h1 : riseK lv) (h2 : ∀ m, m ∈ lv ↔ 0 < cntP pics2 m) => show lv.length = fn from by
                      rw [HFN.out, HFL.out, ← HNF.out]
                      exact live_len h1 fun m => (h2 m).trans (by rw [HS2.out.cnt m]; exact Iff.rfl))
                    clear hfn hw hbq hls6 hsh6 hbel6 hb56 hRQ6 hrf6 hcz
                    go_upto_block 19 with (go_at_call 14; go_must (refine hlv.mono ?_); rintro e w8 ⟨v8, lv, rfl, ho8, hrise, hmem, hb8⟩; rw [HLL.out lv hrise hmem] at ho8; obtain ⟨A8, c8, rfl, hc8, hm8, _, hr8⟩ := own_form ho8)
                    have HLV := Lib.hid (HLL.out lv hrise hmem)
                    have HRI := Lib.hid hrise
                    have hbel8 := hbel.trans (hb8.mono hbel.size)
                    have HLS8 := Lib.hid (HLS.out.up hb8)
                    have HSH8 := Lib.hid (HSH.out.up hb8)
                    clear hrise hmem ho8 hlv
                    go_wp2_with fail
                    go_loopw [39] (fun x wx => ∃ j q : Nat, j ≤ fn ∧ x = .int .i64 ((j : Int) + 1) ∧ wx = w8.drewN q) (fun x _ => fn + 1 - (intOf x).toNat)
                    case atStart => exact ⟨0, 0, Nat.zero_le _, rfl, rfl⟩
                    rename World => wl
                    obtain ⟨j, q3, hj, rfl, hw⟩ := hrel
                    have HW3 := Lib.hid hw
                    have hj0 : (0 : Int) ≤ (j : Int) := by omega
                    have hj9 : (j : Int) + 1 ≤ 140737488355330 := by omega
                    by_cases hjn : j + 1 < fn
                    · obtain ⟨adl, rfl, _, l0⟩ := (show Rd wl w8.heap.size 1 A8 fn (lv.map sv) by rw [hw]; exact hr8.drewN q3).str_ (k := j) (by omega)
                      obtain ⟨adm, eA, _, l1⟩ := (show Rd wl w8.heap.size 1 (some adl) fn (lv.map sv) by rw [hw]; exact hr8.drewN q3).str_ (k := j + 1) hjn
                      injection eA with eA
                      subst eA
                      have l2 : wl.cell? ⟨adl.block, adl.off + (j + 1), none⟩ = some (.string (strAt lv (j + 1))) := by
                        rw [show (⟨adl.block, adl.off + (j + 1), none⟩ : Addr) = adl.add (j + 1) from by unfold Addr.add; rw [if_neg (by omega)]]; exact l1
                      have hle : Op.bytesLess (strAt lv j).toList (strAt lv (j + 1)).toList = true := by
                        have h := rise_at (j := j + 1) HRI.out (by omega) (by rw [HLV.out]; exact hjn)
                        rwa [Nat.add_sub_cancel] at h
                      have hj1 : (j : Int) + 1 < (fn : Int) := by omega
                      have f5 : IntKind.i64.wrap ((j : Int) + 1 - 1) = (j : Int) := by rw [IntWalk.i64_in _ (by omega)]; omega
                      have f6 : ((j : Int) + 1).toNat = j + 1 := by omega
                      have f7 : IntKind.i64.wrap (j : Int) = (j : Int) := IntWalk.i64_in _ (by omega)
                      have hj2 : (j : Int) < (fn : Int) := by omega
                      have hj3 : (0 : Int) ≤ (j : Int) + 1 := by omega
                      clear hw
                      go_wp2_with fail
                      go_quiet (fail)
                      go_wp2_with fail
                      go_roundw
                      case rel => exact ⟨j + 1, q3 + nq, by omega, by go_num, by rw [HW3.out, World.drewN_drewN]⟩
                      case measure => simp [intOf]; omega
                    · have hj1 : ¬ (j : Int) + 1 < (fn : Int) := by omega
                      have hbl : Below w8.heap.size w8 wl := by rw [hw]; exact below_drewN (Below.refl _ _) _
                      clear hw
                      go_wp2_with fail
                      go_roundw
                      case rel => exact ⟨i + 1, np2, pics2, ps2, ks2, by omega, by omega, by omega, by go_num, HLS8.out.up hbl, HSH8.out.up hbl, HS2.out, hbel8.trans (hbl.mono hbel8.size)⟩
                      case measure => simp [intOf]; omega
  · as_aux_lemma =>
      by_cases hn : i < n
      · have hi1 : (i : Int) < (n : Int) := by omega
        have hi2 : ¬ (i : Int) < 60 := by omega
        clear hlt
        go_wp2_with fail
        go_ret
        exact ⟨rfl, hbel⟩
      · have hi1 : ¬ (i : Int) < (n : Int) := by omega
        clear hlt
        go_wp2_with fail
        go_ret
        exact ⟨rfl, hbel⟩
end Go.Proofs.YtmeemcafjebanaaGreatDoor
