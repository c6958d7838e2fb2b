/- The walk of slices.symMergeCmpFunc at records: the two halves, and all of it. -/
import Derived.Test.YtelailhghhjleaaWalkSymK2
namespace Go.Proofs.Ytelailhghhjleaa
open Go.RowKit Go.Sort Go.Shelf Go.Lib

section
variable {α : Type} [Inhabited α] {enc : α → List Value} {k : Nat} {cf : α → α → Int} {g : Nat} {cb : Array Value} {blk off N : Nat} {d0 : Array α} {w0 : World}
set_option maxRecDepth 1000000 in
set_option maxHeartbeats 16000000 in
theorem symK_gen (H : Srt enc k cf g cb blk off N d0 w0) (cap a m b : Nat) (x U V y : List α) (w : World) (ha : a = x.length) (hm : m = a + U.length) (hb : b = m + V.length) (hN : N = b + y.length) (hU1 : 1 < U.length) (hV1 : 1 < V.length) (hU : Up (ltOf cf) U) (hV : Up (ltOf cf) V)
    (hrec : ∀ (x' U' V' y' : List α) (a' m' b' : Nat) (w' : World), U'.length + V'.length < U.length + V.length → 0 < U'.length → 0 < V'.length → a' = x'.length → m' = a' + U'.length → b' = m' + V'.length → N = b' + y'.length → Up (ltOf cf) U' → Up (ltOf cf) V' →
      SWK enc k w0 blk off (x' ++ (U' ++ (V' ++ y'))).toArray w' →
      Calls Try.prog 69 #[.slice (some ⟨blk, off, none⟩) N cap, .int .i64 a', .int .i64 m', .int .i64 b', .func (.func g) #[] cb] w' fun e w'' =>
        e = .returned (.tuple #[]) ∧ ∃ W, MergedTo (ltOf cf) x' U' V' y' W ∧ SWK enc k w0 blk off (x' ++ (W ++ y')).toArray w'')
    (S : SWK enc k w0 blk off (x ++ (U ++ (V ++ y))).toArray w) :
    Calls Try.prog 69 #[.slice (some ⟨blk, off, none⟩) N cap, .int .i64 a, .int .i64 m, .int .i64 b, .func (.func g) #[] cb] w fun e w' =>
      e = .returned (.tuple #[]) ∧ ∃ W, MergedTo (ltOf cf) x U V y W ∧ SWK enc k w0 blk off (x ++ (W ++ y)).toArray w' := by
  have mixed := mixed_
  have aE := aggRec
  have zE := H.zE
  have eg := H.enters
  have hsz := H.small
  obtain ⟨u, hu⟩ : ∃ u, u = U.length := ⟨_, rfl⟩
  obtain ⟨v, hv⟩ : ∃ v, v = V.length := ⟨_, rfl⟩
  have ham : a + 1 < m := by omega
  have hmb : m + 1 < b := by omega
  have hbN : b ≤ N := by omega
  obtain ⟨d, hd⟩ : ∃ d, d = (a + b) / 2 := ⟨_, rfl⟩
  have ed : ((a : Int) + (b : Int)) / 2 = (d : Int) := by omega
  have hd1 : 2 * d ≤ a + b := by omega
  have hd2 : a + b ≤ 2 * d + 1 := by omega
  have HSY0 := Lib.hid (fun lo hi s hlo hhi h0 h1 hf => symAt_of (y := y) H.swo hU hV ha hm hb rfl (by omega) (by omega) (lo := lo) (hi := hi) (s := s) hlo hhi h0 h1 hf)
  rw [← hd] at HSY0
  obtain ⟨D, hD⟩ : ∃ D, D = (x ++ (U ++ (V ++ y))).toArray := ⟨_, rfl⟩
  have HDE := Lib.hid hD
  rw [← hD] at HSY0
  have S0 : Aside (SWK enc k w0 blk off D w) := by rw [hD]; exact S
  have HSZ : Hid (D.size = N) := Lib.hid (by rw [hD]; simp; omega)
  have HSU : Hid (SortedIn (ltOf cf) a m D) := Lib.hid (by rw [hD]; exact sortedIn_of_up hU ha (by omega))
  have HSV : Hid (SortedIn (ltOf cf) m b D) := Lib.hid (by
    have := sortedIn_of_up (x := x ++ U) (y := y) hV (a := m) (b := b) (by simp; omega) (by simp; omega)
    rw [List.append_assoc] at this
    rw [hD]; exact this)
  have k0 : ((m : Int) - (a : Int) == 1) = false := by simp; omega
  have k1 : ((b : Int) - (m : Int) == 1) = false := by simp; omega
  have HLEN := Lib.hid (And.intro ha (And.intro hm (And.intro hb hN)))
  clear S hd hD hu hv ha hm hb hN
  go_enter Try.func69, Try.ntmps69
  by_cases hdm : d < m
  · obtain ⟨lo, hlo⟩ : ∃ lo, lo = d + m - b := ⟨_, rfl⟩
    have elo : (d : Int) + (m : Int) - (b : Int) = (lo : Int) := by omega
    have hlo1 : lo + b ≤ d + m := by omega
    have hlo2 : d + m ≤ lo + b := by omega
    have HFALL : Hid (Falls (fun c => !ltOf cf D[d + m - 1 - c]! D[c]!) lo d) := Lib.hid (falls_sym H.swo HSU.out HSV.out (by omega) (by omega) (by omega) (by omega))
    have HF := Lib.hid (Found.start (fun c => !ltOf cf D[d + m - 1 - c]! D[c]!) lo d)
    have HSY := Lib.hid (fun s h0 h1 hf => HSY0.out lo d s (by rw [if_pos hdm]; exact hlo) (by rw [if_pos hdm]) h0 h1 hf)
    clear hlo HSU HSV HSY0
    go_wp2
    go_loopg [20, 21] (d - lo) (fun g1 vi vj wr => ∃ s r : Nat, vi = .int .i64 s ∧ vj = .int .i64 r ∧ lo ≤ s ∧ s ≤ r ∧ r ≤ d ∧ r - s ≤ g1 ∧ Hid (Found (fun c => !ltOf cf D[d + m - 1 - c]! D[c]!) lo d s r) ∧ Aside (SWK enc k w0 blk off D wr))
    case atStart => exact ⟨lo, d, by first | rfl | (congr 1; omega), rfl, Nat.le_refl _, by omega, Nat.le_refl _, by omega, HF, S0⟩
    case round =>
      clear S0 HF
      obtain ⟨s, r, rfl, rfl, hls, hsr, hrh, hg, HF, S⟩ := hrel
      by_cases hlt : s < r
      · obtain ⟨c, hcc⟩ : ∃ c, c = (s + r) / 2 := ⟨_, rfl⟩
        have ec : ((s : Int) + (r : Int)) / 2 = (c : Int) := by omega
        have hsc : s ≤ c := by omega
        have hcr : c < r := by omega
        obtain ⟨q, hq⟩ : ∃ q, q = d + m - 1 - c := ⟨_, rfl⟩
        have eq1 : (d : Int) + (m : Int) - 1 - (c : Int) = (q : Int) := by omega
        have hqN : q < N := by omega
        have rq : IntKind.i64.wrap ((d : Int) + (m : Int) - 1 - (c : Int)) = (q : Int) := by rw [IntKind.wrap_i64]; omega
        have rq2 : IntKind.i64.wrap (q : Int) = (q : Int) := by rw [IntKind.wrap_i64]; omega
        have LI : q < D.size := by have := HSZ.out; omega
        have LJ : c < D.size := by have := HSZ.out; omega
        have HQ := Lib.hid hq
        clear hcc hq
        have l1 := fun n os => S.out.ld H.row (HSZ.out.trans H.size.symm) Try.prog q LI n os
        have l2 := fun n os => S.out.ld H.row (HSZ.out.trans H.size.symm) Try.prog c LJ n os
        have hcg := fun n os => S.out.cmp H.cmp HSZ.out D[q]! D[c]! n os
        obtain ⟨x1, hx1⟩ : ∃ x, x = D[q]! := ⟨_, rfl⟩
        obtain ⟨x2, hx2⟩ : ∃ x, x = D[c]! := ⟨_, rfl⟩
        rw [← hx1] at l1 hcg
        rw [← hx2] at l2 hcg
        have HX := Lib.hid (And.intro hx1 hx2)
        have SG := fun n os => S.out.grown n os
        clear S hx1 hx2
        have SGA : Aside _ := SG
        clear SG
        have p0 : (0 : Int) ≤ (q : Int) := by omega
        have p1 : (q : Int) < (N : Int) := by omega
        have p2 : (0 : Int) ≤ (c : Int) := by omega
        have p3 : (c : Int) < (N : Int) := by omega
        clear LI LJ
        by_cases hc : cf x1 x2 < 0
        · have HF2 : Hid (Found (fun c => !ltOf cf D[d + m - 1 - c]! D[c]!) lo d s c) := Lib.hid (Found.down HFALL.out HF.out (by omega) (by
            rw [← HQ.out, ← HX.out.1, ← HX.out.2]
            simpa [ltOf] using hc))
          clear HF
          go_wp2_with fail
          go_quiet_grown (first | (go_at_fn g; refine Calls.grown_of (hcg _ _)))
          go_wp2_with fail
          go_roundg (c - s)
          case measure => omega
          case rel => exact ⟨s, c, rfl, rfl, hls, hsc, by omega, Nat.le_refl _, HF2, SGA.out nq osq⟩
        · have HF2 : Hid (Found (fun c => !ltOf cf D[d + m - 1 - c]! D[c]!) lo d (c + 1) r) := Lib.hid (Found.up HFALL.out HF.out (by omega) (by
            rw [← HQ.out, ← HX.out.1, ← HX.out.2]
            simpa [ltOf] using hc))
          clear HF
          have hc2 : decide (cf x1 x2 < 0) = false := decide_eq_false hc
          go_wp2_with fail
          go_quiet_grown (first | (go_at_fn g; refine Calls.grown_of (hcg _ _)))
          go_wp2_with fail
          go_roundg (r - (c + 1))
          case measure => omega
          case rel => exact ⟨c + 1, r, by go_num, rfl, by omega, by omega, hrh, Nat.le_refl _, HF2, SGA.out nq osq⟩
      · obtain rfl : s = r := by omega
        have HSYM := Lib.hid (HSY.out s hls hrh HF.out)
        obtain ⟨e, he⟩ : ∃ e, e = d + m - s := ⟨_, rfl⟩
        have ee : (d : Int) + (m : Int) - (s : Int) = (e : Int) := by omega
        have he1 : d + m ≤ e + s := by omega
        have he2 : e + s ≤ d + m := by omega
        rw [← he] at HSYM
        obtain ⟨las, lsm, lme, leb⟩ : a ≤ s ∧ s ≤ m ∧ m ≤ e ∧ e ≤ b := ⟨HSYM.out.las, HSYM.out.lsm, HSYM.out.lme, HSYM.out.leb⟩
        rw [HDE.out] at S
        clear he HF HSY HFALL HDE HSZ
        by_cases P1 : s < m
        · by_cases P2 : m < e
          · have PC : d < e := by omega
            have PB : s < d := by omega
            by_cases P3 : a < s
            · by_cases P4 : e < b
              · skip
                obtain ⟨ha, hm, hb, hN⟩ := HLEN.out
                have hrot := rotK_any enc k H.zE blk off cap N s m e (x ++ U.take (s - a)) (U.drop (s - a)) (V.take (e - m)) (V.drop (e - m) ++ y) d0 w0 wr (.func (.func g) #[] cb) H.row H.size (by simp; omega) (by simp; omega) (by simp; omega) (by simp; omega) (by simp; omega) (by simp; omega) H.small
                  (by rw [List.append_assoc, ← List.append_assoc (U.take (s - a)), List.take_append_drop, ← List.append_assoc (V.take (e - m)), List.take_append_drop]; exact S.out)
                clear S ha hm hb hN
                go_wp2_with fail
                refine hrot.mono ?_
                rintro _ w1 ⟨rfl, S1'⟩
                have S1 : Aside (SWK enc k w0 blk off (x ++ (U.take (s - a) ++ (V.take (e - m) ++ (U.drop (s - a) ++ (V.drop (e - m) ++ y))))).toArray w1) := by rw [List.append_assoc] at S1'; exact S1'
                clear S1' hrot
                obtain ⟨ha, hm, hb, hN⟩ := HLEN.out
                have hB := hrec x (U.take (s - a)) (V.take (e - m)) (U.drop (s - a) ++ (V.drop (e - m) ++ y)) a s d _ (by simp; omega) (by simp; omega) (by simp; omega) ha (by simp; omega) (by simp; omega) (by simp; omega) (up_take hU _) (up_take hV _) S1.out
                clear S1 ha hm hb hN
                go_wp2_with fail
                refine hB.mono ?_
                rintro _ w2 ⟨rfl, W1, M1, S2'⟩
                have S2 : Aside _ := S2'
                clear S2' hB
                obtain ⟨ha, hm, hb, hN⟩ := HLEN.out
                have hWl := M1.len
                simp only [List.length_take] at hWl
                have HWL := Lib.hid hWl
                clear hWl
                have hC := hrec (x ++ W1) (U.drop (s - a)) (V.drop (e - m)) y d e b _ (by have := HWL.out; simp; omega) (by simp; omega) (by simp; omega) (by have := HWL.out; simp; omega) (by simp; omega) (by simp; omega) (by omega) (up_drop hU _) (up_drop hV _) (by rw [List.append_assoc]; exact S2.out)
                have HM1 := Lib.hid M1
                clear S2 M1 ha hm hb hN
                go_wp2_with fail
                refine hC.mono ?_
                rintro _ w3 ⟨rfl, W2, M2, S3'⟩
                have S3 : Aside _ := S3'
                clear S3' hC
                have HM := Lib.hid (merged_halves H.swo hU hV HSYM.out HM1.out M2)
                have S4 := S3
                rw [List.append_assoc x W1, ← List.append_assoc W1 W2] at S4
                clear S3 M2
                go_wp2_with fail
                go_end0
                exact ⟨rfl, _, HM.out, S4.out⟩
              · skip
                obtain ⟨ha, hm, hb, hN⟩ := HLEN.out
                have hrot := rotK_any enc k H.zE blk off cap N s m e (x ++ U.take (s - a)) (U.drop (s - a)) (V.take (e - m)) (V.drop (e - m) ++ y) d0 w0 wr (.func (.func g) #[] cb) H.row H.size (by simp; omega) (by simp; omega) (by simp; omega) (by simp; omega) (by simp; omega) (by simp; omega) H.small
                  (by rw [List.append_assoc, ← List.append_assoc (U.take (s - a)), List.take_append_drop, ← List.append_assoc (V.take (e - m)), List.take_append_drop]; exact S.out)
                clear S ha hm hb hN
                go_wp2_with fail
                refine hrot.mono ?_
                rintro _ w1 ⟨rfl, S1'⟩
                have S1 : Aside (SWK enc k w0 blk off (x ++ (U.take (s - a) ++ (V.take (e - m) ++ (U.drop (s - a) ++ (V.drop (e - m) ++ y))))).toArray w1) := by rw [List.append_assoc] at S1'; exact S1'
                clear S1' hrot
                obtain ⟨ha, hm, hb, hN⟩ := HLEN.out
                have hB := hrec x (U.take (s - a)) (V.take (e - m)) (U.drop (s - a) ++ (V.drop (e - m) ++ y)) a s d _ (by simp; omega) (by simp; omega) (by simp; omega) ha (by simp; omega) (by simp; omega) (by simp; omega) (up_take hU _) (up_take hV _) S1.out
                clear S1 ha hm hb hN
                go_wp2_with fail
                refine hB.mono ?_
                rintro _ w2 ⟨rfl, W1, M1, S2'⟩
                have S2 : Aside _ := S2'
                clear S2' hB
                obtain ⟨ha, hm, hb, hN⟩ := HLEN.out
                have HM1 := Lib.hid M1
                clear M1
                obtain ⟨W2, hW2⟩ : ∃ W2, W2 = U.drop (s - a) ++ V.drop (e - m) := ⟨_, rfl⟩
                have M2 : MergedTo (ltOf cf) (x ++ W1) (U.drop (s - a)) (V.drop (e - m)) y W2 := by
                  rw [hW2]
                  refine merged_none (up_drop hU _) (up_drop hV _) ?_
                  rcases (by omega : m ≤ s ∨ b ≤ e) with h | h
                  · left; exact List.drop_of_length_le (by omega)
                  · right; exact List.drop_of_length_le (by omega)
                have S3 := S2
                rw [← List.append_assoc (U.drop (s - a)) (V.drop (e - m)), ← hW2, ← List.append_assoc x W1] at S3
                clear S2 hW2 ha hm hb hN
                have HM := Lib.hid (merged_halves H.swo hU hV HSYM.out HM1.out M2)
                have S4 := S3
                rw [List.append_assoc x W1, ← List.append_assoc W1 W2] at S4
                clear S3 M2
                go_wp2_with fail
                go_end0
                exact ⟨rfl, _, HM.out, S4.out⟩
            · by_cases P4 : e < b
              · skip
                obtain ⟨ha, hm, hb, hN⟩ := HLEN.out
                have hrot := rotK_any enc k H.zE blk off cap N s m e (x ++ U.take (s - a)) (U.drop (s - a)) (V.take (e - m)) (V.drop (e - m) ++ y) d0 w0 wr (.func (.func g) #[] cb) H.row H.size (by simp; omega) (by simp; omega) (by simp; omega) (by simp; omega) (by simp; omega) (by simp; omega) H.small
                  (by rw [List.append_assoc, ← List.append_assoc (U.take (s - a)), List.take_append_drop, ← List.append_assoc (V.take (e - m)), List.take_append_drop]; exact S.out)
                clear S ha hm hb hN
                go_wp2_with fail
                refine hrot.mono ?_
                rintro _ w1 ⟨rfl, S1'⟩
                have S1 : Aside (SWK enc k w0 blk off (x ++ (U.take (s - a) ++ (V.take (e - m) ++ (U.drop (s - a) ++ (V.drop (e - m) ++ y))))).toArray w1) := by rw [List.append_assoc] at S1'; exact S1'
                clear S1' hrot
                obtain ⟨ha, hm, hb, hN⟩ := HLEN.out
                obtain ⟨W1, hW1⟩ : ∃ W1, W1 = U.take (s - a) ++ V.take (e - m) := ⟨_, rfl⟩
                have M1 : MergedTo (ltOf cf) x (U.take (s - a)) (V.take (e - m)) (U.drop (s - a) ++ (V.drop (e - m) ++ y)) W1 := by
                  rw [hW1]
                  refine merged_none (up_take hU _) (up_take hV _) ?_
                  rcases (by omega : s ≤ a ∨ e ≤ m) with h | h
                  · left; rw [show s - a = 0 from by omega]; rfl
                  · right; rw [show e - m = 0 from by omega]; rfl
                have S2 := S1
                rw [← List.append_assoc (U.take (s - a)) (V.take (e - m)), ← hW1] at S2
                clear S1 hW1 ha hm hb hN
                obtain ⟨ha, hm, hb, hN⟩ := HLEN.out
                have hWl := M1.len
                simp only [List.length_take] at hWl
                have HWL := Lib.hid hWl
                clear hWl
                have hC := hrec (x ++ W1) (U.drop (s - a)) (V.drop (e - m)) y d e b _ (by have := HWL.out; simp; omega) (by simp; omega) (by simp; omega) (by have := HWL.out; simp; omega) (by simp; omega) (by simp; omega) (by omega) (up_drop hU _) (up_drop hV _) (by rw [List.append_assoc]; exact S2.out)
                have HM1 := Lib.hid M1
                clear S2 M1 ha hm hb hN
                go_wp2_with fail
                refine hC.mono ?_
                rintro _ w3 ⟨rfl, W2, M2, S3'⟩
                have S3 : Aside _ := S3'
                clear S3' hC
                have HM := Lib.hid (merged_halves H.swo hU hV HSYM.out HM1.out M2)
                have S4 := S3
                rw [List.append_assoc x W1, ← List.append_assoc W1 W2] at S4
                clear S3 M2
                go_wp2_with fail
                go_end0
                exact ⟨rfl, _, HM.out, S4.out⟩
              · skip
                obtain ⟨ha, hm, hb, hN⟩ := HLEN.out
                have hrot := rotK_any enc k H.zE blk off cap N s m e (x ++ U.take (s - a)) (U.drop (s - a)) (V.take (e - m)) (V.drop (e - m) ++ y) d0 w0 wr (.func (.func g) #[] cb) H.row H.size (by simp; omega) (by simp; omega) (by simp; omega) (by simp; omega) (by simp; omega) (by simp; omega) H.small
                  (by rw [List.append_assoc, ← List.append_assoc (U.take (s - a)), List.take_append_drop, ← List.append_assoc (V.take (e - m)), List.take_append_drop]; exact S.out)
                clear S ha hm hb hN
                go_wp2_with fail
                refine hrot.mono ?_
                rintro _ w1 ⟨rfl, S1'⟩
                have S1 : Aside (SWK enc k w0 blk off (x ++ (U.take (s - a) ++ (V.take (e - m) ++ (U.drop (s - a) ++ (V.drop (e - m) ++ y))))).toArray w1) := by rw [List.append_assoc] at S1'; exact S1'
                clear S1' hrot
                obtain ⟨ha, hm, hb, hN⟩ := HLEN.out
                obtain ⟨W1, hW1⟩ : ∃ W1, W1 = U.take (s - a) ++ V.take (e - m) := ⟨_, rfl⟩
                have M1 : MergedTo (ltOf cf) x (U.take (s - a)) (V.take (e - m)) (U.drop (s - a) ++ (V.drop (e - m) ++ y)) W1 := by
                  rw [hW1]
                  refine merged_none (up_take hU _) (up_take hV _) ?_
                  rcases (by omega : s ≤ a ∨ e ≤ m) with h | h
                  · left; rw [show s - a = 0 from by omega]; rfl
                  · right; rw [show e - m = 0 from by omega]; rfl
                have S2 := S1
                rw [← List.append_assoc (U.take (s - a)) (V.take (e - m)), ← hW1] at S2
                clear S1 hW1 ha hm hb hN
                obtain ⟨ha, hm, hb, hN⟩ := HLEN.out
                have HM1 := Lib.hid M1
                clear M1
                obtain ⟨W2, hW2⟩ : ∃ W2, W2 = U.drop (s - a) ++ V.drop (e - m) := ⟨_, rfl⟩
                have M2 : MergedTo (ltOf cf) (x ++ W1) (U.drop (s - a)) (V.drop (e - m)) y W2 := by
                  rw [hW2]
                  refine merged_none (up_drop hU _) (up_drop hV _) ?_
                  rcases (by omega : m ≤ s ∨ b ≤ e) with h | h
                  · left; exact List.drop_of_length_le (by omega)
                  · right; exact List.drop_of_length_le (by omega)
                have S3 := S2
                rw [← List.append_assoc (U.drop (s - a)) (V.drop (e - m)), ← hW2, ← List.append_assoc x W1] at S3
                clear S2 hW2 ha hm hb hN
                have HM := Lib.hid (merged_halves H.swo hU hV HSYM.out HM1.out M2)
                have S4 := S3
                rw [List.append_assoc x W1, ← List.append_assoc W1 W2] at S4
                clear S3 M2
                go_wp2_with fail
                go_end0
                exact ⟨rfl, _, HM.out, S4.out⟩
          · have PC : d < e := by omega
            have PB : ¬ s < d := by omega
            by_cases P3 : a < s
            · by_cases P4 : e < b
              · skip
                obtain ⟨ha, hm, hb, hN⟩ := HLEN.out
                have S1 : Aside (SWK enc k w0 blk off (x ++ (U.take (s - a) ++ (V.take (e - m) ++ (U.drop (s - a) ++ (V.drop (e - m) ++ y))))).toArray wr) := by
                  rcases (by omega : m ≤ s ∨ e ≤ m) with h | h
                  · have e1 : U.drop (s - a) = [] := List.drop_of_length_le (by omega)
                    have e2 : U.take (s - a) = U := List.take_of_length_le (by omega)
                    rw [e1, e2, List.nil_append, ← List.append_assoc (V.take (e - m)), List.take_append_drop]; exact S.out
                  · have e1 : V.take (e - m) = [] := by rw [show e - m = 0 from by omega]; rfl
                    have e2 : V.drop (e - m) = V := by rw [show e - m = 0 from by omega]; rfl
                    rw [e1, e2, List.nil_append, ← List.append_assoc (U.take (s - a)), List.take_append_drop]; exact S.out
                clear S ha hm hb hN
                obtain ⟨ha, hm, hb, hN⟩ := HLEN.out
                obtain ⟨W1, hW1⟩ : ∃ W1, W1 = U.take (s - a) ++ V.take (e - m) := ⟨_, rfl⟩
                have M1 : MergedTo (ltOf cf) x (U.take (s - a)) (V.take (e - m)) (U.drop (s - a) ++ (V.drop (e - m) ++ y)) W1 := by
                  rw [hW1]
                  refine merged_none (up_take hU _) (up_take hV _) ?_
                  rcases (by omega : s ≤ a ∨ e ≤ m) with h | h
                  · left; rw [show s - a = 0 from by omega]; rfl
                  · right; rw [show e - m = 0 from by omega]; rfl
                have S2 := S1
                rw [← List.append_assoc (U.take (s - a)) (V.take (e - m)), ← hW1] at S2
                clear S1 hW1 ha hm hb hN
                obtain ⟨ha, hm, hb, hN⟩ := HLEN.out
                have hWl := M1.len
                simp only [List.length_take] at hWl
                have HWL := Lib.hid hWl
                clear hWl
                have hC := hrec (x ++ W1) (U.drop (s - a)) (V.drop (e - m)) y d e b _ (by have := HWL.out; simp; omega) (by simp; omega) (by simp; omega) (by have := HWL.out; simp; omega) (by simp; omega) (by simp; omega) (by omega) (up_drop hU _) (up_drop hV _) (by rw [List.append_assoc]; exact S2.out)
                have HM1 := Lib.hid M1
                clear S2 M1 ha hm hb hN
                go_wp2_with fail
                refine hC.mono ?_
                rintro _ w3 ⟨rfl, W2, M2, S3'⟩
                have S3 : Aside _ := S3'
                clear S3' hC
                have HM := Lib.hid (merged_halves H.swo hU hV HSYM.out HM1.out M2)
                have S4 := S3
                rw [List.append_assoc x W1, ← List.append_assoc W1 W2] at S4
                clear S3 M2
                go_wp2_with fail
                go_end0
                exact ⟨rfl, _, HM.out, S4.out⟩
              · skip
                obtain ⟨ha, hm, hb, hN⟩ := HLEN.out
                have S1 : Aside (SWK enc k w0 blk off (x ++ (U.take (s - a) ++ (V.take (e - m) ++ (U.drop (s - a) ++ (V.drop (e - m) ++ y))))).toArray wr) := by
                  rcases (by omega : m ≤ s ∨ e ≤ m) with h | h
                  · have e1 : U.drop (s - a) = [] := List.drop_of_length_le (by omega)
                    have e2 : U.take (s - a) = U := List.take_of_length_le (by omega)
                    rw [e1, e2, List.nil_append, ← List.append_assoc (V.take (e - m)), List.take_append_drop]; exact S.out
                  · have e1 : V.take (e - m) = [] := by rw [show e - m = 0 from by omega]; rfl
                    have e2 : V.drop (e - m) = V := by rw [show e - m = 0 from by omega]; rfl
                    rw [e1, e2, List.nil_append, ← List.append_assoc (U.take (s - a)), List.take_append_drop]; exact S.out
                clear S ha hm hb hN
                obtain ⟨ha, hm, hb, hN⟩ := HLEN.out
                obtain ⟨W1, hW1⟩ : ∃ W1, W1 = U.take (s - a) ++ V.take (e - m) := ⟨_, rfl⟩
                have M1 : MergedTo (ltOf cf) x (U.take (s - a)) (V.take (e - m)) (U.drop (s - a) ++ (V.drop (e - m) ++ y)) W1 := by
                  rw [hW1]
                  refine merged_none (up_take hU _) (up_take hV _) ?_
                  rcases (by omega : s ≤ a ∨ e ≤ m) with h | h
                  · left; rw [show s - a = 0 from by omega]; rfl
                  · right; rw [show e - m = 0 from by omega]; rfl
                have S2 := S1
                rw [← List.append_assoc (U.take (s - a)) (V.take (e - m)), ← hW1] at S2
                clear S1 hW1 ha hm hb hN
                obtain ⟨ha, hm, hb, hN⟩ := HLEN.out
                have HM1 := Lib.hid M1
                clear M1
                obtain ⟨W2, hW2⟩ : ∃ W2, W2 = U.drop (s - a) ++ V.drop (e - m) := ⟨_, rfl⟩
                have M2 : MergedTo (ltOf cf) (x ++ W1) (U.drop (s - a)) (V.drop (e - m)) y W2 := by
                  rw [hW2]
                  refine merged_none (up_drop hU _) (up_drop hV _) ?_
                  rcases (by omega : m ≤ s ∨ b ≤ e) with h | h
                  · left; exact List.drop_of_length_le (by omega)
                  · right; exact List.drop_of_length_le (by omega)
                have S3 := S2
                rw [← List.append_assoc (U.drop (s - a)) (V.drop (e - m)), ← hW2, ← List.append_assoc x W1] at S3
                clear S2 hW2 ha hm hb hN
                have HM := Lib.hid (merged_halves H.swo hU hV HSYM.out HM1.out M2)
                have S4 := S3
                rw [List.append_assoc x W1, ← List.append_assoc W1 W2] at S4
                clear S3 M2
                go_wp2_with fail
                go_end0
                exact ⟨rfl, _, HM.out, S4.out⟩
            · by_cases P4 : e < b
              · skip
                obtain ⟨ha, hm, hb, hN⟩ := HLEN.out
                have S1 : Aside (SWK enc k w0 blk off (x ++ (U.take (s - a) ++ (V.take (e - m) ++ (U.drop (s - a) ++ (V.drop (e - m) ++ y))))).toArray wr) := by
                  rcases (by omega : m ≤ s ∨ e ≤ m) with h | h
                  · have e1 : U.drop (s - a) = [] := List.drop_of_length_le (by omega)
                    have e2 : U.take (s - a) = U := List.take_of_length_le (by omega)
                    rw [e1, e2, List.nil_append, ← List.append_assoc (V.take (e - m)), List.take_append_drop]; exact S.out
                  · have e1 : V.take (e - m) = [] := by rw [show e - m = 0 from by omega]; rfl
                    have e2 : V.drop (e - m) = V := by rw [show e - m = 0 from by omega]; rfl
                    rw [e1, e2, List.nil_append, ← List.append_assoc (U.take (s - a)), List.take_append_drop]; exact S.out
                clear S ha hm hb hN
                obtain ⟨ha, hm, hb, hN⟩ := HLEN.out
                obtain ⟨W1, hW1⟩ : ∃ W1, W1 = U.take (s - a) ++ V.take (e - m) := ⟨_, rfl⟩
                have M1 : MergedTo (ltOf cf) x (U.take (s - a)) (V.take (e - m)) (U.drop (s - a) ++ (V.drop (e - m) ++ y)) W1 := by
                  rw [hW1]
                  refine merged_none (up_take hU _) (up_take hV _) ?_
                  rcases (by omega : s ≤ a ∨ e ≤ m) with h | h
                  · left; rw [show s - a = 0 from by omega]; rfl
                  · right; rw [show e - m = 0 from by omega]; rfl
                have S2 := S1
                rw [← List.append_assoc (U.take (s - a)) (V.take (e - m)), ← hW1] at S2
                clear S1 hW1 ha hm hb hN
                obtain ⟨ha, hm, hb, hN⟩ := HLEN.out
                have hWl := M1.len
                simp only [List.length_take] at hWl
                have HWL := Lib.hid hWl
                clear hWl
                have hC := hrec (x ++ W1) (U.drop (s - a)) (V.drop (e - m)) y d e b _ (by have := HWL.out; simp; omega) (by simp; omega) (by simp; omega) (by have := HWL.out; simp; omega) (by simp; omega) (by simp; omega) (by omega) (up_drop hU _) (up_drop hV _) (by rw [List.append_assoc]; exact S2.out)
                have HM1 := Lib.hid M1
                clear S2 M1 ha hm hb hN
                go_wp2_with fail
                refine hC.mono ?_
                rintro _ w3 ⟨rfl, W2, M2, S3'⟩
                have S3 : Aside _ := S3'
                clear S3' hC
                have HM := Lib.hid (merged_halves H.swo hU hV HSYM.out HM1.out M2)
                have S4 := S3
                rw [List.append_assoc x W1, ← List.append_assoc W1 W2] at S4
                clear S3 M2
                go_wp2_with fail
                go_end0
                exact ⟨rfl, _, HM.out, S4.out⟩
              · skip
                obtain ⟨ha, hm, hb, hN⟩ := HLEN.out
                have S1 : Aside (SWK enc k w0 blk off (x ++ (U.take (s - a) ++ (V.take (e - m) ++ (U.drop (s - a) ++ (V.drop (e - m) ++ y))))).toArray wr) := by
                  rcases (by omega : m ≤ s ∨ e ≤ m) with h | h
                  · have e1 : U.drop (s - a) = [] := List.drop_of_length_le (by omega)
                    have e2 : U.take (s - a) = U := List.take_of_length_le (by omega)
                    rw [e1, e2, List.nil_append, ← List.append_assoc (V.take (e - m)), List.take_append_drop]; exact S.out
                  · have e1 : V.take (e - m) = [] := by rw [show e - m = 0 from by omega]; rfl
                    have e2 : V.drop (e - m) = V := by rw [show e - m = 0 from by omega]; rfl
                    rw [e1, e2, List.nil_append, ← List.append_assoc (U.take (s - a)), List.take_append_drop]; exact S.out
                clear S ha hm hb hN
                obtain ⟨ha, hm, hb, hN⟩ := HLEN.out
                obtain ⟨W1, hW1⟩ : ∃ W1, W1 = U.take (s - a) ++ V.take (e - m) := ⟨_, rfl⟩
                have M1 : MergedTo (ltOf cf) x (U.take (s - a)) (V.take (e - m)) (U.drop (s - a) ++ (V.drop (e - m) ++ y)) W1 := by
                  rw [hW1]
                  refine merged_none (up_take hU _) (up_take hV _) ?_
                  rcases (by omega : s ≤ a ∨ e ≤ m) with h | h
                  · left; rw [show s - a = 0 from by omega]; rfl
                  · right; rw [show e - m = 0 from by omega]; rfl
                have S2 := S1
                rw [← List.append_assoc (U.take (s - a)) (V.take (e - m)), ← hW1] at S2
                clear S1 hW1 ha hm hb hN
                obtain ⟨ha, hm, hb, hN⟩ := HLEN.out
                have HM1 := Lib.hid M1
                clear M1
                obtain ⟨W2, hW2⟩ : ∃ W2, W2 = U.drop (s - a) ++ V.drop (e - m) := ⟨_, rfl⟩
                have M2 : MergedTo (ltOf cf) (x ++ W1) (U.drop (s - a)) (V.drop (e - m)) y W2 := by
                  rw [hW2]
                  refine merged_none (up_drop hU _) (up_drop hV _) ?_
                  rcases (by omega : m ≤ s ∨ b ≤ e) with h | h
                  · left; exact List.drop_of_length_le (by omega)
                  · right; exact List.drop_of_length_le (by omega)
                have S3 := S2
                rw [← List.append_assoc (U.drop (s - a)) (V.drop (e - m)), ← hW2, ← List.append_assoc x W1] at S3
                clear S2 hW2 ha hm hb hN
                have HM := Lib.hid (merged_halves H.swo hU hV HSYM.out HM1.out M2)
                have S4 := S3
                rw [List.append_assoc x W1, ← List.append_assoc W1 W2] at S4
                clear S3 M2
                go_wp2_with fail
                go_end0
                exact ⟨rfl, _, HM.out, S4.out⟩
        · by_cases P2 : m < e
          · have PC : ¬ d < e := by omega
            have PB : s < d := by omega
            by_cases P3 : a < s
            · skip
              obtain ⟨ha, hm, hb, hN⟩ := HLEN.out
              have S1 : Aside (SWK enc k w0 blk off (x ++ (U.take (s - a) ++ (V.take (e - m) ++ (U.drop (s - a) ++ (V.drop (e - m) ++ y))))).toArray wr) := by
                rcases (by omega : m ≤ s ∨ e ≤ m) with h | h
                · have e1 : U.drop (s - a) = [] := List.drop_of_length_le (by omega)
                  have e2 : U.take (s - a) = U := List.take_of_length_le (by omega)
                  rw [e1, e2, List.nil_append, ← List.append_assoc (V.take (e - m)), List.take_append_drop]; exact S.out
                · have e1 : V.take (e - m) = [] := by rw [show e - m = 0 from by omega]; rfl
                  have e2 : V.drop (e - m) = V := by rw [show e - m = 0 from by omega]; rfl
                  rw [e1, e2, List.nil_append, ← List.append_assoc (U.take (s - a)), List.take_append_drop]; exact S.out
              clear S ha hm hb hN
              obtain ⟨ha, hm, hb, hN⟩ := HLEN.out
              have hB := hrec x (U.take (s - a)) (V.take (e - m)) (U.drop (s - a) ++ (V.drop (e - m) ++ y)) a s d _ (by simp; omega) (by simp; omega) (by simp; omega) ha (by simp; omega) (by simp; omega) (by simp; omega) (up_take hU _) (up_take hV _) S1.out
              clear S1 ha hm hb hN
              go_wp2_with fail
              refine hB.mono ?_
              rintro _ w2 ⟨rfl, W1, M1, S2'⟩
              have S2 : Aside _ := S2'
              clear S2' hB
              obtain ⟨ha, hm, hb, hN⟩ := HLEN.out
              have HM1 := Lib.hid M1
              clear M1
              obtain ⟨W2, hW2⟩ : ∃ W2, W2 = U.drop (s - a) ++ V.drop (e - m) := ⟨_, rfl⟩
              have M2 : MergedTo (ltOf cf) (x ++ W1) (U.drop (s - a)) (V.drop (e - m)) y W2 := by
                rw [hW2]
                refine merged_none (up_drop hU _) (up_drop hV _) ?_
                rcases (by omega : m ≤ s ∨ b ≤ e) with h | h
                · left; exact List.drop_of_length_le (by omega)
                · right; exact List.drop_of_length_le (by omega)
              have S3 := S2
              rw [← List.append_assoc (U.drop (s - a)) (V.drop (e - m)), ← hW2, ← List.append_assoc x W1] at S3
              clear S2 hW2 ha hm hb hN
              have HM := Lib.hid (merged_halves H.swo hU hV HSYM.out HM1.out M2)
              have S4 := S3
              rw [List.append_assoc x W1, ← List.append_assoc W1 W2] at S4
              clear S3 M2
              go_wp2_with fail
              go_end0
              exact ⟨rfl, _, HM.out, S4.out⟩
            · skip
              obtain ⟨ha, hm, hb, hN⟩ := HLEN.out
              have S1 : Aside (SWK enc k w0 blk off (x ++ (U.take (s - a) ++ (V.take (e - m) ++ (U.drop (s - a) ++ (V.drop (e - m) ++ y))))).toArray wr) := by
                rcases (by omega : m ≤ s ∨ e ≤ m) with h | h
                · have e1 : U.drop (s - a) = [] := List.drop_of_length_le (by omega)
                  have e2 : U.take (s - a) = U := List.take_of_length_le (by omega)
                  rw [e1, e2, List.nil_append, ← List.append_assoc (V.take (e - m)), List.take_append_drop]; exact S.out
                · have e1 : V.take (e - m) = [] := by rw [show e - m = 0 from by omega]; rfl
                  have e2 : V.drop (e - m) = V := by rw [show e - m = 0 from by omega]; rfl
                  rw [e1, e2, List.nil_append, ← List.append_assoc (U.take (s - a)), List.take_append_drop]; exact S.out
              clear S ha hm hb hN
              obtain ⟨ha, hm, hb, hN⟩ := HLEN.out
              obtain ⟨W1, hW1⟩ : ∃ W1, W1 = U.take (s - a) ++ V.take (e - m) := ⟨_, rfl⟩
              have M1 : MergedTo (ltOf cf) x (U.take (s - a)) (V.take (e - m)) (U.drop (s - a) ++ (V.drop (e - m) ++ y)) W1 := by
                rw [hW1]
                refine merged_none (up_take hU _) (up_take hV _) ?_
                rcases (by omega : s ≤ a ∨ e ≤ m) with h | h
                · left; rw [show s - a = 0 from by omega]; rfl
                · right; rw [show e - m = 0 from by omega]; rfl
              have S2 := S1
              rw [← List.append_assoc (U.take (s - a)) (V.take (e - m)), ← hW1] at S2
              clear S1 hW1 ha hm hb hN
              obtain ⟨ha, hm, hb, hN⟩ := HLEN.out
              have HM1 := Lib.hid M1
              clear M1
              obtain ⟨W2, hW2⟩ : ∃ W2, W2 = U.drop (s - a) ++ V.drop (e - m) := ⟨_, rfl⟩
              have M2 : MergedTo (ltOf cf) (x ++ W1) (U.drop (s - a)) (V.drop (e - m)) y W2 := by
                rw [hW2]
                refine merged_none (up_drop hU _) (up_drop hV _) ?_
                rcases (by omega : m ≤ s ∨ b ≤ e) with h | h
                · left; exact List.drop_of_length_le (by omega)
                · right; exact List.drop_of_length_le (by omega)
              have S3 := S2
              rw [← List.append_assoc (U.drop (s - a)) (V.drop (e - m)), ← hW2, ← List.append_assoc x W1] at S3
              clear S2 hW2 ha hm hb hN
              have HM := Lib.hid (merged_halves H.swo hU hV HSYM.out HM1.out M2)
              have S4 := S3
              rw [List.append_assoc x W1, ← List.append_assoc W1 W2] at S4
              clear S3 M2
              go_wp2_with fail
              go_end0
              exact ⟨rfl, _, HM.out, S4.out⟩
          · have PC : ¬ d < e := by omega
            have PB : ¬ s < d := by omega
            by_cases P3 : a < s
            · skip
              obtain ⟨ha, hm, hb, hN⟩ := HLEN.out
              have S1 : Aside (SWK enc k w0 blk off (x ++ (U.take (s - a) ++ (V.take (e - m) ++ (U.drop (s - a) ++ (V.drop (e - m) ++ y))))).toArray wr) := by
                rcases (by omega : m ≤ s ∨ e ≤ m) with h | h
                · have e1 : U.drop (s - a) = [] := List.drop_of_length_le (by omega)
                  have e2 : U.take (s - a) = U := List.take_of_length_le (by omega)
                  rw [e1, e2, List.nil_append, ← List.append_assoc (V.take (e - m)), List.take_append_drop]; exact S.out
                · have e1 : V.take (e - m) = [] := by rw [show e - m = 0 from by omega]; rfl
                  have e2 : V.drop (e - m) = V := by rw [show e - m = 0 from by omega]; rfl
                  rw [e1, e2, List.nil_append, ← List.append_assoc (U.take (s - a)), List.take_append_drop]; exact S.out
              clear S ha hm hb hN
              obtain ⟨ha, hm, hb, hN⟩ := HLEN.out
              obtain ⟨W1, hW1⟩ : ∃ W1, W1 = U.take (s - a) ++ V.take (e - m) := ⟨_, rfl⟩
              have M1 : MergedTo (ltOf cf) x (U.take (s - a)) (V.take (e - m)) (U.drop (s - a) ++ (V.drop (e - m) ++ y)) W1 := by
                rw [hW1]
                refine merged_none (up_take hU _) (up_take hV _) ?_
                rcases (by omega : s ≤ a ∨ e ≤ m) with h | h
                · left; rw [show s - a = 0 from by omega]; rfl
                · right; rw [show e - m = 0 from by omega]; rfl
              have S2 := S1
              rw [← List.append_assoc (U.take (s - a)) (V.take (e - m)), ← hW1] at S2
              clear S1 hW1 ha hm hb hN
              obtain ⟨ha, hm, hb, hN⟩ := HLEN.out
              have HM1 := Lib.hid M1
              clear M1
              obtain ⟨W2, hW2⟩ : ∃ W2, W2 = U.drop (s - a) ++ V.drop (e - m) := ⟨_, rfl⟩
              have M2 : MergedTo (ltOf cf) (x ++ W1) (U.drop (s - a)) (V.drop (e - m)) y W2 := by
                rw [hW2]
                refine merged_none (up_drop hU _) (up_drop hV _) ?_
                rcases (by omega : m ≤ s ∨ b ≤ e) with h | h
                · left; exact List.drop_of_length_le (by omega)
                · right; exact List.drop_of_length_le (by omega)
              have S3 := S2
              rw [← List.append_assoc (U.drop (s - a)) (V.drop (e - m)), ← hW2, ← List.append_assoc x W1] at S3
              clear S2 hW2 ha hm hb hN
              have HM := Lib.hid (merged_halves H.swo hU hV HSYM.out HM1.out M2)
              have S4 := S3
              rw [List.append_assoc x W1, ← List.append_assoc W1 W2] at S4
              clear S3 M2
              go_wp2_with fail
              go_end0
              exact ⟨rfl, _, HM.out, S4.out⟩
            · skip
              obtain ⟨ha, hm, hb, hN⟩ := HLEN.out
              have S1 : Aside (SWK enc k w0 blk off (x ++ (U.take (s - a) ++ (V.take (e - m) ++ (U.drop (s - a) ++ (V.drop (e - m) ++ y))))).toArray wr) := by
                rcases (by omega : m ≤ s ∨ e ≤ m) with h | h
                · have e1 : U.drop (s - a) = [] := List.drop_of_length_le (by omega)
                  have e2 : U.take (s - a) = U := List.take_of_length_le (by omega)
                  rw [e1, e2, List.nil_append, ← List.append_assoc (V.take (e - m)), List.take_append_drop]; exact S.out
                · have e1 : V.take (e - m) = [] := by rw [show e - m = 0 from by omega]; rfl
                  have e2 : V.drop (e - m) = V := by rw [show e - m = 0 from by omega]; rfl
                  rw [e1, e2, List.nil_append, ← List.append_assoc (U.take (s - a)), List.take_append_drop]; exact S.out
              clear S ha hm hb hN
              obtain ⟨ha, hm, hb, hN⟩ := HLEN.out
              obtain ⟨W1, hW1⟩ : ∃ W1, W1 = U.take (s - a) ++ V.take (e - m) := ⟨_, rfl⟩
              have M1 : MergedTo (ltOf cf) x (U.take (s - a)) (V.take (e - m)) (U.drop (s - a) ++ (V.drop (e - m) ++ y)) W1 := by
                rw [hW1]
                refine merged_none (up_take hU _) (up_take hV _) ?_
                rcases (by omega : s ≤ a ∨ e ≤ m) with h | h
                · left; rw [show s - a = 0 from by omega]; rfl
                · right; rw [show e - m = 0 from by omega]; rfl
              have S2 := S1
              rw [← List.append_assoc (U.take (s - a)) (V.take (e - m)), ← hW1] at S2
              clear S1 hW1 ha hm hb hN
              obtain ⟨ha, hm, hb, hN⟩ := HLEN.out
              have HM1 := Lib.hid M1
              clear M1
              obtain ⟨W2, hW2⟩ : ∃ W2, W2 = U.drop (s - a) ++ V.drop (e - m) := ⟨_, rfl⟩
              have M2 : MergedTo (ltOf cf) (x ++ W1) (U.drop (s - a)) (V.drop (e - m)) y W2 := by
                rw [hW2]
                refine merged_none (up_drop hU _) (up_drop hV _) ?_
                rcases (by omega : m ≤ s ∨ b ≤ e) with h | h
                · left; exact List.drop_of_length_le (by omega)
                · right; exact List.drop_of_length_le (by omega)
              have S3 := S2
              rw [← List.append_assoc (U.drop (s - a)) (V.drop (e - m)), ← hW2, ← List.append_assoc x W1] at S3
              clear S2 hW2 ha hm hb hN
              have HM := Lib.hid (merged_halves H.swo hU hV HSYM.out HM1.out M2)
              have S4 := S3
              rw [List.append_assoc x W1, ← List.append_assoc W1 W2] at S4
              clear S3 M2
              go_wp2_with fail
              go_end0
              exact ⟨rfl, _, HM.out, S4.out⟩
  · have HFALL : Hid (Falls (fun c => !ltOf cf D[d + m - 1 - c]! D[c]!) a m) := Lib.hid (falls_sym H.swo HSU.out HSV.out (by omega) (by omega) (by omega) (by omega))
    have HF := Lib.hid (Found.start (fun c => !ltOf cf D[d + m - 1 - c]! D[c]!) a m)
    have HSY := Lib.hid (fun s h0 h1 hf => HSY0.out a m s (by rw [if_neg hdm]) (by rw [if_neg hdm]) h0 h1 hf)
    clear HSU HSV HSY0
    go_wp2
    go_loopg [20, 21] (m - a) (fun g1 vi vj wr => ∃ s r : Nat, vi = .int .i64 s ∧ vj = .int .i64 r ∧ a ≤ s ∧ s ≤ r ∧ r ≤ m ∧ r - s ≤ g1 ∧ Hid (Found (fun c => !ltOf cf D[d + m - 1 - c]! D[c]!) a m s r) ∧ Aside (SWK enc k w0 blk off D wr))
    case atStart => exact ⟨a, m, by first | rfl | (congr 1; omega), rfl, Nat.le_refl _, by omega, Nat.le_refl _, by omega, HF, S0⟩
    case round =>
      clear S0 HF
      obtain ⟨s, r, rfl, rfl, hls, hsr, hrh, hg, HF, S⟩ := hrel
      by_cases hlt : s < r
      · obtain ⟨c, hcc⟩ : ∃ c, c = (s + r) / 2 := ⟨_, rfl⟩
        have ec : ((s : Int) + (r : Int)) / 2 = (c : Int) := by omega
        have hsc : s ≤ c := by omega
        have hcr : c < r := by omega
        obtain ⟨q, hq⟩ : ∃ q, q = d + m - 1 - c := ⟨_, rfl⟩
        have eq1 : (d : Int) + (m : Int) - 1 - (c : Int) = (q : Int) := by omega
        have hqN : q < N := by omega
        have rq : IntKind.i64.wrap ((d : Int) + (m : Int) - 1 - (c : Int)) = (q : Int) := by rw [IntKind.wrap_i64]; omega
        have rq2 : IntKind.i64.wrap (q : Int) = (q : Int) := by rw [IntKind.wrap_i64]; omega
        have LI : q < D.size := by have := HSZ.out; omega
        have LJ : c < D.size := by have := HSZ.out; omega
        have HQ := Lib.hid hq
        clear hcc hq
        have l1 := fun n os => S.out.ld H.row (HSZ.out.trans H.size.symm) Try.prog q LI n os
        have l2 := fun n os => S.out.ld H.row (HSZ.out.trans H.size.symm) Try.prog c LJ n os
        have hcg := fun n os => S.out.cmp H.cmp HSZ.out D[q]! D[c]! n os
        obtain ⟨x1, hx1⟩ : ∃ x, x = D[q]! := ⟨_, rfl⟩
        obtain ⟨x2, hx2⟩ : ∃ x, x = D[c]! := ⟨_, rfl⟩
        rw [← hx1] at l1 hcg
        rw [← hx2] at l2 hcg
        have HX := Lib.hid (And.intro hx1 hx2)
        have SG := fun n os => S.out.grown n os
        clear S hx1 hx2
        have SGA : Aside _ := SG
        clear SG
        have p0 : (0 : Int) ≤ (q : Int) := by omega
        have p1 : (q : Int) < (N : Int) := by omega
        have p2 : (0 : Int) ≤ (c : Int) := by omega
        have p3 : (c : Int) < (N : Int) := by omega
        clear LI LJ
        by_cases hc : cf x1 x2 < 0
        · have HF2 : Hid (Found (fun c => !ltOf cf D[d + m - 1 - c]! D[c]!) a m s c) := Lib.hid (Found.down HFALL.out HF.out (by omega) (by
            rw [← HQ.out, ← HX.out.1, ← HX.out.2]
            simpa [ltOf] using hc))
          clear HF
          go_wp2_with fail
          go_quiet_grown (first | (go_at_fn g; refine Calls.grown_of (hcg _ _)))
          go_wp2_with fail
          go_roundg (c - s)
          case measure => omega
          case rel => exact ⟨s, c, rfl, rfl, hls, hsc, by omega, Nat.le_refl _, HF2, SGA.out nq osq⟩
        · have HF2 : Hid (Found (fun c => !ltOf cf D[d + m - 1 - c]! D[c]!) a m (c + 1) r) := Lib.hid (Found.up HFALL.out HF.out (by omega) (by
            rw [← HQ.out, ← HX.out.1, ← HX.out.2]
            simpa [ltOf] using hc))
          clear HF
          have hc2 : decide (cf x1 x2 < 0) = false := decide_eq_false hc
          go_wp2_with fail
          go_quiet_grown (first | (go_at_fn g; refine Calls.grown_of (hcg _ _)))
          go_wp2_with fail
          go_roundg (r - (c + 1))
          case measure => omega
          case rel => exact ⟨c + 1, r, by go_num, rfl, by omega, by omega, hrh, Nat.le_refl _, HF2, SGA.out nq osq⟩
      · obtain rfl : s = r := by omega
        have HSYM := Lib.hid (HSY.out s hls hrh HF.out)
        obtain ⟨e, he⟩ : ∃ e, e = d + m - s := ⟨_, rfl⟩
        have ee : (d : Int) + (m : Int) - (s : Int) = (e : Int) := by omega
        have he1 : d + m ≤ e + s := by omega
        have he2 : e + s ≤ d + m := by omega
        rw [← he] at HSYM
        obtain ⟨las, lsm, lme, leb⟩ : a ≤ s ∧ s ≤ m ∧ m ≤ e ∧ e ≤ b := ⟨HSYM.out.las, HSYM.out.lsm, HSYM.out.lme, HSYM.out.leb⟩
        rw [HDE.out] at S
        clear he HF HSY HFALL HDE HSZ
        by_cases P1 : s < m
        · by_cases P2 : m < e
          · have PC : d < e := by omega
            have PB : s < d := by omega
            by_cases P3 : a < s
            · by_cases P4 : e < b
              · skip
                obtain ⟨ha, hm, hb, hN⟩ := HLEN.out
                have hrot := rotK_any enc k H.zE blk off cap N s m e (x ++ U.take (s - a)) (U.drop (s - a)) (V.take (e - m)) (V.drop (e - m) ++ y) d0 w0 wr (.func (.func g) #[] cb) H.row H.size (by simp; omega) (by simp; omega) (by simp; omega) (by simp; omega) (by simp; omega) (by simp; omega) H.small
                  (by rw [List.append_assoc, ← List.append_assoc (U.take (s - a)), List.take_append_drop, ← List.append_assoc (V.take (e - m)), List.take_append_drop]; exact S.out)
                clear S ha hm hb hN
                go_wp2_with fail
                refine hrot.mono ?_
                rintro _ w1 ⟨rfl, S1'⟩
                have S1 : Aside (SWK enc k w0 blk off (x ++ (U.take (s - a) ++ (V.take (e - m) ++ (U.drop (s - a) ++ (V.drop (e - m) ++ y))))).toArray w1) := by rw [List.append_assoc] at S1'; exact S1'
                clear S1' hrot
                obtain ⟨ha, hm, hb, hN⟩ := HLEN.out
                have hB := hrec x (U.take (s - a)) (V.take (e - m)) (U.drop (s - a) ++ (V.drop (e - m) ++ y)) a s d _ (by simp; omega) (by simp; omega) (by simp; omega) ha (by simp; omega) (by simp; omega) (by simp; omega) (up_take hU _) (up_take hV _) S1.out
                clear S1 ha hm hb hN
                go_wp2_with fail
                refine hB.mono ?_
                rintro _ w2 ⟨rfl, W1, M1, S2'⟩
                have S2 : Aside _ := S2'
                clear S2' hB
                obtain ⟨ha, hm, hb, hN⟩ := HLEN.out
                have hWl := M1.len
                simp only [List.length_take] at hWl
                have HWL := Lib.hid hWl
                clear hWl
                have hC := hrec (x ++ W1) (U.drop (s - a)) (V.drop (e - m)) y d e b _ (by have := HWL.out; simp; omega) (by simp; omega) (by simp; omega) (by have := HWL.out; simp; omega) (by simp; omega) (by simp; omega) (by omega) (up_drop hU _) (up_drop hV _) (by rw [List.append_assoc]; exact S2.out)
                have HM1 := Lib.hid M1
                clear S2 M1 ha hm hb hN
                go_wp2_with fail
                refine hC.mono ?_
                rintro _ w3 ⟨rfl, W2, M2, S3'⟩
                have S3 : Aside _ := S3'
                clear S3' hC
                have HM := Lib.hid (merged_halves H.swo hU hV HSYM.out HM1.out M2)
                have S4 := S3
                rw [List.append_assoc x W1, ← List.append_assoc W1 W2] at S4
                clear S3 M2
                go_wp2_with fail
                go_end0
                exact ⟨rfl, _, HM.out, S4.out⟩
              · skip
                obtain ⟨ha, hm, hb, hN⟩ := HLEN.out
                have hrot := rotK_any enc k H.zE blk off cap N s m e (x ++ U.take (s - a)) (U.drop (s - a)) (V.take (e - m)) (V.drop (e - m) ++ y) d0 w0 wr (.func (.func g) #[] cb) H.row H.size (by simp; omega) (by simp; omega) (by simp; omega) (by simp; omega) (by simp; omega) (by simp; omega) H.small
                  (by rw [List.append_assoc, ← List.append_assoc (U.take (s - a)), List.take_append_drop, ← List.append_assoc (V.take (e - m)), List.take_append_drop]; exact S.out)
                clear S ha hm hb hN
                go_wp2_with fail
                refine hrot.mono ?_
                rintro _ w1 ⟨rfl, S1'⟩
                have S1 : Aside (SWK enc k w0 blk off (x ++ (U.take (s - a) ++ (V.take (e - m) ++ (U.drop (s - a) ++ (V.drop (e - m) ++ y))))).toArray w1) := by rw [List.append_assoc] at S1'; exact S1'
                clear S1' hrot
                obtain ⟨ha, hm, hb, hN⟩ := HLEN.out
                have hB := hrec x (U.take (s - a)) (V.take (e - m)) (U.drop (s - a) ++ (V.drop (e - m) ++ y)) a s d _ (by simp; omega) (by simp; omega) (by simp; omega) ha (by simp; omega) (by simp; omega) (by simp; omega) (up_take hU _) (up_take hV _) S1.out
                clear S1 ha hm hb hN
                go_wp2_with fail
                refine hB.mono ?_
                rintro _ w2 ⟨rfl, W1, M1, S2'⟩
                have S2 : Aside _ := S2'
                clear S2' hB
                obtain ⟨ha, hm, hb, hN⟩ := HLEN.out
                have HM1 := Lib.hid M1
                clear M1
                obtain ⟨W2, hW2⟩ : ∃ W2, W2 = U.drop (s - a) ++ V.drop (e - m) := ⟨_, rfl⟩
                have M2 : MergedTo (ltOf cf) (x ++ W1) (U.drop (s - a)) (V.drop (e - m)) y W2 := by
                  rw [hW2]
                  refine merged_none (up_drop hU _) (up_drop hV _) ?_
                  rcases (by omega : m ≤ s ∨ b ≤ e) with h | h
                  · left; exact List.drop_of_length_le (by omega)
                  · right; exact List.drop_of_length_le (by omega)
                have S3 := S2
                rw [← List.append_assoc (U.drop (s - a)) (V.drop (e - m)), ← hW2, ← List.append_assoc x W1] at S3
                clear S2 hW2 ha hm hb hN
                have HM := Lib.hid (merged_halves H.swo hU hV HSYM.out HM1.out M2)
                have S4 := S3
                rw [List.append_assoc x W1, ← List.append_assoc W1 W2] at S4
                clear S3 M2
                go_wp2_with fail
                go_end0
                exact ⟨rfl, _, HM.out, S4.out⟩
            · by_cases P4 : e < b
              · skip
                obtain ⟨ha, hm, hb, hN⟩ := HLEN.out
                have hrot := rotK_any enc k H.zE blk off cap N s m e (x ++ U.take (s - a)) (U.drop (s - a)) (V.take (e - m)) (V.drop (e - m) ++ y) d0 w0 wr (.func (.func g) #[] cb) H.row H.size (by simp; omega) (by simp; omega) (by simp; omega) (by simp; omega) (by simp; omega) (by simp; omega) H.small
                  (by rw [List.append_assoc, ← List.append_assoc (U.take (s - a)), List.take_append_drop, ← List.append_assoc (V.take (e - m)), List.take_append_drop]; exact S.out)
                clear S ha hm hb hN
                go_wp2_with fail
                refine hrot.mono ?_
                rintro _ w1 ⟨rfl, S1'⟩
                have S1 : Aside (SWK enc k w0 blk off (x ++ (U.take (s - a) ++ (V.take (e - m) ++ (U.drop (s - a) ++ (V.drop (e - m) ++ y))))).toArray w1) := by rw [List.append_assoc] at S1'; exact S1'
                clear S1' hrot
                obtain ⟨ha, hm, hb, hN⟩ := HLEN.out
                obtain ⟨W1, hW1⟩ : ∃ W1, W1 = U.take (s - a) ++ V.take (e - m) := ⟨_, rfl⟩
                have M1 : MergedTo (ltOf cf) x (U.take (s - a)) (V.take (e - m)) (U.drop (s - a) ++ (V.drop (e - m) ++ y)) W1 := by
                  rw [hW1]
                  refine merged_none (up_take hU _) (up_take hV _) ?_
                  rcases (by omega : s ≤ a ∨ e ≤ m) with h | h
                  · left; rw [show s - a = 0 from by omega]; rfl
                  · right; rw [show e - m = 0 from by omega]; rfl
                have S2 := S1
                rw [← List.append_assoc (U.take (s - a)) (V.take (e - m)), ← hW1] at S2
                clear S1 hW1 ha hm hb hN
                obtain ⟨ha, hm, hb, hN⟩ := HLEN.out
                have hWl := M1.len
                simp only [List.length_take] at hWl
                have HWL := Lib.hid hWl
                clear hWl
                have hC := hrec (x ++ W1) (U.drop (s - a)) (V.drop (e - m)) y d e b _ (by have := HWL.out; simp; omega) (by simp; omega) (by simp; omega) (by have := HWL.out; simp; omega) (by simp; omega) (by simp; omega) (by omega) (up_drop hU _) (up_drop hV _) (by rw [List.append_assoc]; exact S2.out)
                have HM1 := Lib.hid M1
                clear S2 M1 ha hm hb hN
                go_wp2_with fail
                refine hC.mono ?_
                rintro _ w3 ⟨rfl, W2, M2, S3'⟩
                have S3 : Aside _ := S3'
                clear S3' hC
                have HM := Lib.hid (merged_halves H.swo hU hV HSYM.out HM1.out M2)
                have S4 := S3
                rw [List.append_assoc x W1, ← List.append_assoc W1 W2] at S4
                clear S3 M2
                go_wp2_with fail
                go_end0
                exact ⟨rfl, _, HM.out, S4.out⟩
              · skip
                obtain ⟨ha, hm, hb, hN⟩ := HLEN.out
                have hrot := rotK_any enc k H.zE blk off cap N s m e (x ++ U.take (s - a)) (U.drop (s - a)) (V.take (e - m)) (V.drop (e - m) ++ y) d0 w0 wr (.func (.func g) #[] cb) H.row H.size (by simp; omega) (by simp; omega) (by simp; omega) (by simp; omega) (by simp; omega) (by simp; omega) H.small
                  (by rw [List.append_assoc, ← List.append_assoc (U.take (s - a)), List.take_append_drop, ← List.append_assoc (V.take (e - m)), List.take_append_drop]; exact S.out)
                clear S ha hm hb hN
                go_wp2_with fail
                refine hrot.mono ?_
                rintro _ w1 ⟨rfl, S1'⟩
                have S1 : Aside (SWK enc k w0 blk off (x ++ (U.take (s - a) ++ (V.take (e - m) ++ (U.drop (s - a) ++ (V.drop (e - m) ++ y))))).toArray w1) := by rw [List.append_assoc] at S1'; exact S1'
                clear S1' hrot
                obtain ⟨ha, hm, hb, hN⟩ := HLEN.out
                obtain ⟨W1, hW1⟩ : ∃ W1, W1 = U.take (s - a) ++ V.take (e - m) := ⟨_, rfl⟩
                have M1 : MergedTo (ltOf cf) x (U.take (s - a)) (V.take (e - m)) (U.drop (s - a) ++ (V.drop (e - m) ++ y)) W1 := by
                  rw [hW1]
                  refine merged_none (up_take hU _) (up_take hV _) ?_
                  rcases (by omega : s ≤ a ∨ e ≤ m) with h | h
                  · left; rw [show s - a = 0 from by omega]; rfl
                  · right; rw [show e - m = 0 from by omega]; rfl
                have S2 := S1
                rw [← List.append_assoc (U.take (s - a)) (V.take (e - m)), ← hW1] at S2
                clear S1 hW1 ha hm hb hN
                obtain ⟨ha, hm, hb, hN⟩ := HLEN.out
                have HM1 := Lib.hid M1
                clear M1
                obtain ⟨W2, hW2⟩ : ∃ W2, W2 = U.drop (s - a) ++ V.drop (e - m) := ⟨_, rfl⟩
                have M2 : MergedTo (ltOf cf) (x ++ W1) (U.drop (s - a)) (V.drop (e - m)) y W2 := by
                  rw [hW2]
                  refine merged_none (up_drop hU _) (up_drop hV _) ?_
                  rcases (by omega : m ≤ s ∨ b ≤ e) with h | h
                  · left; exact List.drop_of_length_le (by omega)
                  · right; exact List.drop_of_length_le (by omega)
                have S3 := S2
                rw [← List.append_assoc (U.drop (s - a)) (V.drop (e - m)), ← hW2, ← List.append_assoc x W1] at S3
                clear S2 hW2 ha hm hb hN
                have HM := Lib.hid (merged_halves H.swo hU hV HSYM.out HM1.out M2)
                have S4 := S3
                rw [List.append_assoc x W1, ← List.append_assoc W1 W2] at S4
                clear S3 M2
                go_wp2_with fail
                go_end0
                exact ⟨rfl, _, HM.out, S4.out⟩
          · have PC : d < e := by omega
            have PB : ¬ s < d := by omega
            by_cases P3 : a < s
            · by_cases P4 : e < b
              · skip
                obtain ⟨ha, hm, hb, hN⟩ := HLEN.out
                have S1 : Aside (SWK enc k w0 blk off (x ++ (U.take (s - a) ++ (V.take (e - m) ++ (U.drop (s - a) ++ (V.drop (e - m) ++ y))))).toArray wr) := by
                  rcases (by omega : m ≤ s ∨ e ≤ m) with h | h
                  · have e1 : U.drop (s - a) = [] := List.drop_of_length_le (by omega)
                    have e2 : U.take (s - a) = U := List.take_of_length_le (by omega)
                    rw [e1, e2, List.nil_append, ← List.append_assoc (V.take (e - m)), List.take_append_drop]; exact S.out
                  · have e1 : V.take (e - m) = [] := by rw [show e - m = 0 from by omega]; rfl
                    have e2 : V.drop (e - m) = V := by rw [show e - m = 0 from by omega]; rfl
                    rw [e1, e2, List.nil_append, ← List.append_assoc (U.take (s - a)), List.take_append_drop]; exact S.out
                clear S ha hm hb hN
                obtain ⟨ha, hm, hb, hN⟩ := HLEN.out
                obtain ⟨W1, hW1⟩ : ∃ W1, W1 = U.take (s - a) ++ V.take (e - m) := ⟨_, rfl⟩
                have M1 : MergedTo (ltOf cf) x (U.take (s - a)) (V.take (e - m)) (U.drop (s - a) ++ (V.drop (e - m) ++ y)) W1 := by
                  rw [hW1]
                  refine merged_none (up_take hU _) (up_take hV _) ?_
                  rcases (by omega : s ≤ a ∨ e ≤ m) with h | h
                  · left; rw [show s - a = 0 from by omega]; rfl
                  · right; rw [show e - m = 0 from by omega]; rfl
                have S2 := S1
                rw [← List.append_assoc (U.take (s - a)) (V.take (e - m)), ← hW1] at S2
                clear S1 hW1 ha hm hb hN
                obtain ⟨ha, hm, hb, hN⟩ := HLEN.out
                have hWl := M1.len
                simp only [List.length_take] at hWl
                have HWL := Lib.hid hWl
                clear hWl
                have hC := hrec (x ++ W1) (U.drop (s - a)) (V.drop (e - m)) y d e b _ (by have := HWL.out; simp; omega) (by simp; omega) (by simp; omega) (by have := HWL.out; simp; omega) (by simp; omega) (by simp; omega) (by omega) (up_drop hU _) (up_drop hV _) (by rw [List.append_assoc]; exact S2.out)
                have HM1 := Lib.hid M1
                clear S2 M1 ha hm hb hN
                go_wp2_with fail
                refine hC.mono ?_
                rintro _ w3 ⟨rfl, W2, M2, S3'⟩
                have S3 : Aside _ := S3'
                clear S3' hC
                have HM := Lib.hid (merged_halves H.swo hU hV HSYM.out HM1.out M2)
                have S4 := S3
                rw [List.append_assoc x W1, ← List.append_assoc W1 W2] at S4
                clear S3 M2
                go_wp2_with fail
                go_end0
                exact ⟨rfl, _, HM.out, S4.out⟩
              · skip
                obtain ⟨ha, hm, hb, hN⟩ := HLEN.out
                have S1 : Aside (SWK enc k w0 blk off (x ++ (U.take (s - a) ++ (V.take (e - m) ++ (U.drop (s - a) ++ (V.drop (e - m) ++ y))))).toArray wr) := by
                  rcases (by omega : m ≤ s ∨ e ≤ m) with h | h
                  · have e1 : U.drop (s - a) = [] := List.drop_of_length_le (by omega)
                    have e2 : U.take (s - a) = U := List.take_of_length_le (by omega)
                    rw [e1, e2, List.nil_append, ← List.append_assoc (V.take (e - m)), List.take_append_drop]; exact S.out
                  · have e1 : V.take (e - m) = [] := by rw [show e - m = 0 from by omega]; rfl
                    have e2 : V.drop (e - m) = V := by rw [show e - m = 0 from by omega]; rfl
                    rw [e1, e2, List.nil_append, ← List.append_assoc (U.take (s - a)), List.take_append_drop]; exact S.out
                clear S ha hm hb hN
                obtain ⟨ha, hm, hb, hN⟩ := HLEN.out
                obtain ⟨W1, hW1⟩ : ∃ W1, W1 = U.take (s - a) ++ V.take (e - m) := ⟨_, rfl⟩
                have M1 : MergedTo (ltOf cf) x (U.take (s - a)) (V.take (e - m)) (U.drop (s - a) ++ (V.drop (e - m) ++ y)) W1 := by
                  rw [hW1]
                  refine merged_none (up_take hU _) (up_take hV _) ?_
                  rcases (by omega : s ≤ a ∨ e ≤ m) with h | h
                  · left; rw [show s - a = 0 from by omega]; rfl
                  · right; rw [show e - m = 0 from by omega]; rfl
                have S2 := S1
                rw [← List.append_assoc (U.take (s - a)) (V.take (e - m)), ← hW1] at S2
                clear S1 hW1 ha hm hb hN
                obtain ⟨ha, hm, hb, hN⟩ := HLEN.out
                have HM1 := Lib.hid M1
                clear M1
                obtain ⟨W2, hW2⟩ : ∃ W2, W2 = U.drop (s - a) ++ V.drop (e - m) := ⟨_, rfl⟩
                have M2 : MergedTo (ltOf cf) (x ++ W1) (U.drop (s - a)) (V.drop (e - m)) y W2 := by
                  rw [hW2]
                  refine merged_none (up_drop hU _) (up_drop hV _) ?_
                  rcases (by omega : m ≤ s ∨ b ≤ e) with h | h
                  · left; exact List.drop_of_length_le (by omega)
                  · right; exact List.drop_of_length_le (by omega)
                have S3 := S2
                rw [← List.append_assoc (U.drop (s - a)) (V.drop (e - m)), ← hW2, ← List.append_assoc x W1] at S3
                clear S2 hW2 ha hm hb hN
                have HM := Lib.hid (merged_halves H.swo hU hV HSYM.out HM1.out M2)
                have S4 := S3
                rw [List.append_assoc x W1, ← List.append_assoc W1 W2] at S4
                clear S3 M2
                go_wp2_with fail
                go_end0
                exact ⟨rfl, _, HM.out, S4.out⟩
            · by_cases P4 : e < b
              · skip
                obtain ⟨ha, hm, hb, hN⟩ := HLEN.out
                have S1 : Aside (SWK enc k w0 blk off (x ++ (U.take (s - a) ++ (V.take (e - m) ++ (U.drop (s - a) ++ (V.drop (e - m) ++ y))))).toArray wr) := by
                  rcases (by omega : m ≤ s ∨ e ≤ m) with h | h
                  · have e1 : U.drop (s - a) = [] := List.drop_of_length_le (by omega)
                    have e2 : U.take (s - a) = U := List.take_of_length_le (by omega)
                    rw [e1, e2, List.nil_append, ← List.append_assoc (V.take (e - m)), List.take_append_drop]; exact S.out
                  · have e1 : V.take (e - m) = [] := by rw [show e - m = 0 from by omega]; rfl
                    have e2 : V.drop (e - m) = V := by rw [show e - m = 0 from by omega]; rfl
                    rw [e1, e2, List.nil_append, ← List.append_assoc (U.take (s - a)), List.take_append_drop]; exact S.out
                clear S ha hm hb hN
                obtain ⟨ha, hm, hb, hN⟩ := HLEN.out
                obtain ⟨W1, hW1⟩ : ∃ W1, W1 = U.take (s - a) ++ V.take (e - m) := ⟨_, rfl⟩
                have M1 : MergedTo (ltOf cf) x (U.take (s - a)) (V.take (e - m)) (U.drop (s - a) ++ (V.drop (e - m) ++ y)) W1 := by
                  rw [hW1]
                  refine merged_none (up_take hU _) (up_take hV _) ?_
                  rcases (by omega : s ≤ a ∨ e ≤ m) with h | h
                  · left; rw [show s - a = 0 from by omega]; rfl
                  · right; rw [show e - m = 0 from by omega]; rfl
                have S2 := S1
                rw [← List.append_assoc (U.take (s - a)) (V.take (e - m)), ← hW1] at S2
                clear S1 hW1 ha hm hb hN
                obtain ⟨ha, hm, hb, hN⟩ := HLEN.out
                have hWl := M1.len
                simp only [List.length_take] at hWl
                have HWL := Lib.hid hWl
                clear hWl
                have hC := hrec (x ++ W1) (U.drop (s - a)) (V.drop (e - m)) y d e b _ (by have := HWL.out; simp; omega) (by simp; omega) (by simp; omega) (by have := HWL.out; simp; omega) (by simp; omega) (by simp; omega) (by omega) (up_drop hU _) (up_drop hV _) (by rw [List.append_assoc]; exact S2.out)
                have HM1 := Lib.hid M1
                clear S2 M1 ha hm hb hN
                go_wp2_with fail
                refine hC.mono ?_
                rintro _ w3 ⟨rfl, W2, M2, S3'⟩
                have S3 : Aside _ := S3'
                clear S3' hC
                have HM := Lib.hid (merged_halves H.swo hU hV HSYM.out HM1.out M2)
                have S4 := S3
                rw [List.append_assoc x W1, ← List.append_assoc W1 W2] at S4
                clear S3 M2
                go_wp2_with fail
                go_end0
                exact ⟨rfl, _, HM.out, S4.out⟩
              · skip
                obtain ⟨ha, hm, hb, hN⟩ := HLEN.out
                have S1 : Aside (SWK enc k w0 blk off (x ++ (U.take (s - a) ++ (V.take (e - m) ++ (U.drop (s - a) ++ (V.drop (e - m) ++ y))))).toArray wr) := by
                  rcases (by omega : m ≤ s ∨ e ≤ m) with h | h
                  · have e1 : U.drop (s - a) = [] := List.drop_of_length_le (by omega)
                    have e2 : U.take (s - a) = U := List.take_of_length_le (by omega)
                    rw [e1, e2, List.nil_append, ← List.append_assoc (V.take (e - m)), List.take_append_drop]; exact S.out
                  · have e1 : V.take (e - m) = [] := by rw [show e - m = 0 from by omega]; rfl
                    have e2 : V.drop (e - m) = V := by rw [show e - m = 0 from by omega]; rfl
                    rw [e1, e2, List.nil_append, ← List.append_assoc (U.take (s - a)), List.take_append_drop]; exact S.out
                clear S ha hm hb hN
                obtain ⟨ha, hm, hb, hN⟩ := HLEN.out
                obtain ⟨W1, hW1⟩ : ∃ W1, W1 = U.take (s - a) ++ V.take (e - m) := ⟨_, rfl⟩
                have M1 : MergedTo (ltOf cf) x (U.take (s - a)) (V.take (e - m)) (U.drop (s - a) ++ (V.drop (e - m) ++ y)) W1 := by
                  rw [hW1]
                  refine merged_none (up_take hU _) (up_take hV _) ?_
                  rcases (by omega : s ≤ a ∨ e ≤ m) with h | h
                  · left; rw [show s - a = 0 from by omega]; rfl
                  · right; rw [show e - m = 0 from by omega]; rfl
                have S2 := S1
                rw [← List.append_assoc (U.take (s - a)) (V.take (e - m)), ← hW1] at S2
                clear S1 hW1 ha hm hb hN
                obtain ⟨ha, hm, hb, hN⟩ := HLEN.out
                have HM1 := Lib.hid M1
                clear M1
                obtain ⟨W2, hW2⟩ : ∃ W2, W2 = U.drop (s - a) ++ V.drop (e - m) := ⟨_, rfl⟩
                have M2 : MergedTo (ltOf cf) (x ++ W1) (U.drop (s - a)) (V.drop (e - m)) y W2 := by
                  rw [hW2]
                  refine merged_none (up_drop hU _) (up_drop hV _) ?_
                  rcases (by omega : m ≤ s ∨ b ≤ e) with h | h
                  · left; exact List.drop_of_length_le (by omega)
                  · right; exact List.drop_of_length_le (by omega)
                have S3 := S2
                rw [← List.append_assoc (U.drop (s - a)) (V.drop (e - m)), ← hW2, ← List.append_assoc x W1] at S3
                clear S2 hW2 ha hm hb hN
                have HM := Lib.hid (merged_halves H.swo hU hV HSYM.out HM1.out M2)
                have S4 := S3
                rw [List.append_assoc x W1, ← List.append_assoc W1 W2] at S4
                clear S3 M2
                go_wp2_with fail
                go_end0
                exact ⟨rfl, _, HM.out, S4.out⟩
        · by_cases P2 : m < e
          · have PC : ¬ d < e := by omega
            have PB : s < d := by omega
            by_cases P3 : a < s
            · skip
              obtain ⟨ha, hm, hb, hN⟩ := HLEN.out
              have S1 : Aside (SWK enc k w0 blk off (x ++ (U.take (s - a) ++ (V.take (e - m) ++ (U.drop (s - a) ++ (V.drop (e - m) ++ y))))).toArray wr) := by
                rcases (by omega : m ≤ s ∨ e ≤ m) with h | h
                · have e1 : U.drop (s - a) = [] := List.drop_of_length_le (by omega)
                  have e2 : U.take (s - a) = U := List.take_of_length_le (by omega)
                  rw [e1, e2, List.nil_append, ← List.append_assoc (V.take (e - m)), List.take_append_drop]; exact S.out
                · have e1 : V.take (e - m) = [] := by rw [show e - m = 0 from by omega]; rfl
                  have e2 : V.drop (e - m) = V := by rw [show e - m = 0 from by omega]; rfl
                  rw [e1, e2, List.nil_append, ← List.append_assoc (U.take (s - a)), List.take_append_drop]; exact S.out
              clear S ha hm hb hN
              obtain ⟨ha, hm, hb, hN⟩ := HLEN.out
              have hB := hrec x (U.take (s - a)) (V.take (e - m)) (U.drop (s - a) ++ (V.drop (e - m) ++ y)) a s d _ (by simp; omega) (by simp; omega) (by simp; omega) ha (by simp; omega) (by simp; omega) (by simp; omega) (up_take hU _) (up_take hV _) S1.out
              clear S1 ha hm hb hN
              go_wp2_with fail
              refine hB.mono ?_
              rintro _ w2 ⟨rfl, W1, M1, S2'⟩
              have S2 : Aside _ := S2'
              clear S2' hB
              obtain ⟨ha, hm, hb, hN⟩ := HLEN.out
              have HM1 := Lib.hid M1
              clear M1
              obtain ⟨W2, hW2⟩ : ∃ W2, W2 = U.drop (s - a) ++ V.drop (e - m) := ⟨_, rfl⟩
              have M2 : MergedTo (ltOf cf) (x ++ W1) (U.drop (s - a)) (V.drop (e - m)) y W2 := by
                rw [hW2]
                refine merged_none (up_drop hU _) (up_drop hV _) ?_
                rcases (by omega : m ≤ s ∨ b ≤ e) with h | h
                · left; exact List.drop_of_length_le (by omega)
                · right; exact List.drop_of_length_le (by omega)
              have S3 := S2
              rw [← List.append_assoc (U.drop (s - a)) (V.drop (e - m)), ← hW2, ← List.append_assoc x W1] at S3
              clear S2 hW2 ha hm hb hN
              have HM := Lib.hid (merged_halves H.swo hU hV HSYM.out HM1.out M2)
              have S4 := S3
              rw [List.append_assoc x W1, ← List.append_assoc W1 W2] at S4
              clear S3 M2
              go_wp2_with fail
              go_end0
              exact ⟨rfl, _, HM.out, S4.out⟩
            · skip
              obtain ⟨ha, hm, hb, hN⟩ := HLEN.out
              have S1 : Aside (SWK enc k w0 blk off (x ++ (U.take (s - a) ++ (V.take (e - m) ++ (U.drop (s - a) ++ (V.drop (e - m) ++ y))))).toArray wr) := by
                rcases (by omega : m ≤ s ∨ e ≤ m) with h | h
                · have e1 : U.drop (s - a) = [] := List.drop_of_length_le (by omega)
                  have e2 : U.take (s - a) = U := List.take_of_length_le (by omega)
                  rw [e1, e2, List.nil_append, ← List.append_assoc (V.take (e - m)), List.take_append_drop]; exact S.out
                · have e1 : V.take (e - m) = [] := by rw [show e - m = 0 from by omega]; rfl
                  have e2 : V.drop (e - m) = V := by rw [show e - m = 0 from by omega]; rfl
                  rw [e1, e2, List.nil_append, ← List.append_assoc (U.take (s - a)), List.take_append_drop]; exact S.out
              clear S ha hm hb hN
              obtain ⟨ha, hm, hb, hN⟩ := HLEN.out
              obtain ⟨W1, hW1⟩ : ∃ W1, W1 = U.take (s - a) ++ V.take (e - m) := ⟨_, rfl⟩
              have M1 : MergedTo (ltOf cf) x (U.take (s - a)) (V.take (e - m)) (U.drop (s - a) ++ (V.drop (e - m) ++ y)) W1 := by
                rw [hW1]
                refine merged_none (up_take hU _) (up_take hV _) ?_
                rcases (by omega : s ≤ a ∨ e ≤ m) with h | h
                · left; rw [show s - a = 0 from by omega]; rfl
                · right; rw [show e - m = 0 from by omega]; rfl
              have S2 := S1
              rw [← List.append_assoc (U.take (s - a)) (V.take (e - m)), ← hW1] at S2
              clear S1 hW1 ha hm hb hN
              obtain ⟨ha, hm, hb, hN⟩ := HLEN.out
              have HM1 := Lib.hid M1
              clear M1
              obtain ⟨W2, hW2⟩ : ∃ W2, W2 = U.drop (s - a) ++ V.drop (e - m) := ⟨_, rfl⟩
              have M2 : MergedTo (ltOf cf) (x ++ W1) (U.drop (s - a)) (V.drop (e - m)) y W2 := by
                rw [hW2]
                refine merged_none (up_drop hU _) (up_drop hV _) ?_
                rcases (by omega : m ≤ s ∨ b ≤ e) with h | h
                · left; exact List.drop_of_length_le (by omega)
                · right; exact List.drop_of_length_le (by omega)
              have S3 := S2
              rw [← List.append_assoc (U.drop (s - a)) (V.drop (e - m)), ← hW2, ← List.append_assoc x W1] at S3
              clear S2 hW2 ha hm hb hN
              have HM := Lib.hid (merged_halves H.swo hU hV HSYM.out HM1.out M2)
              have S4 := S3
              rw [List.append_assoc x W1, ← List.append_assoc W1 W2] at S4
              clear S3 M2
              go_wp2_with fail
              go_end0
              exact ⟨rfl, _, HM.out, S4.out⟩
          · have PC : ¬ d < e := by omega
            have PB : ¬ s < d := by omega
            by_cases P3 : a < s
            · skip
              obtain ⟨ha, hm, hb, hN⟩ := HLEN.out
              have S1 : Aside (SWK enc k w0 blk off (x ++ (U.take (s - a) ++ (V.take (e - m) ++ (U.drop (s - a) ++ (V.drop (e - m) ++ y))))).toArray wr) := by
                rcases (by omega : m ≤ s ∨ e ≤ m) with h | h
                · have e1 : U.drop (s - a) = [] := List.drop_of_length_le (by omega)
                  have e2 : U.take (s - a) = U := List.take_of_length_le (by omega)
                  rw [e1, e2, List.nil_append, ← List.append_assoc (V.take (e - m)), List.take_append_drop]; exact S.out
                · have e1 : V.take (e - m) = [] := by rw [show e - m = 0 from by omega]; rfl
                  have e2 : V.drop (e - m) = V := by rw [show e - m = 0 from by omega]; rfl
                  rw [e1, e2, List.nil_append, ← List.append_assoc (U.take (s - a)), List.take_append_drop]; exact S.out
              clear S ha hm hb hN
              obtain ⟨ha, hm, hb, hN⟩ := HLEN.out
              obtain ⟨W1, hW1⟩ : ∃ W1, W1 = U.take (s - a) ++ V.take (e - m) := ⟨_, rfl⟩
              have M1 : MergedTo (ltOf cf) x (U.take (s - a)) (V.take (e - m)) (U.drop (s - a) ++ (V.drop (e - m) ++ y)) W1 := by
                rw [hW1]
                refine merged_none (up_take hU _) (up_take hV _) ?_
                rcases (by omega : s ≤ a ∨ e ≤ m) with h | h
                · left; rw [show s - a = 0 from by omega]; rfl
                · right; rw [show e - m = 0 from by omega]; rfl
              have S2 := S1
              rw [← List.append_assoc (U.take (s - a)) (V.take (e - m)), ← hW1] at S2
              clear S1 hW1 ha hm hb hN
              obtain ⟨ha, hm, hb, hN⟩ := HLEN.out
              have HM1 := Lib.hid M1
              clear M1
              obtain ⟨W2, hW2⟩ : ∃ W2, W2 = U.drop (s - a) ++ V.drop (e - m) := ⟨_, rfl⟩
              have M2 : MergedTo (ltOf cf) (x ++ W1) (U.drop (s - a)) (V.drop (e - m)) y W2 := by
                rw [hW2]
                refine merged_none (up_drop hU _) (up_drop hV _) ?_
                rcases (by omega : m ≤ s ∨ b ≤ e) with h | h
                · left; exact List.drop_of_length_le (by omega)
                · right; exact List.drop_of_length_le (by omega)
              have S3 := S2
              rw [← List.append_assoc (U.drop (s - a)) (V.drop (e - m)), ← hW2, ← List.append_assoc x W1] at S3
              clear S2 hW2 ha hm hb hN
              have HM := Lib.hid (merged_halves H.swo hU hV HSYM.out HM1.out M2)
              have S4 := S3
              rw [List.append_assoc x W1, ← List.append_assoc W1 W2] at S4
              clear S3 M2
              go_wp2_with fail
              go_end0
              exact ⟨rfl, _, HM.out, S4.out⟩
            · skip
              obtain ⟨ha, hm, hb, hN⟩ := HLEN.out
              have S1 : Aside (SWK enc k w0 blk off (x ++ (U.take (s - a) ++ (V.take (e - m) ++ (U.drop (s - a) ++ (V.drop (e - m) ++ y))))).toArray wr) := by
                rcases (by omega : m ≤ s ∨ e ≤ m) with h | h
                · have e1 : U.drop (s - a) = [] := List.drop_of_length_le (by omega)
                  have e2 : U.take (s - a) = U := List.take_of_length_le (by omega)
                  rw [e1, e2, List.nil_append, ← List.append_assoc (V.take (e - m)), List.take_append_drop]; exact S.out
                · have e1 : V.take (e - m) = [] := by rw [show e - m = 0 from by omega]; rfl
                  have e2 : V.drop (e - m) = V := by rw [show e - m = 0 from by omega]; rfl
                  rw [e1, e2, List.nil_append, ← List.append_assoc (U.take (s - a)), List.take_append_drop]; exact S.out
              clear S ha hm hb hN
              obtain ⟨ha, hm, hb, hN⟩ := HLEN.out
              obtain ⟨W1, hW1⟩ : ∃ W1, W1 = U.take (s - a) ++ V.take (e - m) := ⟨_, rfl⟩
              have M1 : MergedTo (ltOf cf) x (U.take (s - a)) (V.take (e - m)) (U.drop (s - a) ++ (V.drop (e - m) ++ y)) W1 := by
                rw [hW1]
                refine merged_none (up_take hU _) (up_take hV _) ?_
                rcases (by omega : s ≤ a ∨ e ≤ m) with h | h
                · left; rw [show s - a = 0 from by omega]; rfl
                · right; rw [show e - m = 0 from by omega]; rfl
              have S2 := S1
              rw [← List.append_assoc (U.take (s - a)) (V.take (e - m)), ← hW1] at S2
              clear S1 hW1 ha hm hb hN
              obtain ⟨ha, hm, hb, hN⟩ := HLEN.out
              have HM1 := Lib.hid M1
              clear M1
              obtain ⟨W2, hW2⟩ : ∃ W2, W2 = U.drop (s - a) ++ V.drop (e - m) := ⟨_, rfl⟩
              have M2 : MergedTo (ltOf cf) (x ++ W1) (U.drop (s - a)) (V.drop (e - m)) y W2 := by
                rw [hW2]
                refine merged_none (up_drop hU _) (up_drop hV _) ?_
                rcases (by omega : m ≤ s ∨ b ≤ e) with h | h
                · left; exact List.drop_of_length_le (by omega)
                · right; exact List.drop_of_length_le (by omega)
              have S3 := S2
              rw [← List.append_assoc (U.drop (s - a)) (V.drop (e - m)), ← hW2, ← List.append_assoc x W1] at S3
              clear S2 hW2 ha hm hb hN
              have HM := Lib.hid (merged_halves H.swo hU hV HSYM.out HM1.out M2)
              have S4 := S3
              rw [List.append_assoc x W1, ← List.append_assoc W1 W2] at S4
              clear S3 M2
              go_wp2_with fail
              go_end0
              exact ⟨rfl, _, HM.out, S4.out⟩
end
end Go.Proofs.Ytelailhghhjleaa
