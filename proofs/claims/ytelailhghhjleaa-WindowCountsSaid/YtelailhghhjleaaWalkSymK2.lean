/- The walk of slices.symMergeCmpFunc at records: one alone on the right. -/
import Derived.Test.YtelailhghhjleaaWalkSymK
namespace Go.Proofs.Ytelailhghhjleaa
open Go.RowKit Go.Sort Go.Shelf Go.Lib

section
variable {α : Type} [Inhabited α] {enc : α → List Value} {k : Nat} {cf : α → α → Int} {g : Nat} {cb : Array Value} {blk off N : Nat} {d0 : Array α} {w0 : World}
set_option maxRecDepth 1000000 in
set_option maxHeartbeats 4000000 in
theorem symK_two (H : Srt enc k cf g cb blk off N d0 w0) (cap a m b : Nat) (x U y : List α) (p : α) (w : World) (hN : N = x.length + U.length + 1 + y.length) (ha : a = x.length) (hm : m = a + U.length) (hb : b = m + 1) (hU1 : 1 < U.length) (hU : Up (ltOf cf) U)
    (S : SWK enc k w0 blk off (x ++ (U ++ ([p] ++ y))).toArray w) :
    Calls Try.prog 69 #[.slice (some ⟨blk, off, none⟩) N cap, .int .i64 a, .int .i64 m, .int .i64 b, .func (.func g) #[] cb] w fun e w' =>
      e = .returned (.tuple #[]) ∧ ∃ W, MergedTo (ltOf cf) x U [p] y W ∧ SWK enc k w0 blk off (x ++ (W ++ y)).toArray w' := by
  have mixed := mixed_
  have aE := aggRec
  have zE := H.zE
  have eg := H.enters
  have hsz := H.small
  have ham : a + 1 < m := by omega
  have hmb : m < b := by omega
  have hmb2 : b ≤ m + 1 := by omega
  have hbN : b ≤ N := by omega
  have hsh : SWK enc k w0 blk off (shf x U y p (m - a)) w := by rw [show m - a = U.length from by omega, shf_full]; exact S
  have S0 : Aside _ := hsh
  have HD0 : Hid ((shf x U y p (m - a))[m]! = p) := Lib.hid (by
    have := get_mid (x := x ++ U) (U := [p]) (y := y) (t := 0) (by simp)
    rw [show m - a = U.length from by omega, shf_full, show m = (x ++ U).length + 0 from by simp; omega, ← List.append_assoc]
    exact this)
  have HSRT : Hid (SortedIn (ltOf cf) a m (shf x U y p (m - a))) := Lib.hid (by
    rw [show m - a = U.length from by omega, shf_full]
    exact sortedIn_of_up hU ha (by omega))
  have HMER := Lib.hid (fun i h1 h2 hf => merged_right (x := x) (y := y) (p := p) H.swo hU ha hm (i := i) h1 h2 hf)
  rw [← shf_full, show U.length = m - a from by omega] at HMER
  have HUP := Lib.hid (fun kp (h1 : a ≤ kp) (h2 : kp < m) => (by
    have := shf_down (x := x) (V := U) (y := y) (p := p) (s := kp - a) (by omega)
    rw [← ha, show a + (kp - a) = kp from by omega, show kp - a + 1 = kp + 1 - a from by omega] at this
    exact this : swp (shf x U y p (kp + 1 - a)) (kp + 1) kp = shf x U y p (kp - a)))
  have HSIZE := Lib.hid (fun s => (shf_size x U y p s).trans (show _ = N by omega))
  have HAT := Lib.hid (fun s => shf_at x U y p s)
  obtain ⟨D, hD⟩ : ∃ D, D = shf x U y p := ⟨_, rfl⟩
  rw [← hD] at S0 HD0 HSRT HMER HUP HSIZE HAT
  clear S hsh hN ha hm hb hD hU1
  have hF := Found.start (fun t => !ltOf cf p (D (m - a))[t]!) a m
  have HF := Lib.hid hF
  clear hF
  go_enter Try.func69, Try.ntmps69
  have t0 : ((m : Int) - (a : Int) == 1) = false := by simp; omega
  have t1 : (b : Int) - (m : Int) = 1 := by omega
  go_wp2
  go_loopg [14, 15] (m - a) (fun g1 vi vj wr => ∃ i j : Nat, vi = .int .i64 i ∧ vj = .int .i64 j ∧ a ≤ i ∧ i ≤ j ∧ j ≤ m ∧ j - i ≤ g1 ∧ Hid (Found (fun t => !ltOf cf p (D (m - a))[t]!) a m i j) ∧ Aside (SWK enc k w0 blk off (D (m - a)) wr))
  case atStart => exact ⟨a, m, rfl, rfl, Nat.le_refl _, by omega, Nat.le_refl _, by omega, HF, S0⟩
  case round =>
    clear S0 HF
    obtain ⟨i, j, rfl, rfl, hmi, hij, hjb, hg, HF, S⟩ := hrel
    by_cases hlt : i < j
    · obtain ⟨h, hh⟩ : ∃ h, h = (i + j) / 2 := ⟨_, rfl⟩
      have eh : ((i : Int) + (j : Int)) / 2 = (h : Int) := by omega
      have hhi : i ≤ h := by omega
      have hhj : h < j := by omega
      have HSZ := Lib.hid (HSIZE.out (m - a))
      obtain ⟨Da, hDa⟩ : ∃ Da, Da = D (m - a) := ⟨_, rfl⟩
      rw [← hDa] at S HSZ
      have HDa := Lib.hid hDa
      have LI : m < Da.size := by have := HSZ.out; omega
      have LJ : h < Da.size := by have := HSZ.out; omega
      clear hh hDa
      have l1 := fun n os => S.out.ld H.row (HSZ.out.trans H.size.symm) Try.prog m LI n os
      have l2 := fun n os => S.out.ld H.row (HSZ.out.trans H.size.symm) Try.prog h LJ n os
      have hcg := fun n os => S.out.cmp H.cmp HSZ.out Da[m]! Da[h]! n os
      obtain ⟨x1, hx1⟩ : ∃ x, x = Da[m]! := ⟨_, rfl⟩
      obtain ⟨x2, hx2⟩ : ∃ x, x = Da[h]! := ⟨_, rfl⟩
      rw [← hx1] at l1 hcg
      rw [← hx2] at l2 hcg
      have HX := Lib.hid (And.intro hx1 hx2)
      have SG := fun n os => S.out.grown n os
      clear S hx1 hx2
      have SGA : Aside _ := SG
      clear SG
      have p0 : (0 : Int) ≤ (h : Int) := by omega
      have p1 : (h : Int) < (N : Int) := by omega
      have p2 : (m : Int) < (N : Int) := by omega
      clear LI LJ
      by_cases hc : cf x1 x2 < 0
      · have HF2 : Hid (Found (fun t => !ltOf cf p (D (m - a))[t]!) a m i h) := Lib.hid (Found.down (falls_two H.swo HSRT.out) HF.out (by omega) (by
          have e1 := HX.out.1; have e2 := HX.out.2
          rw [HDa.out] at e1 e2
          simp only [ltOf, ← e2]
          rw [← HD0.out, ← e1]
          simpa using hc))
        clear HF
        go_wp2_with fail
        go_quiet_grown (first | (go_at_fn g; refine Calls.grown_of (hcg _ _)))
        go_wp2_with fail
        go_roundg (h - i)
        case measure => omega
        case rel => exact ⟨i, h, rfl, rfl, by omega, by omega, by omega, Nat.le_refl _, HF2, HDa.out ▸ SGA.out nq osq⟩
      · have HF2 : Hid (Found (fun t => !ltOf cf p (D (m - a))[t]!) a m (h + 1) j) := Lib.hid (Found.up (falls_two H.swo HSRT.out) HF.out (by omega) (by
          have e1 := HX.out.1; have e2 := HX.out.2
          rw [HDa.out] at e1 e2
          simp only [ltOf, ← e2]
          rw [← HD0.out, ← e1]
          simpa using hc))
        clear HF
        have hc2 : decide (cf x1 x2 < 0) = false := decide_eq_false hc
        go_wp2_with fail
        go_quiet_grown (first | (go_at_fn g; refine Calls.grown_of (hcg _ _)))
        go_wp2_with fail
        go_roundg (j - (h + 1))
        case measure => omega
        case rel => exact ⟨h + 1, j, by go_num, rfl, by omega, by omega, hjb, Nat.le_refl _, HF2, HDa.out ▸ SGA.out nq osq⟩
    · obtain rfl : i = j := by omega
      have HM2 := Lib.hid (HMER.out i hmi hjb HF.out)
      clear HF HMER
      go_wp2
      go_loopg [17] (m - i) (fun g1 vk wr => ∃ q : Nat, vk = .int .i64 q ∧ i ≤ q ∧ q ≤ m ∧ q - i ≤ g1 ∧ Aside (SWK enc k w0 blk off (D (q - a)) wr))
      case atStart => exact ⟨m, rfl, hjb, Nat.le_refl _, Nat.le_refl _, S⟩
      case round =>
        clear S
        obtain ⟨q, rfl, hiq, hqm, hg2, S⟩ := hrel
        by_cases hlt : i < q
        · obtain ⟨r, rfl⟩ : ∃ r, q = r + 1 := ⟨q - 1, by omega⟩
          have HSZ := Lib.hid (HSIZE.out (r + 1 - a))
          have HST := Lib.hid (HUP.out r (by omega) (by omega))
          obtain ⟨Ds, hDs⟩ : ∃ Ds, Ds = D (r + 1 - a) := ⟨_, rfl⟩
          rw [← hDs] at S HSZ HST
          clear hDs
          have LI : r + 1 < Ds.size := by have := HSZ.out; omega
          have LJ : r < Ds.size := by have := HSZ.out; omega
          have S2 : Aside (SWK enc k w0 blk off (swp Ds (r + 1) r) ((wr.drew.setCells blk (off + (r + 1) * k) (enc Ds[r]!)).setCells blk (off + r * k) (enc Ds[(r + 1)]!))) := S.out.swapped H.row (r + 1) r LI LJ
          have l1 := S.out.ld1 H.row (HSZ.out.trans H.size.symm) Try.prog (r + 1) LI
          have l2 := S.out.ld1 H.row (HSZ.out.trans H.size.symm) Try.prog r LJ
          have s1 := S.out.st1 H.row (HSZ.out.trans H.size.symm) Try.prog (r + 1) LI Ds[r]!
          have s2 := S.out.st2 H.row (HSZ.out.trans H.size.symm) Try.prog (r + 1) r LI LJ Ds[r]! Ds[(r + 1)]!
          have n1 : (enc Ds[(r + 1)]!).length = k := H.row.hk _
          have n2 : (enc Ds[r]!).length = k := H.row.hk _
          generalize enc Ds[(r + 1)]! = c1 at S2 l1 s2 n1
          generalize enc Ds[r]! = c2 at S2 l2 s1 s2 n2
          clear S
          clear LI LJ
          have t2 : (i : Int) < (r : Int) + 1 := by omega
          have ea : ((r : Int) + 1).toNat = r + 1 := by omega
          have pa : (0 : Int) ≤ (r : Int) + 1 := by omega
          have ba : (r : Int) + 1 < (N : Int) := by omega
          have rb : IntKind.i64.wrap (r : Int) = (r : Int) := by rw [IntKind.wrap_i64]; omega
          have bb : (r : Int) < (N : Int) := by omega
          go_wp2_with fail
          go_big_region_o
          all_goals go_wp2
          all_goals
            go_roundg (r - i)
            case measure => omega
            case rel => exact ⟨r, by first | rfl | go_num | (congr 1; omega), by omega, by omega, Nat.le_refl _, HST.out ▸ S2⟩
        · obtain rfl : i = q := by omega
          have t2 : ¬ (i : Int) < (i : Int) := by omega
          go_wp2
          refine bodyPost_ret (results_none rfl _ _ _) rfl ?_
          exact ⟨rfl, _, HM2.out, HAT.out (i - a) ▸ S.out⟩
end
end Go.Proofs.Ytelailhghhjleaa
