/- The walk of slices.symMergeCmpFunc at records: one alone on a side. -/
import Derived.Test.YtelailhghhjleaaWalkRotK
import Derived.Test.YtelailhghhjleaaPlainSym
import Derived.Shelf.SlSortCmp.QuietGrown
namespace Go.Proofs.Ytelailhghhjleaa
open Go.RowKit Go.Sort Go.Shelf Go.Lib

/-- What every walk of the sort is told. -/
structure Srt {α : Type} [Inhabited α] (enc : α → List Value) (k : Nat) (cf : α → α → Int) (g : Nat) (cb : Array Value) (blk off N : Nat) (d0 : Array α) (w0 : World) : Prop where
  zE : ∀ w, (Go.sizeOf 29).run Try.prog w = .ok k w
  swo : SWO (ltOf cf)
  enters : ∀ args w, (callFunc g args).run Try.prog w = .ok (.enter g args) w
  cmp : CmpLays Try.prog g cb enc k cf blk off N w0
  row : RowK enc k w0 blk off d0
  size : d0.size = N
  small : N < 4611686018427387904

section
variable {α : Type} [Inhabited α] {enc : α → List Value} {k : Nat} {cf : α → α → Int} {g : Nat} {cb : Array Value} {blk off N : Nat} {d0 : Array α} {w0 : World}
set_option maxRecDepth 1000000 in
set_option maxHeartbeats 4000000 in
theorem symK_one (H : Srt enc k cf g cb blk off N d0 w0) (cap a m b : Nat) (x V y : List α) (p : α) (w : World) (hN : N = x.length + 1 + V.length + y.length) (ha : a = x.length) (hm : m = x.length + 1) (hb : b = m + V.length) (hV : Up (ltOf cf) V)
    (S : SWK enc k w0 blk off (x ++ ([p] ++ (V ++ y))).toArray w) :
    Calls Try.prog 69 #[.slice (some ⟨blk, off, none⟩) N cap, .int .i64 a, .int .i64 m, .int .i64 b, .func (.func g) #[] cb] w fun e w' =>
      e = .returned (.tuple #[]) ∧ ∃ W, MergedTo (ltOf cf) x [p] V y W ∧ SWK enc k w0 blk off (x ++ (W ++ y)).toArray w' := by
  have mixed := mixed_
  have aE := aggRec
  have zE := H.zE
  have eg := H.enters
  have hsz := H.small
  have ham : m ≤ a + 1 := by omega
  have ham2 : a + 1 ≤ m := by omega
  have hmb : m ≤ b := by omega
  have hbN : b ≤ N := by omega
  have hsh : SWK enc k w0 blk off (shf x V y p 0) w := by rw [shf_zero]; exact S
  have S0 : Aside _ := hsh
  have HD0 : Hid ((shf x V y p 0)[a]! = p) := Lib.hid (by
    rw [shf_zero, ha]
    exact get_mid (x := x) (U := [p]) (y := V ++ y) (t := 0) (by simp))
  have HSRT : Hid (SortedIn (ltOf cf) m b (shf x V y p 0)) := Lib.hid (by
    have := sortedIn_of_up (x := x ++ [p]) (y := y) hV (a := m) (b := b) (by simp; omega) (by simp; omega)
    rw [shf_zero]
    simpa using this)
  have HMER := Lib.hid (fun i h1 h2 hf => merged_left (x := x) (y := y) (p := p) H.swo hV hm hb (i := i) h1 h2 hf)
  have HUP := Lib.hid (fun s (hs : s < V.length) => shf_up (x := x) (y := y) (p := p) hs)
  have HSIZE := Lib.hid (fun s => (shf_size x V y p s).trans (show _ = N by omega))
  have HAT := Lib.hid (fun s => shf_at x V y p s)
  rw [← shf_zero] at HMER
  obtain ⟨L, hL⟩ : ∃ L, L = V.length := ⟨_, rfl⟩
  rw [← hL] at HUP hb
  rw [← ha] at HUP
  have HL := Lib.hid hL
  obtain ⟨D, hD⟩ : ∃ D, D = shf x V y p := ⟨_, rfl⟩
  rw [← hD] at S0 HD0 HSRT HMER HUP HSIZE HAT
  have hbL : b ≤ m + L := by omega
  clear S hsh hN ha hm hb hD hL
  have hF := Found.start (fun t => ltOf cf (D 0)[t]! p) m b
  have HF := Lib.hid hF
  clear hF
  go_enter Try.func69, Try.ntmps69
  have t1 : (m : Int) - (a : Int) = 1 := by omega
  go_wp2
  go_loopg [10, 11] (b - m) (fun g1 vi vj wr => ∃ i j : Nat, vi = .int .i64 i ∧ vj = .int .i64 j ∧ m ≤ i ∧ i ≤ j ∧ j ≤ b ∧ j - i ≤ g1 ∧ Hid (Found (fun t => ltOf cf (D 0)[t]! p) m b i j) ∧ Aside (SWK enc k w0 blk off (D 0) wr))
  case atStart => exact ⟨m, b, rfl, rfl, Nat.le_refl _, hmb, Nat.le_refl _, by omega, HF, S0⟩
  case round =>
    clear S0 HF
    obtain ⟨i, j, rfl, rfl, hmi, hij, hjb, hg, HF, S⟩ := hrel
    by_cases hlt : i < j
    · obtain ⟨h, hh⟩ : ∃ h, h = (i + j) / 2 := ⟨_, rfl⟩
      have eh : ((i : Int) + (j : Int)) / 2 = (h : Int) := by omega
      have hhi : i ≤ h := by omega
      have hhj : h < j := by omega
      have HSZ := Lib.hid (HSIZE.out 0)
      obtain ⟨Da, hDa⟩ : ∃ Da, Da = D 0 := ⟨_, rfl⟩
      rw [← hDa] at S HSZ
      have HDa := Lib.hid hDa
      have LI : h < Da.size := by have := HSZ.out; omega
      have LJ : a < Da.size := by have := HSZ.out; omega
      clear hh hDa
      have l1 := fun n os => S.out.ld H.row (HSZ.out.trans H.size.symm) Try.prog h LI n os
      have l2 := fun n os => S.out.ld H.row (HSZ.out.trans H.size.symm) Try.prog a LJ n os
      have hcg := fun n os => S.out.cmp H.cmp HSZ.out Da[h]! Da[a]! n os
      obtain ⟨x1, hx1⟩ : ∃ x, x = Da[h]! := ⟨_, rfl⟩
      obtain ⟨x2, hx2⟩ : ∃ x, x = Da[a]! := ⟨_, rfl⟩
      rw [← hx1] at l1 hcg
      rw [← hx2] at l2 hcg
      have HX := Lib.hid (And.intro hx1 hx2)
      have SG := fun n os => S.out.grown n os
      clear S hx1 hx2
      have SGA : Aside _ := SG
      clear SG
      have p0 : (0 : Int) ≤ (h : Int) := by omega
      have p1 : (h : Int) < (N : Int) := by omega
      have p2 : (a : Int) < (N : Int) := by omega
      clear LI LJ
      by_cases hc : cf x1 x2 < 0
      · have HF2 : Hid (Found (fun t => ltOf cf (D 0)[t]! p) m b (h + 1) j) := Lib.hid (Found.up (falls_one H.swo HSRT.out) HF.out (by omega) (by
          have e1 := HX.out.1; have e2 := HX.out.2
          rw [HDa.out] at e1 e2
          simp only [ltOf, ← e1]
          rw [← HD0.out, ← e2]
          exact decide_eq_true hc))
        clear HF
        go_wp2_with fail
        go_quiet_grown (first | (go_at_fn g; refine Calls.grown_of (hcg _ _)))
        go_wp2_with fail
        go_roundg (j - (h + 1))
        case measure => omega
        case rel => exact ⟨h + 1, j, by go_num, rfl, by omega, by omega, hjb, Nat.le_refl _, HF2, HDa.out ▸ SGA.out nq osq⟩
      · have HF2 : Hid (Found (fun t => ltOf cf (D 0)[t]! p) m b i h) := Lib.hid (Found.down (falls_one H.swo HSRT.out) HF.out (by omega) (by
          have e1 := HX.out.1; have e2 := HX.out.2
          rw [HDa.out] at e1 e2
          simp only [ltOf, ← e1]
          rw [← HD0.out, ← e2]
          exact decide_eq_false hc))
        clear HF
        go_wp2_with fail
        go_quiet_grown (first | (go_at_fn g; refine Calls.grown_of (hcg _ _)))
        go_wp2_with fail
        go_roundg (h - i)
        case measure => omega
        case rel => exact ⟨i, h, rfl, rfl, by omega, by omega, by omega, Nat.le_refl _, HF2, HDa.out ▸ SGA.out nq osq⟩
    · obtain rfl : i = j := by omega
      obtain ⟨q, hq⟩ : ∃ q, q = i - m := ⟨_, rfl⟩
      have HM2 := Lib.hid (HMER.out i hmi hjb HF.out)
      rw [← hq] at HM2
      have eq1 : (i : Int) - 1 = (a : Int) + (q : Int) := by omega
      have hqL : q ≤ L := by omega
      clear HF HMER hq
      go_wp2
      go_loopg [13] q (fun g1 vk wr => ∃ s : Nat, vk = .int .i64 ((a : Int) + (s : Int)) ∧ s ≤ q ∧ q - s ≤ g1 ∧ Aside (SWK enc k w0 blk off (D s) wr))
      case atStart => exact ⟨0, by simp, Nat.zero_le _, by omega, S⟩
      case round =>
        clear S
        obtain ⟨s, rfl, hs, hg2, S⟩ := hrel
        by_cases hlt : s < q
        · have HSZ := Lib.hid (HSIZE.out s)
          have HST := Lib.hid (HUP.out s (by omega))
          obtain ⟨Ds, hDs⟩ : ∃ Ds, Ds = D s := ⟨_, rfl⟩
          rw [← hDs] at S HSZ HST
          clear hDs
          have LI : a + s < Ds.size := by have := HSZ.out; omega
          have LJ : a + s + 1 < Ds.size := by have := HSZ.out; omega
          have S2 : Aside (SWK enc k w0 blk off (swp Ds (a + s) (a + s + 1)) ((wr.drew.setCells blk (off + (a + s) * k) (enc Ds[(a + s + 1)]!)).setCells blk (off + (a + s + 1) * k) (enc Ds[(a + s)]!))) := S.out.swapped H.row (a + s) (a + s + 1) LI LJ
          have l1 := S.out.ld1 H.row (HSZ.out.trans H.size.symm) Try.prog (a + s) LI
          have l2 := S.out.ld1 H.row (HSZ.out.trans H.size.symm) Try.prog (a + s + 1) LJ
          have s1 := S.out.st1 H.row (HSZ.out.trans H.size.symm) Try.prog (a + s) LI Ds[(a + s + 1)]!
          have s2 := S.out.st2 H.row (HSZ.out.trans H.size.symm) Try.prog (a + s) (a + s + 1) LI LJ Ds[(a + s + 1)]! Ds[(a + s)]!
          have n1 : (enc Ds[(a + s)]!).length = k := H.row.hk _
          have n2 : (enc Ds[(a + s + 1)]!).length = k := H.row.hk _
          generalize enc Ds[(a + s)]! = c1 at S2 l1 s2 n1
          generalize enc Ds[(a + s + 1)]! = c2 at S2 l2 s1 s2 n2
          clear S
          clear LI LJ
          have t2 : (a : Int) + (s : Int) < (a : Int) + (q : Int) := by omega
          have ea : ((a : Int) + (s : Int)).toNat = a + s := by omega
          have pa : (0 : Int) ≤ (a : Int) + (s : Int) := by omega
          have ba : (a : Int) + (s : Int) < (N : Int) := by omega
          have ra : IntKind.i64.wrap ((a : Int) + (s : Int)) = (a : Int) + (s : Int) := by rw [IntKind.wrap_i64]; omega
          have eb : ((a : Int) + (s : Int) + 1).toNat = a + s + 1 := by omega
          have pb : (0 : Int) ≤ (a : Int) + (s : Int) + 1 := by omega
          have bb : (a : Int) + (s : Int) + 1 < (N : Int) := by omega
          have rb : IntKind.i64.wrap ((a : Int) + (s : Int) + 1) = (a : Int) + (s : Int) + 1 := by rw [IntKind.wrap_i64]; omega
          go_wp2_with fail
          go_big_region_o
          all_goals go_wp2
          all_goals
            go_roundg (q - (s + 1))
            case measure => omega
            case rel => exact ⟨s + 1, by first | rfl | go_num | (congr 1; omega), by omega, Nat.le_refl _, HST.out ▸ S2⟩
        · obtain rfl : s = q := by omega
          have t2 : ¬ (a : Int) + (s : Int) < (a : Int) + (s : Int) := by omega
          go_wp2
          refine bodyPost_ret (results_none rfl _ _ _) rfl ?_
          exact ⟨rfl, _, HM2.out, HAT.out s ▸ S.out⟩
end
end Go.Proofs.Ytelailhghhjleaa
