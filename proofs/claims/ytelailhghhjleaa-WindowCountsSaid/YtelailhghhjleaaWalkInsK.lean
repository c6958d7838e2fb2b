/- The walk of slices.insertionSortCmpFunc at records. -/
import Derived.Test.YtelailhghhjleaaWalkSymK
import Derived.Sort.WalkA
namespace Go.Proofs.Ytelailhghhjleaa
open Go.RowKit Go.Sort Go.Shelf Go.Lib

section
variable {α : Type} [Inhabited α] {enc : α → List Value} {k : Nat} {cf : α → α → Int} {g : Nat} {cb : Array Value} {blk off N : Nat} {d0 : Array α} {w0 : World}
set_option maxRecDepth 1000000 in
set_option maxHeartbeats 4000000 in
theorem insK_any (H : Srt enc k cf g cb blk off N d0 w0) (cap a b : Nat) (d : Array α) (w : World) (hds : d.size = N) (hab : a ≤ b) (hb : b ≤ N) (S : SWK enc k w0 blk off d w) :
    Calls Try.prog 68 #[.slice (some ⟨blk, off, none⟩) N cap, .int .i64 a, .int .i64 b, .func (.func g) #[] cb] w fun e w' =>
      e = .returned (.tuple #[]) ∧ SWK enc k w0 blk off (insertionSort (ltOf cf) d a b) w' := by
  have mixed := mixed_
  have aE := aggRec
  have zE := H.zE
  have eg := H.enters
  have hsz := H.small
  have S0 : Aside _ := S
  have HDS := Lib.hid hds
  clear S hds
  go_enter Try.func68, Try.ntmps68
  go_wp2
  go_loopg [8] (b - a) (fun g1 vi wr => ∃ (i : Nat) (dk : Array α), vi = .int .i64 i ∧ a < i ∧ b - i ≤ g1 ∧ i ≤ N + 1 ∧ Hid (dk.size = N) ∧ Aside (SWK enc k w0 blk off dk wr) ∧ Hid (insOuter (ltOf cf) a b i dk = insertionSort (ltOf cf) d a b))
  case atStart => exact ⟨a + 1, d, by go_num, by omega, by omega, by omega, HDS, S0, Lib.hid rfl⟩
  case round =>
    clear S0
    obtain ⟨i, dk, rfl, hai, hg, hiN, HSK, S, HO⟩ := hrel
    by_cases hlt : i < b
    · go_wp2
      go_loopg [9] i (fun g2 vj wr => ∃ (j : Nat) (dj : Array α), vj = .int .i64 j ∧ a ≤ j ∧ j ≤ i ∧ j ≤ g2 ∧ Hid (dj.size = N) ∧ Aside (SWK enc k w0 blk off dj wr) ∧ Hid (insInner (ltOf cf) a j dj = insInner (ltOf cf) a i dk))
      case atStart => exact ⟨i, dk, rfl, by omega, Nat.le_refl _, Nat.le_refl _, HSK, S, Lib.hid rfl⟩
      case round =>
        clear S HSK
        obtain ⟨j, dj, rfl, haj, hji, hg2, HSZ, S, HI⟩ := hrel
        have HOUT : Hid ((j ≤ a ∨ ltOf cf dj[j]! dj[j - 1]! = false) → insOuter (ltOf cf) a b (i + 1) dj = insertionSort (ltOf cf) d a b) := Lib.hid fun hs => by
          rw [← HO.out, insOuter_go _ _ _ _ _ hlt, ← HI.out, insInner_stop _ _ _ _ hs]
        by_cases hja : a < j
        · obtain ⟨r, rfl⟩ : ∃ r, j = r + 1 := ⟨j - 1, by omega⟩
          have hr1 : r + 1 < N := by omega
          have LI : r + 1 < dj.size := by have := HSZ.out; omega
          have LJ : r < dj.size := by have := HSZ.out; omega
          have S9 : Aside _ := S
          have l1 := fun n os => S.out.ld H.row (HSZ.out.trans H.size.symm) Try.prog (r + 1) LI n os
          have l2 := fun n os => S.out.ld H.row (HSZ.out.trans H.size.symm) Try.prog r LJ n os
          have hcg := fun n os => S.out.cmp H.cmp HSZ.out dj[(r + 1)]! dj[r]! n os
          obtain ⟨x1, hx1⟩ : ∃ x, x = dj[(r + 1)]! := ⟨_, rfl⟩
          obtain ⟨x2, hx2⟩ : ∃ x, x = dj[r]! := ⟨_, rfl⟩
          rw [← hx1] at l1 hcg
          rw [← hx2] at l2 hcg
          have HX := Lib.hid (And.intro hx1 hx2)
          have SG := fun n os => S.out.grown n os
          clear S hx1 hx2
          have SGA : Aside _ := SG
          clear SG
          clear LI LJ S9
          have t2 : (a : Int) < (r : Int) + 1 := by omega
          have ea : ((r : Int) + 1).toNat = r + 1 := by omega
          have pa : (0 : Int) ≤ (r : Int) + 1 := by omega
          have ba : (r : Int) + 1 < (N : Int) := by omega
          have rb : IntKind.i64.wrap (r : Int) = (r : Int) := by rw [IntKind.wrap_i64]; omega
          have bb : (r : Int) < (N : Int) := by omega
          by_cases hc : cf x1 x2 < 0
          · have HI2 : Hid (insInner (ltOf cf) a r (swp dj (r + 1) r) = insInner (ltOf cf) a i dk) := Lib.hid (by
              rw [← HI.out]
              exact (insInner_go (ltOf cf) a (r + 1) dj hja (by simp only [Nat.add_sub_cancel, ltOf]; rw [← HX.out.1, ← HX.out.2]; exact decide_eq_true hc)).symm)
            clear HOUT HI
            go_wp2_with fail
            go_quiet_grown (first | (go_at_fn g; refine Calls.grown_of (hcg _ _)))
            go_wp2_with fail
            have S : Aside (SWK enc k w0 blk off dj (grow (wr.drewN nq) osq)) := SGA.out nq osq
            clear SGA hcg l1 l2
            generalize grow (wr.drewN nq) osq = wq at S ⊢
            have LI : r + 1 < dj.size := by have := HSZ.out; omega
            have LJ : r < dj.size := by have := HSZ.out; omega
            have HSW : Hid ((swp dj (r + 1) r).size = N) := Lib.hid (by rw [size_swp]; exact HSZ.out)
            have S2 : Aside (SWK enc k w0 blk off (swp dj (r + 1) r) ((wq.drew.setCells blk (off + (r + 1) * k) (enc dj[r]!)).setCells blk (off + r * k) (enc dj[(r + 1)]!))) := S.out.swapped H.row (r + 1) r LI LJ
            have l1 := S.out.ld1 H.row (HSZ.out.trans H.size.symm) Try.prog (r + 1) LI
            have l2 := S.out.ld1 H.row (HSZ.out.trans H.size.symm) Try.prog r LJ
            have s1 := S.out.st1 H.row (HSZ.out.trans H.size.symm) Try.prog (r + 1) LI dj[r]!
            have s2 := S.out.st2 H.row (HSZ.out.trans H.size.symm) Try.prog (r + 1) r LI LJ dj[r]! dj[(r + 1)]!
            have n1 : (enc dj[(r + 1)]!).length = k := H.row.hk _
            have n2 : (enc dj[r]!).length = k := H.row.hk _
            generalize enc dj[(r + 1)]! = c1 at S2 l1 s2 n1
            generalize enc dj[r]! = c2 at S2 l2 s1 s2 n2
            clear S
            clear LI LJ
            go_big_region_o
            all_goals go_wp2
            all_goals
              go_roundg r
              case measure => omega
              case rel => exact ⟨r, _, by first | rfl | go_num | (congr 1; omega), by omega, by omega, Nat.le_refl _, HSW, S2, HI2⟩
          · have HO2 := Lib.hid (HOUT.out (.inr (by simp only [Nat.add_sub_cancel, ltOf]; rw [← HX.out.1, ← HX.out.2]; exact decide_eq_false hc)))
            clear HOUT HI HO
            go_wp2_with fail
            go_quiet_grown (first | (go_at_fn g; refine Calls.grown_of (hcg _ _)))
            go_wp2
            go_roundg (b - (i + 1))
            case measure => omega
            case rel => exact ⟨i + 1, dj, by go_num, by omega, Nat.le_refl _, by omega, HSZ, SGA.out nq osq, HO2⟩
        · have HO2 := Lib.hid (HOUT.out (.inl (by omega)))
          have t2 : decide ((j : Int) > (a : Int)) = false := decide_eq_false (by omega)
          have t3 : ¬ (a : Int) < (j : Int) := by omega
          have SG : Aside (SWK enc k w0 blk off dj wr.drew) := S.out.drew
          clear HOUT HI HO S
          go_wp2_with fail
          go_big_region_o
          all_goals go_wp2
          go_roundg (b - (i + 1))
          case measure => omega
          case rel => exact ⟨i + 1, dj, by go_num, by omega, Nat.le_refl _, by omega, HSZ, SG, HO2⟩
    · have HE := Lib.hid (HO.out ▸ (insOuter_stop (ltOf cf) a b i dk hlt).symm : dk = insertionSort (ltOf cf) d a b)
      clear HO
      go_wp2
      go_end0
      exact ⟨rfl, HE.out ▸ S.out⟩
end
end Go.Proofs.Ytelailhghhjleaa
