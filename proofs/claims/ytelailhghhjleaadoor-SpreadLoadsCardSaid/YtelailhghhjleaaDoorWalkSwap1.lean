/- The walk of slices.swapRangeCmpFunc at ints. -/
import Derived.Test.YtelailhghhjleaaDoorProg
import Derived.Test.YtelailhghhjleaaDoorPlainSwap
import Derived.Lib.SliceRun
import Derived.Lib.Hide
import Derived.Shelf.SlSortCmp.Kit1
import Derived.Deep.LoopGhost
import Derived.BigRegion
namespace Go.Proofs.YtelailhghhjleaaDoor
open Go.RowKit Go.Sort Go.Shelf Go.Lib

theorem aggInt : ∀ w, (isAgg 3).run Tryd.prog w = .ok false w := fun _ => by kernel_rfl
theorem sizeInt : ∀ w, (Go.sizeOf 3).run Tryd.prog w = .ok 1 w := fun _ => by kernel_rfl
theorem mixed_ : Tryd.prog.follows .mixedOrders = true := by kernel_rfl

set_option maxRecDepth 1000000 in
set_option maxHeartbeats 4000000 in
theorem swap1_any {α : Type} [Inhabited α] (enc : α → Value) (zE : ∀ w, (Go.sizeOf 3).run Tryd.prog w = .ok 1 w) (blk off cap N a b n : Nat) (x u z v y : List α) (d0 : Array α) (w0 w : World) (fv : Value) (R : Row1 enc w0 blk off d0) (hs : d0.size = N) (hN : N = x.length + n + z.length + n + y.length) (hu : u.length = n) (hv : v.length = n) (ha : a = x.length) (hb : b = x.length + n + z.length) (hsz : N < 4611686018427387904)
    (S : SW enc w0 blk off (x ++ (u ++ (z ++ (v ++ y)))).toArray w) :
    Calls Tryd.prog 135 #[.slice (some ⟨blk, off, none⟩) N cap, .int .i64 a, .int .i64 b, .int .i64 n, fv] w fun e w' =>
      e = .returned (.tuple #[]) ∧ SW enc w0 blk off (x ++ (v ++ (z ++ (u ++ y)))).toArray w' := by
  have mixed := mixed_
  have aE := aggInt
  have hcl0 := R.hO.cells
  simp only [Value.cells] at hcl0
  have hst := R.hO.store Tryd.prog
  have hbn : b + n ≤ N := by omega
  have hab : a + n ≤ N := by omega
  rw [← swR_zero] at S
  rw [← swR_end hu hv]
  have S0 : Aside _ := S
  have HSIZE := Lib.hid (fun i => (swR_size (x := x) (z := z) (y := y) hu hv i).trans (by rw [← hN, hs] : _ = d0.size))
  have HSTEP := Lib.hid (fun i hi => swR_step (x := x) (z := z) (y := y) hu hv (i := i) hi ha hb)
  obtain ⟨D, hD⟩ : ∃ D, D = swR x u z v y := ⟨_, rfl⟩
  rw [← hD] at S0 HSIZE HSTEP ⊢
  clear S hD hu hv ha hb hN
  go_enter Tryd.func135, Tryd.ntmps135
  go_wp2
  go_loopg [10] n (fun g1 vi wr => ∃ i : Nat, vi = .int .i64 i ∧ i ≤ n ∧ n - i ≤ g1 ∧ Aside (SW enc w0 blk off (D i) wr))
  case atStart => exact ⟨0, rfl, Nat.zero_le _, by omega, S0⟩
  case round =>
    clear S0
    obtain ⟨i, rfl, hi, hg, S⟩ := hrel
    by_cases hlt : i < n
    · have HSZ := Lib.hid (HSIZE.out i)
      have HST := Lib.hid (HSTEP.out i hlt)
      have HSZ2 := Lib.hid (show d0.size = N from hs)
      obtain ⟨Di, hDi⟩ : ∃ Di, Di = D i := ⟨_, rfl⟩
      rw [← hDi] at S HSZ HST
      clear hDi
      have hltz : (i : Int) < (n : Int) := by omega
      have ea : ((a : Int) + (i : Int)).toNat = a + i := by omega
      have pa : (0 : Int) ≤ (a : Int) + (i : Int) := by omega
      have ba : (a : Int) + (i : Int) < (N : Int) := by omega
      have ra : IntKind.i64.wrap ((a : Int) + (i : Int)) = (a : Int) + (i : Int) := by rw [IntKind.wrap_i64]; omega
      have eb : ((b : Int) + (i : Int)).toNat = b + i := by omega
      have pb : (0 : Int) ≤ (b : Int) + (i : Int) := by omega
      have bb : (b : Int) + (i : Int) < (N : Int) := by omega
      have rb : IntKind.i64.wrap ((b : Int) + (i : Int)) = (b : Int) + (i : Int) := by rw [IntKind.wrap_i64]; omega
      have S2 : Aside (SW enc w0 blk off (swp Di (a + i) (b + i)) ((wr.setCell ⟨blk, off + (a + i), none⟩ (enc Di[(b + i)]!)).setCell ⟨blk, off + (b + i), none⟩ (enc Di[(a + i)]!)).drew) := S.out.swapped R (a + i) (b + i) (by have := HSZ.out; omega) (by have := HSZ.out; omega)
      have l1 := S.out.c1 R HSZ.out (a + i) (by have := HSZ.out; omega)
      have l2 := S.out.c1 R HSZ.out (b + i) (by have := HSZ.out; omega)
      have s1 := S.out.f1 R HSZ.out (a + i) (by have := HSZ.out; omega)
      have s2 := S.out.f1 R HSZ.out (b + i) (by have := HSZ.out; omega)
      obtain ⟨u2, l3⟩ := S.out.c2 R HSZ.out (a + i) (b + i) (by have := HSZ.out; omega) (by have := HSZ.out; omega) (enc Di[(b + i)]!)
      generalize Di[(a + i)]! = c1 at S2 l1 l3
      generalize Di[(b + i)]! = c2 at S2 l2 l3
      clear S
      go_wp2_with fail
      go_big_region_o
      all_goals go_wp2
      all_goals
        go_roundg (n - (i + 1))
        case measure => omega
        case rel => exact ⟨i + 1, by go_num, by omega, Nat.le_refl _, HST.out ▸ S2⟩
    · have hltz : ¬ (i : Int) < (n : Int) := by omega
      obtain rfl : i = n := by omega
      go_wp2
      go_end0
      exact ⟨rfl, S.out⟩
end Go.Proofs.YtelailhghhjleaaDoor
