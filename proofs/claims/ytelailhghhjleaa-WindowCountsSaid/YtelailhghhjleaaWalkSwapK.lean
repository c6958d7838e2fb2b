/- The walk of slices.swapRangeCmpFunc at records. -/
import Derived.Test.YtelailhghhjleaaProg
import Derived.Test.YtelailhghhjleaaPlainSwap
import Derived.Test.YtelailhghhjleaaPlainRec
import Derived.Shelf.SlSortCmp.KitK
import Derived.Deep.LoopGhost
import Derived.BigRegion
namespace Go.Proofs.Ytelailhghhjleaa
open Go.RowKit Go.Sort Go.Shelf Go.Lib

instance : Inhabited Rec := ⟨⟨⟨#[]⟩, 0, 0⟩⟩
theorem recK (x : Rec) : x.cells.length = 3 := rfl
theorem recK1 (x : Rec) : ∀ v ∈ x.cells, v.oneCell' = true := by
  intro v hv; simp only [Rec.cells, List.mem_cons, List.not_mem_nil, or_false] at hv; rcases hv with rfl | rfl | rfl <;> rfl
theorem aggRec : ∀ w, (isAgg 29).run Try.prog w = .ok true w := fun _ => by kernel_rfl
theorem sizeRec : ∀ w, (Go.sizeOf 29).run Try.prog w = .ok 3 w := fun _ => by kernel_rfl
theorem mixed_ : Try.prog.follows .mixedOrders = true := by kernel_rfl

set_option maxRecDepth 1000000 in
set_option maxHeartbeats 4000000 in
theorem swapK_any {α : Type} [Inhabited α] (enc : α → List Value) (k : Nat) (zE : ∀ w, (Go.sizeOf 29).run Try.prog w = .ok k w) (blk off cap N a b n : Nat) (x u z v y : List α) (d0 : Array α) (w0 w : World) (fv : Value) (R : RowK enc k w0 blk off d0) (hs : d0.size = N) (hN : N = x.length + n + z.length + n + y.length) (hu : u.length = n) (hv : v.length = n) (ha : a = x.length) (hb : b = x.length + n + z.length) (hsz : N < 4611686018427387904)
    (S : SWK enc k w0 blk off (x ++ (u ++ (z ++ (v ++ y)))).toArray w) :
    Calls Try.prog 104 #[.slice (some ⟨blk, off, none⟩) N cap, .int .i64 a, .int .i64 b, .int .i64 n, fv] w fun e w' =>
      e = .returned (.tuple #[]) ∧ SWK enc k w0 blk off (x ++ (v ++ (z ++ (u ++ y)))).toArray w' := by
  have mixed := mixed_
  have aE := aggRec
  have hbn : b + n ≤ N := by omega
  have hab : a + n ≤ N := by omega
  rw [← swR_zero] at S
  rw [← swR_end hu hv]
  have S0 : Aside _ := S
  have HSIZE := Lib.hid (fun i => (swR_size (x := x) (z := z) (y := y) hu hv i).trans (by rw [← hN, hs] : _ = d0.size))
  have HSTEP := Lib.hid (fun i hi => swR_step (x := x) (z := z) (y := y) hu hv (i := i) hi ha hb)
  obtain ⟨D, hD⟩ : ∃ D, D = swR x u z v y := ⟨_, rfl⟩
  rw [← hD] at S0 HSIZE HSTEP ⊢
  clear S hD hu hv ha hb hN
  go_enter Try.func104, Try.ntmps104
  go_wp2
  go_loopg [10] n (fun g1 vi wr => ∃ i : Nat, vi = .int .i64 i ∧ i ≤ n ∧ n - i ≤ g1 ∧ Aside (SWK enc k w0 blk off (D i) wr))
  case atStart => exact ⟨0, rfl, Nat.zero_le _, by omega, S0⟩
  case round =>
    clear S0
    obtain ⟨i, rfl, hi, hg, S⟩ := hrel
    by_cases hlt : i < n
    · have HSZ := Lib.hid (HSIZE.out i)
      have HST := Lib.hid (HSTEP.out i hlt)
      have HSZ2 := Lib.hid (show d0.size = N from hs)
      obtain ⟨Di, hDi⟩ : ∃ Di, Di = D i := ⟨_, rfl⟩
      rw [← hDi] at S HSZ HST
      clear hDi
      have hltz : (i : Int) < (n : Int) := by omega
      have ea : ((a : Int) + (i : Int)).toNat = a + i := by omega
      have pa : (0 : Int) ≤ (a : Int) + (i : Int) := by omega
      have ba : (a : Int) + (i : Int) < (N : Int) := by omega
      have ra : IntKind.i64.wrap ((a : Int) + (i : Int)) = (a : Int) + (i : Int) := by rw [IntKind.wrap_i64]; omega
      have eb : ((b : Int) + (i : Int)).toNat = b + i := by omega
      have pb : (0 : Int) ≤ (b : Int) + (i : Int) := by omega
      have bb : (b : Int) + (i : Int) < (N : Int) := by omega
      have rb : IntKind.i64.wrap ((b : Int) + (i : Int)) = (b : Int) + (i : Int) := by rw [IntKind.wrap_i64]; omega
      have S2 : Aside (SWK enc k w0 blk off (swp Di (a + i) (b + i)) ((wr.drew.setCells blk (off + (a + i) * k) (enc Di[(b + i)]!)).setCells blk (off + (b + i) * k) (enc Di[(a + i)]!))) := S.out.swapped R (a + i) (b + i) (by have := HSZ.out; omega) (by have := HSZ.out; omega)
      have l1 := S.out.ld1 R HSZ.out Try.prog (a + i) (by have := HSZ.out; omega)
      have l2 := S.out.ld1 R HSZ.out Try.prog (b + i) (by have := HSZ.out; omega)
      have s1 := S.out.st1 R HSZ.out Try.prog (a + i) (by have := HSZ.out; omega) Di[(b + i)]!
      have s2 := S.out.st2 R HSZ.out Try.prog (a + i) (b + i) (by have := HSZ.out; omega) (by have := HSZ.out; omega) Di[(b + i)]! Di[(a + i)]!
      have n1 : (enc Di[(a + i)]!).length = k := R.hk _
      have n2 : (enc Di[(b + i)]!).length = k := R.hk _
      generalize enc Di[(a + i)]! = c1 at S2 l1 s2 n1
      generalize enc Di[(b + i)]! = c2 at S2 l2 s1 s2 n2
      clear S
      go_wp2_with fail
      go_big_region_o
      all_goals go_wp2
      all_goals
        go_roundg (n - (i + 1))
        case measure => omega
        case rel => exact ⟨i + 1, by go_num, by omega, Nat.le_refl _, HST.out ▸ S2⟩
    · have hltz : ¬ (i : Int) < (n : Int) := by omega
      obtain rfl : i = n := by omega
      go_wp2
      go_end0
      exact ⟨rfl, S.out⟩
end Go.Proofs.Ytelailhghhjleaa
