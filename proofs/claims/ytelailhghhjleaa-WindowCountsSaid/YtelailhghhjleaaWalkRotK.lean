/- The walk of slices.rotateCmpFunc at records. -/
import Derived.Test.YtelailhghhjleaaWalkSwapK
namespace Go.Proofs.Ytelailhghhjleaa
open Go.RowKit Go.Sort Go.Shelf Go.Lib

/-- What the rotation has left to do. -/
structure RotAt {α : Type} (T : List α) (N m : Nat) (X U V Y : List α) (i j : Nat) : Prop where
  hu : U.length = i
  hv : V.length = j
  hm : X.length + i = m
  hn : N = X.length + i + j + Y.length
  tg : X ++ (V ++ (U ++ Y)) = T

set_option maxRecDepth 1000000 in
set_option maxHeartbeats 4000000 in
theorem rotK_any {α : Type} [Inhabited α] (enc : α → List Value) (k : Nat) (zE : ∀ w, (Go.sizeOf 29).run Try.prog w = .ok k w) (blk off cap N a m b : Nat) (x u v y : List α) (d0 : Array α) (w0 w : World) (fv : Value) (R : RowK enc k w0 blk off d0) (hs : d0.size = N) (hN : N = x.length + u.length + v.length + y.length) (ha : a = x.length) (hm : m = x.length + u.length) (hb : b = m + v.length) (hu : 0 < u.length) (hv : 0 < v.length) (hsz : N < 4611686018427387904)
    (S : SWK enc k w0 blk off (x ++ (u ++ (v ++ y))).toArray w) :
    Calls Try.prog 87 #[.slice (some ⟨blk, off, none⟩) N cap, .int .i64 a, .int .i64 m, .int .i64 b, fv] w fun e w' =>
      e = .returned (.tuple #[]) ∧ SWK enc k w0 blk off (x ++ (v ++ (u ++ y))).toArray w' := by
  have S0 : Aside _ := S
  have ham : a ≤ m := by omega
  have hmb : m ≤ b := by omega
  have hbN : b ≤ N := by omega
  have hi0 : m - a = u.length := by omega
  have hj0 : b - m = v.length := by omega
  have hRA : RotAt (x ++ (v ++ (u ++ y))) N m x u v y (m - a) (b - m) := ⟨hi0.symm, hj0.symm, by omega, by omega, rfl⟩
  have HRA := Lib.hid hRA
  obtain ⟨T, hT⟩ : ∃ T, T = x ++ (v ++ (u ++ y)) := ⟨_, rfl⟩
  rw [← hT] at HRA ⊢
  have hpos : 0 < m - a ∧ 0 < b - m := by omega
  clear S hT hN ha hm hb hu hv hi0 hj0 hRA
  have ecast : (m : Int) - (a : Int) = ((m - a : Nat) : Int) := by omega
  have ecast2 : (b : Int) - (m : Int) = ((b - m : Nat) : Int) := by omega
  go_enter Try.func87, Try.ntmps87
  go_wp2
  go_loopg [10, 11] (b - a) (fun g1 vi vj wr => ∃ (i j : Nat) (X U V Y : List α), vi = .int .i64 i ∧ vj = .int .i64 j ∧ 0 < i ∧ 0 < j ∧ i + j ≤ g1 ∧ i ≤ m ∧ m + j ≤ N ∧ Hid (RotAt T N m X U V Y i j) ∧ Aside (SWK enc k w0 blk off (X ++ (U ++ (V ++ Y))).toArray wr))
  case atStart => exact ⟨m - a, b - m, x, u, v, y, rfl, rfl, hpos.1, hpos.2, by omega, by omega, by omega, HRA, S0⟩
  case round =>
    clear S0 HRA hpos ecast ecast2
    obtain ⟨i, j, X, U, V, Y, rfl, rfl, hi, hj, hg, him, hmj, HR, S⟩ := hrel
    rcases Nat.lt_trichotomy i j with hlt | heq | hgt
    · have hcall := swapK_any enc k zE blk off cap N (m - i) (m + j - i) i X U (V.take (j - i)) (V.drop (j - i)) Y d0 w0 wr fv R hs (by have := HR.out.hn; have := HR.out.hv; simp; omega) HR.out.hu (by have := HR.out.hv; simp; omega) (by have := HR.out.hm; omega) (by have := HR.out.hm; have := HR.out.hv; simp; omega) hsz (by
        rw [← List.append_assoc (V.take (j - i)), List.take_append_drop]; exact S.out)
      rw [show ((m - i : Nat) : Int) = (m : Int) - (i : Int) by omega, show ((m + j - i : Nat) : Int) = (m : Int) + (j : Int) - (i : Int) by omega] at hcall
      have HR2 : Hid (RotAt T N m X (V.drop (j - i)) (V.take (j - i)) (U ++ Y) i (j - i)) := Lib.hid ⟨by have := HR.out.hv; simp; omega, by have := HR.out.hv; simp; omega, HR.out.hm, by have := HR.out.hn; have := HR.out.hu; simp; omega, by
        have := HR.out.tg
        rw [← List.append_assoc (V.take (j - i)), List.take_append_drop]; exact this⟩
      clear S HR
      have t1 : ¬ (i : Int) = (j : Int) := by omega
      have t2 : ¬ (j : Int) < (i : Int) := by omega
      go_wp2_with (first | (go_at_call 104; refine hcall.mono ?_; rintro e w1 ⟨rfl, S2⟩))
      have S3 : Aside _ := S2
      clear S2
      go_roundg (i + (j - i))
      case measure => omega
      case rel => exact ⟨i, j - i, X, V.drop (j - i), V.take (j - i), U ++ Y, rfl, by congr 1; omega, hi, by omega, Nat.le_refl _, him, by omega, HR2, S3⟩
    · subst heq
      have hcall := swapK_any enc k zE blk off cap N (m - i) m i X U [] V Y d0 w0 wr fv R hs (by have := HR.out.hn; simp; omega) HR.out.hu HR.out.hv (by have := HR.out.hm; omega) (by have := HR.out.hm; simp; omega) hsz S.out
      rw [show ((m - i : Nat) : Int) = (m : Int) - (i : Int) by omega] at hcall
      have HT : Hid (X ++ (V ++ ([] ++ (U ++ Y))) = T) := Lib.hid HR.out.tg
      clear S HR
      go_wp2_with (first | (go_at_call 104; refine hcall.mono ?_; rintro e w1 ⟨rfl, S2⟩))
      go_end0
      exact ⟨rfl, HT.out ▸ S2⟩
    · have hcall := swapK_any enc k zE blk off cap N (m - i) m j X (U.take j) (U.drop j) V Y d0 w0 wr fv R hs (by have := HR.out.hn; have := HR.out.hu; simp; omega) (by have := HR.out.hu; simp; omega) HR.out.hv (by have := HR.out.hm; omega) (by have := HR.out.hm; have := HR.out.hu; simp; omega) hsz (by
        rw [← List.append_assoc (U.take j), List.take_append_drop]; exact S.out)
      rw [show ((m - i : Nat) : Int) = (m : Int) - (i : Int) by omega] at hcall
      have HR2 : Hid (RotAt T N m (X ++ V) (U.drop j) (U.take j) Y (i - j) j) := Lib.hid ⟨by have := HR.out.hu; simp; omega, by have := HR.out.hu; simp; omega, by have := HR.out.hm; have := HR.out.hv; simp; omega, by have := HR.out.hn; have := HR.out.hv; simp; omega, by
        have := HR.out.tg
        rw [← List.append_assoc (U.take j), List.take_append_drop, List.append_assoc]; exact this⟩
      clear S HR
      have t1 : ¬ (i : Int) = (j : Int) := by omega
      have t2 : (j : Int) < (i : Int) := by omega
      go_wp2_with (first | (go_at_call 104; refine hcall.mono ?_; rintro e w1 ⟨rfl, S2⟩))
      have S3 : Aside (SWK enc k w0 blk off ((X ++ V) ++ (U.drop j ++ (U.take j ++ Y))).toArray w1) := by rw [List.append_assoc]; exact S2
      clear S2
      go_roundg (i - j + j)
      case measure => omega
      case rel => exact ⟨i - j, j, X ++ V, U.drop j, U.take j, Y, by congr 1; omega, rfl, by omega, hj, Nat.le_refl _, by omega, hmj, HR2, S3⟩
end Go.Proofs.Ytelailhghhjleaa
