/- The walk of slices.SortStableFunc at records. -/
import Derived.Test.YtelailhghhjleaaWalkSymK3
import Derived.Test.YtelailhghhjleaaWalkInsK
namespace Go.Proofs.Ytelailhghhjleaa
open Go.RowKit Go.Sort Go.Shelf Go.Lib

section
variable {α : Type} [Inhabited α] {enc : α → List Value} {k : Nat} {cf : α → α → Int} {g : Nat} {cb : Array Value} {blk off N : Nat} {d0 : Array α} {w0 : World}
theorem symK_any (H : Srt enc k cf g cb blk off N d0 w0) (cap : Nat) : ∀ (M : Nat) (x U V y : List α) (a m b : Nat) (w : World), U.length + V.length ≤ M → 0 < U.length → 0 < V.length → a = x.length → m = a + U.length → b = m + V.length → N = b + y.length → Up (ltOf cf) U → Up (ltOf cf) V →
    SWK enc k w0 blk off (x ++ (U ++ (V ++ y))).toArray w →
    Calls Try.prog 69 #[.slice (some ⟨blk, off, none⟩) N cap, .int .i64 a, .int .i64 m, .int .i64 b, .func (.func g) #[] cb] w fun e w' =>
      e = .returned (.tuple #[]) ∧ ∃ W, MergedTo (ltOf cf) x U V y W ∧ SWK enc k w0 blk off (x ++ (W ++ y)).toArray w' := by
  intro M
  induction M with
  | zero => intro x U V y a m b w h h1 h2; omega
  | succ M ih =>
    intro x U V y a m b w h h1 h2 ha hm hb hN hU hV S
    by_cases hU1 : U.length = 1
    · obtain ⟨p, rfl⟩ := List.length_eq_one_iff.1 hU1
      exact symK_one H cap a m b x V y p w (by simp at *; omega) ha (by simp at *; omega) hb hV S
    by_cases hV1 : V.length = 1
    · obtain ⟨p, rfl⟩ := List.length_eq_one_iff.1 hV1
      exact symK_two H cap a m b x U y p w (by simp at *; omega) ha hm (by simpa using hb) (by omega) hU S
    · exact symK_gen H cap a m b x U V y w ha hm hb hN (by omega) (by omega) hU hV (fun x' U' V' y' a' m' b' w' hl => ih x' U' V' y' a' m' b' w' (by omega)) S
theorem symK_arr (H : Srt enc k cf g cb blk off N d0 w0) (cap a m b : Nat) (D : Array α) (w : World) (hs : D.size = N) (h1 : a < m) (h2 : m < b) (h3 : b ≤ N) (sU : SortedIn (ltOf cf) a m D) (sV : SortedIn (ltOf cf) m b D) (S : SWK enc k w0 blk off D w) :
    Calls Try.prog 69 #[.slice (some ⟨blk, off, none⟩) N cap, .int .i64 a, .int .i64 m, .int .i64 b, .func (.func g) #[] cb] w fun e w' =>
      e = .returned (.tuple #[]) ∧ ∃ D', Merged (ltOf cf) a b D D' ∧ SWK enc k w0 blk off D' w' := by
  obtain ⟨x, U, V, y, rfl, e1, e2, e3⟩ := cut4 D (a := a) (m := m) (b := b) (by omega) (by omega) (by omega)
  have hn : N = b + y.length := by simp at hs; omega
  have hU : Up (ltOf cf) U := up_of_sortedIn (x := x) (y := V ++ y) (by rw [show x.length + U.length = m from by omega, e1]; exact sU)
  have hV : Up (ltOf cf) V := up_of_sortedIn (x := x ++ U) (y := y) (by rw [List.append_assoc, show (x ++ U).length + V.length = b from by simp; omega, show (x ++ U).length = m from by simp; omega]; exact sV)
  refine (symK_any H cap _ x U V y a m b w (Nat.le_refl _) (by omega) (by omega) e1.symm (by omega) (by omega) hn hU hV S).mono fun e w' ⟨he, W, hW, S'⟩ => ⟨he, _, ?_, S'⟩
  have hst := hW.steps
  rw [← List.append_assoc U] at hst
  have := merged_of hst hW.up (a := a) (b := b) e1.symm (by simp; omega)
  rw [List.append_assoc] at this
  exact this

/-- What the blocks are, and how they came about. -/
structure PhAt (lt : α → α → Bool) (N c a : Nat) (d dk : Array α) : Prop where
  ph : Ph lt 20 c dk
  st : Steps lt d.toList dk.toList
  ac : a = c * 20
  sz : dk.size = N
structure BlAt (lt : α → α → Bool) (N bs : Nat) (d dk : Array α) : Prop where
  bl : BlkS lt bs N dk
  st : Steps lt d.toList dk.toList
  sz : dk.size = N
structure MiAt (lt : α → α → Bool) (N bs c a : Nat) (d dk : Array α) : Prop where
  mi : Mid lt bs N c dk
  st : Steps lt d.toList dk.toList
  ac : a = c * (2 * bs)
  sz : dk.size = N
set_option maxRecDepth 1000000 in
set_option maxHeartbeats 4000000 in
theorem stableK_any (H : Srt enc k cf g cb blk off N d0 w0) (cap : Nat) (d : Array α) (w : World) (hds : d.size = N) (S : SWK enc k w0 blk off d w) :
    Calls Try.prog 53 #[.slice (some ⟨blk, off, none⟩) N cap, .int .i64 N, .func (.func g) #[] cb] w fun e w' =>
      e = .returned (.tuple #[]) ∧ ∃ d', Steps (ltOf cf) d.toList d'.toList ∧ SortedIn (ltOf cf) 0 N d' ∧ d'.size = N ∧ SWK enc k w0 blk off d' w' := by
  have hsz := H.small
  have S0 : Aside _ := S
  have HP0 : Hid (PhAt (ltOf cf) N 0 0 d d) := Lib.hid ⟨fun k hk => by omega, .refl, rfl, hds⟩
  clear S hds
  go_enter Try.func53, Try.ntmps53
  go_wp2
  go_loopg [7, 8] N (fun g1 va vb wr => ∃ (c a : Nat) (dk : Array α), va = .int .i64 a ∧ vb = .int .i64 ((a : Int) + 20) ∧ a ≤ N ∧ N - a ≤ g1 ∧ Hid (PhAt (ltOf cf) N c a d dk) ∧ Aside (SWK enc k w0 blk off dk wr))
  case atStart => exact ⟨0, 0, d, rfl, rfl, Nat.zero_le _, Nat.le_refl _, HP0, S0⟩
  case round =>
    clear S0 HP0
    obtain ⟨c, a, dk, rfl, rfl, haN, hg, HP, S⟩ := hrel
    by_cases hlt : a + 20 ≤ N
    · have hcall := insK_any H cap a (a + 20) dk wr HP.out.sz (by omega) hlt S.out
      have HP2 : Hid (PhAt (ltOf cf) N (c + 1) (a + 20) d (insertionSort (ltOf cf) dk a (a + 20))) := Lib.hid (by
        have hm := merged_ins H.swo (d := dk) (a := a) (b := a + 20) (by omega) (by rw [HP.out.sz]; exact hlt)
        exact ⟨HP.out.ph.step HP.out.ac (by rw [HP.out.ac]) hm, HP.out.st.trans hm.steps, by rw [HP.out.ac]; omega, hm.size.trans HP.out.sz⟩)
      rw [show ((a + 20 : Nat) : Int) = (a : Int) + 20 by omega] at hcall
      clear HP S
      have t1 : (a : Int) + 20 ≤ (N : Int) := by omega
      go_wp2_with (first | (go_at_call 68; refine hcall.mono ?_; rintro e w1 ⟨rfl, S2⟩))
      have S3 : Aside _ := S2
      clear S2
      go_roundg (N - (a + 20))
      case measure => omega
      case rel => exact ⟨c + 1, a + 20, _, by first | rfl | go_num | (congr 1; omega), by first | rfl | go_num | (congr 1; omega), hlt, Nat.le_refl _, HP2, S3⟩
    · have hcall := insK_any H cap a N dk wr HP.out.sz haN (Nat.le_refl _) S.out
      have HB : Hid (BlAt (ltOf cf) N 20 d (insertionSort (ltOf cf) dk a N)) := Lib.hid (by
        have hm := merged_ins H.swo (d := dk) (a := a) (b := N) haN (by rw [HP.out.sz]; exact Nat.le_refl _)
        exact ⟨HP.out.ph.last HP.out.ac (by omega) (by rw [← HP.out.ac]; exact haN) hm, HP.out.st.trans hm.steps, hm.size.trans HP.out.sz⟩)
      clear HP S
      have t1 : ¬ (a : Int) + 20 ≤ (N : Int) := by omega
      go_wp2_with (first | (go_at_call 68; refine hcall.mono ?_; rintro e w1 ⟨rfl, S2⟩))
      have S3 : Aside _ := S2
      clear S2 hcall
      go_loopg [6] N (fun g1 vb wr => ∃ (bs : Nat) (dk : Array α), vb = .int .i64 bs ∧ 0 < bs ∧ bs < 9223372036854775807 ∧ N - bs ≤ g1 ∧ Hid (BlAt (ltOf cf) N bs d dk) ∧ Aside (SWK enc k w0 blk off dk wr))
      case atStart => exact ⟨20, _, rfl, by omega, by omega, by omega, HB, S3⟩
      case round =>
        clear S3 HB
        obtain ⟨bs, dj, rfl, hbs, hbm, hg1, HB, S⟩ := hrel
        by_cases hbn : bs < N
        · have HM0 : Hid (MiAt (ltOf cf) N bs 0 0 d dj) := Lib.hid ⟨Mid.start HB.out.bl, HB.out.st, by simp, HB.out.sz⟩
          clear HB
          go_wp2_with fail
          go_loopg [7, 8] N (fun g2 va vb wr => ∃ (c p : Nat) (dm : Array α), va = .int .i64 p ∧ vb = .int .i64 ((p : Int) + 2 * (bs : Int)) ∧ p ≤ N ∧ N - p ≤ g2 ∧ Hid (MiAt (ltOf cf) N bs c p d dm) ∧ Aside (SWK enc k w0 blk off dm wr))
          case atStart => exact ⟨0, 0, dj, rfl, by simp, Nat.zero_le _, Nat.le_refl _, HM0, S⟩
          case round =>
            clear S HM0
            obtain ⟨c, p, dm, rfl, rfl, hpN, hg2, HM, S⟩ := hrel
            by_cases hpb : p + 2 * bs ≤ N
            · obtain ⟨D2, hD2⟩ : ∃ D2, D2 = dm := ⟨_, rfl⟩
              have hpr := HM.out.mi.pair
              rw [← HM.out.ac, Nat.min_eq_left (by omega), Nat.min_eq_left (by omega)] at hpr
              have hcall := symK_arr H cap p (p + bs) (p + 2 * bs) dm wr HM.out.sz (by omega) (by omega) hpb hpr.1 hpr.2 S.out
              rw [show ((p + bs : Nat) : Int) = (p : Int) + (bs : Int) by omega, show ((p + 2 * bs : Nat) : Int) = (p : Int) + 2 * (bs : Int) by omega] at hcall
              clear S hpr hD2
              have t2 : (p : Int) + 2 * (bs : Int) ≤ (N : Int) := by omega
              go_wp2_with (first | (go_at_call 69; refine hcall.mono ?_; rintro e w1 ⟨rfl, D3, hD3, S2⟩))
              have S3 : Aside _ := S2
              have HM2 : Hid (MiAt (ltOf cf) N bs (c + 1) (p + 2 * bs) d D3) := Lib.hid ⟨HM.out.mi.step HM.out.ac (by rw [HM.out.ac]) hD3, HM.out.st.trans hD3.steps, by have := HM.out.ac; rw [this]; exact (Nat.succ_mul _ _).symm, hD3.size.trans HM.out.sz⟩
              clear S2 HM hD3 hcall
              go_roundg (N - (p + 2 * bs))
              case measure => omega
              case rel => exact ⟨c + 1, p + 2 * bs, D3, by first | rfl | go_num | (congr 1; omega), by first | rfl | go_num | (congr 1; omega), hpb, Nat.le_refl _, HM2, S3⟩
            · have t2 : ¬ (p : Int) + 2 * (bs : Int) ≤ (N : Int) := by omega
              by_cases hpm : p + bs < N
              · have hpr := HM.out.mi.pair
                rw [← HM.out.ac, Nat.min_eq_left (by omega), Nat.min_eq_right (by omega)] at hpr
                have hcall := symK_arr H cap p (p + bs) N dm wr HM.out.sz (by omega) hpm (Nat.le_refl _) hpr.1 hpr.2 S.out
                rw [show ((p + bs : Nat) : Int) = (p : Int) + (bs : Int) by omega] at hcall
                clear S hpr
                have t3 : (p : Int) + (bs : Int) < (N : Int) := by omega
                go_wp2_with (first | (go_at_call 69; refine hcall.mono ?_; rintro e w1 ⟨rfl, D3, hD3, S2⟩))
                have S3 : Aside _ := S2
                have HB2 : Hid (BlAt (ltOf cf) N (2 * bs) d D3) := Lib.hid ⟨HM.out.mi.ends HM.out.ac (by omega) hD3, HM.out.st.trans hD3.steps, hD3.size.trans HM.out.sz⟩
                clear S2 HM hD3 hcall
                go_roundg (N - 2 * bs)
                case measure => omega
                case rel => exact ⟨2 * bs, D3, by first | rfl | go_num | (congr 1; omega), by omega, by omega, Nat.le_refl _, HB2, S3⟩
              · have t3 : ¬ (p : Int) + (bs : Int) < (N : Int) := by omega
                have HB2 : Hid (BlAt (ltOf cf) N (2 * bs) d dm) := Lib.hid ⟨HM.out.mi.rest HM.out.ac (by omega), HM.out.st, HM.out.sz⟩
                clear HM
                go_wp2
                go_roundg (N - 2 * bs)
                case measure => omega
                case rel => exact ⟨2 * bs, dm, by first | rfl | go_num | (congr 1; omega), by omega, by omega, Nat.le_refl _, HB2, S⟩
        · go_wp2
          go_end0
          exact ⟨rfl, dj, HB.out.st, HB.out.bl.done (by omega), HB.out.sz, S.out⟩

/-- slices.SortStableFunc: the row holds a stable sort of what it held. -/
theorem sortK_any (H : Srt enc k cf g cb blk off N d0 w0) (cap : Nat) (d : Array α) (w : World) (hds : d.size = N) (S : SWK enc k w0 blk off d w) :
    Calls Try.prog 27 #[.slice (some ⟨blk, off, none⟩) N cap, .func (.func g) #[] cb] w fun e w' =>
      e = .returned (.tuple #[]) ∧ ∃ d', Steps (ltOf cf) d.toList d'.toList ∧ SortedIn (ltOf cf) 0 N d' ∧ d'.size = N ∧ SWK enc k w0 blk off d' w' := by
  have hcall := stableK_any H cap d w hds S
  clear S
  go_enter Try.func27, Try.ntmps27
  go_wp2_with (first | (go_at_call 53; refine hcall.mono ?_; rintro e w1 ⟨rfl, h⟩))
  go_end0
  exact ⟨rfl, h⟩
end
set_option maxRecDepth 1000000 in
/-- Nothing to sort. -/
theorem sortK_none (A : Option Addr) (c g : Nat) (cb : Array Value) (w : World) :
    Calls Try.prog 27 #[.slice A 0 c, .func (.func g) #[] cb] w fun e w' => e = .returned (.tuple #[]) ∧ w = w' := by
  have hins : Calls Try.prog 68 #[.slice A 0 c, .int .i64 0, .int .i64 0, .func (.func g) #[] cb] w fun e w' => e = .returned (.tuple #[]) ∧ w = w' := by
    go_enter Try.func68, Try.ntmps68
    go_wp2
    go_loopg [8] 1 (fun g1 vi wr => vi = .int .i64 1 ∧ wr = w)
    case atStart => exact ⟨rfl, rfl⟩
    case round =>
      obtain ⟨rfl, rfl⟩ := hrel
      go_wp2
      go_end0
      exact ⟨rfl, rfl⟩
  have hst : Calls Try.prog 53 #[.slice A 0 c, .int .i64 0, .func (.func g) #[] cb] w fun e w' => e = .returned (.tuple #[]) ∧ w = w' := by
    go_enter Try.func53, Try.ntmps53
    go_wp2
    go_loopg [7, 8] 1 (fun g1 va vb wr => va = .int .i64 0 ∧ vb = .int .i64 20 ∧ wr = w)
    case atStart => exact ⟨rfl, rfl, rfl⟩
    case round =>
      obtain ⟨rfl, rfl, rfl⟩ := hrel
      go_wp2_with (first | (go_at_call 68; refine hins.mono ?_; rintro e w1 ⟨rfl, rfl⟩))
      go_loopg [6] 1 (fun g1 vb wx => vb = .int .i64 20 ∧ wx = wr)
      case atStart => exact ⟨rfl, rfl⟩
      case round =>
        obtain ⟨rfl, rfl⟩ := hrel
        go_wp2
        go_end0
        exact ⟨rfl, rfl⟩
  go_enter Try.func27, Try.ntmps27
  go_wp2_with (first | (go_at_call 53; refine hst.mono ?_; rintro e w1 ⟨rfl, rfl⟩))
  go_end0
  exact ⟨rfl, rfl⟩
end Go.Proofs.Ytelailhghhjleaa
