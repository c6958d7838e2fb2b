/- The walk of weirlaw4.SpreadGraham. -/
import Derived.Test.YtelailhghhjleaaWalkLeast
import Derived.Test.YtelailhghhjleaaWalkEvery
import Derived.Test.YtelailhghhjleaaPlainSpread2
namespace Go.Proofs.Ytelailhghhjleaa
open Go.RowKit

theorem even_reads2 (A : Option Addr) (c B : Nat) (l : List ByteArray) (p : Nat) (w : World) (hr : Rd w B 1 A l.length (l.map sv)) (hB : B ≤ w.heap.size) (hE : spreadE l.length p = 0) :
    Calls Try.prog 11 #[.slice A l.length c, .int .i64 p] w fun e w' => ∃ A' c', e = .returned (.tuple #[.slice A' p c', .nilIface]) ∧ RdTT w' w'.heap.size A' (rowsAt l p l.length) ∧ Below w.heap.size w w' :=
  (even_good A c B l p w hr hB hE).mono fun _ _ ⟨_, _, he, hT, hb⟩ => ⟨_, _, he, hT.reads, hb⟩
theorem fact_least (w : World) : Calls Try.prog 10 #[.slice (some ⟨w.heap.size, 0, none⟩) 3 3, .int .i64 2] (w.alloc (.cells #[.int .i64 3, .int .i64 2, .int .i64 2] 3)) fun e w' =>
    ∃ g c, e = .returned (.tuple #[.slice (some ⟨g, 0, none⟩) 3 c, .nilIface]) ∧ w'.cell? ⟨g, 0, none⟩ = some (.int .i64 0) ∧ w'.cell? ⟨g, 1, none⟩ = some (.int .i64 1) ∧ w'.cell? ⟨g, 2, none⟩ = some (.int .i64 1) ∧ 3 ≤ c ∧ c ≤ maxLen ∧ Below w.heap.size w w' := by
  have hr : Rd (w.alloc (.cells #[.int .i64 3, .int .i64 2, .int .i64 2] 3)) (w.heap.size + 1) 1 (some ⟨w.heap.size, 0, none⟩) 3 ([3, 2, 2].map iv) := rd_new w #[.int .i64 3, .int .i64 2, .int .i64 2] 3 (by rfl)
  refine (least_good (some ⟨w.heap.size, 0, none⟩) 3 (w.heap.size + 1) [3, 2, 2] 2 _ hr (by simp) (by decide)).mono ?_
  rintro e w' ⟨v, rfl, out, h1, h2, h3⟩
  rw [if_pos (by decide)] at h1
  obtain ⟨ord, ho, h1⟩ := h1
  rw [show ((2 : Nat) : Int).toNat = 2 from rfl, ord_fact ho] at h1
  subst h1
  rcases h2.2 with ⟨_, h0⟩ | ⟨g, cap, cur, rfl, hbg, hgg, hn, hm, _, _⟩
  · exact absurd h0 (by decide)
  have hc := World.ownsRow.cells h2 rfl
  refine ⟨g, cap, by rw [show leastE [3, 2, 2] ((2 : Nat) : Int) = 0 from by decide]; rfl, ?_, ?_, ?_, hn, hm, ((Below.refl _ _).alloc (Nat.le_refl _) _).trans (h3.mono (by simp))⟩
  · exact hc 0 _ rfl
  · exact hc 1 _ rfl
  · exact hc 2 _ rfl
theorem least_any (A : Option Addr) (c B : Nat) (l : List Int) (p : Int) (w : World) (hr : Rd w B 1 A l.length (l.map iv)) (hB : B ≤ w.heap.size) (hl : l.length ≤ 140737488355328) (h0 : -9223372036854775808 ≤ p) (h1 : p ≤ 9223372036854775807) :
    Calls Try.prog 10 #[.slice A l.length c, .int .i64 p] w fun e w' => ∃ v, e = .returned (.tuple #[v, errV (leastE l p)]) ∧ LeastPost w l p v w' := by
  by_cases hE : spreadE l.length p = 0
  · have hp : 1 ≤ p := by
      unfold spreadE at hE
      split at hE
      · cases hE
      · omega
    obtain ⟨q, rfl⟩ : ∃ q : Nat, p = q := ⟨p.toNat, by omega⟩
    exact least_good A c B l q w hr hB hE
  · exact least_bad A c l p w hl h0 h1 hE
theorem leastE_parts {l : List Int} {p : Int} (h : leastE l p = 0) : ∃ q : Nat, p = q ∧ 1 ≤ q ∧ q ≤ 16 ∧ l.length ≤ 400 ∧ ∀ x ∈ l, 0 ≤ x ∧ x ≤ 1000000 := by
  unfold leastE at h
  split at h
  · rename_i hE
    split at h
    · rename_i ho
      unfold spreadE at hE
      split at hE
      · cases hE
      · split at hE
        · cases hE
        · exact ⟨p.toNat, by omega, by omega, by omega, by omega, loadsOk_all ho⟩
    · cases h
  · rename_i hE; exact absurd h hE

theorem RdTT.more {w : World} {B D : Nat} {A : Option Addr} {ls : List (List ByteArray)} (h : RdTT w B A ls) (hB : B ≤ D) : RdTT w D A ls := by
  intro hn
  obtain ⟨ad, e, hlt, hc⟩ := h hn
  refine ⟨ad, e, by omega, fun i l hi => ?_⟩
  obtain ⟨A', c, h1, h2, h3, h4⟩ := hc i l hi
  exact ⟨A', c, h1, h2, h3, h4.more hB⟩
theorem again_one (A2 : Option Addr) (c2 B : Nat) (l : List ByteArray) (q : Nat) (W : World) (hr : Rd W B 1 A2 l.length (l.map sv)) (hB : B ≤ W.heap.size) (hlc : l.length ≤ c2) (hcm : c2 ≤ maxLen) (hE : spreadE l.length q = 0) (hl : l.length ≤ 4398046511104) :
    Calls Try.prog 12 #[.slice (some ⟨W.heap.size, 0, none⟩) 1 1, .int .i64 q] (W.alloc (.cells #[.slice A2 l.length c2] 35)) fun e w' => ∃ A' c', e = .returned (.tuple #[.slice A' q c', .nilIface]) ∧ RdTT w' w'.heap.size A' (rowsAt l q l.length) ∧ Below W.heap.size W w' := by
  have hT : RdTT (W.alloc (.cells #[.slice A2 l.length c2] 35)) (W.heap.size + 1) (some ⟨W.heap.size, 0, none⟩) [l] := by
    intro _
    refine ⟨_, rfl, by simp, fun i l' hi => ?_⟩
    rcases i with _ | i
    · obtain rfl : l = l' := by simpa using hi
      exact ⟨A2, c2, (Blk.new W 35 #[.slice A2 l.length c2]).cell 0, hlc, hcm, (hr.alloc hB _).more (by omega)⟩
    · simp at hi
  have h := again_good (some ⟨W.heap.size, 0, none⟩) 1 (W.heap.size + 1) [l] q _ hT (by simp) (by simp) (by rw [show [l].length = 1 from rfl, flat_one]; exact hl) (by rw [show [l].length = 1 from rfl, flat_one]; exact hE)
  rw [show [l].length = 1 from rfl, flat_one] at h
  exact h.mono fun e w' ⟨A', c', h1, h2, h3⟩ => ⟨A', c', h1, h2, ((Below.refl _ _).alloc (Nat.le_refl _) _).trans (h3.mono (by simp))⟩
theorem every_one (A : Option Addr) (c B : Nat) (l : List ByteArray) (q : Nat) (W : World) (hr : RdTT W B A (rowsAt l q l.length)) (hB : B ≤ W.heap.size) (hq : 0 < q) (hq2 : q ≤ 16) (hl : l.length ≤ 400) :
    Calls Try.prog 13 #[.slice A q c, .int .i64 1] W fun e w' => ∃ ad A' c' d, e = .returned (.tuple #[.slice (some ad) 1 c', .nilIface]) ∧ w'.cell? ad = some (.slice A' l.length d) ∧ Below W.heap.size W w' := by
  have hfl : (flatTo (rowsAt l q l.length) (rowsAt l q l.length).length).length = l.length := by rw [rowsAt_len]; exact flat_rows hq _
  have h := every_good A c B (rowsAt l q l.length) 1 W hr hB (by rw [rowsAt_len]; omega) (by rw [hfl]; omega) (by rw [hfl, spreadE, if_neg (by omega), if_neg (by omega)])
  rw [rowsAt_len] at h
  refine h.mono ?_
  rintro e w' ⟨A', c', rfl, hT, hb⟩
  obtain ⟨ad, A4, c4, rfl, g0, _⟩ := hT.at_ (Below.refl _ _) (i := 0) (by simp)
  rw [show (List.replicate 1 (flatTo (rowsAt l q l.length) q)).getD 0 [] = flatTo (rowsAt l q l.length) q from rfl, flat_rows hq] at g0
  exact ⟨ad, A4, c', c4, rfl, by simpa [Addr.add] using g0, hb⟩

set_option maxRecDepth 100000 in
set_option maxHeartbeats 2000000 in
theorem lawgraham_bad (A A2 : Option Addr) (c c2 : Nat) (load : List Int) (l : List ByteArray) (p way q : Int) (w : World) (hr : Rd w w.heap.size 1 A load.length (load.map iv)) (hl : load.length ≤ 140737488355328)
    (hp0 : -9223372036854775808 ≤ p) (hp1 : p ≤ 9223372036854775807) (hE : leastE load p ≠ 0 ∨ 8 < load.length) :
    Calls Try.prog 4 #[.slice A load.length c, .int .i64 p, .int .i64 way, .slice A2 l.length c2, .int .i64 q] w fun e w' => e = .returned (.bool true) ∧ Below w.heap.size w w' := by
  go_enter Try.func4, Try.ntmps4
  go_wp2_with fail
  refine (fact_least w).mono ?_
  rintro e w1 ⟨g1, c1, rfl, k0, k1, k2, hc1, hc2, hb1⟩
  unfold maxLen at hc2
  go_wp2_with fail
  refine (least_any A c w.heap.size load p w1 (hr.below hb1 (Nat.le_refl _)) hb1.size hl hp0 hp1).mono ?_
  rintro e w2 ⟨v2, rfl, out, hout, hown, hb2⟩
  have hbb2 := below_up hb1 hb2
  by_cases hE0 : leastE load p = 0
  · have h8 : 8 < load.length := by omega
    rw [show errV (leastE load p) = .nilIface from by rw [hE0]; rfl]
    clear hE hout hown hE0
    go_wp2_with fail
    go_ret
    exact ⟨rfl, hbb2⟩
  · rw [show errV (leastE load p) = .iface 63 (.int .i64 (leastE load p)) from by rw [errV, if_neg hE0]]
    clear hE hout hown hE0
    generalize leastE load p = EE
    go_wp2_with fail
    go_ret
    exact ⟨rfl, hbb2⟩

set_option maxRecDepth 100000 in
set_option maxHeartbeats 8000000 in
theorem lawgraham_good (A A2 : Option Addr) (c c2 : Nat) (load : List Int) (l : List ByteArray) (p : Nat) (way q : Int) (w : World) (hr : Rd w w.heap.size 1 A load.length (load.map iv)) (hr2 : Rd w w.heap.size 1 A2 l.length (l.map sv)) (hl8 : load.length ≤ 8) (hl2 : l.length ≤ 140737488355328) (hlc2 : l.length ≤ c2) (hcm2 : c2 ≤ maxLen)
    (hp0 : 1 ≤ p) (hp1 : p ≤ 16) (hw0 : -9223372036854775808 ≤ way) (hw1 : way ≤ 9223372036854775807) (hq0 : -9223372036854775808 ≤ q) (hq1 : q ≤ 9223372036854775807) (hE : leastE load p = 0) (hall : ∀ x ∈ load, 0 ≤ x ∧ x ≤ 1000000) :
    Calls Try.prog 4 #[.slice A load.length c, .int .i64 p, .int .i64 way, .slice A2 l.length c2, .int .i64 q] w fun e w' => e = .returned (.bool true) ∧ Below w.heap.size w w' := by
  have hE0 : Hid (leastE load p = 0) := Lib.hid hE
  go_enter Try.func4, Try.ntmps4
  go_wp2_with fail
  refine (fact_least w).mono ?_
  rintro e w1 ⟨g1, c1, rfl, k0, k1, k2, hc1, hc2, hb1⟩
  unfold maxLen at hc2
  go_wp2_with fail
  refine (least_any A c w.heap.size load p w1 (hr.below hb1 (Nat.le_refl _)) hb1.size (by omega) (by omega) (by omega)).mono ?_
  rintro e w2 ⟨v2, rfl, out, hout, hown, hb2⟩
  have hbb2 := below_up hb1 hb2
  rw [show errV (leastE load p) = .nilIface from by rw [hE0.out]; rfl]
  rw [if_pos hE0.out] at hout
  obtain ⟨ord, hord, hout⟩ := hout
  have HO := Lib.hid hord
  have HOUT := Lib.hid hout
  have hol : out.length = load.length := by rw [hout]; exact (gives_len load _ ord).2
  obtain ⟨n, hn⟩ : ∃ n, n = load.length := ⟨_, rfl⟩
  rw [hol] at hown
  rw [← hn] at hr hl8 hown ⊢
  have hwho : ∀ i, i < n → 0 ≤ atD out i ∧ atD out i < p := fun i hi => by
    rw [hout]; simpa using who_lt (m := p) (by omega) hord (by rw [← hn]; exact hi)
  have HW := Lib.hid hwho
  have HALL := Lib.hid hall
  have Hn := Lib.hid hn
  clear hE hout hord hol hn hwho hall
  obtain ⟨Ao, co, rfl, hco, hcm, hbo, hro⟩ := own_form hown
  unfold maxLen at hcm
  clear hown hbo
  obtain ⟨a, ha⟩ : ∃ a, a = whoOf out := ⟨_, rfl⟩
  have HA := Lib.hid ha
  obtain ⟨f, hf⟩ : ∃ f, f = atD load := ⟨_, rfl⟩
  have HF := Lib.hid hf
  have hfb : ∀ j, 0 ≤ f j ∧ f j ≤ 1000000 := fun j => by rw [hf]; exact atD_bd HALL.out j
  have HFB := Lib.hid hfb
  clear ha hf hfb
  have hmk1 := run_make_row' (P := Try.prog) 34 3 (.int .i64 0) 8 Try.underlying34 (by kernel_rfl) rfl .i64 .i64 p (by omega) (by omega) w2
  have hS0 := Blk.new w2 3 (madeCells #[.int .i64 0] p)
  have hb3 := (Below.refl w2.heap.size w2).alloc (Nat.le_refl _) (.cells (madeCells #[.int .i64 0] p) 3)
  go_wp2_with fail
  generalize w2.alloc (.cells (madeCells #[.int .i64 0] p) 3) = w3 at *
  obtain ⟨gs, hgs⟩ : ∃ gs, gs = w2.heap.size := ⟨_, rfl⟩
  rw [← hgs] at hS0 hb3 hro ⊢
  have HGS := Lib.hid hgs
  clear hgs hmk1
  rw [← ivs_made, ← bySum_nil f a] at hS0
  go_loopw [16] (fun i wr => ∃ k : Nat, k ≤ n ∧ i = .int .i64 k ∧ Blk wr gs 3 (ivs (bySum f a p (List.range k))) ∧ Below gs w2 wr) (fun i _ => n - (intOf i).toNat)
  case atStart => exact ⟨0, Nat.zero_le _, rfl, hS0, hb3⟩
  clear hS0 hb3
  obtain ⟨k, hk, rfl, hS, hb3⟩ := hrel
  by_cases hlt : k < n
  · obtain ⟨ad, rfl, _, g0⟩ := (hro.below hb3 (Nat.le_refl _)).int_ hlt
    obtain ⟨hx0, hx1⟩ := HW.out k hlt
    obtain ⟨ad2, rfl, _, g2⟩ := (hr.below (hbb2.trans (hb3.mono (by have := hbb2.size; have := HGS.out; omega))) (Nat.le_refl _)).int_ hlt
    rw [← HF.out] at g2
    have hak : a k = (atD out k).toNat := by rw [HA.out]; rfl
    obtain ⟨x, hx⟩ : ∃ x : Nat, atD out k = x := ⟨(atD out k).toNat, by omega⟩
    rw [hx] at g0 hx0 hx1 hak
    have hxp : x < p := by omega
    obtain ⟨s0, s1⟩ := bySum_bd (a := a) (m := p) (i := k) HFB.out hxp
    obtain ⟨y0, y1⟩ := HFB.out k
    have hsc := hS.cell x
    rw [ivs_get (by rw [bySum_len]; exact hxp)] at hsc
    have hsf := hS.frozen x
    have hS2 := hS.set_ x (.int .i64 (atD (bySum f a p (List.range k)) x + f k))
    rw [ivs_set, bySum_step (by rw [hak]; simp) hxp] at hS2
    have hb4 := hb3.setCell (p := ⟨gs, x, none⟩) (Nat.le_refl _) (.int .i64 (atD (bySum f a p (List.range k)) x + f k))
    clear hx hak
    generalize atD (bySum f a p (List.range k)) x = z at *
    generalize f k = y at *
    have hzk : z ≤ 8000000 := by
      have : (1000000 : Int) * k ≤ 8000000 := by omega
      omega
    have hwt : IntKind.i64.wrap (z + y) = z + y := IntWalk.i64_in _ (by omega)
    have hk0 : (0 : Int) ≤ (k : Int) := by omega
    have hk1' : (k : Int) < (n : Int) := by omega
    have t0 : decide ((x : Int) < 0) = false := by simp
    have t1 : decide ((p : Int) ≤ (x : Int)) = false := by simp; omega
    go_wp2_with fail
    go_still_tail 18, (by kernel_rfl)
    change wpList _ _ _ _ _ wr.drew
    go_wp2_with fail
    go_roundw
    case rel => exact ⟨k + 1, by omega, by go_num, hS2.drew, hb4.drew⟩
    case measure => simp [intOf]; omega
  · have hkn : k = n := by omega
    rw [hkn] at hS
    clear hkn hk HW hro
    have hbw := hbb2.trans (hb3.mono (by have := hbb2.size; have := HGS.out; omega))
    clear hb3 hbb2
    have hSb : ∀ j, j < p → 0 ≤ atD (bySum f a p (List.range n)) j ∧ atD (bySum f a p (List.range n)) j ≤ 8000000 := fun j hj => by
      obtain ⟨s0, s1⟩ := bySum_bd (a := a) (m := p) (i := n) HFB.out hj
      refine ⟨s0, ?_⟩
      have : (1000000 : Int) * n ≤ 8000000 := by omega
      omega
    have HSB := Lib.hid hSb
    clear hSb
    go_wp2_with fail
    go_loopw [17, 18] (fun m i wx => ∃ k : Nat, ∃ z : Int, k ≤ p ∧ i = .int .i64 k ∧ m = .int .i64 z ∧ Hid (z = maxTo (bySum f a p (List.range n)) k) ∧ wx = wr) (fun _ i _ => p - (intOf i).toNat)
    case atStart => exact ⟨0, 0, Nat.zero_le _, rfl, rfl, Lib.hid rfl, rfl⟩
    obtain ⟨k, z, hk, rfl, rfl, HZ, rfl⟩ := hrel
    by_cases hlt2 : k < p
    · have hsc := hS.cell k
      rw [ivs_get (by rw [bySum_len]; exact hlt2)] at hsc
      obtain ⟨s0, s1⟩ := HSB.out k hlt2
      obtain ⟨y, hy⟩ : ∃ y, y = atD (bySum f a p (List.range n)) k := ⟨_, rfl⟩
      rw [← hy] at hsc s0 s1
      have HY : Hid (maxTo (bySum f a p (List.range n)) (k + 1) = if z < y then y else z) := Lib.hid (by rw [maxTo, ← HZ.out, hy])
      clear hy
      have hk0 : (0 : Int) ≤ (k : Int) := by omega
      have hk1' : (k : Int) < (p : Int) := by omega
      by_cases hzy : z < y
      · have t0 : decide (z < y) = true := by simpa using hzy
        go_wp2_with fail
        go_roundw
        case rel => exact ⟨k + 1, y, by omega, by go_num, rfl, Lib.hid (by rw [HY.out, if_pos hzy]), trivial⟩
        case measure => simp [intOf]; omega
      · have t0 : decide (z < y) = false := by simpa using hzy
        go_wp2_with fail
        go_roundw
        case rel => exact ⟨k + 1, z, by omega, by go_num, rfl, Lib.hid (by rw [HY.out, if_neg hzy]), trivial⟩
        case measure => simp [intOf]; omega
    · have hkp : k = p := by omega
      rw [hkp] at HZ
      have hzb := maxTo_bd (s := bySum f a p (List.range n)) (n := p) (B := 8000000) (by omega) fun j hj => (HSB.out j hj).2
      rw [← HZ.out] at hzb
      clear hkp hk hS HSB
      obtain ⟨b, hb⟩ : ∃ b, b = wayK way p := ⟨_, rfl⟩
      have HBB := Lib.hid hb
      clear hb
      obtain ⟨hzb0, hzb1⟩ := hzb
      have hmk2 := run_make_row' (P := Try.prog) 34 3 (.int .i64 0) 8 Try.underlying34 (by kernel_rfl) rfl .i64 .i64 p (by omega) (by omega) wr
      have hT0 := Blk.new wr 3 (madeCells #[.int .i64 0] p)
      have hb5 := (Below.refl wr.heap.size wr).alloc (Nat.le_refl _) (.cells (madeCells #[.int .i64 0] p) 3)
      go_wp2_with fail
      generalize wr.alloc (.cells (madeCells #[.int .i64 0] p) 3) = w5 at *
      obtain ⟨go, hgo⟩ : ∃ go, go = wr.heap.size := ⟨_, rfl⟩
      rw [← hgo] at hT0 hb5 ⊢
      have HGO := Lib.hid hgo
      clear hgo hmk2
      rw [← ivs_made, ← bySum_nil f b] at hT0
      go_loopw [2, 20] (fun y i wx => ∃ k : Nat, ∃ x : Int, k ≤ n ∧ i = .int .i64 k ∧ y = .int .i64 x ∧ Hid (x = wayTo way p k) ∧ Blk wx go 3 (ivs (bySum f b p (List.range k))) ∧ Below go wr wx) (fun _ i _ => n - (intOf i).toNat)
      case atStart => exact ⟨0, way, Nat.zero_le _, rfl, rfl, Lib.hid rfl, hT0, hb5⟩
      clear hT0 hb5
      obtain ⟨k, x, hk, rfl, rfl, HX, hT, hb5⟩ := hrel
      by_cases hlt3 : k < n
      · obtain ⟨hkp, hkk⟩ := wayK_lt (way := way) (p := p) (i := k) (by omega) hp1
        have hw2 : wayTo way p (k + 1) = wrap64 ((wayTo way p k).tdiv p + k) := rfl
        rw [← HX.out] at hkk hw2
        have HW2 := Lib.hid hw2
        have hbk : b k = wayK way p k := by rw [HBB.out]
        rw [← hbk] at hkk hkp
        obtain ⟨xb0, xb1⟩ := wayTo_bd (p := p) hw0 hw1 k
        rw [← HX.out] at xb0 xb1
        obtain ⟨ad2, rfl, _, g2⟩ := (hr.below (hbw.trans (hb5.mono (by have := hbw.size; have := HGO.out; omega))) (Nat.le_refl _)).int_ hlt3
        rw [← HF.out] at g2
        obtain ⟨s0, s1⟩ := bySum_bd (a := b) (m := p) (i := k) HFB.out hkp
        obtain ⟨y0, y1⟩ := HFB.out k
        have hsc := hT.cell (b k)
        rw [ivs_get (by rw [bySum_len]; exact hkp)] at hsc
        have hsf := hT.frozen (b k)
        have hT2 := hT.set_ (b k) (.int .i64 (atD (bySum f b p (List.range k)) (b k) + f k))
        rw [ivs_set, bySum_step rfl hkp] at hT2
        have hb6 := hb5.setCell (p := ⟨go, b k, none⟩) (Nat.le_refl _) (.int .i64 (atD (bySum f b p (List.range k)) (b k) + f k))
        clear hw2 hbk
        generalize atD (bySum f b p (List.range k)) (b k) = z2 at *
        generalize f k = y at *
        generalize b k = v at *
        have hzk : z2 ≤ 8000000 := by
          have : (1000000 : Int) * k ≤ 8000000 := by omega
          omega
        have hwt : IntKind.i64.wrap (z2 + y) = z2 + y := IntWalk.i64_in _ (by omega)
        have hk0 : (0 : Int) ≤ (k : Int) := by omega
        have hk1' : (k : Int) < (n : Int) := by omega
        have hv0 : (0 : Int) ≤ (v : Int) := by omega
        have hv1 : (v : Int) < (p : Int) := by omega
        go_wp2_with fail
        try rw [hkk]
        clear hkk
        go_still_tail 12, (by kernel_rfl)
        change wpList _ _ _ _ _ wr.drew
        go_wp2_with fail
        go_roundw
        case rel => exact ⟨k + 1, _, by omega, by go_num, rfl, Lib.hid HW2.out.symm, hT2.drew, hb6.drew⟩
        case measure => simp [intOf]; omega
      · have hkn : k = n := by omega
        rw [hkn] at hT
        clear hkn hk HX
        have hbw6 := hbw.trans (hb5.mono (by have := hbw.size; have := HGO.out; omega))
        clear hb5 hbw
        have hTb : ∀ j, j < p → 0 ≤ atD (bySum f b p (List.range n)) j ∧ atD (bySum f b p (List.range n)) j ≤ 8000000 := fun j hj => by
          obtain ⟨s0, s1⟩ := bySum_bd (a := b) (m := p) (i := n) HFB.out hj
          refine ⟨s0, ?_⟩
          have : (1000000 : Int) * n ≤ 8000000 := by omega
          omega
        have HTB := Lib.hid hTb
        clear hTb
        go_wp2_with fail
        go_loopw [22, 23] (fun m i wx => ∃ k : Nat, ∃ y : Int, k ≤ p ∧ i = .int .i64 k ∧ m = .int .i64 y ∧ Hid (y = maxTo (bySum f b p (List.range n)) k) ∧ wx = wr) (fun _ i _ => p - (intOf i).toNat)
        case atStart => exact ⟨0, 0, Nat.zero_le _, rfl, rfl, Lib.hid rfl, rfl⟩
        obtain ⟨k, y, hk, rfl, rfl, HY, rfl⟩ := hrel
        by_cases hlt4 : k < p
        · have hsc := hT.cell k
          rw [ivs_get (by rw [bySum_len]; exact hlt4)] at hsc
          obtain ⟨s0, s1⟩ := HTB.out k hlt4
          obtain ⟨u, hu⟩ : ∃ u, u = atD (bySum f b p (List.range n)) k := ⟨_, rfl⟩
          rw [← hu] at hsc s0 s1
          have HU : Hid (maxTo (bySum f b p (List.range n)) (k + 1) = if y < u then u else y) := Lib.hid (by rw [maxTo, ← HY.out, hu])
          clear hu
          have hk0 : (0 : Int) ≤ (k : Int) := by omega
          have hk1' : (k : Int) < (p : Int) := by omega
          by_cases hyu : y < u
          · have t0 : decide (y < u) = true := by simpa using hyu
            go_wp2_with fail
            go_roundw
            case rel => exact ⟨k + 1, u, by omega, by go_num, rfl, Lib.hid (by rw [HU.out, if_pos hyu]), trivial⟩
            case measure => simp [intOf]; omega
          · have t0 : decide (y < u) = false := by simpa using hyu
            go_wp2_with fail
            go_roundw
            case rel => exact ⟨k + 1, y, by omega, by go_num, rfl, Lib.hid (by rw [HU.out, if_neg hyu]), trivial⟩
            case measure => simp [intOf]; omega
        · have hkp : k = p := by omega
          rw [hkp] at HY
          obtain ⟨yb0, yb1⟩ := maxTo_bd (s := bySum f b p (List.range n)) (n := p) (B := 8000000) (by omega) fun j hj => (HTB.out j hj).2
          rw [← HY.out] at yb0 yb1
          have hgr := graham_law (l := load) (m := p) hp0 (fun x hx => (HALL.out x hx).1) HO.out (b := b) fun j hj => by rw [HBB.out]; exact (wayK_lt (by omega) hp1).1
          have ho2 : (gives load p ord).2 = out := by rw [HOUT.out]; simp
          rw [ho2, ← HA.out, ← HF.out, ← Hn.out, ← HZ.out, ← HY.out] at hgr
          clear hkp hk hT HTB ho2 hr
          have hm1 : 0 ≤ 3 * (p : Int) * z ∧ 3 * (p : Int) * z ≤ 1000000000 := by
            have h1 : (p : Int) * z ≤ 16 * z := Int.mul_le_mul_of_nonneg_right (by omega) hzb0
            have h2 : 0 ≤ (p : Int) * z := Int.mul_nonneg (by omega) hzb0
            rw [Int.mul_assoc]
            omega
          have hm2 : 0 ≤ (4 * (p : Int) - 1) * y ∧ (4 * (p : Int) - 1) * y ≤ 1000000000 := by
            have h1 : (4 * (p : Int) - 1) * y ≤ 63 * y := Int.mul_le_mul_of_nonneg_right (by omega) yb0
            exact ⟨Int.mul_nonneg (by omega) yb0, by omega⟩
          obtain ⟨ma, mb⟩ := hm1
          obtain ⟨mc, md⟩ := hm2
          go_wp2_with fail
          clear hb1 hb2 k0 k1 k2
          by_cases hEq : spreadE l.length q = 0
          · have hq3 : 1 ≤ q ∧ q ≤ 16 ∧ l.length ≤ 400 := by
              unfold spreadE at hEq
              split at hEq
              · cases hEq
              · split at hEq
                · cases hEq
                · omega
            obtain ⟨hq4, hq5, hl4⟩ := hq3
            obtain ⟨r, rfl⟩ : ∃ r : Nat, q = r := ⟨q.toNat, by omega⟩
            have hev := even_reads2 A2 c2 w.heap.size l r wr (hr2.below hbw6 (Nat.le_refl _)) hbw6.size hEq
            have hag := fun W (hb : Below w.heap.size w W) => again_one A2 c2 w.heap.size l r W (hr2.below hb (Nat.le_refl _)) hb.size hlc2 hcm2 hEq (by omega)
            have hey := fun A c W (hT : RdTT W W.heap.size A (rowsAt l r l.length)) => every_one A c W.heap.size l r W hT (Nat.le_refl _) (by omega) (by omega) hl4
            obtain ⟨m, hm⟩ : ∃ m, m = l.length := ⟨_, rfl⟩
            rw [← hm] at hev hag hey hl4
            have HM := Lib.hid hm
            have HAG := Lib.hid hag
            have HEY := Lib.hid hey
            rw [← hm]
            clear hm hEq hag hey
            refine hev.mono ?_
            rintro e w7 ⟨A7, c7, rfl, hT7, hb7⟩
            have hbw7 := below_up hbw6 hb7
            go_wp2_with fail
            refine (HAG.out _ hbw7).mono ?_
            rintro e w8 ⟨A8, c8, rfl, hT8, hb8⟩
            have hbw8 := below_up hbw7 hb8
            have hT78 := hT7.below hb8
            go_wp2_with fail
            refine (HEY.out A7 c7 w8 (hT78.more hb8.size)).mono ?_
            rintro e w9 ⟨ad9, A9, c9, d9, rfl, g9, hb9⟩
            have hbw9 := below_up hbw8 hb9
            have hT79 := hT78.below (hb9.mono hb8.size)
            have hT89 := hT8.below hb9
            have s79 := Nat.le_trans hb8.size hb9.size
            have s89 := hb9.size
            clear hev hT7 hT8 hT78 hb7 hb8 hb9 hbw6 hbw7 hbw8
            go_wp2_with fail
            go_loopw [30] (fun i wr => ∃ k : Nat, k ≤ r ∧ i = .int .i64 k ∧ Below w9.heap.size w9 wr) (fun i _ => r - (intOf i).toNat)
            case atStart => exact ⟨0, Nat.zero_le _, rfl, Below.refl _ _⟩
            obtain ⟨k, hk, rfl, hbel⟩ := hrel
            by_cases hlt5 : k < r
            · obtain ⟨ad4, B4, d4, rfl, g4, _, _, t4⟩ := hT79.at_ (hbel.mono s79) (i := k) (by rw [rowsAt_len]; exact hlt5)
              obtain ⟨ad8, B8, d8, rfl, g8, _, _, t8⟩ := hT89.at_ (hbel.mono s89) (i := k) (by rw [rowsAt_len]; exact hlt5)
              rw [rows_getD hlt5] at g4 t4 g8 t8
              have hpl := pick_len l r k m
              have hts := fun W (h : Rd W w9.heap.size 1 B4 (pick l r k m).length ((pick l r k m).map sv)) (h' : Rd W w9.heap.size 1 B8 (pick l r k m).length ((pick l r k m).map sv)) => texts_quiet B4 B8 d4 d8 w9.heap.size (pick l r k m) W h h' (by omega)
              replace t4 := t4.more s79
              replace t8 := t8.more s89
              obtain ⟨mx, hmx⟩ : ∃ mx, mx = (pick l r k m).length := ⟨_, rfl⟩
              rw [← hmx] at t4 t8 hts g4 g8
              obtain ⟨xx, hx⟩ : ∃ xx, xx = (pick l r k m).map sv := ⟨_, rfl⟩
              rw [← hx] at t4 t8 hts
              clear hpl hx hmx
              have hi0 : (0 : Int) ≤ (k : Int) := by omega
              have hi1 : (k : Int) < (r : Int) := by omega
              go_wp2_with fail
              go_quiet (first
                | (go_at_call 14; refine Calls.quiet_of (hts _ ?_ ?_); exact t4; exact t8))
              have hbel9 := below_drewN hbel nq
              generalize wr.drewN nq = wq at *
              go_wp2_with fail
              go_roundw
              case rel => exact ⟨k + 1, by omega, by go_num, hbel9⟩
              case measure => simp [intOf]; omega
            · go_wp2_with fail
              go_ret
              exact ⟨rfl, below_up hbw9 hbel⟩
          · refine (even_bad A2 c2 l q wr (by omega) hq0 hq1 hEq).mono ?_
            rintro e w7 ⟨rfl, rfl⟩
            rw [show errV (spreadE l.length q) = .iface 63 (.int .i64 (spreadE l.length q)) from by rw [errV, if_neg hEq]]
            clear hEq
            generalize spreadE l.length q = EE
            go_wp2_with fail
            go_ret
            exact ⟨rfl, hbw6⟩
theorem lawgraham_any (A A2 : Option Addr) (c c2 : Nat) (load : List Int) (l : List ByteArray) (p way q : Int) (w : World) (hr : Rd w w.heap.size 1 A load.length (load.map iv)) (hr2 : Rd w w.heap.size 1 A2 l.length (l.map sv)) (hl : load.length ≤ 140737488355328) (hl2 : l.length ≤ 140737488355328) (hlc2 : l.length ≤ c2) (hcm2 : c2 ≤ maxLen)
    (hp0 : -9223372036854775808 ≤ p) (hp1 : p ≤ 9223372036854775807) (hw0 : -9223372036854775808 ≤ way) (hw1 : way ≤ 9223372036854775807) (hq0 : -9223372036854775808 ≤ q) (hq1 : q ≤ 9223372036854775807) :
    Calls Try.prog 4 #[.slice A load.length c, .int .i64 p, .int .i64 way, .slice A2 l.length c2, .int .i64 q] w fun e w' => e = .returned (.bool true) ∧ Below w.heap.size w w' := by
  by_cases hE : leastE load p ≠ 0 ∨ 8 < load.length
  · exact lawgraham_bad A A2 c c2 load l p way q w hr hl hp0 hp1 hE
  · have hE0 : leastE load p = 0 := by omega
    obtain ⟨r, rfl, h1, h2, _, h4⟩ := leastE_parts hE0
    exact lawgraham_good A A2 c c2 load l r way q w hr hr2 (by omega) hl2 hlc2 hcm2 h1 h2 hw0 hw1 hq0 hq1 hE0 h4
end Go.Proofs.Ytelailhghhjleaa
