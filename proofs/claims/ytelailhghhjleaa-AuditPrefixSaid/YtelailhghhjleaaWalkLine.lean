/- The walk of audit.line. -/
import Derived.Test.YtelailhghhjleaaWalkWithin
import Derived.StillTailTactics
import Derived.Lib.LazyBuf
namespace Go.Proofs.Ytelailhghhjleaa
open Go.RowKit Go.Maps

theorem Rd.cut_lt4 {w : World} {B size n k cap : Nat} {A : Option Addr} {xs : List Value} (h : Rd w B size A n xs) (hk : k < n) (hc : n ≤ cap) : Rd w B size (A.map (fun x => x.add (k * size))) (n - k) (xs.drop (k * size)) := by
  have := h.cut (Nat.le_of_lt hk) hc; rwa [if_neg (by omega)] at this
theorem Rd.tail1 {w w' : World} {B D n k cap : Nat} {ad : Addr} {l : List Int} (h : Rd w B 1 (some ad) n (l.map iv)) (hl : l.length = n) (hk : k < n) (hc : n ≤ cap) (hb : Below D w w') (hD : B ≤ D) : Rd w' B 1 (some (ad.add k)) (l.drop k).length ((l.drop k).map iv) := by
  have h1 := (h.below hb hD).cut_lt4 hk hc
  rw [Nat.mul_one, ← List.map_drop] at h1
  rw [List.length_drop, hl]
  exact h1

set_option maxRecDepth 100000 in
set_option maxHeartbeats 1000000 in
theorem line_none (A2 : Option Addr) (n2 c2 : Nat) (w : World) :
    Calls Try.prog 44 #[.slice none 0 0, .slice A2 n2 c2] w fun e w' => e = .returned (.tuple #[.int .i64 3, .int .i64 0]) ∧ w = w' := by
  have q := fun W => Lib.run_eql_slice_nil (P := Try.prog) W 34 3 none 0 0 0 0 Try.underlying34
  go_enter Try.func44, Try.ntmps44
  go_wp2
  go_ret2
  exact ⟨rfl, rfl⟩

set_option maxRecDepth 100000 in
set_option maxHeartbeats 4000000 in
theorem line_any (ad : Addr) (A2 : Option Addr) (c1 c2 B : Nat) (a b : List Int) (w : World) (hr1 : Rd w B 1 (some ad) a.length (a.map iv)) (hr2 : Rd w B 1 A2 b.length (b.map iv)) (hB : B ≤ w.heap.size)
    (hl1 : a.length ≤ 400) (hl2 : b.length ≤ 400) (hw1 : ∀ x ∈ a, (Lit.int .i64 x).wf = true) (hw2 : ∀ x ∈ b, (Lit.int .i64 x).wf = true) (hc1 : a.length ≤ c1) (hc2 : b.length ≤ c2) (_hm1 : c1 ≤ maxLen) (_hm2 : c2 ≤ maxLen) :
    Calls Try.prog 44 #[.slice (some ad) a.length c1, .slice A2 b.length c2] w fun e w' => e = .returned (.tuple #[.int .i64 ((lineJ a b).1 : Nat), .int .i64 ((lineJ a b).2 : Nat)]) ∧ Below w.heap.size w w' := by
  obtain ⟨n, hn⟩ : ∃ n, n = a.length := ⟨_, rfl⟩
  obtain ⟨m, hm⟩ : ∃ m, m = b.length := ⟨_, rfl⟩
  have Hn := Lib.hid hn
  have Hm := Lib.hid hm
  rw [← hn] at hr1 hl1 hc1 ⊢
  rw [← hm] at hr2 hl2 hc2 ⊢
  clear hn hm
  obtain ⟨t, ht⟩ : ∃ t, t = min n m := ⟨_, rfl⟩
  have Ht := Lib.hid ht
  have htn : t ≤ n := by omega
  have htm : t ≤ m := by omega
  have hmin : min (n : Int) (m : Int) = (t : Int) := by omega
  have HM := Lib.hid hmin
  clear hmin ht
  have q := fun W => Lib.run_eql_slice_nil (P := Try.prog) W 34 3 (some ad) n c1 0 0 Try.underlying34
  go_enter Try.func44, Try.ntmps44
  go_wp2_with fail
  rw [HM.out]
  go_loopw [7, 16] (fun _ i wr => ∃ k : Nat, k ≤ t ∧ i = .int .i64 k ∧ Hid (∀ j, j < k → a[j]? = b[j]?) ∧ Below w.heap.size w wr) (fun _ i _ => t - (intOf i).toNat)
  case atStart => exact ⟨0, Nat.zero_le _, rfl, Lib.hid (fun j hj => absurd hj (by omega)), Below.refl _ _⟩
  obtain ⟨k, hk, rfl, HS, hbel⟩ := hrel
  have hws := hbel.size
  by_cases hlt : k < t
  · obtain ⟨ad', x, he, hx, hxm, g0⟩ := hr1.intw (k := k) (by omega) (Hn.out).symm hbel hB
    injection he with he
    subst he
    obtain ⟨ad2, y, rfl, hy, hym, p0⟩ := hr2.intw (k := k) (by omega) (Hm.out).symm hbel hB
    have hab1 : ad.block < B := by obtain ⟨_, e, h, _⟩ := hr1.2 (by omega); injection e with e; subst e; exact h
    have hab2 : ad2.block < B := by obtain ⟨_, e, h, _⟩ := hr2.2 (by omega); injection e with e; subst e; exact h
    have hk0 : (0 : Int) ≤ (k : Int) := by omega
    have hk1 : (k : Int) < (n : Int) := by omega
    have hk2 : (k : Int) < (m : Int) := by omega
    by_cases hxy : x = y
    · have HS2 : Hid (∀ j, j < k + 1 → a[j]? = b[j]?) := Lib.hid fun j hj => by
        by_cases hjk : j < k
        · exact HS.out j hjk
        · obtain rfl : j = k := by omega
          rw [hx, hy, hxy]
      subst hxy
      clear hx hy
      go_wp2_with fail
      go_quiet (fail)
      have hbel2 := below_drewN hbel nq
      generalize wr.drewN nq = wq at *
      go_wp2_with fail
      go_roundw
      case rel => exact ⟨k + 1, by omega, by go_num, HS2, hbel2⟩
      case measure => simp [intOf]; omega
    · have HL := Lib.hid (line_far HS.out (by have := Hn.out; omega) (by have := Hm.out; omega) (by rw [hx, hy]; simpa using hxy))
      have HX := Lib.hid hx
      have HY := Lib.hid hy
      clear hx hy
      go_wp2_with fail
      go_quiet (fail)
      have hbel2 := below_drewN hbel nq
      have hcq : wr.cell? = (wr.drewN nq).cell? := rfl
      generalize wr.drewN nq = wq at *
      go_wp2_with fail
      have f1 : ((k : Int)).toNat = k := by omega
      have f2 : k ≤ m := by omega
      have f3 : k ≤ n := by omega
      have f4 : ¬ (c1 = k) := by omega
      have f5 : ¬ (c2 = k) := by omega
      have f6 : k ≤ c1 := by omega
      have f7 : k ≤ c2 := by omega
      go_still_tail 6, (by kernel_rfl)
      change wpList _ _ _ _ _ wq.drew
      have hbel3 := hbel2.drew
      have ec : wq.cell? = wq.drew.cell? := rfl
      have ec0 : wr.cell? = wq.cell? := hcq
      rw [ec0, ec] at g0 p0
      clear ec ec0 hcq
      generalize wq.drew = wd at *
      have hwd := hbel3.size
      have hwi := within_any (some (ad2.add k)) (some (ad.add k)) (c2 - k) (c1 - k) B (b.drop k) (a.drop k) wd (hr2.tail1 (Hm.out).symm (by omega) hc2 hbel3 hB) (hr1.tail1 (Hn.out).symm (by omega) hc1 hbel3 hB) (Nat.le_trans hB hwd)
        (by rw [List.length_drop]; have := Hm.out; omega) (by rw [List.length_drop]; have := Hn.out; omega) (fun x hx => hw2 x (List.mem_of_mem_drop hx)) (fun x hx => hw1 x (List.mem_of_mem_drop hx))
      rw [List.length_drop, List.length_drop, ← Hm.out, ← Hn.out] at hwi
      rcases hwb : withinB (b.drop k) (a.drop k)
      · rw [hwb] at hwi
        have HWB := Lib.hid hwb
        clear hwb
        rcases k with _ | j
        · have HJ := Lib.hid (line_foreign HL.out (by have := Hn.out; omega) (by have := Hm.out; omega) HWB.out (by omega))
          go_wp2_with (first | (go_at_call 62; go_must (refine hwi.mono ?_); rintro e w2 ⟨rfl, hb2⟩))
          have hbel4 := hbel3.trans (hb2.mono hwd)
          have p1 := (hb2.cell (p := ad2.add 0) (by rw [block_add]; omega)).trans p0
          clear g0 p0 f1 f2 f3 f4 f5 f6 f7
          go_quiet (fail)
          go_wp2_with fail
          go_ret2
          exact ⟨by rw [HJ.out]; rfl, below_drewN hbel4 _⟩
        · obtain ⟨ad3, z, he, hz, hzm, z0⟩ := hr1.intw (k := j) (by omega) (Hn.out).symm hbel3 hB
          injection he with he
          subst he
          have hi0 : (0 : Int) ≤ (j : Int) := by omega
          have hi1 : (j : Int) < (n : Int) := by omega
          have hi2 : IntKind.i64.wrap ((j : Int) + 1 - 1) = (j : Int) := by rw [IntWalk.i64_in _ (by omega)]; omega
          have hi3 : IntKind.i64.wrap (j : Int) = (j : Int) := IntWalk.i64_in _ (by omega)
          have hj0 : (0 : Int) ≤ (j : Int) + 1 := by omega
          have hj1 : (j : Int) + 1 < (m : Int) := by omega
          have HAY : Hid (atD b (j + 1) = y) := Lib.hid (by rw [atD, HY.out]; rfl)
          have HAZ : Hid (atD a (j + 1 - 1) = z) := Lib.hid (by rw [atD, Nat.add_sub_cancel, hz]; rfl)
          have hrz := hr1
          clear hz
          by_cases hyz : y = z
          · have HJ := Lib.hid (line_twice HL.out (by have := Hn.out; omega) (by have := Hm.out; omega) HWB.out (by omega) (by rw [HAY.out, HAZ.out, hyz]))
            subst hyz
            go_wp2_with (first | (go_at_call 62; go_must (refine hwi.mono ?_); rintro e w2 ⟨rfl, hb2⟩))
            have hbel4 := hbel3.trans (hb2.mono hwd)
            have p1 := (hb2.cell (p := ad2.add (j+1)) (by rw [block_add]; omega)).trans p0
            clear g0 p0 f1 f2 f3 f4 f5 f6 f7
            have p2 : w2.cell? ⟨ad2.block, ad2.off + (j + 1), none⟩ = some (.int .i64 y) := by have h := p1; rwa [Addr.add, if_neg (by omega)] at h
            have z1 := (hb2.cell (p := ad.add j) (by rw [block_add]; omega)).trans z0
            go_quiet (fail)
            go_wp2_with fail
            go_ret2
            exact ⟨by rw [HJ.out]; rfl, below_drewN hbel4 _⟩
          · have HJ := Lib.hid (line_foreign HL.out (by have := Hn.out; omega) (by have := Hm.out; omega) HWB.out (by rw [HAY.out, HAZ.out]; exact fun h => hyz h.2))
            go_wp2_with (first | (go_at_call 62; go_must (refine hwi.mono ?_); rintro e w2 ⟨rfl, hb2⟩))
            have hbel4 := hbel3.trans (hb2.mono hwd)
            have p1 := (hb2.cell (p := ad2.add (j+1)) (by rw [block_add]; omega)).trans p0
            clear g0 p0 f1 f2 f3 f4 f5 f6 f7
            have p2 : w2.cell? ⟨ad2.block, ad2.off + (j + 1), none⟩ = some (.int .i64 y) := by have h := p1; rwa [Addr.add, if_neg (by omega)] at h
            have z1 := (hb2.cell (p := ad.add j) (by rw [block_add]; omega)).trans z0
            go_quiet (fail)
            go_wp2_with fail
            go_ret2
            exact ⟨by rw [HJ.out]; rfl, below_drewN hbel4 _⟩
      · rw [hwb] at hwi
        have HJ := Lib.hid (line_cross HL.out (by have := Hn.out; omega) (by have := Hm.out; omega) hwb)
        clear hwb
        go_wp2_with (first | (go_at_call 62; go_must (refine hwi.mono ?_); rintro e w2 ⟨rfl, hb2⟩))
        go_ret2
        exact ⟨by rw [HJ.out]; rfl, hbel3.trans (hb2.mono hwd)⟩
  · have e : k = t := by omega
    subst e
    have HE := Lib.hid (line_end HS.out (by have := Hn.out; have := Hm.out; have := Ht.out; omega))
    clear HS
    rcases Nat.lt_trichotomy n m with h | h | h
    · have t1 : k = n := by have := Ht.out; omega
      have t2 : (k : Int) < (m : Int) := by omega
      have HJ : Hid (lineJ a b = (2, k)) := Lib.hid (by rw [HE.out, if_pos (by have := Hm.out; omega)])
      clear t1
      go_wp2_with fail
      go_ret2
      exact ⟨by rw [HJ.out]; rfl, hbel⟩
    · have t1 : k = n := by have := Ht.out; omega
      have t2 : ¬ ((k : Int) < (m : Int)) := by omega
      have t3 : ¬ ((k : Int) < (n : Int)) := by omega
      have HJ : Hid (lineJ a b = (0, 0)) := Lib.hid (by rw [HE.out, if_neg (by have := Hm.out; omega), if_neg (by have := Hn.out; omega)])
      clear t1 h
      go_wp2_with fail
      go_ret2
      exact ⟨by rw [HJ.out]; rfl, hbel⟩
    · have t1 : k = m := by have := Ht.out; omega
      have t2 : ¬ ((k : Int) < (m : Int)) := by omega
      have t3 : (k : Int) < (n : Int) := by omega
      have HJ : Hid (lineJ a b = (1, k)) := Lib.hid (by rw [HE.out, if_neg (by have := Hm.out; omega), if_pos (by have := Hn.out; omega)])
      clear t1 h
      go_wp2_with fail
      go_ret2
      exact ⟨by rw [HJ.out]; rfl, hbel⟩
end Go.Proofs.Ytelailhghhjleaa
