/- The walk of weirlaw4.AuditFinds. -/
import Derived.Test.YtelailhghhjleaaWalkFactA
import Derived.Test.YtelailhghhjleaaWalkTurned
import Derived.Deep.RegionHeld3
import Derived.Deep.RegionWith
import Derived.Deep.CutBlock
import Derived.Deep.CutRange
namespace Go.Proofs.Ytelailhghhjleaa
open Go.RowKit

theorem round_at (a : Int) {n : Nat} (h : 0 < n) (h4 : n ≤ 400) : ∃ i : Nat, (wrap64 (a.tmod n + n)).tmod n = (i : Int) ∧ i < n := by
  have h1 : -(n : Int) < a.tmod n := Int.lt_tmod_of_pos _ (by omega)
  have h4 : a.tmod n < n := Int.tmod_lt_of_pos _ (by omega)
  have h5 : wrap64 (a.tmod n + n) = a.tmod n + n := by unfold wrap64; omega
  have h2 : 0 ≤ (a.tmod n + n).tmod n := Int.tmod_nonneg _ (by omega)
  have h3 : (a.tmod n + n).tmod n < n := Int.tmod_lt_of_pos _ (by omega)
  rw [h5]
  exact ⟨((a.tmod n + n).tmod n).toNat, by omega, by omega⟩

set_option maxRecDepth 100000 in
set_option maxHeartbeats 8000000 in
theorem lawfinds_any (A : Option Addr) (c : Nat) (ps : List Pl) (at_ place : Int) (w : World) (hr : RdPs w w.heap.size A ps.length ps) (hc : ps.length ≤ c) (hm : c ≤ maxLen) (hl : ps.length ≤ 140737488355328)
    (_ha0 : -9223372036854775808 ≤ at_) (_ha1 : at_ ≤ 9223372036854775807) (_hp0 : -9223372036854775808 ≤ place) (_hp1 : place ≤ 9223372036854775807) :
    Calls Try.prog 6 #[.slice A ps.length c, .int .i64 at_, .int .i64 place] w fun e w' => e = .returned (.bool true) ∧ Below w.heap.size w w' := by
  by_cases hE : linesE (lnsOf ps) = 0
  · have hok := linesE_ok hE
    have hn4 : ps.length ≤ 400 := by have := hok.len; rwa [lnsOf_len] at this
    have hj := fun W (hW : Below w.heap.size w W) => judge_good A A c c w.heap.size ps ps W (hr.below hW (Nat.le_refl _)) (hr.below hW (Nat.le_refl _)) hW.size hc hc hm hm hE hE
    rw [judge_self hok] at hj
    dsimp only at hj
    have HR := Lib.hid hr
    have HOK := Lib.hid hok
    have HE := Lib.hid hE
    clear hr hok hE hl
    obtain ⟨n, hn⟩ : ∃ n, n = ps.length := ⟨_, rfl⟩
    have HN := Lib.hid hn
    rw [← hn] at hc hj hn4 ⊢
    clear hn
    go_enter Try.func6, Try.ntmps6
    go_wp2_with fail
    have hb0 := (Below.refl w.heap.size w).alloc (Nat.le_refl _) (.cells #[.slice A n c] 47)
    have hx0 := Blk.new w 47 #[.slice A n c]
    have hs0 : (w.alloc (.cells #[.slice A n c] 47)).heap.size = w.heap.size + 1 := by simp
    generalize w.alloc (.cells #[.slice A n c] 47) = w0 at *
    refine (fact_at w0 hs0 rfl).mono ?_
    rintro e w1 ⟨rfl, hb1⟩
    have hbb1 := below_up hb0 hb1
    have x1 := (hx0.up hb1).cell 0
    simp at x1
    go_wp2_with fail
    refine (hj _ hbb1).mono ?_
    rintro e w2 ⟨rfl, hb2⟩
    have hbb2 := below_up hbb1 hb2
    have hx2 := (hx0.up hb1).up hb2
    have x2 := hx2.cell 0
    simp at x2
    have hsw := hx2.lt
    clear hj x1 hb1 hb2 hx0 hs0 hb0
    by_cases hz : n = 0
    · subst hz
      go_wp2_with fail
      go_ret
      exact ⟨rfl, hbb2⟩
    have hz0 : ¬ ((n : Int) = 0) := by omega
    go_wp2_with fail
    have x2a := (World.cell?_alloc_lt w2 (.cells #[.int .i64 0] 3) ⟨w.heap.size, 0, none⟩ (by simp only; omega)).trans x2
    go_region
    obtain ⟨i, hi, hin⟩ : ∃ i : Nat, (wrap64 (at_.tmod n + n)).tmod n = (i : Int) ∧ i < n := round_at at_ (by omega) (by omega)
    have HI := Lib.hid hi
    clear hi
    go_upto_region 12 with fail
    rw [HI.out]
    have hb3 := ((Below.refl w2.heap.size w2).alloc (Nat.le_refl _) (.cells #[.int .i64 i] 3)).drew
    have hx3 := (Blk.new w2 3 #[.int .i64 i]).drew
    have hs3 : w2.heap.size < ((w2.alloc (.cells #[.int .i64 i] 3)).drew).heap.size := by simp
    generalize (w2.alloc (.cells #[.int .i64 i] 3)).drew = w3 at *
    have hl3 := hx2.up hb3
    have hbb3 := below_up hbb2 hb3
    obtain ⟨ad, p, hA, hab, hp, g0, g1, hpo⟩ := HR.out.at_ (k := i) (by rw [← HN.out]; exact hin)
    subst hA
    have hs2 := hbb2.size
    clear x2 hx2 hb3 hbb2
    have hi0 : (0 : Int) ≤ (i : Int) := by omega
    have hi1 : (i : Int) < (n : Int) := by omega
    obtain ⟨q, hq⟩ : ∃ q, q = p.ln.nums.length := ⟨_, rfl⟩
    have HQ := Lib.hid hq
    have hq4 : q ≤ 400 := by rw [hq]; exact HOK.out.few _ (List.mem_of_getElem? (lnsOf_at hp))
    have hq1 : 0 < q := by rw [hq]; exact HOK.out.some_ _ (List.mem_of_getElem? (lnsOf_at hp))
    have hpc := hpo.cap
    have hpm := hpo.max
    have hpr := hpo.rd
    have hpw := hpo.wf
    rw [← hq] at hpc hpr
    have HP := Lib.hid hp
    have HPW := Lib.hid hpw
    clear hp hpo hpw hq
    have hF3 : FS w w3 w2.heap.size (some ad) n c i := ⟨hbb3, hl3, hx3⟩
    obtain ⟨gi, hgi⟩ : ∃ gi, gi = w2.heap.size := ⟨_, rfl⟩
    rw [← hgi] at hF3 ⊢
    clear hgi hs2 hs3 hx3 hl3
    unfold Pl.val at g1
    rw [← HQ.out] at g1
    have hab0 : (ad.add (i * 2)).block < w.heap.size := by rw [block_add]; exact hab
    have hab1 : (⟨(ad.add (i * 2)).block, (ad.add (i * 2)).off + 1, none⟩ : Addr).block < w.heap.size := hab0
    obtain ⟨l3, i3⟩ := hF3.cells
    have g13 := hF3.at_ hab1 g1
    go_upto_if 86 with (first
      | (with_reducible show wpList _ _ _ (⟨some 81, _, _, _, _, _⟩ :: _) _ _; go_must (refine wpList_rd (.tmp 75) (.tmp 80) el_intf rfl rfl (World.ownsRow_nil w3 w3.heap.size _ _) rfl (hpr.below hbb3 (Nat.le_refl _)) rfl (ivs_one _) (by omega) (Nat.le_refl _) ?_); intro v4 w4 hown4 hb4 hg4 ha4)
      | (with_reducible show wpList _ _ _ (⟨some 84, _, _, _, _, _⟩ :: _) _ _; go_must (refine wpList_new (.tmp 82) (.tmp 83) el_intf rfl rfl hown4 rfl rfl rfl rfl (by omega) hb4.size ?_); intro v5 w5 hown5 hb5 hg5 ha5))
    have hF5 := hF3.up (hb4.trans hb5)
    have e7 : p.ln.nums.map iv ++ #[Value.int .i64 7].toList = (p.ln.nums ++ [7]).map iv := by simp [iv]
    rw [List.nil_append, e7, Nat.zero_add] at hown5
    obtain ⟨A5, c5, rfl, k51, k52, _, r5⟩ := own_form hown5
    clear e7 hown4 hown5 hb4 hb5 hg4 hg5 ha4 ha5 l3 i3 g13
    obtain ⟨l5, i5⟩ := hF5.cells
    have g5 := hF5.at_ hab1 g1
    have a5 := hF5.at_ hab0 g0
    go_cut [] from 86 to 116 (fun wx => FS w wx gi (some ad) n c i)
    case first =>
      by_cases hq5 : q < 400
      · have hq6 : (q : Int) < 400 := by omega
        have hlen : q + 1 = (p.ln.nums ++ [7]).length := by rw [List.length_append, ← HQ.out]; rfl
        have hqk : Pl.Ok w5.drew w5.drew.heap.size ⟨⟨p.ln.key, p.ln.nums ++ [7]⟩, A5, c5⟩ := ⟨by rw [← hlen]; exact k51, k52, by rw [← hlen]; exact r5, fun x hx => by
          rcases List.mem_append.1 hx with h | h
          · exact HPW.out x h
          · rw [List.mem_singleton.1 h]; decide⟩
        have HT := Lib.hid (turned_at (qn := ⟨⟨p.ln.key, p.ln.nums ++ [7]⟩, A5, c5⟩) hF5.drew HR.out HN.out HOK.out HP.out rfl hqk hlen)
        have HJ := fun W6 A6 c6 m6 (h1 : FS w W6 gi (some ad) n c i) => judged_at (m := m6) (c' := c6) (A' := A6) (qn := ⟨⟨p.ln.key, p.ln.nums ++ [7]⟩, A5, c5⟩) (kd := 2) (pt := q) h1 HR.out HN.out hc hm HOK.out HE.out HP.out rfl (by rw [← hlen]; omega) (by rw [HQ.out]; exact line_more _ _) (by decide)
        have HJJ := Lib.hid HJ
        clear HJ hqk hlen
        go_wp2_with fail
        go_region_held3 (fun w' => w'.cell? ⟨w.heap.size, 0, none⟩ = some (.slice (some ad) n c)) (first | exact hF7.cells.1 | exact hF6.cells.1 | exact hF5.drew.cells.1 | exact hF5.cells.1)
          ((first
            | (go_at_call 18; go_must (refine HT.out.mono ?_); rintro e w6 ⟨A6, c6, m6, rfl, k61, k62, r6, hb6⟩; have hF6 := hF5.drew.up hb6)
            | (go_at_call 17; go_must (refine (HJJ.out _ _ _ _ hF6 r6 k61 k62).mono ?_); rintro e w7 ⟨rfl, hb7⟩; have hF7 := hF6.up hb7)))
        all_goals
          obtain ⟨l7, i7⟩ := hF7.cells
          have a7 := hF7.at_ hab0 g0
          go_wp2_with fail
          go_meet
          exact hF7
      · have hq6 : ¬ ((q : Int) < 400) := by omega
        go_wp2_with fail
        go_meet
        exact hF5
    case rest =>
      clear hF5 hF3 r5 k51 k52 l5 i5 g5 a5 hbb3 hin
      have hFc := hcut
      clear hcut
      obtain ⟨lc, ic⟩ := hFc.cells
      obtain ⟨adn, hAn, _, _⟩ := hpr.2 hq1
      rw [hAn] at g1 hpr
      rcases q with _ | m
      · omega
      have gc := hFc.at_ hab1 g1
      have hlen : m = (p.ln.nums.take m).length := by rw [List.length_take, ← HQ.out]; omega
      have hqk : Pl.Ok wc.drew wc.drew.heap.size ⟨⟨p.ln.key, p.ln.nums.take m⟩, some adn, p.c⟩ := ⟨by show (p.ln.nums.take m).length ≤ p.c; omega, hpm, by
        show Rd _ _ 1 (some adn) (p.ln.nums.take m).length ((p.ln.nums.take m).map iv)
        have h := ((hpr.below hFc.bel (Nat.le_refl _)).more hFc.bel.size).take (k := m) (by omega)
        rw [Nat.mul_one, ← List.map_take] at h
        rw [← hlen]; exact h, fun x hx => HPW.out x (List.mem_of_mem_take hx)⟩
      have HT := Lib.hid (turned_at (qn := ⟨⟨p.ln.key, p.ln.nums.take m⟩, some adn, p.c⟩) hFc.drew HR.out HN.out HOK.out HP.out rfl hqk hlen)
      have HJ := fun W6 A6 c6 m6 (h1 : FS w W6 gi (some ad) n c i) => judged_at (m := m6) (c' := c6) (A' := A6) (qn := ⟨⟨p.ln.key, p.ln.nums.take m⟩, some adn, p.c⟩) (kd := 1) (pt := m) h1 HR.out HN.out hc hm HOK.out HE.out HP.out rfl (by rw [← hlen]; omega)
        (by have h := line_less (w := p.ln.nums) (by rw [← HQ.out]; omega); rw [← HQ.out, Nat.add_sub_cancel] at h; exact h) (by decide)
      have HJJ := Lib.hid HJ
      clear HJ hqk hlen
      have f1 : ((m : Int)).toNat = m := by omega
      have f2 : m ≤ p.c := by omega
      have f3 : (0 : Int) ≤ (m : Int) := by omega
      have f4 : (m : Int) ≤ (p.c : Int) := by omega
      have f5 : IntKind.i64.wrap ((m : Int) + 1 - 1) = (m : Int) := by rw [IntWalk.i64_in _ (by omega)]; omega
      have f6 : IntKind.i64.wrap (m : Int) = (m : Int) := IntWalk.i64_in _ (by omega)
      go_wp2_with fail
      go_region_held3 (fun w' => w'.cell? ⟨w.heap.size, 0, none⟩ = some (.slice (some ad) n c) ∧ w'.cell? ⟨gi, 0, none⟩ = some (.int .i64 i) ∧ w'.cell? ⟨(ad.add (i * 2)).block, (ad.add (i * 2)).off + 1, none⟩ = some (.slice (some adn) (m + 1) p.c))
        (first | exact ⟨hF7.cells.1, hF7.cells.2, hF7.at_ (a := ⟨(ad.add (i * 2)).block, (ad.add (i * 2)).off + 1, none⟩) hab0 g1⟩ | exact ⟨hF6.cells.1, hF6.cells.2, hF6.at_ (a := ⟨(ad.add (i * 2)).block, (ad.add (i * 2)).off + 1, none⟩) hab0 g1⟩ | exact ⟨hFc.drew.cells.1, hFc.drew.cells.2, hFc.drew.at_ hab1 g1⟩ | exact ⟨lc, ic, gc⟩)
        ((first
          | (go_at_call 18; go_must (refine HT.out.mono ?_); rintro e w6 ⟨A6, c6, m6, rfl, k61, k62, r6, hb6⟩; have hF6 := hFc.drew.up hb6)
          | (go_at_call 17; go_must (refine (HJJ.out _ _ _ _ hF6 r6 k61 k62).mono ?_); rintro e w7 ⟨rfl, hb7⟩; have hF7 := hF6.up hb7)))
      all_goals
        clear HT HJJ lc ic gc hFc
        obtain ⟨l7, i7⟩ := hF7.cells
        have g7 := hF7.at_ (a := ⟨(ad.add (i * 2)).block, (ad.add (i * 2)).off + 1, none⟩) hab0 g1
        have a7 := hF7.at_ hab0 g0
        by_cases hm1 : m + 1 < 2
        · have hm2 : (m : Int) + 1 < 2 := by omega
          go_wp2_with fail
          go_ret
          exact ⟨rfl, hF7.bel⟩
        · have hm2 : ¬ ((m : Int) + 1 < 2) := by omega
          have hm3 : (0 : Int) < (m : Int) := by omega
          have hm4 : ¬ ((m : Int) = 0) := by omega
          obtain ⟨j, hj, hjm⟩ := round_place place (by omega : 0 < m) (by omega)
          have HJ := Lib.hid hj
          clear hj
          obtain ⟨_, x, e0, hx, _, _⟩ := hpr.intw (k := j) (by omega) HQ.out.symm (Below.refl _ _) (Nat.le_refl _)
          obtain ⟨_, y, e1, hy, _, _⟩ := hpr.intw (k := j + 1) (by omega) HQ.out.symm (Below.refl _ _) (Nat.le_refl _)
          clear e0 e1
          have HX : Hid (atD p.ln.nums j = x) := Lib.hid (by rw [atD, hx]; rfl)
          have HY : Hid (atD p.ln.nums (j + 1) = y) := Lib.hid (by rw [atD, hy]; rfl)
          have hnx := fun W (hF : FS w W gi (some ad) n c i) => nums_at hpr HQ.out.symm hF.bel (j := j) (by omega) hx
          have hny := fun W (hF : FS w W gi (some ad) n c i) => nums_at hpr HQ.out.symm hF.bel (j := j + 1) (by omega) hy
          have HNX := Lib.hid hnx
          have HNY := Lib.hid hny
          have HXM := Lib.hid (List.mem_of_getElem? hx)
          have HYM := Lib.hid (List.mem_of_getElem? hy)
          clear hx hy hnx hny
          have j0 : (0 : Int) ≤ (j : Int) := by omega
          have j1 : (j : Int) < (m : Int) + 1 := by omega
          have j2 : (0 : Int) ≤ (j : Int) + 1 := by omega
          have j3 : (j : Int) + 1 < (m : Int) + 1 := by omega
          have x7 := HNX.out _ hF7
          have y7 := HNY.out _ hF7
          rw [Addr.add, if_neg (by omega)] at y7
          go_upto_region 27 with fail
          rw [HJ.out]
          by_cases hxy : x = y
          · subst hxy
            go_quiet (fail)
            go_wp2_with fail
            go_ret
            exact ⟨rfl, below_drewN hF7.bel _⟩
          go_quiet (fail)
          have hFz : FS w (w7.drewN nq) gi (some ad) n c i := ⟨below_drewN hF7.bel _, hF7.l.drewN nq, hF7.i.drewN nq⟩
          generalize w7.drewN nq = wz at *
          clear hF7 l7 i7 g7 a7 x7 y7
          obtain ⟨l7, i7⟩ := hFz.cells
          have g7 := hFz.at_ (a := ⟨(ad.add (i * 2)).block, (ad.add (i * 2)).off + 1, none⟩) hab0 g1
          go_upto_region 31 with (first
            | (with_reducible show wpList _ _ _ (⟨some 191, _, _, _, _, _⟩ :: _) _ _; go_must (refine wpList_rd (.tmp 185) (.tmp 190) el_intf rfl rfl (World.ownsRow_nil wz wz.heap.size _ _) rfl (hpr.below hFz.bel (Nat.le_refl _)) rfl (ivs_one _) (by omega) (Nat.le_refl _) ?_); intro v8 w8 hown8 hb8 hg8 ha8))
          rw [List.nil_append, Nat.zero_add] at hown8
          obtain ⟨g8, c8, cur, rfl, hgb, hx8, hl8, hm8, hcs8, hct⟩ := own_blk hown8 (by omega)
          have hF8 := hFz.up hb8
          clear hown8 hg8 ha8 l7 i7 g7
          obtain ⟨l8, i8⟩ := hF8.cells
          have g8' := hF8.at_ (a := ⟨(ad.add (i * 2)).block, (ad.add (i * 2)).off + 1, none⟩) hab0 g1
          have y8 := HNY.out _ hF8
          rw [Addr.add, if_neg (by omega)] at y8
          have z8 := hx8.cell j
          rw [Array.getElem?_eq_getElem (by omega)] at z8
          have fz8 := hx8.frozen j
          have hgs : w.heap.size ≤ wz.heap.size := hFz.bel.size
          go_upto_region 32 with fail
          have hF9 : FS w (w8.setCell ⟨g8, j, none⟩ (.int .i64 y)) gi (some ad) n c i := hFz.up (hb8.setCell hgb _)
          have hb9 : Below wz.heap.size wz (w8.setCell ⟨g8, j, none⟩ (.int .i64 y)) := hb8.setCell hgb _
          have hx9 := hx8.set_ j (.int .i64 y)
          generalize w8.setCell ⟨g8, j, none⟩ (.int .i64 y) = w9 at *
          clear l8 i8 g8' y8 z8 fz8 hx8 hF8
          obtain ⟨l9, i9⟩ := hF9.cells
          have g9 := hF9.at_ (a := ⟨(ad.add (i * 2)).block, (ad.add (i * 2)).off + 1, none⟩) hab0 g1
          have x9 := HNX.out _ hF9
          have z9 := hx9.cell (j + 1)
          rw [Array.getElem?_eq_getElem (by simp; omega)] at z9
          have fz9 := hx9.frozen (j + 1)
          go_upto_region 33 with fail
          have hF10 : FS w (w9.setCell ⟨g8, j + 1, none⟩ (.int .i64 x)) gi (some ad) n c i := hFz.up (hb9.setCell hgb _)
          have hx10 := hx9.set_ (j + 1) (.int .i64 x)
          generalize w9.setCell ⟨g8, j + 1, none⟩ (.int .i64 x) = wy at *
          clear l9 i9 g9 x9 z9 fz9 hx9 hF9
          obtain ⟨ly, iy⟩ := hF10.cells
          have hlen : m + 1 = (swapN p.ln.nums j).length := by rw [swapN_len, ← HQ.out]
          have hqk : Pl.Ok wy.drew wy.drew.heap.size ⟨⟨p.ln.key, swapN p.ln.nums j⟩, some ⟨g8, 0, none⟩, c8⟩ := ⟨by rw [← hlen]; exact hl8, hm8, by
            rw [← hlen]
            exact rd_blk hx10 (by simp; omega) (swap_cells hct HX.out HY.out) hx10.lt, fun z hz => by
            rcases List.mem_or_eq_of_mem_set hz with h | h
            · rcases List.mem_or_eq_of_mem_set h with h | h
              · exact HPW.out z h
              · rw [h, HY.out]; exact HPW.out y HYM.out
            · rw [h, HX.out]; exact HPW.out x HXM.out⟩
          have HT := Lib.hid (turned_at (qn := ⟨⟨p.ln.key, swapN p.ln.nums j⟩, some ⟨g8, 0, none⟩, c8⟩) hF10.drew HR.out HN.out HOK.out HP.out rfl hqk hlen)
          have HJ2 := fun W6 A6 c6 m6 (h1 : FS w W6 gi (some ad) n c i) => judged_at (m := m6) (c' := c6) (A' := A6) (qn := ⟨⟨p.ln.key, swapN p.ln.nums j⟩, some ⟨g8, 0, none⟩, c8⟩) (kd := 4) (pt := j) h1 HR.out HN.out hc hm HOK.out HE.out HP.out rfl (by rw [← hlen]; omega)
            (line_swap (by rw [← HQ.out]; omega) (by rw [HX.out, HY.out]; exact hxy)) (by decide)
          have HJJ := Lib.hid HJ2
          clear HJ2 hqk hlen hx10
          go_wp2_with fail
          go_region_held3 (fun w' => w'.cell? ⟨w.heap.size, 0, none⟩ = some (.slice (some ad) n c)) (first | exact hF7.cells.1 | exact hF6.cells.1 | exact hF10.drew.cells.1 | exact hF10.cells.1)
            ((first
              | (go_at_call 18; go_must (refine HT.out.mono ?_); rintro e w6 ⟨A6, c6, m6, rfl, k61, k62, r6, hb6⟩; have hF6 := hF10.drew.up hb6)
              | (go_at_call 17; go_must (refine (HJJ.out _ _ _ _ hF6 r6 k61 k62).mono ?_); rintro e w7 ⟨rfl, hb7⟩; have hF7 := hF6.up hb7)))
          all_goals
            obtain ⟨lq, iq⟩ := hF7.cells
            have aq := hF7.at_ hab0 g0
            go_wp2_with fail
            go_ret
            exact ⟨rfl, hF7.bel⟩
  · have hE2 : bothE (lnsOf ps) (lnsOf ps) ≠ 0 := by rw [bothE, if_pos hE]; exact hE
    have hj := fun W (hW : Below w.heap.size w W) => judge_bad A A c c w.heap.size ps ps W (hr.below hW (Nat.le_refl _)) (hr.below hW (Nat.le_refl _)) hW.size hl hl hE2
    generalize bothE (lnsOf ps) (lnsOf ps) = E at *
    have HE : Hid (errV E = .iface 63 (.int .i64 E)) := Lib.hid (by rw [errV, if_neg hE2])
    have HR := Lib.hid hr
    clear hr
    generalize ps.length = n at *
    go_enter Try.func6, Try.ntmps6
    go_wp2_with fail
    have hb0 := (Below.refl w.heap.size w).alloc (Nat.le_refl _) (.cells #[.slice A n c] 47)
    have hx0 := Blk.new w 47 #[.slice A n c]
    have hs0 : (w.alloc (.cells #[.slice A n c] 47)).heap.size = w.heap.size + 1 := by simp
    generalize w.alloc (.cells #[.slice A n c] 47) = w0 at *
    refine (fact_at w0 hs0 rfl).mono ?_
    rintro e w1 ⟨rfl, hb1⟩
    have hbb1 := below_up hb0 hb1
    have x1 := (hx0.up hb1).cell 0
    simp at x1
    go_wp2_with fail
    refine (hj _ hbb1).mono ?_
    rintro e w2 ⟨rfl, hb2⟩
    rw [HE.out]
    have hbb2 := below_up hbb1 hb2
    go_wp2_with fail
    go_ret
    exact ⟨rfl, hbb2⟩
end Go.Proofs.Ytelailhghhjleaa
