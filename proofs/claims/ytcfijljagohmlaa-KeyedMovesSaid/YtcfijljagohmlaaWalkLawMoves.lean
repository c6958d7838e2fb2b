/- The walk of weirlaw2.KeyedMoves. -/
import Derived.Test.YtcfijljagohmlaaPlainMoves
import Derived.Test.YtcfijljagohmlaaWalkKeyed5
import Derived.Test.YtcfijljagohmlaaWalkSame
namespace Go.Proofs.Ytcfijljagohmlaa
open Go.RowKit Go.Maps

theorem hA_get : (getH 1 ⟨#[97]⟩ [hA]).val = .agg #[.int .i64 1, .string ⟨#[97]⟩, .int .i64 5, .int .i64 0] ∧ getHE 1 ⟨#[97]⟩ [hA] = 0 := by
  have h : hasH 1 ⟨#[97]⟩ [hA] = true := by decide
  have h2 := (getH_some h).1
  rw [List.mem_singleton] at h2
  exact ⟨by rw [h2]; rfl, by rw [getHE, if_pos h]⟩
set_option maxRecDepth 100000 in
set_option maxHeartbeats 8000000 in
theorem lawmoves_any (A : Option Addr) (c n : Nat) (l : List Hld) (p q : Int) (w : World) (hr : Rd w w.heap.size 4 A n (hldCells l)) (hln : l.length = n) (hn : n ≤ 140737488355328) (hok : ∀ x ∈ l, x.Ok) :
    Calls Try.prog 5 #[.slice A n c, .int .i64 p, .int .i64 q] w fun e w' => e = .returned (.bool true) ∧ Below w.heap.size w w' := by
  have HLN := Lib.hid hln
  have HOK := Lib.hid hok
  have hPA := Lib.hid hA_put
  have HAO := Lib.hid hA_ok
  have hw1 := knew_any w
  clear hln hok
  go_enter Try.func5, Try.ntmps5
  have hGA := Lib.hid hA_get
  go_upto_region 6 with (first
    | (go_at_call 20; go_must (refine hw1.mono ?_); rintro e w1 ⟨rfl, hk1, hb1, hz1⟩; have hpu := kput_any _ _ [] hA w1 hk1 HAO.out (by simp); rw [hPA.out.1, hPA.out.2, errV_zero] at hpu; unfold hA Hld.val at hpu)
    | (go_at_call 21; go_must (refine hpu.mono ?_); rintro e w2 ⟨rfl, hk2, hg2⟩; have hge := kget_any _ _ _ 1 ⟨#[97]⟩ w2 hk2 (by unfold i64ok; omega) (by unfold maxLen; decide); change Calls _ _ _ _ (fun e w' => e = .returned (.tuple #[(getH 1 ⟨#[97]⟩ [hA]).val, errV (getHE 1 ⟨#[97]⟩ [hA])]) ∧ _) at hge; rw [hGA.out.1, hGA.out.2, errV_zero] at hge)
    | (go_at_call 22; go_must (refine hge.mono ?_); rintro e w3 ⟨rfl, hb3⟩))
  have hbel3 := ((hb1.grown hg2 hb1.size (fun j hj => by cases hj; exact Nat.le_refl _)).trans (hb3.mono (Nat.le_trans hb1.size hg2.size)))
  have hbel := hbel3.alloc hbel3.size (.cells #[.int .i64 1, .string ⟨#[97]⟩, .int .i64 5, .int .i64 0] 47)
  generalize w3.alloc (.cells #[.int .i64 1, .string ⟨#[97]⟩, .int .i64 5, .int .i64 0] 47) = w4 at *
  clear hbel3 hb1 hg2 hb3 hk1 hk2 hz1 hpu hge hw1
  by_cases c1 : 1 ≤ p
  rotate_left
  · go_wp2_with fail
    go_ret
    exact ⟨rfl, hbel⟩
  by_cases c2 : p ≤ 16
  rotate_left
  · have c2' : (16 : Int) < p := by omega
    go_wp2_with fail
    go_ret
    exact ⟨rfl, hbel⟩
  by_cases c3 : 1 ≤ q
  rotate_left
  · have c2' : ¬ (16 : Int) < p := by omega
    go_wp2_with fail
    go_ret
    exact ⟨rfl, hbel⟩
  by_cases c4 : q ≤ 16
  rotate_left
  · have c2' : ¬ (16 : Int) < p := by omega
    have c4' : (16 : Int) < q := by omega
    go_wp2_with fail
    go_ret
    exact ⟨rfl, hbel⟩
  by_cases c5 : n ≤ 100
  rotate_left
  · have c2' : ¬ (16 : Int) < p := by omega
    have c4' : ¬ (16 : Int) < q := by omega
    have c5' : (100 : Int) < (n : Int) := by omega
    go_wp2_with fail
    go_ret
    exact ⟨rfl, hbel⟩
  have c5' : ¬ (100 : Int) < (n : Int) := by omega
  obtain ⟨P, rfl⟩ := Int.eq_ofNat_of_zero_le (show 0 ≤ p by omega)
  obtain ⟨K, rfl⟩ := Int.eq_ofNat_of_zero_le (show 0 ≤ q by omega)
  have d1 : 1 ≤ P := by omega
  have d2 : P ≤ 16 := by omega
  have d3 : 1 ≤ K := by omega
  have d4 : K ≤ 16 := by omega
  have c1' : (1 : Int) ≤ (P : Int) := by omega
  have c2' : ¬ (16 : Int) < (P : Int) := by omega
  have c3' : (1 : Int) ≤ (K : Int) := by omega
  have c4' : ¬ (16 : Int) < (K : Int) := by omega
  have hw5 := knew_any w4
  have hz4 := hbel.size
  go_wp2_with (first
    | (go_at_call 20; go_must (refine hw5.mono ?_); rintro e w5 ⟨rfl, hk5, hb5, hz5⟩))
  obtain ⟨gk, hgk⟩ : ∃ gk, gk = w4.heap.size + 1 := ⟨_, rfl⟩
  obtain ⟨mk, hmk⟩ : ∃ mk, mk = w4.heap.size := ⟨_, rfl⟩
  have hmkw : w.heap.size ≤ mk := by omega
  rw [← hgk, ← hmk] at hk5
  rw [← hgk]
  have hbel5 := hbel.trans (hb5.mono hz4)
  clear hgk hmk hb5 hz5 hbel hw5 hz4
  go_loopw [12] (fun x wr => ∃ (i : Nat) (S : List Hld), i ≤ n ∧ x = .int .i64 i ∧ KIn wr gk mk S ∧ S.length ≤ i ∧ Below w.heap.size w wr) (fun x _ => n - (intOf x).toNat)
  case atStart => exact ⟨0, [], Nat.zero_le _, rfl, hk5, Nat.le_refl _, hbel5⟩
  clear hk5 hbel5
  obtain ⟨i, S, hi, rfl, hk, hSl, hbel⟩ := hrel
  have hws := hbel.size
  by_cases hlq : i < n
  · obtain ⟨ad, x, rfl, hbk, hx, g0, g1, g2, g3⟩ := hr.hld_ hlq HLN.out hbel (Nat.le_refl _)
    have hxo := HOK.out x (List.mem_of_getElem? hx)
    have hpu := kput_any gk mk S x wr hk hxo (by omega)
    have hi0 : (0 : Int) ≤ (i : Int) := by omega
    have hi1 : (i : Int) < (n : Int) := by omega
    have hpl : (putH S x).length ≤ i + 1 := by
      unfold putH
      split
      · exact Nat.le_trans (hldPut_len S) (by omega)
      · omega
    clear hx hk
    unfold Hld.val at hpu
    go_wp2_with (first
      | (go_at_call 21; go_must (refine hpu.mono ?_); rintro e w6 ⟨rfl, hk6, hg6⟩))
    refine ⟨⟨i + 1, _, hlq, by go_num, hk6, hpl, hbel.grown hg6 hws (fun j hj => by cases hj; exact hmkw)⟩, by simp [intOf]; omega⟩
  · have hSl2 : S.length ≤ 100 := by omega
    have HRI := Lib.hid hk.rise
    have HFI := Lib.hid hk.fine
    clear hSl hi
    rename World => wa
    go_wp2_with fail
    go_loopw [13, 14] (fun o x wr => ∃ (j : Nat) (bs : List Bl), j ≤ P ∧ x = .int .i64 j ∧ bs.length = j ∧ OwnBB wr wa.heap.size o bs ∧ Hid (bs.map Bl.b = (List.range j).map fun i => heldsB (partG P i S)) ∧ Below wa.heap.size wa wr) (fun _ x _ => P - (intOf x).toNat)
    case atStart => exact ⟨0, [], Nat.zero_le _, rfl, rfl, OwnBB.start _ _, Lib.hid rfl, Below.refl _ _⟩
    obtain ⟨j, bs, hj, rfl, hbs, hO, HB, hbelj⟩ := hrel
    have hwj := hbelj.size
    by_cases hjl : j < P
    · have hkj := hk.up hbelj
      have hra := range_any P j wr d1 d2 hjl
      obtain ⟨e1, e2⟩ := exp_part (S := S) d1 hjl HRI.out HFI.out hSl2
      have hex := kexport_any gk mk S (firstG P j : Nat) (firstG P (j + 1) : Nat) wr hkj (by omega)
      rw [e1, e2, errV_zero] at hex
      have HP : Hid ((List.range (j + 1)).map (fun i => heldsB (partG P i S)) = (List.range j).map (fun i => heldsB (partG P i S)) ++ [heldsB (partG P j S)]) := Lib.hid (by rw [List.range_succ, List.map_append]; rfl)
      clear e1 e2 hkj
      generalize (firstG P j : Nat) = f1 at *
      generalize (firstG P (j + 1) : Nat) = f2 at *
      have hj0 : (0 : Int) ≤ (j : Int) := by omega
      have hj1 : (j : Int) < (P : Int) := by omega
      have hby : (bs.length + 1) * 24 ≤ 140737488355328 := by omega
      have hrow := hO.row
      have HO := Lib.hid hO
      clear hO
      go_wp2_with (first
        | (go_at_call 23; go_must (refine hra.mono ?_); rintro e w' ⟨rfl, rfl⟩)
        | (go_at_call 24; go_must (refine hex.mono ?_); rintro e w2 ⟨v2, rfl, ho2, hb2⟩; obtain ⟨A2, c2, rfl, _, _, _, _⟩ := own_form ho2; have hbel2 := hbelj.trans (hb2.mono hwj); have hs2 := hbel2.size; have hrow2 := own_up hrow hb2)
        | (with_reducible show wpList _ _ _ (⟨some 116, _, _, _, _, _⟩ :: _) _ _; go_must (refine wpList_newg (.tmp 113) (.tmp 115) el_slB rfl rfl hrow2 rfl rfl rfl rfl rfl hby hs2 ?_); intro v4 w4 hown4 hb4 hg4 ha4))
      have htab4 := (HO.out.up hb2).push (x := ⟨heldsB (partG P j S), A2, c2⟩) (own_base ho2 hwj) hown4 hg4
      have HT4 := Lib.hid htab4
      have hbel4 := hbel2.trans hb4
      clear htab4 hown4 ho2 hrow2
      go_roundw
      case rel => exact ⟨j + 1, _, hjl, by go_num, by rw [List.length_append, hbs]; rfl, HT4.out, Lib.hid (by rw [HP.out, List.map_append, HB.out]; rfl), hbel4⟩
      case measure => simp [intOf]; omega
    · obtain rfl : j = P := by omega
      obtain ⟨e1, e2⟩ := parts_whole (S := S) d1 HRI.out HFI.out hSl2 (bs.map Bl.b) HB.out
      obtain ⟨At, ct, hot, _, _, hbb⟩ := hO.rd
      subst hot
      have hwhl := kwhole_any At ct wr.heap.size bs.length (bs.map Bl.b) wr hbb (List.length_map _) (Nat.le_refl _) (by omega) (fun b hb => by
        rw [HB.out] at hb
        obtain ⟨i, _, rfl⟩ := List.mem_map.1 hb
        exact Nat.le_trans (heldsB_le _) (by decide))
      rw [e1, e2, errV_zero] at hwhl
      have hHl : (heldsB S).length ≤ 140737488355328 := Nat.le_trans (heldsB_le _) (by decide)
      have hkj := hk.up hbelj
      have hbelw := hbel.trans (hbelj.mono hws)
      subst hbs
      have hKN := Lib.hid (fun W => knew_any W)
      clear e1 e2 hbb hO hbelj hws hwj hk hbel hr
      obtain ⟨m, hm⟩ : ∃ m, m = (heldsB S).length := ⟨_, rfl⟩
      have Hm := Lib.hid hm
      rw [← hm] at hwhl hHl
      clear hm
      rename World => wb
      go_wp2_with (first
        | (go_at_call 25; go_must (refine hwhl.mono ?_); rintro e w7 ⟨v7, rfl, ho7, hb7⟩; obtain ⟨A7, c7, rfl, k71, k72, _, r7⟩ := own_form ho7; have hkn := hKN.out w7)
        | (go_at_call 20; go_must (refine hkn.mono ?_); rintro e w8 ⟨rfl, hk8, hb8, hz8⟩))
      have hk7 := hkj.up hb7
      have hbel7 := hbelw.trans (hb7.mono hbelw.size)
      have hw7 := hbel7.size
      obtain ⟨ga, hga⟩ : ∃ ga, ga = w7.heap.size + 1 := ⟨_, rfl⟩
      obtain ⟨ma, hma⟩ : ∃ ma, ma = w7.heap.size := ⟨_, rfl⟩
      have hma7 : w7.heap.size ≤ ma := by omega
      rw [← hga, ← hma] at hk8
      rw [← hga]
      clear hga hma hz8 hwhl hkn ho7 hkj hb7 hbelw
      go_loopw [23, 24] (fun y x wr => ∃ (j : Nat) (T : List Hld), j ≤ K ∧ x = .int .i64 j ∧ y = .int .i64 T.length ∧ KIn wr ga ma T ∧ Hid (T.Perm (belowG K j S)) ∧ Below w7.heap.size w7 wr) (fun _ x _ => K - (intOf x).toNat)
      case atStart => exact ⟨0, [], Nat.zero_le _, rfl, rfl, hk8, Lib.hid (by rw [belowG_zero d3]), hb8⟩
      clear hk8 hb8
      obtain ⟨j, T, hj, rfl, rfl, hkT, HT, hbj⟩ := hrel
      have hwj := hbj.size
      by_cases hjl : j < K
      · have hra := range_any K j wr d3 d4 hjl
        have hkn := hKN.out wr
        obtain ⟨e1, e2⟩ := imp_part (S := S) d3 hjl HRI.out HFI.out hSl2
        have hPL : (partG K j S).length ≤ 100 := Nat.le_trans (List.length_filter_le _ _) hSl2
        have HIM : Hid (∀ (go mo : Nat) (W : World), KIn W go mo [] → Below w7.heap.size w7 W → Calls Try.prog 26 #[.pointer (some ⟨go, 0, none⟩), .slice A7 m c7, .int .i64 (firstG K j : Nat), .int .i64 (firstG K (j + 1) : Nat)] W fun e w' => e = .returned .nilIface ∧ KIn w' go mo (partG K j S) ∧ W.grownBy w' (some mo)) := Lib.hid (fun go mo W hk hb => by
          have := kimport_any go mo [] A7 c7 w7.heap.size (heldsB S) (firstG K j : Nat) (firstG K (j + 1) : Nat) W hk (by rw [← Hm.out]; exact r7.below hb (Nat.le_refl _)) hb.size (by rw [← Hm.out]; exact hHl) (by rw [← Hm.out]; exact k71) (by simp)
          rw [e1, e2, errV_zero, ← Hm.out] at this
          exact this)
        clear e1 e2
        generalize (firstG K j : Nat) = f1 at *
        generalize (firstG K (j + 1) : Nat) = f2 at *
        have hj0 : (0 : Int) ≤ (j : Int) := by omega
        have hj1 : (j : Int) < (K : Int) := by omega
        rename World => wc
        go_wp2_with (first
          | (go_at_call 23; go_must (refine hra.mono ?_); rintro e w' ⟨rfl, rfl⟩)
          | (go_at_call 20; go_must (refine hkn.mono ?_); rintro e w9 ⟨rfl, hk9, hb9, hz9⟩; have hb79 := below_up hbj hb9; have him := HIM.out _ _ w9 hk9 hb79)
          | (go_at_call 26; go_must (refine him.mono ?_); rintro e w10 ⟨rfl, hk10, hg10⟩; have hal := kall_any _ _ _ w10 hk10 (by omega))
          | (go_at_call 27; go_must (refine hal.mono ?_); rintro e w11 ⟨A11, c11, rfl, k1, k2, r11, hb11⟩))
        have hkT9 := hkT.up hb9
        have hltm := hkT.ltM
        have hltg := hkT.ltg
        have hkT10 := hkT9.grown hg10 (fun e => by injection e; omega) (fun e => by injection e; omega)
        have hkT11 := hkT10.up hb11
        have hb7a := hb79.grown hg10 hb79.size (fun k hk => by cases hk; exact hwj)
        have hb7b := below_up hb7a hb11
        clear hb7a hb79 hkT10 hkT9 hk10 hg10 hb11 hk9 hb9 hz9 him hal hra hkn
        obtain ⟨N, hN⟩ : ∃ N, N = (partG K j S).length := ⟨_, rfl⟩
        have HN := Lib.hid hN
        rw [← hN] at hPL k1 r11 ⊢
        clear hN
        have HT0 : Hid (T.Perm ((unionG K j S).take ((belowG K j S).length + 0))) := Lib.hid (by rw [Nat.add_zero, unionG, List.take_left]; exact HT.out)
        go_loopw [23, 31] (fun y x wr => ∃ (k : Nat) (U : List Hld), k ≤ N ∧ x = .int .i64 k ∧ y = .int .i64 U.length ∧ KIn wr ga ma U ∧ Hid (U.Perm ((unionG K j S).take ((belowG K j S).length + k))) ∧ w11.grownBy wr (some ma) ∧ Below w7.heap.size w7 wr) (fun _ x _ => N - (intOf x).toNat)
        case atStart => exact ⟨0, T, Nat.zero_le _, rfl, rfl, hkT11, HT0, only_refl _ _, hb7b⟩
        obtain ⟨D11, hown11, _⟩ := hkT11.own
        have HOW11 := Lib.hid hown11
        clear hown11 hkT11 hb7b hkT HT0
        obtain ⟨k, U, hkN, rfl, rfl, hkU, HU, hgU, hbU⟩ := hrel
        have hwU := hbU.size
        have hUl : U.length ≤ 100 := by rw [HU.out.length_eq, List.length_take]; have := union_len (q := K) (j := j) (S := S); omega
        by_cases hkl : k < N
        · have r12 := r11.map_ HOW11.out hgU
          obtain ⟨ad, x, rfl, hbk, hx, g0, g1, g2, g3⟩ := r12.hld_ hkl HN.out.symm (Below.refl w11.heap.size wr) (Nat.le_refl _)
          have hxm := List.mem_of_getElem? hx
          obtain ⟨hxo, hxk⟩ := HFI.out x (List.mem_filter.1 hxm).1
          have HPN := Lib.hid (put_next (union_dup HRI.out) (Nat.le_trans (union_len (q := K) (j := j)) hSl2) HU.out hkU.rise (union_at hx) hxo)
          have hof := of_any x.key wr (by have := hldOk_key hxo; omega)
          have HOWN : Hid (∀ W : World, Calls Try.prog 28 #[.int .i64 (K : Nat), .int .i64 (gOf x.key : Nat)] W fun e w' => e = .returned (.tuple #[.int .i64 (j : Nat), .nilIface]) ∧ W = w') := Lib.hid (fun W => by
            have := owner_any K (gOf x.key) W d3 d4 (gOf_lt _)
            rw [part_owner d3 hxm] at this
            exact this)
          have HPU : Hid (∀ W, KIn W ga ma U → Calls Try.prog 21 #[.pointer (some ⟨ga, 0, none⟩), .agg #[.int .i64 x.node, .string x.key, .int .i64 x.a, .int .i64 x.b]] W fun e w' => e = .returned .nilIface ∧ KIn w' ga ma (putH U x) ∧ W.grownBy w' (some ma)) := Lib.hid (fun W hk => by
            have := kput_any ga ma U x W hk hxk (by omega)
            rw [HPN.out.1, errV_zero] at this
            exact this)
          have hk0 : (0 : Int) ≤ (k : Int) := by omega
          have hk1 : (k : Int) < (N : Int) := by omega
          clear hx hxm r12
          generalize gOf x.key = gx at *
          go_upto_region 40 with (first
            | (go_at_call 29; go_must (refine hof.mono ?_); rintro e w12 ⟨rfl, hb12⟩; have how := HOWN.out w12)
            | (go_at_call 28; go_must (refine how.mono ?_); rintro e w' ⟨rfl, rfl⟩))
          obtain ⟨q0, q1, q2, q3⟩ := keep4 hb12 (Nat.lt_of_lt_of_le hbk hgU.size) g0 g1 g2 g3
          have hk12 := hkU.up hb12
          have hpu := HPU.out w12 hk12
          have hPl : (putH U x).length = U.length + 1 := by
            have h1 := HPN.out.2.length_eq
            have h2 := HU.out.length_eq
            have h3 : (unionG K j S).length = (belowG K j S).length + N := by rw [unionG, List.length_append, HN.out]
            rw [List.length_take] at h1 h2
            omega
          have HPL := Lib.hid hPl
          have hU7 := below_up hbU hb12
          clear g0 g1 g2 g3 hk12 hof hPl
          go_wp2_with (first
            | (go_at_call 21; go_must (refine hpu.mono ?_); rintro e w13 ⟨rfl, hk13, hg13⟩))
          refine ⟨⟨k + 1, putH U x, hkl, by go_num, by rw [HPL.out]; go_num, hk13, Lib.hid HPN.out.2, only_trans hgU (only_trans (up_grown hb12 _) hg13), hU7.grown hg13 hU7.size (fun k hk => by cases hk; exact hma7)⟩, by simp [intOf]; omega⟩
        · obtain rfl : k = N := by omega
          have HU2 : Hid (U.Perm (belowG K (j + 1) S)) := Lib.hid (by
            have := HU.out
            rw [HN.out, union_take] at this
            exact this.trans (belowG_step S))
          go_wp2_with fail
          refine ⟨⟨j + 1, U, hjl, by go_num, rfl, hkU, HU2, hbU⟩, by simp [intOf]; omega⟩
      · obtain rfl : j = K := by omega
        have hTS : T = S := up_riseH (by have := HT.out; rw [belowG_all d3] at this; exact this) HRI.out (List.Pairwise.imp (fun {a b} (h : hlt a b = true) => hlt_asymm h) hkT.rise)
        subst hTS
        have hkk := hk7.up hbj
        have hal1 := kall_any ga ma T wr hkT (by omega)
        have HKA := Lib.hid (fun W (hk : KIn W gk mk T) => kall_any gk mk T W hk (by omega))
        obtain ⟨N, hN⟩ : ∃ N, N = T.length := ⟨_, rfl⟩
        rw [← hN] at hal1 HKA ⊢
        have HSA := Lib.hid (fun (A A' : Option Addr) (c c' B : Nat) (W : World) (hx : Rd W B 4 A N (hldCells T)) (hy : Rd W B 4 A' N (hldCells T)) (hB : B ≤ W.heap.size) => (show Calls Try.prog 18 #[.slice A N c, .slice A' N c'] W fun e w' => e = .returned (.bool true) ∧ Below W.heap.size W w' from by
          have h := samehelds_any A A' c c' B T T W (by rw [← hN]; exact hx) (by rw [← hN]; exact hy) hB (by omega) (by omega)
          rw [← hN] at h
          exact h.mono fun e w' ⟨b, he, hb, hbel⟩ => ⟨by rw [he, hb.2 rfl], hbel⟩))
        have hbW := hbel7.trans (hbj.mono hw7)
        clear hN HT
        go_wp2_with (first
          | (go_at_call_of 27 ga; go_must (refine hal1.mono ?_); rintro e w20 ⟨A20, c20, rfl, _, _, r20, hb20⟩; have hk20 := hkk.up hb20; have hal2 := HKA.out w20 hk20))
        refine hal2.mono ?_
        rintro e w21 ⟨A21, c21, rfl, _, _, r21, hb21⟩
        have hk21 := hk20.up hb21
        have hal3 := fun W (hb : Below w21.heap.size w21 W) => HKA.out W (hk21.up hb)
        have hsa := HSA.out A20 A21 c20 c21 w21.heap.size w21 ((r20.below hb21 (Nat.le_refl _)).more hb21.size) r21 (Nat.le_refl _)
        go_wp2_with (first
          | (go_at_call 18; go_must (refine hsa.mono ?_); rintro e w22 ⟨rfl, hb22⟩; have hal4 := hal3 w22 hb22)
          | (go_at_call 27; go_must (refine hal4.mono ?_); rintro e w23 ⟨A23, c23, rfl, _, _, _, hb23⟩))
        go_ret
        exact ⟨rfl, below_up (below_up (below_up (below_up hbW hb20) hb21) hb22) hb23⟩
end Go.Proofs.Ytcfijljagohmlaa
