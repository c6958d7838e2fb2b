/- The walk of weirlaw4.SpreadAll. -/
import Derived.Test.YtelailhghhjleaaDoorWalkAll
import Derived.Test.YtelailhghhjleaaDoorWalkAs
namespace Go.Proofs.YtelailhghhjleaaDoor
open Go.RowKit

theorem steps_len (l : List ByteArray) (p i : Nat) : ∀ t, (steps l p i t).length = t := by
  intro t
  induction t with
  | zero => rfl
  | succ t ih => rw [steps, List.length_append, ih]; rfl
theorem errV_iface {E : Nat} (h : E ≠ 0) : errV E = .iface 75 (.int .i64 E) := by rw [errV, if_neg h]
theorem even_reads (A : Option Addr) (c B : Nat) (l : List ByteArray) (p : Nat) (w : World) (hr : Rd w B 1 A l.length (l.map sv)) (hB : B ≤ w.heap.size) (hE : spreadE l.length p = 0) :
    Calls Tryd.prog 14 #[.slice A l.length c, .int .i64 p] w fun e w' => ∃ A' c', e = .returned (.tuple #[.slice A' p c', .nilIface]) ∧ RdTT w' w'.heap.size A' (rowsAt l p l.length) ∧ Below w.heap.size w w' :=
  (even_good A c B l p w hr hB hE).mono fun _ _ ⟨_, _, he, hT, hb⟩ => ⟨_, _, he, hT.reads, hb⟩

set_option maxRecDepth 100000 in
set_option maxHeartbeats 2000000 in
theorem lawspread_low (A A2 : Option Addr) (c c2 : Nat) (l : List ByteArray) (ls : List (List ByteArray)) (p : Int) (w : World) (hg : HasErr w) (_hr : Rd w w.heap.size 1 A l.length (l.map sv)) (hrr : RdTT w w.heap.size A2 ls)
    (hl : l.length ≤ 4398046511104) (hn2 : ls.length ≤ 4398046511104) (hl2 : (flatTo ls ls.length).length ≤ 4398046511104)
    (hp0 : -9223372036854775808 ≤ p) (hp1 : p ≤ 9223372036854775807) (hp : p < 1) :
    Calls Tryd.prog 4 #[.slice A l.length c, .slice A2 ls.length c2, .int .i64 p] w fun e w' => e = .returned (.bool true) ∧ Below w.heap.size w w' := by
  have hE1 : spreadE l.length p = 1 := by rw [spreadE, if_pos (.inl hp)]
  have hE2 : spreadE (flatTo ls ls.length).length p = 1 := by rw [spreadE, if_pos (.inl hp)]
  go_enter Tryd.func4, Tryd.ntmps4
  go_wp2_with fail
  refine (even_bad A c l p w (by omega) hp0 hp1 (by rw [hE1]; decide)).mono ?_
  rintro e w1 ⟨rfl, rfl⟩
  rw [hE1]
  go_wp2_with fail
  refine (same_err 1 1 _ hg).mono ?_
  rintro e w2 ⟨rfl, hbx⟩
  go_wp2_with fail
  go_loopw [11] (fun i wr => i = .int .i64 0 ∧ wr = w2) (fun _ _ => 0)
  case atStart => exact ⟨rfl, rfl⟩
  obtain ⟨rfl, rfl⟩ := hrel
  go_wp2_with fail
  refine (all_any A2 c2 w.heap.size ls _ (hrr.below hbx) hbx.size hn2 hl2).mono ?_
  rintro e w3 ⟨v3, rfl, ho3, hb3⟩
  have hbb3 := below_up hbx hb3
  obtain ⟨A3, c3, rfl, hn3, hc3, _, r3⟩ := own_form ho3
  clear ho3
  go_wp2_with fail
  refine (again_bad A2 c2 w.heap.size ls p w3 (hrr.below hbb3) hbb3.size hn2 hl2 (by omega) (by omega) (by rw [hE2]; decide)).mono ?_
  rintro e w4 ⟨rfl, hb4⟩
  have hbb4 := below_up hbb3 hb4
  rw [hE2]
  go_wp2_with fail
  refine (same_err 1 1 _ (hg.up hbb4)).mono ?_
  rintro e w5 ⟨rfl, hb5⟩
  have hbb5 := below_up hbb4 hb5
  go_wp2_with fail
  refine (every_bad A2 c2 w.heap.size ls p w5 (hrr.below hbb5) hbb5.size hn2 hl2 (by omega) (by omega) (by rw [hE2]; decide)).mono ?_
  rintro e w6 ⟨rfl, hb6⟩
  have hbb6 := below_up hbb5 hb6
  rw [hE2]
  go_wp2_with fail
  refine (same_err 1 1 _ (hg.up hbb6)).mono ?_
  rintro e w7 ⟨rfl, hb7⟩
  have hbb7 := below_up hbb6 hb7
  go_wp2_with fail
  go_ret
  exact ⟨rfl, hbb7⟩

set_option maxRecDepth 100000 in
set_option maxHeartbeats 4000000 in
theorem lawspread_high (A A2 : Option Addr) (c c2 : Nat) (l : List ByteArray) (ls : List (List ByteArray)) (p : Int) (w : World) (hg : HasErr w) (_hr : Rd w w.heap.size 1 A l.length (l.map sv)) (hrr : RdTT w w.heap.size A2 ls)
    (hl : l.length ≤ 4398046511104) (hn2 : ls.length ≤ 4398046511104) (hl2 : (flatTo ls ls.length).length ≤ 4398046511104)
    (hp0 : -9223372036854775808 ≤ p) (hp1 : p ≤ 9223372036854775807) (hp : 16 < p) :
    Calls Tryd.prog 4 #[.slice A l.length c, .slice A2 ls.length c2, .int .i64 p] w fun e w' => e = .returned (.bool true) ∧ Below w.heap.size w w' := by
  have hE1 : spreadE l.length p = 1 := by rw [spreadE, if_pos (.inr hp)]
  have hE2 : spreadE (flatTo ls ls.length).length p = 1 := by rw [spreadE, if_pos (.inr hp)]
  have hp' : ¬ (p < 1) := by omega
  go_enter Tryd.func4, Tryd.ntmps4
  go_wp2_with fail
  refine (even_bad A c l p w (by omega) hp0 hp1 (by rw [hE1]; decide)).mono ?_
  rintro e w1 ⟨rfl, rfl⟩
  rw [hE1]
  go_wp2_with fail
  refine (same_err 1 1 _ hg).mono ?_
  rintro e w2 ⟨rfl, hbx⟩
  go_wp2_with fail
  go_loopw [11] (fun i wr => i = .int .i64 0 ∧ wr = w2) (fun _ _ => 0)
  case atStart => exact ⟨rfl, rfl⟩
  obtain ⟨rfl, rfl⟩ := hrel
  go_wp2_with fail
  refine (all_any A2 c2 w.heap.size ls _ (hrr.below hbx) hbx.size hn2 hl2).mono ?_
  rintro e w3 ⟨v3, rfl, ho3, hb3⟩
  have hbb3 := below_up hbx hb3
  obtain ⟨A3, c3, rfl, hn3, hc3, _, r3⟩ := own_form ho3
  clear ho3
  go_wp2_with fail
  refine (again_bad A2 c2 w.heap.size ls p w3 (hrr.below hbb3) hbb3.size hn2 hl2 (by omega) (by omega) (by rw [hE2]; decide)).mono ?_
  rintro e w4 ⟨rfl, hb4⟩
  have hbb4 := below_up hbb3 hb4
  rw [hE2]
  go_wp2_with fail
  refine (same_err 1 1 _ (hg.up hbb4)).mono ?_
  rintro e w5 ⟨rfl, hb5⟩
  have hbb5 := below_up hbb4 hb5
  go_wp2_with fail
  refine (every_bad A2 c2 w.heap.size ls p w5 (hrr.below hbb5) hbb5.size hn2 hl2 (by omega) (by omega) (by rw [hE2]; decide)).mono ?_
  rintro e w6 ⟨rfl, hb6⟩
  have hbb6 := below_up hbb5 hb6
  rw [hE2]
  go_wp2_with fail
  refine (same_err 1 1 _ (hg.up hbb6)).mono ?_
  rintro e w7 ⟨rfl, hb7⟩
  have hbb7 := below_up hbb6 hb7
  go_wp2_with fail
  go_ret
  exact ⟨rfl, hbb7⟩

set_option maxRecDepth 100000 in
set_option maxHeartbeats 4000000 in
theorem lawspread_good (A A2 : Option Addr) (c c2 : Nat) (l : List ByteArray) (ls : List (List ByteArray)) (p : Nat) (w : World) (hg : HasErr w) (hr : Rd w w.heap.size 1 A l.length (l.map sv)) (hrr : RdTT w w.heap.size A2 ls)
    (hl : l.length ≤ 4398046511104) (hn2 : ls.length ≤ 4398046511104) (hl2 : (flatTo ls ls.length).length ≤ 4398046511104)
    (hp0 : 1 ≤ p) (hp1 : p ≤ 16) (h4 : l.length ≤ 400) :
    Calls Tryd.prog 4 #[.slice A l.length c, .slice A2 ls.length c2, .int .i64 p] w fun e w' => e = .returned (.bool true) ∧ Below w.heap.size w w' := by
  have hE1 : spreadE l.length p = 0 := by rw [spreadE, if_neg (by omega), if_neg (by omega)]
  obtain ⟨n, hn⟩ : ∃ n, n = l.length := ⟨_, rfl⟩
  have hpl : ∀ i t, i < p → n ≤ i + t * p → (t = 0 ∨ i + (t - 1) * p < n) → pick l p i n = steps l p i t := fun i t h1 h2 h3 => pick_end h1 h2 h3
  have hev := even_reads A c w.heap.size l p w hr (Nat.le_refl _) hE1
  rw [← hn] at hr hl h4 hev ⊢
  have HPL := Lib.hid hpl
  clear hn hpl
  go_enter Tryd.func4, Tryd.ntmps4
  go_wp2_with fail
  refine hev.mono ?_
  rintro e w1 ⟨AT, cT, rfl, hTr, hb1⟩
  clear hev
  go_wp2_with fail
  refine (same_err 0 0 w1 (hg.up hb1)).mono ?_
  rintro e w2 ⟨rfl, hb2⟩
  have hbb2 := below_up hb1 hb2
  replace hTr := hTr.below hb2
  go_wp2_with fail
  go_loopw [11] (fun i wr => ∃ k : Nat, k ≤ p ∧ i = .int .i64 k ∧ Below w2.heap.size w2 wr) (fun i _ => p - (intOf i).toNat)
  case atStart => exact ⟨0, Nat.zero_le _, rfl, Below.refl _ _⟩
  obtain ⟨k, hk, rfl, hbel⟩ := hrel
  by_cases hlt : k < p
  · go_wp2_with fail
    go_loopw [12, 13] (fun s i wi => ∃ t : Nat, i = .int .i64 ((k + t * p : Nat) : Int) ∧ (t = 0 ∨ k + (t - 1) * p < n) ∧ wi.ownsRow w2.heap.size 9 1 s t ((steps l p k t).map sv) ∧ Below w2.heap.size w2 wi) (fun _ i _ => n + 20 - (intOf i).toNat)
    case atStart => exact ⟨0, by simp, .inl rfl, World.ownsRow_nil _ _ _ _, hbel⟩
    case round =>
      clear hbel
      obtain ⟨t, rfl, ht, hown, hbel⟩ := hrel
      obtain ⟨j, hj⟩ : ∃ j, j = k + t * p := ⟨_, rfl⟩
      have hjn : j < n + p := by
        rcases ht with rfl | ht
        · omega
        · rcases t with _ | t
          · omega
          · rw [Nat.succ_mul] at hj
            simp only [Nat.add_sub_cancel] at ht
            omega
      have hjs : k + (t + 1) * p = j + p := by rw [hj, Nat.succ_mul]; omega
      have htj : t ≤ j := by rw [hj]; have := Nat.le_mul_of_pos_right t (show 0 < p by omega); omega
      rw [← hj]
      by_cases hin : j < n
      · obtain ⟨ad, rfl, _, g0⟩ := (hr.below (below_up hbb2 (hbel.mono (Nat.le_refl _))) (Nat.le_refl _)).str_ hin
        have hst : steps l p k (t + 1) = steps l p k t ++ [strAt l j] := by rw [steps, hj]
        have HST := Lib.hid hst
        have HJ := Lib.hid hj
        have HJS := Lib.hid hjs
        obtain ⟨z, hz⟩ : ∃ z, z = strAt l j := ⟨_, rfl⟩
        rw [← hz] at g0 HST
        clear hst hj hjs hz
        have hj0 : (0 : Int) ≤ (j : Int) := by omega
        have hj1 : (j : Int) < (n : Int) := by omega
        go_wp2_with (first
          | (with_reducible show wpList _ _ _ (⟨some 86, _, _, _, _, _⟩ :: _) _ _; go_must (refine wpList_new (.tmp 80) (.tmp 85) el_str rfl rfl hown rfl (m := 1) rfl rfl rfl (by omega) hbel.size ?_); intro v4 w4 hown4 hb4 hg4 ha4))
        go_roundw
        case rel => exact ⟨t + 1, by rw [HJS.out]; go_num, .inr (by rw [Nat.add_sub_cancel, ← HJ.out]; exact hin), by rw [HST.out, List.map_append]; exact hown4, hbel.trans hb4⟩
        case measure => simp [intOf]; omega
      · have hpe := HPL.out k t hlt (by omega) ht
        obtain ⟨A1, c1, rfl, _, _, _, r1⟩ := own_form hown
        rw [← hpe] at r1
        have hpn : (pick l p k n).length = t := by rw [hpe, steps_len]
        obtain ⟨ad, A4, c4, rfl, g0, _, _, r4⟩ := hTr.at_ (hbel.mono hb2.size) (i := k) (by rw [rowsAt_len]; exact hlt)
        have hgd : (rowsAt l p n).getD k [] = pick l p k n := by rw [List.getD_eq_getElem?_getD, rowsAt_get hlt]; rfl
        rw [hgd] at g0 r4
        rw [hpn] at g0 r4
        have hts := fun c c' => texts_same A4 A1 c c' wr.heap.size (pick l p k n) wr (by rw [hpn]; exact r4.more (Nat.le_trans hb2.size hbel.size)) (by rw [hpn]; exact r1) (Nat.le_refl _) (by omega)
        rw [hpn] at hts
        clear hpe hpn hgd hjs hj
        have hi0 : (0 : Int) ≤ (k : Int) := by omega
        have hi1 : (k : Int) < (p : Int) := by omega
        go_wp2_with fail
        refine (hts _ _).mono ?_
        rintro e w3 ⟨rfl, hb3⟩
        have hbel3 := below_up hbel hb3
        go_wp2_with fail
        go_roundw
        case rel => exact ⟨k + 1, by omega, by go_num, hbel3⟩
        case measure => simp [intOf]; omega
  · have hbx := below_up hbb2 hbel
    clear hb1 hb2 hbb2 hbel
    by_cases h5 : 400 < (flatTo ls ls.length).length
    · have hE2 : spreadE (flatTo ls ls.length).length p = 4 := by rw [spreadE, if_neg (by omega), if_pos h5]
      as_aux_lemma =>
        go_wp2_with fail
        refine (all_any A2 c2 w.heap.size ls _ (hrr.below hbx) hbx.size hn2 hl2).mono ?_
        rintro e w3 ⟨v3, rfl, ho3, hb3⟩
        have hbb3 := below_up hbx hb3
        obtain ⟨A3, c3, rfl, hn3, hc3, _, r3⟩ := own_form ho3
        clear ho3
        go_wp2_with fail
        refine (again_bad A2 c2 w.heap.size ls p w3 (hrr.below hbb3) hbb3.size hn2 hl2 (by omega) (by omega) (by rw [hE2]; decide)).mono ?_
        rintro e w4 ⟨rfl, hb4⟩
        have hbb4 := below_up hbb3 hb4
        rw [hE2]
        go_wp2_with fail
        refine (same_err 4 4 _ (hg.up hbb4)).mono ?_
        rintro e w5 ⟨rfl, hb5⟩
        have hbb5 := below_up hbb4 hb5
        go_wp2_with fail
        refine (every_bad A2 c2 w.heap.size ls p w5 (hrr.below hbb5) hbb5.size hn2 hl2 (by omega) (by omega) (by rw [hE2]; decide)).mono ?_
        rintro e w6 ⟨rfl, hb6⟩
        have hbb6 := below_up hbb5 hb6
        rw [hE2]
        go_wp2_with fail
        refine (same_err 4 4 _ (hg.up hbb6)).mono ?_
        rintro e w7 ⟨rfl, hb7⟩
        have hbb7 := below_up hbb6 hb7
        go_wp2_with fail
        go_ret
        exact ⟨rfl, hbb7⟩
    · have hE2 : spreadE (flatTo ls ls.length).length p = 0 := by rw [spreadE, if_neg (by omega), if_neg h5]
      as_aux_lemma =>
        obtain ⟨q, hq⟩ : ∃ q, q = flatTo ls ls.length := ⟨_, rfl⟩
        have hall := fun W (hb : Below w.heap.size w W) => all_any A2 c2 w.heap.size ls W (hrr.below hb) hb.size hn2 hl2
        have hag := fun W (hb : Below w.heap.size w W) => again_good A2 c2 w.heap.size ls p W (hrr.below hb) hb.size hn2 hl2 hE2
        have hey := fun W (hb : Below w.heap.size w W) => every_good A2 c2 w.heap.size ls p W (hrr.below hb) hb.size hn2 hl2 hE2
        rw [← hq] at hall hag hey hl2 hE2 h5
        clear hq
        have hev2 := fun A c W (h : Rd W W.heap.size 1 A q.length (q.map sv)) => even_reads A c W.heap.size q p W h (Nat.le_refl _) hE2
        obtain ⟨m, hm⟩ : ∃ m, m = q.length := ⟨_, rfl⟩
        rw [← hm] at hall hev2 h5 hl2
        have HM := Lib.hid hm
        clear hm hE1 hE2
        go_wp2_with fail
        refine (hall _ hbx).mono ?_
        rintro e w3 ⟨v3, rfl, ho3, hb3⟩
        have hbb3 := below_up hbx hb3
        obtain ⟨A3, c3, rfl, hn3, hc3, _, r3⟩ := own_form ho3
        clear ho3
        go_wp2_with fail
        refine (hag _ hbb3).mono ?_
        rintro e w4 ⟨A4, c4, rfl, r4, hb4⟩
        have hbb4 := below_up hbb3 hb4
        have r3_4 := r3.below hb4 (Nat.le_refl _)
        go_wp2_with fail
        refine (same_err 0 0 _ (hg.up hbb4)).mono ?_
        rintro e w5 ⟨rfl, hb5⟩
        have hbb5 := below_up hbb4 hb5
        have r3_5 := r3_4.below (hb5.mono hb4.size) (Nat.le_refl _)
        have r4_5 := r4.below hb5
        go_wp2_with fail
        refine (hey _ hbb5).mono ?_
        rintro e w6 ⟨A6, c6, rfl, r6, hb6⟩
        have hbb6 := below_up hbb5 hb6
        have hb36 := (below_up (below_up hb4 hb5) hb6)
        have r4_6 := r4_5.below (hb6.mono hb5.size)
        go_wp2_with fail
        refine (same_err 0 0 _ (hg.up hbb6)).mono ?_
        rintro e w7 ⟨rfl, hb7⟩
        have hbb7 := below_up hbb6 hb7
        have hb37 := below_up hb36 hb7
        have r3_7 := r3.below hb37 (Nat.le_refl _)
        have r4_7 := r4_6.below (hb7.mono (Nat.le_trans hb5.size hb6.size))
        have r6_7 := r6.below hb7
        go_wp2_with fail
        refine (hev2 A3 c3 w7 (r3_7.more hb37.size)).mono ?_
        rintro e w8 ⟨A8, c8, rfl, r8, hb8⟩
        have hbb8 := below_up hbb7 hb8
        have r3_8 := (r3_7.more hb37.size).below hb8 (Nat.le_refl _)
        have r4_8 := r4_7.below (hb8.mono (Nat.le_trans hb5.size (Nat.le_trans hb6.size hb7.size)))
        have r6_8 := r6_7.below (hb8.mono hb7.size)
        have s48 : w4.heap.size ≤ w8.heap.size := Nat.le_trans hb5.size (Nat.le_trans hb6.size (Nat.le_trans hb7.size hb8.size))
        have s68 : w6.heap.size ≤ w8.heap.size := Nat.le_trans hb7.size hb8.size
        have s78 := hb8.size
        clear r3 r4 r6 r3_4 r3_5 r3_7 r4_5 r4_6 r4_7 r6_7 hb3 hb4 hb5 hb6 hb36 hb37
        go_wp2_with fail
        go_loopw [21] (fun i wr => ∃ k : Nat, k ≤ p ∧ i = .int .i64 k ∧ Below w8.heap.size w8 wr) (fun i _ => p - (intOf i).toNat)
        case atStart => exact ⟨0, Nat.zero_le _, rfl, Below.refl _ _⟩
        obtain ⟨k, hk, rfl, hbel⟩ := hrel
        by_cases hlt : k < p
        · obtain ⟨ad4, B4, d4, rfl, g4, _, _, t4⟩ := r4_8.at_ (hbel.mono s48) (i := k) (by rw [rowsAt_len]; exact hlt)
          obtain ⟨ad6, B6, d6, rfl, g6, _, _, t6⟩ := r6_8.at_ (hbel.mono s68) (i := k) (by simpa using hlt)
          obtain ⟨ad8, B8, d8, rfl, g8, _, _, t8⟩ := r8.at_ hbel (i := k) (by rw [rowsAt_len]; exact hlt)
          have hg4 : (rowsAt q p q.length).getD k [] = pick q p k q.length := by rw [List.getD_eq_getElem?_getD, rowsAt_get hlt]; rfl
          have hg6 : (List.replicate p q).getD k [] = q := by rw [List.getD_eq_getElem?_getD, List.getElem?_replicate, if_pos hlt]; rfl
          have hg8 : (rowsAt q p m).getD k [] = pick q p k q.length := by rw [HM.out]; exact hg4
          rw [hg4] at g4 t4
          rw [hg8] at g8 t8
          rw [hg6] at g6 t6
          have hpl := pick_len q p k q.length
          have hts := fun W (h : Rd W w8.heap.size 1 B4 (pick q p k q.length).length ((pick q p k q.length).map sv)) (h' : Rd W w8.heap.size 1 B8 (pick q p k q.length).length ((pick q p k q.length).map sv)) => texts_quiet B4 B8 d4 d8 w8.heap.size (pick q p k q.length) W h h' (by have := HM.out; omega)
          have hts2 := fun W (h : Rd W w8.heap.size 1 B6 q.length (q.map sv)) (h' : Rd W w8.heap.size 1 A3 q.length (q.map sv)) => texts_quiet B6 A3 d6 c3 w8.heap.size q W h h' (by have := HM.out; omega)
          rw [← HM.out] at hts2 g6 t6
          have t3 := (r3_8.more s78).below hbel (Nat.le_refl _)
          replace t4 := t4.more s48
          replace t6 := t6.more s68
          obtain ⟨mx, hmx⟩ : ∃ mx, mx = (pick q p k q.length).length := ⟨_, rfl⟩
          rw [← hmx] at t4 t8 hts g4 g8
          obtain ⟨x, hx⟩ : ∃ x, x = (pick q p k q.length).map sv := ⟨_, rfl⟩
          rw [← hx] at t4 t8 hts
          clear hg4 hg8 hg6 hpl hx hmx
          have hi0 : (0 : Int) ≤ (k : Int) := by omega
          have hi1 : (k : Int) < (p : Int) := by omega
          go_wp2_with fail
          go_quiet (first
            | (go_at_call 15; refine Calls.quiet_of (hts _ ?_ ?_); exact t4; exact t8))
          go_wp2_with fail
          refine (hts2 _ (t6.drewN nq) (t3.drewN nq)).mono ?_
          rintro e w9 ⟨rfl, q9, hw9⟩
          have hbel9 : Below w8.heap.size w8 w9 := hw9 ▸ below_drewN (below_drewN hbel _) _
          clear hw9
          go_wp2_with fail
          go_roundw
          case rel => exact ⟨k + 1, by omega, by go_num, hbel9⟩
          case measure => simp [intOf]; omega
        · go_wp2_with fail
          go_ret
          exact ⟨rfl, below_up hbb8 hbel⟩

set_option maxRecDepth 100000 in
set_option maxHeartbeats 4000000 in
theorem lawspread_many (A A2 : Option Addr) (c c2 : Nat) (l : List ByteArray) (ls : List (List ByteArray)) (p : Nat) (w : World) (hg : HasErr w) (_hr : Rd w w.heap.size 1 A l.length (l.map sv)) (hrr : RdTT w w.heap.size A2 ls)
    (hl : l.length ≤ 4398046511104) (hn2 : ls.length ≤ 4398046511104) (hl2 : (flatTo ls ls.length).length ≤ 4398046511104)
    (hp0 : 1 ≤ p) (hp1 : p ≤ 16) (h4 : 400 < l.length) :
    Calls Tryd.prog 4 #[.slice A l.length c, .slice A2 ls.length c2, .int .i64 p] w fun e w' => e = .returned (.bool true) ∧ Below w.heap.size w w' := by
  have hE1 : spreadE l.length p = 4 := by rw [spreadE, if_neg (by omega), if_pos h4]
  go_enter Tryd.func4, Tryd.ntmps4
  go_wp2_with fail
  refine (even_bad A c l p w (by omega) (by omega) (by omega) (by rw [hE1]; decide)).mono ?_
  rintro e w1 ⟨rfl, rfl⟩
  rw [hE1]
  go_wp2_with fail
  refine (same_err 4 4 _ hg).mono ?_
  rintro e w2 ⟨rfl, hbx⟩
  go_wp2_with fail
  go_loopw [11] (fun i wr => i = .int .i64 0 ∧ wr = w2) (fun _ _ => 0)
  case atStart => exact ⟨rfl, rfl⟩
  obtain ⟨rfl, rfl⟩ := hrel
  by_cases h5 : 400 < (flatTo ls ls.length).length
  · have hE2 : spreadE (flatTo ls ls.length).length p = 4 := by rw [spreadE, if_neg (by omega), if_pos h5]
    as_aux_lemma =>
      go_wp2_with fail
      refine (all_any A2 c2 w.heap.size ls _ (hrr.below hbx) hbx.size hn2 hl2).mono ?_
      rintro e w3 ⟨v3, rfl, ho3, hb3⟩
      have hbb3 := below_up hbx hb3
      obtain ⟨A3, c3, rfl, hn3, hc3, _, r3⟩ := own_form ho3
      clear ho3
      go_wp2_with fail
      refine (again_bad A2 c2 w.heap.size ls p w3 (hrr.below hbb3) hbb3.size hn2 hl2 (by omega) (by omega) (by rw [hE2]; decide)).mono ?_
      rintro e w4 ⟨rfl, hb4⟩
      have hbb4 := below_up hbb3 hb4
      rw [hE2]
      go_wp2_with fail
      refine (same_err 4 4 _ (hg.up hbb4)).mono ?_
      rintro e w5 ⟨rfl, hb5⟩
      have hbb5 := below_up hbb4 hb5
      go_wp2_with fail
      refine (every_bad A2 c2 w.heap.size ls p w5 (hrr.below hbb5) hbb5.size hn2 hl2 (by omega) (by omega) (by rw [hE2]; decide)).mono ?_
      rintro e w6 ⟨rfl, hb6⟩
      have hbb6 := below_up hbb5 hb6
      rw [hE2]
      go_wp2_with fail
      refine (same_err 4 4 _ (hg.up hbb6)).mono ?_
      rintro e w7 ⟨rfl, hb7⟩
      have hbb7 := below_up hbb6 hb7
      go_wp2_with fail
      go_ret
      exact ⟨rfl, hbb7⟩
  · have hE2 : spreadE (flatTo ls ls.length).length p = 0 := by rw [spreadE, if_neg (by omega), if_neg h5]
    as_aux_lemma =>
      obtain ⟨q, hq⟩ : ∃ q, q = flatTo ls ls.length := ⟨_, rfl⟩
      have hall := fun W (hb : Below w.heap.size w W) => all_any A2 c2 w.heap.size ls W (hrr.below hb) hb.size hn2 hl2
      have hag := fun W (hb : Below w.heap.size w W) => again_good A2 c2 w.heap.size ls p W (hrr.below hb) hb.size hn2 hl2 hE2
      have hey := fun W (hb : Below w.heap.size w W) => every_good A2 c2 w.heap.size ls p W (hrr.below hb) hb.size hn2 hl2 hE2
      rw [← hq] at hall hag hey hl2 hE2 h5
      clear hq
      have hev2 := fun A c W (h : Rd W W.heap.size 1 A q.length (q.map sv)) => even_reads A c W.heap.size q p W h (Nat.le_refl _) hE2
      obtain ⟨m, hm⟩ : ∃ m, m = q.length := ⟨_, rfl⟩
      rw [← hm] at hall hev2 h5 hl2
      have HM := Lib.hid hm
      clear hm hE1 hE2
      go_wp2_with fail
      refine (hall _ hbx).mono ?_
      rintro e w3 ⟨v3, rfl, ho3, hb3⟩
      have hbb3 := below_up hbx hb3
      obtain ⟨A3, c3, rfl, hn3, hc3, _, r3⟩ := own_form ho3
      clear ho3
      go_wp2_with fail
      refine (hag _ hbb3).mono ?_
      rintro e w4 ⟨A4, c4, rfl, r4, hb4⟩
      have hbb4 := below_up hbb3 hb4
      have r3_4 := r3.below hb4 (Nat.le_refl _)
      go_wp2_with fail
      refine (same_err 0 0 _ (hg.up hbb4)).mono ?_
      rintro e w5 ⟨rfl, hb5⟩
      have hbb5 := below_up hbb4 hb5
      have r3_5 := r3_4.below (hb5.mono hb4.size) (Nat.le_refl _)
      have r4_5 := r4.below hb5
      go_wp2_with fail
      refine (hey _ hbb5).mono ?_
      rintro e w6 ⟨A6, c6, rfl, r6, hb6⟩
      have hbb6 := below_up hbb5 hb6
      have hb36 := (below_up (below_up hb4 hb5) hb6)
      have r4_6 := r4_5.below (hb6.mono hb5.size)
      go_wp2_with fail
      refine (same_err 0 0 _ (hg.up hbb6)).mono ?_
      rintro e w7 ⟨rfl, hb7⟩
      have hbb7 := below_up hbb6 hb7
      have hb37 := below_up hb36 hb7
      have r3_7 := r3.below hb37 (Nat.le_refl _)
      have r4_7 := r4_6.below (hb7.mono (Nat.le_trans hb5.size hb6.size))
      have r6_7 := r6.below hb7
      go_wp2_with fail
      refine (hev2 A3 c3 w7 (r3_7.more hb37.size)).mono ?_
      rintro e w8 ⟨A8, c8, rfl, r8, hb8⟩
      have hbb8 := below_up hbb7 hb8
      have r3_8 := (r3_7.more hb37.size).below hb8 (Nat.le_refl _)
      have r4_8 := r4_7.below (hb8.mono (Nat.le_trans hb5.size (Nat.le_trans hb6.size hb7.size)))
      have r6_8 := r6_7.below (hb8.mono hb7.size)
      have s48 : w4.heap.size ≤ w8.heap.size := Nat.le_trans hb5.size (Nat.le_trans hb6.size (Nat.le_trans hb7.size hb8.size))
      have s68 : w6.heap.size ≤ w8.heap.size := Nat.le_trans hb7.size hb8.size
      have s78 := hb8.size
      clear r3 r4 r6 r3_4 r3_5 r3_7 r4_5 r4_6 r4_7 r6_7 hb3 hb4 hb5 hb6 hb36 hb37
      go_wp2_with fail
      go_loopw [21] (fun i wr => ∃ k : Nat, k ≤ p ∧ i = .int .i64 k ∧ Below w8.heap.size w8 wr) (fun i _ => p - (intOf i).toNat)
      case atStart => exact ⟨0, Nat.zero_le _, rfl, Below.refl _ _⟩
      obtain ⟨k, hk, rfl, hbel⟩ := hrel
      by_cases hlt : k < p
      · obtain ⟨ad4, B4, d4, rfl, g4, _, _, t4⟩ := r4_8.at_ (hbel.mono s48) (i := k) (by rw [rowsAt_len]; exact hlt)
        obtain ⟨ad6, B6, d6, rfl, g6, _, _, t6⟩ := r6_8.at_ (hbel.mono s68) (i := k) (by simpa using hlt)
        obtain ⟨ad8, B8, d8, rfl, g8, _, _, t8⟩ := r8.at_ hbel (i := k) (by rw [rowsAt_len]; exact hlt)
        have hg4 : (rowsAt q p q.length).getD k [] = pick q p k q.length := by rw [List.getD_eq_getElem?_getD, rowsAt_get hlt]; rfl
        have hg6 : (List.replicate p q).getD k [] = q := by rw [List.getD_eq_getElem?_getD, List.getElem?_replicate, if_pos hlt]; rfl
        have hg8 : (rowsAt q p m).getD k [] = pick q p k q.length := by rw [HM.out]; exact hg4
        rw [hg4] at g4 t4
        rw [hg8] at g8 t8
        rw [hg6] at g6 t6
        have hpl := pick_len q p k q.length
        have hts := fun W (h : Rd W w8.heap.size 1 B4 (pick q p k q.length).length ((pick q p k q.length).map sv)) (h' : Rd W w8.heap.size 1 B8 (pick q p k q.length).length ((pick q p k q.length).map sv)) => texts_quiet B4 B8 d4 d8 w8.heap.size (pick q p k q.length) W h h' (by have := HM.out; omega)
        have hts2 := fun W (h : Rd W w8.heap.size 1 B6 q.length (q.map sv)) (h' : Rd W w8.heap.size 1 A3 q.length (q.map sv)) => texts_quiet B6 A3 d6 c3 w8.heap.size q W h h' (by have := HM.out; omega)
        rw [← HM.out] at hts2 g6 t6
        have t3 := (r3_8.more s78).below hbel (Nat.le_refl _)
        replace t4 := t4.more s48
        replace t6 := t6.more s68
        obtain ⟨mx, hmx⟩ : ∃ mx, mx = (pick q p k q.length).length := ⟨_, rfl⟩
        rw [← hmx] at t4 t8 hts g4 g8
        obtain ⟨x, hx⟩ : ∃ x, x = (pick q p k q.length).map sv := ⟨_, rfl⟩
        rw [← hx] at t4 t8 hts
        clear hg4 hg8 hg6 hpl hx hmx
        have hi0 : (0 : Int) ≤ (k : Int) := by omega
        have hi1 : (k : Int) < (p : Int) := by omega
        go_wp2_with fail
        go_quiet (first
          | (go_at_call 15; refine Calls.quiet_of (hts _ ?_ ?_); exact t4; exact t8))
        go_wp2_with fail
        refine (hts2 _ (t6.drewN nq) (t3.drewN nq)).mono ?_
        rintro e w9 ⟨rfl, q9, hw9⟩
        have hbel9 : Below w8.heap.size w8 w9 := hw9 ▸ below_drewN (below_drewN hbel _) _
        clear hw9
        go_wp2_with fail
        go_roundw
        case rel => exact ⟨k + 1, by omega, by go_num, hbel9⟩
        case measure => simp [intOf]; omega
      · go_wp2_with fail
        go_ret
        exact ⟨rfl, below_up hbb8 hbel⟩
end Go.Proofs.YtelailhghhjleaaDoor
