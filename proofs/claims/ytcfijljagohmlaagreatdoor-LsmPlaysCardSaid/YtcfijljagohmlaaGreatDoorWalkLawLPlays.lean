/- The walk of weirlaw2.LsmPlays. -/
import Derived.Test.YtcfijljagohmlaaGreatDoorWalkKeyOf
import Derived.Test.YtcfijljagohmlaaGreatDoorWalkRM
import Derived.Test.YtcfijljagohmlaaGreatDoorWalkAs
import Derived.Test.YtcfijljagohmlaaGreatDoorWalkERef
import Derived.Deep.CutBlock
import Derived.Deep.CutRange
namespace Go.Proofs.YtcfijljagohmlaaGreatDoor
open Go.RowKit Go.Maps Go.WideMaps

/-- What is told of a key among some: no fault, or that it is not there; its value. -/
def hitE (k : ByteArray) (l : List Ent) : Nat := if (entOf l k).isSome = true then 0 else 6
def hitV (k : ByteArray) (l : List Ent) : ByteArray := ((entOf l k).map Ent.value).getD ⟨#[]⟩
theorem hit_get (S : Lsm) (k : ByteArray) : lsmGetE S k = hitE k S.live ∧ lsmGetV S k = hitV k S.live := by
  unfold lsmGetE lsmGetV lsmGet hitE hitV Lsm.live
  refine ⟨?_, rfl⟩
  rw [Option.isSome_map]
theorem hit_zero (k : ByteArray) (l : List Ent) : hitE k (l.take 0) = 6 ∧ hitV k (l.take 0) = ⟨#[]⟩ := ⟨rfl, rfl⟩
theorem hit_here {l : List Ent} {j : Nat} {x : Ent} {k : ByteArray} (hr : riseE l) (hx : l[j]? = some x) (hk : x.key = k) : hitE k (l.take (j + 1)) = 0 ∧ hitV k (l.take (j + 1)) = x.value := by
  have hm : x ∈ l.take (j + 1) := by
    rw [List.take_add_one, hx]
    exact List.mem_append_right _ (List.mem_singleton.2 rfl)
  have h1 : riseE (l.take (j + 1)) := List.Pairwise.sublist (List.take_sublist _ _) hr
  have h2 := entOf_mem h1 hm
  rw [hk] at h2
  unfold hitE hitV
  rw [h2]
  exact ⟨rfl, rfl⟩
theorem hit_off {l : List Ent} {j : Nat} {x : Ent} {k : ByteArray} (hx : l[j]? = some x) (hk : x.key ≠ k) : hitE k (l.take (j + 1)) = hitE k (l.take j) ∧ hitV k (l.take (j + 1)) = hitV k (l.take j) := by
  have h1 : entOf (l.take (j + 1)) k = entOf (l.take j) k := by
    rw [List.take_add_one, hx, Option.toList_some, entOf_app, entOf_cons, if_neg hk]
    rcases entOf (l.take j) k with _ | y <;> rfl
  unfold hitE hitV
  rw [h1]
  exact ⟨rfl, rfl⟩
theorem same_errN (n : Nat) (W : World) (hg : HasErr W) : Calls Tryz.prog 9 #[errV n, .int .i64 n] W fun e w' => e = .returned (.bool true) ∧ Below W.heap.size W w' :=
  (same_err n n W hg).mono fun e w' ⟨he, hb⟩ => ⟨by rw [he]; simp, hb⟩
set_option maxRecDepth 100000 in
set_option maxHeartbeats 16000000 in
theorem lawlplays_any (lim : Int) (A : Option Addr) (c n : Nat) (ls : List (List Int)) (low high : ByteArray) (w : World) (hg : HasErr w) (hr : RdII w w.heap.size A ls) (hln : ls.length = n) (hbd : ∀ l ∈ ls, ∀ z ∈ l, -9223372036854775808 ≤ z ∧ z ≤ 9223372036854775807) :
    Calls Tryz.prog 5 #[.int .i64 lim, .slice A n c, .string low, .string high] w fun e w' => e = .returned (.bool true) ∧ Below w.heap.size w w' := by
  have HLN := Lib.hid hln
  have HBD := Lib.hid hbd
  have HSE := Lib.hid (fun (k : Nat) (W : World) (h : Below w.heap.size w W) => same_errN k W (hg.up h))
  clear hln hbd hg
  go_enter Tryz.func5, Tryz.ntmps5
  by_cases hlim : 1 ≤ lim ∧ lim ≤ 400
  · obtain ⟨hl1, hl4⟩ := hlim
    have hnw := lnew_any lim w hl1 hl4
    have HS0 := Lib.hid (fun W h => HSE.out 0 W h)
    rw [errV_zero] at HS0
    go_upto_region 8 with (first
      | (go_at_call 21; go_must (refine hnw.mono ?_); rintro e w1 ⟨g, M, rfl, hin1, hb1⟩; have hs0 := HS0.out w1 hb1)
      | (go_at_call 9; go_must (refine hs0.mono ?_); rintro e w2 ⟨rfl, hb2⟩))
    have hb12 := below_up hb1 hb2
    have hin2 := hin1.up hb2
    clear hnw HS0 hs0 hin1 hb1 hb2 hl1 hl4
    generalize decide (lim < 1) = q1
    generalize decide (400 < lim) = q2
    have hR := Blk.new w2 60 #[.slice none 0 0, .slice none 0 0, .int .i64 0, .int .i64 lim]
    have hbR := (Below.refl w2.heap.size w2).alloc (Nat.le_refl _) (.cells #[.slice none 0 0, .slice none 0 0, .int .i64 0, .int .i64 lim] 60)
    obtain ⟨R, hRR⟩ : ∃ R, R = w2.heap.size := ⟨_, rfl⟩
    go_upto_block 0 with fail
    rw [← hRR] at hR ⊢
    have hlr3 : LrAt (w2.alloc (.cells #[.slice none 0 0, .slice none 0 0, .int .i64 0, .int .i64 lim] 60)) w.heap.size R lim lsmNone :=
      ⟨[], [], 0, ⟨by rw [hRR]; exact hb12.size, _, _, hR, World.ownsRow_nil _ _ _ _, World.ownsRow_nil _ _ _ _⟩, LsmR.start⟩
    have hin3 := hin2.up hbR
    have hbel3 := hb12.trans (hbR.mono hb12.size)
    clear hR hbR hRR hin2 hb12
    generalize (w2.alloc (.cells #[.slice none 0 0, .slice none 0 0, .int .i64 0, .int .i64 lim] 60)) = w3 at *
    go_wp2_with fail
    go_loopw [12, 14] (fun b x wr => ∃ (i : Nat) (S : Lsm), i ≤ n ∧ i ≤ 120 ∧ b = .bool true ∧ x = .int .i64 i ∧ LsmIn wr w.heap.size g M lim S ∧ LrAt wr w.heap.size R lim S ∧ S.LS.length ≤ i ∧ Below w.heap.size w wr) (fun _ x _ => n - (intOf x).toNat)
    case atStart => exact ⟨0, lsmNone, Nat.zero_le _, Nat.zero_le _, rfl, rfl, hin3, hlr3, Nat.zero_le _, hbel3⟩
    clear hin3 hlr3 hbel3
    obtain ⟨i, S, hi, hi120, rfl, rfl, hin, hlr, hLS, hbel⟩ := hrel
    have hws := hbel.size
    by_cases hlt : i < n ∧ i < 120
    · obtain ⟨hlt, hlt8⟩ := hlt
      obtain ⟨ad, A', c', rfl, cl, hlc, hcm, hrl⟩ := hr.at_ (Below.refl _ _) (i := i) (by have := HLN.out; omega)
      have hbl := HBD.out (ls.getD i []) (by
        have hx : ls[i]? = some (ls.getD i []) := by rw [List.getD_eq_getElem?_getD, List.getElem?_eq_getElem (by have := HLN.out; omega)]; rfl
        exact List.mem_of_getElem? hx)
      have hadb : (ad.add i).block < w.heap.size := by
        obtain ⟨ad2, e2, hlt2, _⟩ := hr (by have := HLN.out; omega)
        injection e2 with e2; subst e2
        rw [block_add]; exact hlt2
      obtain ⟨l, hl9⟩ : ∃ l, l = ls.getD i [] := ⟨_, rfl⟩
      rw [← hl9] at cl hlc hrl hbl
      clear hl9
      obtain ⟨q, hq⟩ : ∃ q, q = l.length := ⟨_, rfl⟩
      rw [← hq] at cl hlc hrl
      have Hq := Lib.hid hq
      clear hq
      have CL := Lib.hid (fun (W : World) (h : Below w.heap.size w W) => (h.cell hadb).trans cl)
      have HG0 := Lib.hid (getD_in hbl)
      have hV := Blk.new wr 61 (cells3_ l 0)
      have hba := (Below.refl wr.heap.size wr).alloc (Nat.le_refl _) (.cells (cells3_ l 0) 61)
      have hin2 := hin.up hba
      have hlr2 := hlr.up hba
      have hbel2 := hbel.trans (hba.mono hws)
      obtain ⟨vb, hvb⟩ : ∃ vb, vb = wr.heap.size := ⟨_, rfl⟩
      have hvw : w.heap.size ≤ vb := by omega
      have hs2 := hba.size
      rw [← hvb] at hV
      rw [cells3_zero] at hin2 hlr2 hbel2 hs2
      have hV2 : Blk (wr.alloc (.cells #[.int .i64 0, .int .i64 0, .int .i64 0] 61)) vb 61 (cells3_ l 0) := hV
      have hi0 : (0 : Int) ≤ (i : Int) := by omega
      have hi1 : (i : Int) < (n : Int) := by omega
      have hi2 : (i : Int) < 120 := by omega
      clear hV hin hlr hbl cl hba hbel hs2
      go_upto_block 2 with fail
      rw [← hvb]
      clear hvb
      generalize wr.alloc (.cells #[.int .i64 0, .int .i64 0, .int .i64 0] 61) = wv at *
      go_cut [] from 59 to 80 (fun wx => Blk wx vb 61 #[.int .i64 (l.getD 0 0), .int .i64 (l.getD 1 0), .int .i64 (l.getD 2 0)] ∧ LsmIn wx w.heap.size g M lim S ∧ LrAt wx w.heap.size R lim S ∧ Below w.heap.size w wx)
      case first =>
        go_wp2_with fail
        go_loopw [16] (fun v wr => ∃ j : Nat, j ≤ 3 ∧ j ≤ q ∧ v = .int .i64 j ∧ Blk wr vb 61 (cells3_ l j) ∧ LsmIn wr w.heap.size g M lim S ∧ LrAt wr w.heap.size R lim S ∧ Below w.heap.size w wr) (fun v _ => 3 - (intOf v).toNat)
        case atStart => exact ⟨0, by omega, by omega, rfl, hV2, hin2, hlr2, hbel2⟩
        clear hV2 hin2 hlr2 hbel2
        obtain ⟨j, hj3, hjq, rfl, hV, hin, hlr, hbel⟩ := hrel
        have cl := CL.out _ hbel
        have HIN := Lib.hid hin
        have HLR := Lib.hid hlr
        clear hin hlr
        by_cases hjl : j < q
        · by_cases hj : j < 3
          · obtain ⟨ad2, rfl, _, cj⟩ := (hrl.below hbel (Nat.le_refl _)).intc hjl
            obtain ⟨cu, hcu⟩ : ∃ u, wr.cell? ⟨vb, j, none⟩ = some u := ⟨_, (hV.cell j).trans (Array.getElem?_eq_getElem (by simp [cells3_]; omega))⟩
            have fv := hV.frozen j
            have hst := hV.set_ j (.int .i64 (l.getD j 0))
            rw [cells3_step l hj] at hst
            obtain ⟨z, hz⟩ : ∃ z, z = l.getD j 0 := ⟨_, rfl⟩
            rw [← hz] at cj hst
            have HV3 := Lib.hid (keepT_set hV j (.int .i64 z))
            have hj0 : (0 : Int) ≤ (j : Int) := by omega
            have hj1 : (j : Int) < (q : Int) := by omega
            have hj2 : (j : Int) < 3 := by omega
            clear hz
            go_wp2_with fail
            go_roundw
            case rel =>
              refine ⟨j + 1, by omega, by omega, by go_num, hst, HIN.out.keep HV3.out (fun _ => rfl) (fun _ => rfl) (fun _ => rfl) (fun _ => rfl) (fun _ => rfl) (fun _ _ => rfl), ?_, hbel.setCell hvw _⟩
              obtain ⟨All, Fr, T, h1, h2⟩ := HLR.out
              exact ⟨All, Fr, T, h1.keep HV3.out (fun _ => rfl) (fun _ => rfl) (fun _ => rfl), h2⟩
            case measure => simp [intOf]; omega
          · have hV3 := hV
            rw [cells3_end l (.inl (by omega))] at hV3
            have hj1 : (j : Int) < (q : Int) := by omega
            have hj2 : ¬ (j : Int) < 3 := by omega
            have HV3 := Lib.hid hV3
            clear hV hV3
            go_wp2_with fail
            go_meet
            exact ⟨HV3.out, HIN.out, HLR.out, hbel⟩
        · have hV3 := hV
          rw [cells3_end l (.inr (by have := Hq.out; omega))] at hV3
          have hj1 : ¬ (j : Int) < (q : Int) := by omega
          have HV3 := Lib.hid hV3
          clear hV hV3
          go_wp2_with fail
          go_meet
          exact ⟨HV3.out, HIN.out, HLR.out, hbel⟩
      case rest =>
        obtain ⟨hV, hin, hlr, hbel⟩ := hcut
        have x0 := hV.cell 0
        have x1 := hV.cell 1
        have x2 := hV.cell 2
        simp only [List.getElem?_toArray, List.getElem?_cons_zero, List.getElem?_cons_succ] at x0 x1 x2
        have hd := HG0.out 2
        have hS8 : S.LS.length ≤ 199999 := by omega
        have hok := hin.ok
        have HDEL := Lib.hid (fun k W (h : LsmIn W w.heap.size g M lim S) (hb : w.heap.size ≤ W.heap.size) => lDel_any w.heap.size g M lim S k W h hS8 hb)
        have HPUT := Lib.hid (fun k v W (h : LsmIn W w.heap.size g M lim S) (hb : w.heap.size ≤ W.heap.size) => lPut_any w.heap.size g M lim S k v W h hS8 hb)
        have HMPUT := Lib.hid (fun e W (h : LrAt W w.heap.size R lim S) (hb : w.heap.size ≤ W.heap.size) => mput_any w.heap.size R lim S e W h hok hS8 hb)
        have HOK := Lib.hid hok
        obtain ⟨a, ha⟩ : ∃ a, a = l.getD 0 0 := ⟨_, rfl⟩
        obtain ⟨b, hb⟩ : ∃ b, b = l.getD 1 0 := ⟨_, rfl⟩
        obtain ⟨d, hd'⟩ : ∃ d, d = l.getD 2 0 := ⟨_, rfl⟩
        rw [← ha] at x0
        rw [← hb] at x1
        rw [← hd'] at x2 hd
        have hlv := hV.lt
        have hk := key_any b wc
        clear ha hb hd' hV hok HG0 CL hrl hlc hcm hadb hi2
        go_upto_block 4 with (go_at_call 22; go_must (refine hk.mono ?_); rintro e w5 ⟨kk, rfl, hb5⟩; have x05 := (hb5.cell (p := ⟨vb, 0, none⟩) hlv).trans x0)
        have hbel5 := hbel.trans (hb5.mono hbel.size)
        have hin5 := hin.up hb5
        have hlr5 := hlr.up hb5
        have x25 := (hb5.cell (p := ⟨vb, 2, none⟩) hlv).trans x2
        clear hbel hin hlr x0 x1 x2 hlv hk hb5
        go_cut [12, 18] from 86 to 126 (fun bb _ wx => bb = .bool true ∧ ∃ S', LsmIn wx w.heap.size g M lim S' ∧ LrAt wx w.heap.size R lim S' ∧ S'.LS.length ≤ i + 1 ∧ Below w.heap.size w wx)
        case first =>
          by_cases ha : a = 0
          · obtain rfl : a = 0 := ha
            have hdg := digits_any d w5 hd.1 hd.2
            go_upto_region 23 with (go_at_call 23; go_must (refine hdg.mono ?_); rintro e w6 ⟨dd, rfl, hb6⟩)
            have hbel6 := hbel5.trans (hb6.mono hbel5.size)
            have hpl := HPUT.out kk dd w6 (hin5.up hb6) hbel6.size
            have hlr6 := hlr5.up hb6
            have HS2 := Lib.hid (put_lists lim S ⟨kk, dd, false⟩)
            have HRM := fun W h hb => HMPUT.out ⟨kk, dd, false⟩ W h hb
            unfold Ent.val at HRM
            clear hdg hb6 hin5 hlr5 hbel5 x05 x25 HPUT HDEL HMPUT hd
            generalize lsmPut lim S _ = S2 at hpl HRM HS2
            generalize lsmPutE S _ = ee at hpl HRM
            have hse2 := fun W hb => HSE.out ee W hb
            generalize errV ee = er at hpl hse2
            go_wp2_with (first
              | (go_at_call 24; go_must (refine hpl.mono ?_); rintro e w7 ⟨rfl, hin7, hb7, hk7⟩; have hbel7 := hbel6.trans hb7; have hmp := HRM w7 (hlr6.fixL hk7) hbel7.size)
              | (go_at_call 26; go_must (refine hpl.mono ?_); rintro e w7 ⟨rfl, hin7, hb7, hk7⟩; have hbel7 := hbel6.trans hb7; have hmp := HRM w7 (hlr6.fixL hk7) hbel7.size)
              | (go_at_call 25; go_must (refine hmp.mono ?_); rintro e w8 ⟨rfl, hlr8, hb8, hk8⟩; have hbel8 := hbel7.trans hb8; have hse := hse2 w8 hbel8)
              | (go_at_call 9; go_must (refine hse.mono ?_); rintro e w9 ⟨rfl, hb9⟩))
            go_meet
            exact ⟨rfl, S2, (hin7.fixR hk8).up hb9, hlr8.up hb9, Nat.le_trans HS2.out (Nat.succ_le_succ hLS), hbel8.trans (hb9.mono hbel8.size)⟩
          · by_cases ha : a = 1
            · obtain rfl : a = 1 := ha
              have hdg := digits_any d w5 hd.1 hd.2
              go_upto_region 23 with (go_at_call 23; go_must (refine hdg.mono ?_); rintro e w6 ⟨dd, rfl, hb6⟩)
              have hbel6 := hbel5.trans (hb6.mono hbel5.size)
              have hpl := HPUT.out kk dd w6 (hin5.up hb6) hbel6.size
              have hlr6 := hlr5.up hb6
              have HS2 := Lib.hid (put_lists lim S ⟨kk, dd, false⟩)
              have HRM := fun W h hb => HMPUT.out ⟨kk, dd, false⟩ W h hb
              unfold Ent.val at HRM
              clear hdg hb6 hin5 hlr5 hbel5 x05 x25 HPUT HDEL HMPUT hd
              generalize lsmPut lim S _ = S2 at hpl HRM HS2
              generalize lsmPutE S _ = ee at hpl HRM
              have hse2 := fun W hb => HSE.out ee W hb
              generalize errV ee = er at hpl hse2
              go_wp2_with (first
                | (go_at_call 24; go_must (refine hpl.mono ?_); rintro e w7 ⟨rfl, hin7, hb7, hk7⟩; have hbel7 := hbel6.trans hb7; have hmp := HRM w7 (hlr6.fixL hk7) hbel7.size)
                | (go_at_call 26; go_must (refine hpl.mono ?_); rintro e w7 ⟨rfl, hin7, hb7, hk7⟩; have hbel7 := hbel6.trans hb7; have hmp := HRM w7 (hlr6.fixL hk7) hbel7.size)
                | (go_at_call 25; go_must (refine hmp.mono ?_); rintro e w8 ⟨rfl, hlr8, hb8, hk8⟩; have hbel8 := hbel7.trans hb8; have hse := hse2 w8 hbel8)
                | (go_at_call 9; go_must (refine hse.mono ?_); rintro e w9 ⟨rfl, hb9⟩))
              go_meet
              exact ⟨rfl, S2, (hin7.fixR hk8).up hb9, hlr8.up hb9, Nat.le_trans HS2.out (Nat.succ_le_succ hLS), hbel8.trans (hb9.mono hbel8.size)⟩
            · by_cases ha : a = 2
              · obtain rfl : a = 2 := ha
                have hdg := digits_any d w5 hd.1 hd.2
                go_upto_region 23 with (go_at_call 23; go_must (refine hdg.mono ?_); rintro e w6 ⟨dd, rfl, hb6⟩)
                have hbel6 := hbel5.trans (hb6.mono hbel5.size)
                have hpl := HPUT.out kk dd w6 (hin5.up hb6) hbel6.size
                have hlr6 := hlr5.up hb6
                have HS2 := Lib.hid (put_lists lim S ⟨kk, dd, false⟩)
                have HRM := fun W h hb => HMPUT.out ⟨kk, dd, false⟩ W h hb
                unfold Ent.val at HRM
                clear hdg hb6 hin5 hlr5 hbel5 x05 x25 HPUT HDEL HMPUT hd
                generalize lsmPut lim S _ = S2 at hpl HRM HS2
                generalize lsmPutE S _ = ee at hpl HRM
                have hse2 := fun W hb => HSE.out ee W hb
                generalize errV ee = er at hpl hse2
                go_wp2_with (first
                  | (go_at_call 24; go_must (refine hpl.mono ?_); rintro e w7 ⟨rfl, hin7, hb7, hk7⟩; have hbel7 := hbel6.trans hb7; have hmp := HRM w7 (hlr6.fixL hk7) hbel7.size)
                  | (go_at_call 26; go_must (refine hpl.mono ?_); rintro e w7 ⟨rfl, hin7, hb7, hk7⟩; have hbel7 := hbel6.trans hb7; have hmp := HRM w7 (hlr6.fixL hk7) hbel7.size)
                  | (go_at_call 25; go_must (refine hmp.mono ?_); rintro e w8 ⟨rfl, hlr8, hb8, hk8⟩; have hbel8 := hbel7.trans hb8; have hse := hse2 w8 hbel8)
                  | (go_at_call 9; go_must (refine hse.mono ?_); rintro e w9 ⟨rfl, hb9⟩))
                go_meet
                exact ⟨rfl, S2, (hin7.fixR hk8).up hb9, hlr8.up hb9, Nat.le_trans HS2.out (Nat.succ_le_succ hLS), hbel8.trans (hb9.mono hbel8.size)⟩
              · by_cases ha : a = 3
                · obtain rfl : a = 3 := ha
                  have hpl := HDEL.out kk w5 hin5 hbel5.size
                  have hlr6 := hlr5
                  have hbel6 := hbel5
                  have HS2 := Lib.hid (put_lists lim S ⟨kk, ⟨#[]⟩, true⟩)
                  have HRM := fun W h hb => HMPUT.out ⟨kk, ⟨#[]⟩, true⟩ W h hb
                  unfold Ent.val at HRM
                  clear hin5 hlr5 hbel5 x05 x25 HPUT HDEL HMPUT hd
                  go_upto_region 25 with fail
                  generalize lsmPut lim S _ = S2 at hpl HRM HS2
                  generalize lsmPutE S _ = ee at hpl HRM
                  have hse2 := fun W hb => HSE.out ee W hb
                  generalize errV ee = er at hpl hse2
                  go_wp2_with (first
                    | (go_at_call 24; go_must (refine hpl.mono ?_); rintro e w7 ⟨rfl, hin7, hb7, hk7⟩; have hbel7 := hbel6.trans hb7; have hmp := HRM w7 (hlr6.fixL hk7) hbel7.size)
                    | (go_at_call 26; go_must (refine hpl.mono ?_); rintro e w7 ⟨rfl, hin7, hb7, hk7⟩; have hbel7 := hbel6.trans hb7; have hmp := HRM w7 (hlr6.fixL hk7) hbel7.size)
                    | (go_at_call 25; go_must (refine hmp.mono ?_); rintro e w8 ⟨rfl, hlr8, hb8, hk8⟩; have hbel8 := hbel7.trans hb8; have hse := hse2 w8 hbel8)
                    | (go_at_call 9; go_must (refine hse.mono ?_); rintro e w9 ⟨rfl, hb9⟩))
                  go_meet
                  exact ⟨rfl, S2, (hin7.fixR hk8).up hb9, hlr8.up hb9, Nat.le_trans HS2.out (Nat.succ_le_succ hLS), hbel8.trans (hb9.mono hbel8.size)⟩
                · by_cases ha : a = 4
                  · obtain rfl : a = 4 := ha
                    have hfl := lflush_any w.heap.size g M lim S w5 hin5 (by omega) hbel5.size
                    have hmf := fun W h => mflush_any w.heap.size R lim S W h (by omega)
                    have HS2 := Lib.hid (flush_lists S)
                    generalize lsmFlush S = S2 at hfl hmf HS2
                    clear hin5 x05 x25 HPUT HDEL HMPUT hd
                    go_wp2_with (first
                      | (go_at_call 27; go_must (refine hfl.mono ?_); rintro e w7 ⟨rfl, hin7, hb7, hk7⟩; have hbel7 := hbel5.trans hb7; have hmp := hmf w7 (hlr5.fixL hk7))
                      | (go_at_call 28; go_must (refine hmp.mono ?_); rintro e w8 ⟨rfl, hlr8, hb8, hk8⟩; have hbel8 := hbel7.trans hb8))
                    go_meet
                    exact ⟨rfl, S2, hin7.fixR hk8, hlr8, Nat.le_trans HS2.out (Nat.succ_le_succ hLS), hbel8⟩
                  · by_cases ha : a = 5
                    · obtain rfl : a = 5 := ha
                      have hfl := lcompact_any w.heap.size g M lim S w5 hin5 (by omega) hbel5.size
                      have hmf := fun W h hb => mcompact_any w.heap.size R lim S W h HOK.out hb
                      have HS2 := Lib.hid (compact_lists S)
                      generalize lsmCompact S = S2 at hfl hmf HS2
                      clear hin5 x05 x25 HPUT HDEL HMPUT hd
                      go_wp2_with (first
                        | (go_at_call 29; go_must (refine hfl.mono ?_); rintro e w7 ⟨rfl, hin7, hb7, hk7⟩; have hbel7 := hbel5.trans hb7; have hmp := hmf w7 (hlr5.fixL hk7) hbel7.size)
                        | (go_at_call 30; go_must (refine hmp.mono ?_); rintro e w8 ⟨rfl, hlr8, hb8, hk8⟩; have hbel8 := hbel7.trans hb8))
                      go_meet
                      exact ⟨rfl, S2, hin7.fixR hk8, hlr8, Nat.le_trans HS2.out (by omega), hbel8⟩
                    · have a0 : (a == 0) = false := by rw [beq_eq_false_iff_ne]; assumption
                      have a1 : (a == 1) = false := by rw [beq_eq_false_iff_ne]; assumption
                      have a2 : (a == 2) = false := by rw [beq_eq_false_iff_ne]; assumption
                      have a3 : (a == 3) = false := by rw [beq_eq_false_iff_ne]; assumption
                      have a4 : (a == 4) = false := by rw [beq_eq_false_iff_ne]; assumption
                      have a5 : (a == 5) = false := by rw [beq_eq_false_iff_ne]; assumption
                      have HIN5 := Lib.hid hin5
                      have HLR5 := Lib.hid hlr5
                      clear hin5 hlr5 x05 x25 HPUT HDEL HMPUT hd
                      go_wp2_with fail
                      go_meet
                      exact ⟨rfl, S, HIN5.out, HLR5.out, Nat.le_succ_of_le hLS, hbel5⟩
        case rest =>
          clear hS8 HPUT HDEL HMPUT HOK hd hin5 hlr5 hbel5 x05 x25 hLS
          obtain ⟨rfl, S1, hin, hlr, hLS, hbel⟩ := hcut
          have hok := hin.ok
          have hfew := hok.few
          have hff := hok.few_fresh
          have hLr : riseE S1.live := S1.all_rise.filter _
          obtain ⟨All, Fr, T, hli, hls⟩ := hlr
          obtain ⟨va, vf, hblk, hva, hvf⟩ := hli.rows
          have hAll := hls.all_
          have hFr := hls.len
          have hTT := hls.tabs
          obtain ⟨na, hna⟩ : ∃ k, k = All.length := ⟨_, rfl⟩
          obtain ⟨fn, hfn⟩ : ∃ k, k = Fr.length := ⟨_, rfl⟩
          rw [← hna] at hva
          rw [← hfn] at hvf
          obtain ⟨Aa, ca, rfl, _, _, _, hra⟩ := own_form hva
          obtain ⟨Af, cf, rfl, _, _, _, _⟩ := own_form hvf
          have hlv := rlive_any Aa ca wc.heap.size na All wc hra hna.symm (Nat.le_refl _) (by rw [hna, hAll]; omega)
          rw [show liveE All = S1.live from by rw [hAll]; rfl] at hlv
          have hfew2 : S1.live.length ≤ 400 := Nat.le_trans (List.length_filter_le _ _) hfew
          have HGET := Lib.hid (fun W (h : LsmIn W w.heap.size g M lim S1) => lget_any w.heap.size g M lim S1 kk W h (by omega))
          rw [(hit_get S1 kk).1, (hit_get S1 kk).2] at HGET
          have HSC := Lib.hid (fun W (h : LsmIn W w.heap.size g M lim S1) => lscan_any w.heap.size g M lim S1 low high W h (by omega))
          have HFRS := Lib.hid (fun W (h : LsmIn W w.heap.size g M lim S1) => (show Calls Tryz.prog 36 #[.pointer (some ⟨g, 0, none⟩)] W fun e w' => e = .returned (.int .i64 fn) ∧ Below W.heap.size W w' from (lfresh_any w.heap.size g M lim S1 W h).mono fun e w' ⟨he, q, hq⟩ => ⟨by rw [he, hfn, hFr], by rw [hq]; exact below_drewN (Below.refl _ _) q⟩))
          have HTBS := Lib.hid (fun W (h : LsmIn W w.heap.size g M lim S1) => (show Calls Tryz.prog 37 #[.pointer (some ⟨g, 0, none⟩)] W fun e w' => ∃ A c, e = .returned (.slice A T c) ∧ Below W.heap.size W w' from (ltables_any w.heap.size g M lim S1 W h (by omega)).mono fun e w' ⟨v, bs, he, hO, hbs, hb⟩ => by
            obtain ⟨A9, c9, hv, _⟩ := hO.rd
            have hl9 : bs.length = T := by
              have := congrArg List.length hbs
              rw [hTT]
              simpa using this
            exact ⟨A9, c9, by rw [he, hv, hl9], hb⟩))
          have HLS := Lib.hid hls
          have HLI := Lib.hid hli
          obtain ⟨L, hL⟩ : ∃ L, L = S1.live := ⟨_, rfl⟩
          rw [← hL] at hlv hLr hfew2 HGET HSC
          obtain ⟨nL, hnL⟩ : ∃ k, k = L.length := ⟨_, rfl⟩
          have HPT := Lib.hid (fun (A : Option Addr) (c : Nat) W (hr : Rd W W.heap.size 3 A nL (entCells L)) => (show Calls Tryz.prog 35 #[.slice A nL c, .string low, .string high] W fun e w' => ∃ v, e = .returned v ∧ w'.ownsRow W.heap.size 67 3 v (partE low high L).length (entCells (partE low high L)) ∧ Below W.heap.size W w' from by
            rw [hnL] at hr ⊢
            exact rpart_any A c W.heap.size L low high W hr (Nat.le_refl _) hfew2))
          rw [← hnL] at hlv hfew2
          have hpt4 : (partE low high L).length ≤ 400 := Nat.le_trans (List.length_filter_le _ _) (by rw [← hnL]; exact hfew2)
          have HSM := Lib.hid (fun (A A' : Option Addr) (c c' : Nat) W (h : Rd W W.heap.size 3 A (partE low high L).length (entCells (partE low high L))) (h' : Rd W W.heap.size 3 A' (partE low high L).length (entCells (partE low high L))) => ents_same A A' c c' W.heap.size (partE low high L) W h h' (by omega))
          generalize partE low high L = PL at *
          have HNL := Lib.hid hnL
          have HLR := Lib.hid hLr
          clear hok hfew hff hLr hAll hFr hTT hna hfn hra hva hvf hli hls hL hnL
          obtain ⟨d0, d1, d2, d3⟩ := blkM hblk
          have hws1 := hbel.size
          go_upto_block 5 with (go_at_call 31; go_must (refine hlv.mono ?_); rintro e w6 ⟨v6, rfl, own6, hb6⟩; obtain ⟨A6, c6, rfl, _, _, _, _⟩ := own_form own6)
          have hbel6 := hbel.trans (hb6.mono hws1)
          have hin6 := hin.up hb6
          have hblk6 := hblk.up hb6
          have HLI6 := Lib.hid (HLI.out.up hb6)
          have hr6 : Rd w6 w6.heap.size 3 A6 nL (entCells L) := own_rd own6
          clear d0 d1 d2 d3 hbel hin hblk HLI hb6 own6 hlv hws1
          go_wp2_with fail
          go_loopw [11, 20, 21] (fun e v x wr => ∃ (j ee : Nat) (vv : ByteArray), j ≤ nL ∧ x = .int .i64 j ∧ e = .int .i64 ee ∧ v = .string vv ∧ Hid (ee = hitE kk (L.take j) ∧ vv = hitV kk (L.take j)) ∧ Below w6.heap.size w6 wr) (fun _ _ x _ => nL - (intOf x).toNat)
          case atStart => exact ⟨0, 6, ⟨#[]⟩, Nat.zero_le _, rfl, rfl, rfl, Lib.hid (hit_zero kk L), Below.refl _ _⟩
          obtain ⟨j, ee, vv, hj, rfl, rfl, rfl, HH, hb7⟩ := hrel
          by_cases hjl : j < nL
          · obtain ⟨ad6, x, rfl, _, hx, x0, x1, x2⟩ := hr6.ent_ hjl HNL.out.symm hb7 (Nat.le_refl _)
            have hj0 : (0 : Int) ≤ (j : Int) := by omega
            have hj1 : (j : Int) < (nL : Int) := by omega
            have HX := Lib.hid hx
            clear hx
            by_cases hke : x.key = kk
            · have HN := Lib.hid (hit_here HLR.out HX.out hke)
              rw [hke] at x0
              clear hke
              go_wp2_with fail
              go_roundw
              case rel => exact ⟨j + 1, 0, x.value, hjl, by go_num, rfl, rfl, Lib.hid ⟨HN.out.1.symm, HN.out.2.symm⟩, hb7⟩
              case measure => simp [intOf]; omega
            · have HN := Lib.hid (hit_off (l := L) HX.out hke)
              have h3 : (x.key.toList == kk.toList) = false := by rw [beq_eq_false_iff_ne]; exact fun e => hke (bytes_same e)
              clear hke
              go_wp2_with fail
              go_roundw
              case rel => exact ⟨j + 1, ee, vv, hjl, by go_num, rfl, rfl, Lib.hid ⟨by rw [HN.out.1]; exact HH.out.1, by rw [HN.out.2]; exact HH.out.2⟩, hb7⟩
              case measure => simp [intOf]; omega
          · obtain rfl : j = nL := by omega
            have hall : L.take j = L := List.take_of_length_le (by rw [HNL.out]; exact Nat.le_refl _)
            have hh := HH.out
            rw [hall] at hh
            rw [← hh.1, ← hh.2] at HGET
            have hin7 := hin6.up hb7
            have hblk7 := hblk6.up hb7
            have HLI7 := Lib.hid (HLI6.out.up hb7)
            have hbel7 := hbel6.trans (hb7.mono hbel6.size)
            have hr7 := (hr6.below hb7 (Nat.le_refl _)).more hb7.size
            clear hall hh HH hin6 hblk6 HLI6 hr6
            go_upto_region 46 with (first
              | (go_at_call 32; go_must (refine (HGET.out _ hin7).mono ?_); rintro e w8 ⟨rfl, hb8⟩; have hse := HSE.out ee w8 (hbel7.trans (hb8.mono hbel7.size)))
              | (go_at_call 9; go_must (refine hse.mono ?_); rintro e w9 ⟨rfl, hb9⟩; have hb79 := below_up hb8 hb9; have hin9 := hin7.up hb79)
              | (go_at_call 34; go_must (refine (HSC.out _ hin9).mono ?_); rintro e w10 ⟨v10, rfl, own10, hb10⟩; obtain ⟨A10, c10, rfl, r10⟩ := own_ents own10; have hb710 := below_up hb79 hb10; have hr10 := (hr7.below hb710 (Nat.le_refl _)).more hb710.size)
              | (go_at_call 35; go_must (refine (HPT.out _ c6 _ hr10).mono ?_); rintro e w11 ⟨v11, rfl, own11, hb11⟩; obtain ⟨A11, c11, rfl, r11⟩ := own_ents own11; have r10' := (r10.below hb11 (Nat.le_refl _)).more hb11.size)
              | (go_at_call 33; go_must (refine (HSM.out A10 A11 c10 c11 w11 r10' r11).mono ?_); rintro e w12 ⟨rfl, hq12⟩))
            have hb712 : Below wr.heap.size wr w12 := by
              obtain ⟨q, rfl⟩ := hq12
              exact below_drewN (below_up hb710 hb11) q
            have hin12 : LsmIn w12.drew w.heap.size g M lim S1 := hin7.up hb712.drew
            have hk12 : Blk w12.drew R 60 #[.slice Aa na ca, .slice Af fn cf, .int .i64 T, .int .i64 lim] := hblk7.up hb712.drew
            have hk11 : Blk w12 R 60 #[.slice Aa na ca, .slice Af fn cf, .int .i64 T, .int .i64 lim] := hblk7.up hb712
            have HC := fun W (h : Blk W R 60 #[.slice Aa na ca, .slice Af fn cf, .int .i64 T, .int .i64 lim]) => And.intro (blkM h).2.1 (blkM h).2.2.1
            have HB712 := Lib.hid hb712.drew
            have HBEL7 := Lib.hid hbel7
            clear hse hb8 hb9 hb79 hin9 own10 hb10 r10 hb710 hr10 own11 hb11 r11 r10' hq12 hb712 hin7 hblk7 hbel7 hr7 HGET HSE
            go_region_held3 (fun w' => w'.cell? ⟨R, 1, none⟩ = some (.slice Af fn cf) ∧ w'.cell? ⟨R, 2, none⟩ = some (.int .i64 T)) (first | exact HC _ hk14 | exact HC _ hk13 | exact HC _ hk12 | exact HC _ hk11)
              ((first
                | (go_at_call 36; go_must (refine (HFRS.out _ hin12).mono ?_); rintro e w13 ⟨rfl, hb13⟩; have hin13 := hin12.up hb13; have hk13 := hk12.up hb13)
                | (go_at_call 37; go_must (refine (HTBS.out _ hin13).mono ?_); rintro e w14 ⟨A14, c14, rfl, hb14⟩; have hk14 := hk13.up hb14)))
            all_goals
              have hb714 := HB712.out.trans ((below_up hb13 hb14).mono HB712.out.size)
              go_wp2_with fail
              go_roundw
              case rel => exact ⟨i + 1, S1, by omega, by omega, rfl, by go_num, hin13.up hb14, ⟨All, Fr, T, HLI7.out.up hb714, HLS.out⟩, hLS, HBEL7.out.trans (hb714.mono HBEL7.out.size)⟩
              case measure => simp [intOf]; omega
    · have hx : ¬ ((i : Int) < (n : Int)) ∨ ((i : Int) < (n : Int) ∧ ¬ (i : Int) < 120) := by omega
      rcases hx with hx1 | ⟨hx1, hx2⟩
      · go_wp2_with fail
        go_ret
        exact ⟨rfl, hbel⟩
      · go_wp2_with fail
        go_ret
        exact ⟨rfl, hbel⟩
  · have hbad : lim < 1 ∨ 400 < lim := by omega
    have hnw := lnew_bad lim w hbad
    have HS1 := Lib.hid (fun W h => HSE.out 1 W h)
    rw [show errV 1 = .iface 86 (.int .i64 1) from rfl] at hnw HS1
    clear hlim
    by_cases h1 : lim < 1
    · clear hbad
      go_wp2_with (first
        | (go_at_call 21; go_must (refine hnw.mono ?_); rintro e w1 ⟨rfl, hb1⟩; have hs1 := HS1.out w1 hb1)
        | (go_at_call 9; go_must (refine hs1.mono ?_); rintro e w2 ⟨rfl, hb2⟩))
      go_ret
      exact ⟨rfl, below_up hb1 hb2⟩
    · have h4 : 400 < lim := by omega
      clear hbad
      go_wp2_with (first
        | (go_at_call 21; go_must (refine hnw.mono ?_); rintro e w1 ⟨rfl, hb1⟩; have hs1 := HS1.out w1 hb1)
        | (go_at_call 9; go_must (refine hs1.mono ?_); rintro e w2 ⟨rfl, hb2⟩))
      go_ret
      exact ⟨rfl, below_up hb1 hb2⟩
end Go.Proofs.YtcfijljagohmlaaGreatDoor
