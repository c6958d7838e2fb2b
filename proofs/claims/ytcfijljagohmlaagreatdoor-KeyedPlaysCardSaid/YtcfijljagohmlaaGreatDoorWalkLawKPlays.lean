/- The walk of weirlaw2.KeyedPlays. -/
import Derived.Test.YtcfijljagohmlaaGreatDoorKDelPlain
import Derived.Test.YtcfijljagohmlaaGreatDoorWalkPlace
import Derived.Test.YtcfijljagohmlaaGreatDoorWalkBig7
import Derived.Test.YtcfijljagohmlaaGreatDoorWalkSame
import Derived.Test.YtcfijljagohmlaaGreatDoorWalkAs
import Derived.Deep.DrawnRows
import Derived.Deep.CutBlock
import Derived.Deep.CutRange
namespace Go.Proofs.YtcfijljagohmlaaGreatDoor
open Go.RowKit Go.Maps

theorem same_err0 (W : World) (hg : HasErr W) : Calls Tryz.prog 9 #[errV 0, .int .i64 0] W fun e w' => e = .returned (.bool true) ∧ Below W.heap.size W w' :=
  (same_err 0 0 W hg).mono fun e w' ⟨he, hb⟩ => ⟨by rw [he]; rfl, hb⟩
theorem same_err1 (W : World) (hg : HasErr W) : Calls Tryz.prog 9 #[errV 1, .int .i64 1] W fun e w' => e = .returned (.bool true) ∧ Below W.heap.size W w' :=
  (same_err 1 1 W hg).mono fun e w' ⟨he, hb⟩ => ⟨by rw [he]; rfl, hb⟩
theorem same_err6 (W : World) (hg : HasErr W) : Calls Tryz.prog 9 #[errV 6, .int .i64 6] W fun e w' => e = .returned (.bool true) ∧ Below W.heap.size W w' :=
  (same_err 6 6 W hg).mono fun e w' ⟨he, hb⟩ => ⟨by rw [he]; rfl, hb⟩
theorem KIn.neM {w : World} {g M b : Nat} {S : List Hld} {t : TypeId} {cs : Array Value} (h : KIn w g M S) (hb : Blk w b t cs) : some b ≠ some M := by
  obtain ⟨D, ⟨es, cl, h1, _⟩, _⟩ := h.own
  intro e
  injection e with e
  subst e
  have := hb.symm.trans h1
  cases this
theorem spanB_no2 {lo hi : Int} (h : lo < 0 ∨ hi < lo ∨ 16 < hi) : spanB lo hi = false := by
  unfold spanB
  simp only [Bool.and_eq_false_iff, decide_eq_false_iff_not]
  omega
theorem spanB_yes2 {lo hi : Int} (h1 : ¬ lo < 0) (h2 : ¬ hi < lo) (h3 : ¬ 16 < hi) : spanB lo hi = true := by
  unfold spanB
  simp only [Bool.and_eq_true, decide_eq_true_eq]
  omega
/-- What there is behind some steps. -/
structure KP (w wr : World) (gk mk i : Nat) (S : List Hld) (a : Value) : Prop where
  k : KIn wr gk mk S
  all_ : wr.ownsRow 0 29 4 a S.length (hldCells S)
  few : S.length ≤ i
  bel : Below w.heap.size w wr
set_option maxRecDepth 100000 in
set_option maxHeartbeats 16000000 in
theorem lawkplays_any (A Ag : Option Addr) (c n cg m : Nat) (l gone : List Hld) (lo hi : Int) (w : World) (hg : HasErr w) (hr : Rd w w.heap.size 4 A n (hldCells l)) (hln : l.length = n) (hok : ∀ r ∈ l, r.Ok)
    (hrg : Rd w w.heap.size 4 Ag m (hldCells gone)) (hlm : gone.length = m) (hokg : ∀ r ∈ gone, r.Ok) :
    Calls Tryz.prog 4 #[.slice A n c, .slice Ag m cg, .int .i64 lo, .int .i64 hi] w fun e w' => e = .returned (.bool true) ∧ Below w.heap.size w w' := by
  have HLN := Lib.hid hln
  have HLM := Lib.hid hlm
  have HOK := Lib.hid hok
  have HOKG := Lib.hid hokg
  have hnw := knew_any w
  clear hln hlm hok hokg
  go_enter Tryz.func4, Tryz.ntmps4
  go_upto_region 2 with (go_at_call 11; go_must (refine hnw.mono ?_); rintro e w1 ⟨rfl, hk1, hb1, hz1⟩)
  obtain ⟨gk, hgk⟩ : ∃ gk, gk = w.heap.size + 1 := ⟨_, rfl⟩
  obtain ⟨mk, hmk⟩ : ∃ mk, mk = w.heap.size := ⟨_, rfl⟩
  have hmkw : w.heap.size ≤ mk := by omega
  rw [← hgk, ← hmk] at hk1
  rw [← hgk]
  clear hgk hmk hz1 hnw
  have HSE0 := Lib.hid (fun (W : World) (h : Below w.heap.size w W) => same_err0 W (hg.below h hg.2))
  have HSE1 := Lib.hid (fun (W : World) (h : Below w.heap.size w W) => same_err1 W (hg.below h hg.2))
  have HSE6 := Lib.hid (fun (W : World) (h : Below w.heap.size w W) => same_err6 W (hg.below h hg.2))
  go_upto_block 0 with fail
  go_cut [10] from 34 to 68 (fun a wr => ∃ S, KP w wr gk mk 100 S a)
  case first =>
    go_wp2_with fail
    go_loopw [10, 11] (fun a x wr => ∃ (i : Nat) (S : List Hld), i ≤ n ∧ i ≤ 100 ∧ x = .int .i64 i ∧ KP w wr gk mk i S a) (fun _ x _ => n - (intOf x).toNat)
    case atStart => exact ⟨0, [], Nat.zero_le _, Nat.zero_le _, rfl, ⟨hk1, World.ownsRow_nil _ _ _ _, Nat.zero_le _, hb1⟩⟩
    clear hk1 hb1
    obtain ⟨i, S, hi, hi100, rfl, hT⟩ := hrel
    have hbel := hT.bel
    have hws := hbel.size
    by_cases hlt : i < n ∧ i < 100
    · obtain ⟨hlt, hlt8⟩ := hlt
      obtain ⟨ad, x, rfl, hbk, hx, y0, y1, y2, y3⟩ := hr.hld_ hlt HLN.out (Below.refl _ _) (Nat.le_refl _)
      have HY := Lib.hid (fun (W : World) (h : Below w.heap.size w W) => keep4 h hbk y0 y1 y2 y3)
      obtain ⟨g0, g1, g2, g3⟩ := HY.out _ hbel
      have hxok := HOK.out x (List.mem_of_getElem? hx)
      have HX := Lib.hid hxok
      have hi0 : (0 : Int) ≤ (i : Int) := by omega
      have hi1 : (i : Int) < (n : Int) := by omega
      have hi2 : (i : Int) < 100 := by omega
      have hfew := hT.few
      have hP1 := putHE_few (h := x) (Nat.le_trans hfew hi100)
      have hP2 := putH_few (h := x) (Nat.le_trans hfew hi100)
      have hPU := fun W (h : KIn W gk mk S) => kput_any gk mk S x W h HX.out (by omega)
      rw [hP1, hP2] at hPU
      have HTT := Lib.hid hT
      obtain ⟨Aa, ca, rfl, _, _, _, hra⟩ := own_form hT.all_
      clear hx hxok hT hP1 hP2 y0 y1 y2 y3
      rcases hokx : hldOk x
      · have hsh := sheld_is x wr HX.out.1 hokx
        rw [hokx] at hPU
        obtain ⟨e1, he1⟩ : ∃ e1, e1 = errV 1 := ⟨_, rfl⟩
        have hPU1 : ∀ W, KIn W gk mk S → Calls Tryz.prog 12 #[.pointer (some ⟨gk, 0, none⟩), x.val] W fun e w' => e = .returned e1 ∧ KIn w' gk mk S ∧ W.grownBy w' (some mk) := fun W h => by rw [he1]; exact hPU W h
        rw [← he1] at HSE1
        clear hokx hPU he1
        unfold Hld.val at hsh hPU1
        have HPU1 := Lib.hid hPU1
        clear hPU1
        go_upto_region 8 with (go_at_call 17; go_must (refine hsh.mono ?_); rintro e w2 ⟨rfl, hb2⟩)
        have hbel2 := hbel.trans (hb2.mono hws)
        have hk2 := HTT.out.k.up hb2
        have ha2 := own_up HTT.out.all_ hb2
        obtain ⟨g0, g1, g2, g3⟩ := HY.out _ hbel2
        have hput := HPU1.out w2 hk2
        have HNM := Lib.hid (own_map_ne hk2 ha2)
        have HA2 := Lib.hid ha2
        clear hsh hb2 hk2 ha2 hra HTT
        go_wp2_with (first
          | (go_at_call 12; go_must (refine hput.mono ?_); rintro e w3 ⟨rfl, hk3, hg3⟩; have hbel3 := hbel2.grown hg3 hbel2.size (fun j hj => by cases hj; exact hmkw))
          | (go_at_call 9; go_must (refine (HSE1.out _ hbel3).mono ?_); rintro e w4 ⟨rfl, hb4⟩))
        go_roundw
        case rel => exact ⟨i + 1, S, by omega, by omega, by go_num, ⟨hk3.up hb4, own_up (own_far HA2.out hg3 HNM.out) hb4, by omega, hbel3.trans (hb4.mono hbel3.size)⟩⟩
        case measure => simp [intOf]; omega
      · have hsh := sheld_is x wr HX.out.1 hokx
        rw [hokx] at hPU
        obtain ⟨e1, he1⟩ : ∃ e1, e1 = errV 0 := ⟨_, rfl⟩
        have hPU1 : ∀ W, KIn W gk mk S → Calls Tryz.prog 12 #[.pointer (some ⟨gk, 0, none⟩), x.val] W fun e w' => e = .returned e1 ∧ KIn w' gk mk (hldPut x S) ∧ W.grownBy w' (some mk) := fun W h => by rw [he1]; exact hPU W h
        rw [← he1] at HSE0
        clear hokx hPU he1
        have hPL := Lib.hid (fun (W : World) (h : Rd W W.heap.size 4 Aa S.length (hldCells S)) => place_put Aa ca S.length W.heap.size S x W h rfl (Nat.le_refl _) (by omega) HTT.out.k.rise)
        unfold Hld.val at hsh hPU1 hPL
        have HPU1 := Lib.hid hPU1
        clear hPU1
        go_upto_region 8 with (go_at_call 17; go_must (refine hsh.mono ?_); rintro e w2 ⟨rfl, hb2⟩)
        have hbel2 := hbel.trans (hb2.mono hws)
        have hk2 := HTT.out.k.up hb2
        have ha2 := own_up HTT.out.all_ hb2
        obtain ⟨g0, g1, g2, g3⟩ := HY.out _ hbel2
        have hput := HPU1.out w2 hk2
        have HNM := Lib.hid (own_map_ne hk2 ha2)
        have HA2 := Lib.hid ha2
        clear hsh hb2 hk2 ha2 hra HTT
        go_upto_region 11 with (first
          | (go_at_call 12; go_must (refine hput.mono ?_); rintro e w3 ⟨rfl, hk3, hg3⟩; have hbel3 := hbel2.grown hg3 hbel2.size (fun j hj => by cases hj; exact hmkw))
          | (go_at_call 9; go_must (refine (HSE0.out _ hbel3).mono ?_); rintro e w4 ⟨rfl, hb4⟩))
        have hk4 := hk3.up hb4
        have ha4 := own_up (own_far HA2.out hg3 HNM.out) hb4
        have hbel4 := hbel3.trans (hb4.mono hbel3.size)
        have hws4 := hbel4.size
        obtain ⟨Ab, cb, hab, _, _, _, hrb⟩ := own_form ha4
        injection hab with hab1 _ hab2
        subst hab1 hab2
        have hpl := hPL.out w4 hrb
        obtain ⟨g0, g1, g2, g3⟩ := HY.out _ hbel4
        clear hrb ha4 hg3 hk3 hb4 hbel3 HA2 HNM hput
        go_wp2_with (go_at_call 7; go_must (refine hpl.mono ?_); rintro e w5 ⟨v5, rfl, ho5, hb5⟩)
        go_roundw
        case rel => exact ⟨i + 1, hldPut x S, by omega, by omega, by go_num, ⟨hk4.up hb5, own_base ho5 (Nat.zero_le _), by have := hldPut_len (h := x) S; omega, hbel4.trans (hb5.mono hws4)⟩⟩
        case measure => simp [intOf]; omega
    · have HTT := Lib.hid (show KP w wr gk mk 100 S _ from ⟨hT.k, hT.all_, by have := hT.few; omega, hT.bel⟩)
      clear hT
      by_cases hin : i < n
      · have hx1 : (i : Int) < (n : Int) := by omega
        have hx2 : ¬ ((i : Int) < 100) := by omega
        go_wp2_with fail
        go_meet
        exact ⟨S, HTT.out⟩
      · have hx1 : ¬ ((i : Int) < (n : Int)) := by omega
        go_wp2_with fail
        go_meet
        exact ⟨S, HTT.out⟩
  case rest =>
    obtain ⟨S0, hT0⟩ := hcut
    clear hk1 hb1
    go_upto_block 2 with fail
    go_cut [10] from 69 to 178 (fun a wr => ∃ S, KP w wr gk mk 100 S a)
    case first =>
      have HT0 := Lib.hid hT0
      clear hT0
      go_wp2_with fail
      go_loopw [10, 15] (fun a x wr => ∃ (i : Nat) (S : List Hld), i ≤ m ∧ x = .int .i64 i ∧ KP w wr gk mk 100 S a) (fun _ x _ => m - (intOf x).toNat)
      case atStart => exact ⟨0, S0, Nat.zero_le _, rfl, HT0.out⟩
      obtain ⟨i, S, hi, rfl, hT⟩ := hrel
      have hbel := hT.bel
      have hws := hbel.size
      by_cases hlt : i < m ∧ i < 100
      · obtain ⟨hlt, hlt8⟩ := hlt
        obtain ⟨ad, x, rfl, hbk, hx, y0, y1, y2, y3⟩ := hrg.hld_ hlt HLM.out (Below.refl _ _) (Nat.le_refl _)
        have HY := Lib.hid (fun (W : World) (h : Below w.heap.size w W) => keep4 h hbk y0 y1 y2 y3)
        have hxok := HOKG.out x (List.mem_of_getElem? hx)
        have HX := Lib.hid hxok
        have hi0 : (0 : Int) ≤ (i : Int) := by omega
        have hi1 : (i : Int) < (m : Int) := by omega
        have hi2 : (i : Int) < 100 := by omega
        have hfew := hT.few
        have HTT := Lib.hid hT
        obtain ⟨Aa, ca, rfl, _, _, _, hra⟩ := own_form hT.all_
        obtain ⟨x0, x1, x2, x3⟩ := HY.out _ hbel
        clear hx hxok hT y0 y1 y2 y3
        go_upto_block 4 with fail
        go_cut [16] from 79 to 108 (fun e wx => e = .int .i64 (getHE x.node x.key S : Nat) ∧ ∃ q, wx = wr.drewN q)
        case first =>
          go_wp2_with fail
          go_loopw [16, 17] (fun e y wy => ∃ (j q : Nat), j ≤ S.length ∧ y = .int .i64 j ∧ e = .int .i64 (goneE x S j : Nat) ∧ wy = wr.drewN q) (fun _ y _ => S.length - (intOf y).toNat)
          case atStart => exact ⟨0, 0, Nat.zero_le _, rfl, by rw [goneE_zero]; rfl, rfl⟩
          obtain ⟨j, q, hj, rfl, rfl, rfl⟩ := hrel
          by_cases hjl : j < S.length
          · obtain ⟨ada, y, hAa, hbka, hy, z0, z1, z2, z3⟩ := hra.hld_ hjl rfl (Below.refl _ _) (Nat.le_refl _)
            subst hAa
            have hj0 : (0 : Int) ≤ (j : Int) := by omega
            have hj1 : (j : Int) < (S.length : Int) := by omega
            by_cases hs : y.node = x.node ∧ y.key = x.key
            · have HSN := Lib.hid (goneE_same hy hs)
              rw [hs.1] at z0
              rw [hs.2] at z1
              clear hs hy
              go_wp2_with fail
              go_quiet (fail)
              go_wp2_with fail
              exact ⟨⟨j + 1, _, Nat.succ_le_of_lt hjl, by go_num, by rw [HSN.out]; rfl, rfl⟩, by simp [intOf]; omega⟩
            · have HSN := Lib.hid (goneE_other hy hs)
              by_cases h1 : y.node = x.node
              · have h2 : ¬ y.key = x.key := fun e => hs ⟨h1, e⟩
                have h3 : (y.key.toList == x.key.toList) = false := by rw [beq_eq_false_iff_ne]; exact fun e => h2 (ba_same e)
                rw [h1] at z0
                clear hs hy h1 h2
                go_wp2_with fail
                go_quiet (fail)
                go_wp2_with fail
                exact ⟨⟨j + 1, _, Nat.succ_le_of_lt hjl, by go_num, by rw [HSN.out], rfl⟩, by simp [intOf]; omega⟩
              · have h2 : (y.node == x.node) = false := by simpa using h1
                clear hs hy h1
                go_wp2_with fail
                go_quiet (fail)
                go_wp2_with fail
                exact ⟨⟨j + 1, _, Nat.succ_le_of_lt hjl, by go_num, by rw [HSN.out], rfl⟩, by simp [intOf]; omega⟩
          · obtain rfl : j = S.length := by omega
            have HGA := Lib.hid (goneE_all x S)
            go_wp2_with fail
            go_meet
            exact ⟨by rw [HGA.out], _, rfl⟩
        case rest =>
          obtain ⟨rfl, q, hq⟩ := hcut
          have hkq : KIn wc gk mk S := by rw [hq]; exact HTT.out.k.up (below_drewN (Below.refl _ _) q)
          have haq : wc.ownsRow 0 29 4 (.slice Aa S.length ca) S.length (hldCells S) := by rw [hq]; exact own_drewN HTT.out.all_ q
          have hbq : Below w.heap.size w wc := by rw [hq]; exact below_drewN hbel q
          clear hq hra HTT x0 x1 x2 x3 hbel hws
          have hsq := hbq.size
          obtain ⟨x0, x1, x2, x3⟩ := HY.out _ hbq
          obtain ⟨hxn, hxk⟩ := hld_ok_key HX.out
          have HGO := Lib.hid (fun (h : hasH x.node x.key S = true) => getH_some h)
          have HEV : Hid (getHE x.node x.key S = if hasH x.node x.key S = true then 0 else 6) := Lib.hid rfl
          have HGET := Lib.hid (fun W (h : KIn W gk mk S) => kget_any gk mk S x.node x.key W h hxn hxk)
          have HDEL := Lib.hid (fun W (h : KIn W gk mk S) => kdel_any gk mk S x.node x.key W h hxn hxk)
          have hsrt : ∀ W, Below w.heap.size w W → Calls Tryz.prog 9 #[errV (getHE x.node x.key S), .int .i64 (getHE x.node x.key S : Nat)] W fun e w' => e = .returned (.bool true) ∧ Below W.heap.size W w' := fun W h => by
            rw [HEV.out]
            split
            · exact HSE0.out W h
            · exact HSE6.out W h
          have HSR := Lib.hid hsrt
          clear hsrt
          generalize getHE x.node x.key S = E at *
          generalize errV E = eE at *
          obtain ⟨G, hG⟩ : ∃ G, G = getH x.node x.key S := ⟨_, rfl⟩
          rw [← hG] at HGO HGET
          clear hG
          unfold Hld.val at HGET
          go_upto_region 24 with fail
          go_cut [18, 19] from 109 to 123 (fun p e wx => ∃ g18, p = .pointer (some ⟨g18, 0, none⟩) ∧ e = eE ∧ Blk wx g18 29 #[.int .i64 G.node, .string G.key, .int .i64 G.a, .int .i64 G.b] ∧ Below wc.heap.size wc wx)
          case first =>
            have hS := fun W (h : Below w.heap.size w W) => And.intro (HY.out W h).1 (HY.out W h).2.1
            have hS4 := fun W (h : Below w.heap.size w W) (g : Nat) (hgw : w.heap.size ≤ g) (u0 u1 u2 u3 : Value) => hS _ ((((h.setCell (p := ⟨g, 0, none⟩) hgw u0).setCell (p := ⟨g, 1, none⟩) hgw u1).setCell (p := ⟨g, 2, none⟩) hgw u2).setCell (p := ⟨g, 3, none⟩) hgw u3)
            have hbd : Below w.heap.size w wc.drew := hbq.drew
            have hba := fun o => hbd.alloc hbd.size o
            have hkd : KIn wc.drew gk mk S := hkq.same rfl rfl
            have hka := fun o => hkd.up ((Below.refl wc.drew.heap.size wc.drew).alloc (Nat.le_refl _) o)
            have hgd := HGET.out _ hkd
            have hga := HGET.out _ (hka (.cells #[.int .i64 0, .string ⟨#[]⟩, .int .i64 0, .int .i64 0] 29))
            have hza : ∀ W, Below (wc.drew.alloc (.cells #[.int .i64 0, .string ⟨#[]⟩, .int .i64 0, .int .i64 0] 29)).heap.size (wc.drew.alloc (.cells #[.int .i64 0, .string ⟨#[]⟩, .int .i64 0, .int .i64 0] 29)) W → W.cell? ⟨wc.heap.size, 0, none⟩ = some (.int .i64 0) ∧ W.cell? ⟨wc.heap.size, 1, none⟩ = some (.string ⟨#[]⟩) ∧ W.cell? ⟨wc.heap.size, 2, none⟩ = some (.int .i64 0) ∧ W.cell? ⟨wc.heap.size, 3, none⟩ = some (.int .i64 0) ∧ (∀ j, W.frozen? ⟨wc.heap.size, j, none⟩ = false) ∧ Blk W wc.heap.size 29 #[.int .i64 0, .string ⟨#[]⟩, .int .i64 0, .int .i64 0] := fun W h => by
              have hz : Blk W wc.heap.size 29 #[.int .i64 0, .string ⟨#[]⟩, .int .i64 0, .int .i64 0] := (Blk.new wc.drew 29 #[.int .i64 0, .string ⟨#[]⟩, .int .i64 0, .int .i64 0]).below h (by simp)
              exact ⟨hz.cell 0, hz.cell 1, hz.cell 2, hz.cell 3, hz.frozen, hz⟩
            go_wp2_with fail
            go_region_held3 (fun w' => w'.cell? (ad.add (i * 4)) = some (.int .i64 x.node) ∧ w'.cell? ⟨(ad.add (i * 4)).block, (ad.add (i * 4)).off + 1, none⟩ = some (.string x.key)) (first | exact hS _ hbd | exact hS _ (hba _) | exact hS _ hb3 | exact hS _ (hb3.alloc hb3.size _) | exact hS4 _ hb3 _ hsq _ _ _ _ | exact hS4 _ (hb3.alloc hb3.size _) _ hb3.size _ _ _ _) ((first
                | (go_at_call 18; go_must (first | (refine hgd.mono ?_; rintro e w2 ⟨rfl, hb2⟩; have hb3 := hbd.trans (hb2.mono hbd.size)) | (refine hga.mono ?_; rintro e w2 ⟨rfl, hb2⟩; have hb3 := (hba _).trans (hb2.mono (hba _).size); obtain ⟨z0, z1, z2, z3, zf, hz⟩ := hza _ hb2)))))
            all_goals go_wp2_with fail
            all_goals go_meet
            · have hb4 : Below wc.heap.size wc w2 := (Below.refl wc.heap.size wc).drew.trans hb2
              exact ⟨_, rfl, rfl, Blk.new _ _ _, hb4.alloc hb4.size _⟩
            · have hb4 : Below wc.heap.size wc w2 := ((Below.refl wc.heap.size wc).drew.alloc (Nat.le_refl _) _).trans (hb2.mono (by simp))
              exact ⟨_, rfl, rfl, by simpa using (((hz.set_ 0 (.int .i64 G.node)).set_ 1 (.string G.key)).set_ 2 (.int .i64 G.a)).set_ 3 (.int .i64 G.b), (((hb4.setCell (p := ⟨wc.heap.size, 0, none⟩) (Nat.le_refl _) _).setCell (p := ⟨wc.heap.size, 1, none⟩) (Nat.le_refl _) _).setCell (p := ⟨wc.heap.size, 2, none⟩) (Nat.le_refl _) _).setCell (p := ⟨wc.heap.size, 3, none⟩) (Nat.le_refl _) _⟩
          case rest =>
            rename World => wg
            obtain ⟨g18, rfl, rfl, hz, hbz⟩ := hcut
            have hbg := hbq.trans (hbz.mono hsq)
            have hkz := hkq.up hbz
            have haz := own_up haq hbz
            have hsr1 := HSR.out _ hbg
            clear hbz hkq haq hbq hsq x0 x1 x2 x3
            go_upto_region 26 with (go_at_call 9; go_must (refine hsr1.mono ?_); rintro e w3 ⟨rfl, hb3⟩)
            have hbg3 := hbg.trans (hb3.mono hbg.size)
            have hk3 := hkz.up hb3
            have ha3 := own_up haz hb3
            have hz3 := hz.up hb3
            have hS := fun W (h : Below w.heap.size w W) => And.intro (HY.out W h).1 (HY.out W h).2.1
            have hbd : Below w.heap.size w w3.drew := hbg3.drew
            have hdel := HDEL.out w3.drew (hk3.same rfl rfl)
            have HNM := Lib.hid (own_map_ne hk3 ha3)
            have HNZ := Lib.hid (hk3.neM hz3)
            clear hbg hkz haz hsr1 hz
            go_region_held3 (fun w' => w'.cell? (ad.add (i * 4)) = some (.int .i64 x.node) ∧ w'.cell? ⟨(ad.add (i * 4)).block, (ad.add (i * 4)).off + 1, none⟩ = some (.string x.key)) (first | exact hS _ hbd | exact hS _ hb4 | exact hS _ hb5)
              ((first
                | (go_at_call 19; go_must (refine hdel.mono ?_); rintro e w4 ⟨rfl, hk4, hg4⟩; have hb4 := hbd.grown hg4 hbd.size (fun j hj => by cases hj; exact hmkw))
                | (go_at_call 9; go_must (refine (HSR.out _ hb4).mono ?_); rintro e w5 ⟨rfl, hb45⟩; have hb5 := hb4.trans (hb45.mono hb4.size))))
            have hk5 := hk4.up hb45
            have ha5 := own_up (own_far (World.ownsRow.drew ha3) hg4 HNM.out) hb45
            have hz5 := (Blk.grown hz3.drew hg4 HNZ.out).up hb45
            have hs5 := hb5.size
            obtain ⟨x0, x1, x2, x3⟩ := HY.out _ hb5
            clear hk3 ha3 hz3 hS hbd hdel hk4 hg4 hb4 hb45 hbg3 hb3 HSR HDEL HGET
            rcases hh : hasH x.node x.key S
            · have HE6 : Hid (E = 6) := Lib.hid (by rw [HEV.out, hh]; rfl)
              have hE1 : ((E : Int) == 0) = false := by rw [HE6.out]; rfl
              have hE2 : ¬ ((E : Int) = 0) := by rw [HE6.out]; decide
              rw [offH_hasnt hh] at hk5
              have HKP : Hid (KP w w5 gk mk 100 S (.slice Aa S.length ca)) := Lib.hid ⟨hk5, ha5, hfew, hb5⟩
              clear hh hk5 ha5 hz5 HEV HGO
              go_wp2_with fail
              go_quiet (fail)
              go_wp2_with fail
              go_roundw
              case rel => exact ⟨i + 1, S, by omega, by go_num, ⟨HKP.out.k.up (below_drewN (Below.refl _ _) _), own_drewN HKP.out.all_ _, hfew, below_drewN hb5 _⟩⟩
              case measure => simp [intOf]; omega
            · have HE6 : Hid (E = 0) := Lib.hid (by rw [HEV.out, hh]; rfl)
              have hE1 : ((E : Int) == 0) = true := by rw [HE6.out]; rfl
              have hE2 : ((E : Int) = 0) := by rw [HE6.out]; rfl
              obtain ⟨_, hgn, hgk⟩ := HGO.out hh
              have z0 := hz5.cell 0
              have z1 := hz5.cell 1
              simp at z0 z1
              rw [hgn] at z0
              rw [hgk] at z1
              have HK5 := Lib.hid hk5
              have HA5 := Lib.hid ha5
              obtain ⟨Ab, cb, hab, _, _, _, hrb⟩ := own_form ha5
              injection hab with hab1 _ hab2
              subst hab1 hab2
              have HPL := Lib.hid (fun q => place_off Aa ca S.length (w5.drewN q).heap.size S x (w5.drewN q) (hrb.drewN q) rfl (Nat.le_refl _) (by omega))
              unfold Hld.val at HPL
              clear hh hk5 ha5 hz5 HEV HGO hgn hgk hrb
              go_wp2_with fail
              go_quiet (fail)
              go_wp2_with (go_at_call 7; go_must (refine (HPL.out _).mono ?_); rintro e w6 ⟨v6, rfl, ho6, hb6⟩)
              go_roundw
              case rel => exact ⟨i + 1, offH x.node x.key S, by omega, by go_num, ⟨HK5.out.up ((below_drewN (Below.refl _ _) _).trans hb6), own_base ho6 (Nat.zero_le _), Nat.le_trans (offH_len _) hfew, (below_drewN hb5 _).trans (hb6.mono hs5)⟩⟩
              case measure => simp [intOf]; omega
      · have HTT := Lib.hid hT
        clear hT
        by_cases hin : i < m
        · have hx1 : (i : Int) < (m : Int) := by omega
          have hx2 : ¬ ((i : Int) < 100) := by omega
          go_wp2_with fail
          go_meet
          exact ⟨S, HTT.out⟩
        · have hx1 : ¬ ((i : Int) < (m : Int)) := by omega
          go_wp2_with fail
          go_meet
          exact ⟨S, HTT.out⟩
    case rest =>
      obtain ⟨S, hT⟩ := hcut
      clear hT0
      have hbel := hT.bel
      have hws := hbel.size
      have hfew := hT.few
      have hk := hT.k
      have hall := hT.all_
      obtain ⟨Aa, ca, rfl, _, _, _, hra⟩ := own_form hall
      have hal := kall_any gk mk S wc hk (by omega)
      have HSA := Lib.hid (fun (A A' : Option Addr) (c c' : Nat) (L : List Hld) (W : World) (hl : L.length ≤ 100) (hx : Rd W W.heap.size 4 A L.length (hldCells L)) (hy : Rd W W.heap.size 4 A' L.length (hldCells L)) => (show Calls Tryz.prog 15 #[.slice A L.length c, .slice A' L.length c'] W fun e w' => e = .returned (.bool true) ∧ Below W.heap.size W w' from by
        have h := samehelds_any A A' c c' W.heap.size L L W hx hy (Nat.le_refl _) (by omega) (by omega)
        exact h.mono fun e w' ⟨b, he, hb, hbel⟩ => ⟨by rw [he, hb.2 rfl], hbel⟩))
      have HRA := Lib.hid hra
      have HALL := Lib.hid hall
      clear hT hra hall
      go_upto_region 35 with (first
        | (go_at_call 16; go_must (refine hal.mono ?_); rintro e w2 ⟨A2, c2, rfl, _, _, r2, hb2⟩; have hsa := HSA.out A2 Aa c2 ca S w2 hfew r2 ((HRA.out.below hb2 (Nat.le_refl _)).more hb2.size))
        | (go_at_call 15; go_must (refine hsa.mono ?_); rintro e w3 ⟨rfl, hb3⟩))
      have hk3 := (hk.up hb2).up hb3
      have hbel3 := (hbel.trans (hb2.mono hws)).trans (hb3.mono (hbel.trans (hb2.mono hws)).size)
      have hra3 := own_up (own_up HALL.out hb2) hb3
      obtain ⟨Ab, cb, hab, _, _, _, r3⟩ := own_form hra3
      injection hab with hab1 _ hab2
      subst hab1 hab2
      have hs3 := hbel3.size
      have HEX := Lib.hid (fun W (h : KIn W gk mk S) => kexport_any gk mk S lo hi W h (by omega))
      have HIM := Lib.hid (fun W (h : KIn W gk mk S) => kimport_any gk mk S none 0 W.heap.size [] lo hi W h ⟨rfl, fun h => absurd h (by simp)⟩ (Nat.le_refl _) (by simp) (Nat.le_refl _) (by omega))
      clear hk hb2 hb3 hra3 hal hsa r2 HRA HALL hbel hws
      go_cut [195] from 185 to 195 (fun s wx => s = .bool (!spanB lo hi) ∧ w3 = wx)
      case first =>
        by_cases c1 : lo < 0
        · have HE1 := Lib.hid (spanB_no2 (lo := lo) (hi := hi) (.inl c1))
          go_wp2_with fail
          go_meet
          exact ⟨by rw [HE1.out]; rfl, rfl⟩
        · by_cases c2 : hi < lo
          · have HE1 := Lib.hid (spanB_no2 (lo := lo) (hi := hi) (.inr (.inl c2)))
            go_wp2_with fail
            go_meet
            exact ⟨by rw [HE1.out]; rfl, rfl⟩
          · by_cases c3 : 16 < hi
            · have HE1 := Lib.hid (spanB_no2 (lo := lo) (hi := hi) (.inr (.inr c3)))
              go_wp2_with fail
              go_meet
              exact ⟨by rw [HE1.out]; rfl, rfl⟩
            · have HE1 := Lib.hid (spanB_yes2 c1 c2 c3)
              go_wp2_with fail
              go_meet
              exact ⟨by rw [HE1.out]; rfl, rfl⟩
      case rest =>
        obtain ⟨rfl, rfl⟩ := hcut
        rcases hsp : spanB lo hi
        · have HSP := Lib.hid hsp
          have hI0 := imp_no (S := S) (b := []) hsp
          obtain ⟨e1, he1⟩ : ∃ e1, e1 = errV 1 := ⟨_, rfl⟩
          rw [show expE lo hi S = 1 from by rw [expE, hsp]; rfl, show expB lo hi S = [] from by rw [expB, hsp]; rfl, ← he1] at HEX
          rw [hI0, ← he1] at HIM
          rw [← he1] at HSE1
          clear hsp hI0 he1
          go_upto_block 6 with fail
          go_cut [24] from 196 to 226 (fun o wx => o = .slice none 0 0 ∧ w3 = wx)
          case first =>
            go_wp2_with fail
            go_loopw [24, 25] (fun o x wx => o = .slice none 0 0 ∧ x = .int .i64 0 ∧ w3 = wx) (fun _ _ _ => 0)
            case atStart => exact ⟨rfl, rfl, rfl⟩
            obtain ⟨rfl, rfl, rfl⟩ := hrel
            by_cases h0 : 0 < S.length
            · have h0i : (0 : Int) < (S.length : Int) := by omega
              go_wp2_with fail
              go_meet
              exact ⟨rfl, rfl⟩
            · have h0i : ¬ (0 : Int) < (S.length : Int) := by omega
              go_wp2_with fail
              go_meet
              exact ⟨rfl, rfl⟩
          case rest =>
            obtain ⟨rfl, rfl⟩ := hcut
            rename World => w4
            have hex := HEX.out _ hk3
            go_upto_region 48 with (go_at_call 20; go_must (refine hex.mono ?_); rintro e w5 ⟨v5, rfl, ho5, hb5⟩)
            have hbel5 := hbel3.trans (hb5.mono hs3)
            have hk5 := hk3.up hb5
            obtain ⟨A5, c5, rfl, _, _, _, r5⟩ := own_form ho5
            have hse5 := HSE1.out _ hbel5
            clear ho5 hex hk3 hbel3 hb5
            go_upto_region 49 with (go_at_call 9; go_must (refine hse5.mono ?_); rintro e w6 ⟨rfl, hb6⟩)
            have r6 := r5.below hb6 (Nat.le_refl _)
            have hbel6 := hbel5.trans (hb6.mono hbel5.size)
            have q1 := run_string_rd (P := Tryz.prog) (c := c5) Tryz.underlying23 Tryz.underlying5 Tryz.underlying9 (show Rd w6 w5.heap.size 1 A5 0 (([] : List UInt8).map bv) from r6)
            have q2 := run_string_rd (P := Tryz.prog) (c := 0) Tryz.underlying23 Tryz.underlying5 Tryz.underlying9 (show Rd w6 0 1 none 0 (([] : List UInt8).map bv) from ⟨rfl, fun h => absurd h (by simp)⟩)
            have him := HIM.out _ (hk5.up hb6)
            clear r5 r6 hk5 hse5 hbel5
            go_upto_region 51 with fail
            clear q1 q2
            go_wp2_with (first
              | (go_at_call 14; go_must (refine him.mono ?_); rintro e w7 ⟨rfl, hk7, hg7⟩; have hbel7 := hbel6.grown hg7 hbel6.size (fun j hj => by cases hj; exact hmkw))
              | (go_at_call 9; go_must (refine (HSE1.out _ hbel7).mono ?_); rintro e w8 ⟨rfl, hb8⟩))
            go_ret
            exact ⟨rfl, hbel7.trans (hb8.mono hbel7.size)⟩
        · obtain ⟨F, hF⟩ : ∃ F, F = S.filter (inG lo hi) := ⟨_, rfl⟩
          obtain ⟨f1, f2, f3, f4, f5⟩ := exp_few (lo := lo) (hi := hi) hk3.rise hk3.fine hfew hsp
          rw [f2, f3] at HEX
          rw [← hF] at f1 f4 f5 HEX
          have HFI := Lib.hid hk3.fine
          have HFO : Hid (∀ r ∈ F, r.Ok) := Lib.hid (fun r hr => (HFI.out r (by rw [hF] at hr; exact (List.mem_filter.1 hr).1)).2)
          have hFl : F.length ≤ 100 := by rw [hF]; exact Nat.le_trans (List.length_filter_le _ _) hfew
          have HF := Lib.hid hF
          have HSH := Lib.hid (fun (A : Option Addr) (c : Nat) (W : World) (h : Rd W W.heap.size 4 A F.length (hldCells F)) => shelds_any A c W.heap.size F W h (Nat.le_refl _) HFO.out (by omega))
          rw [f1] at HSH
          have HFB := Lib.hid (show (heldsB F).length ≤ 140737488355328 from Nat.le_trans (heldsB_le F) (by decide))
          have HIM2 := Lib.hid (fun (g M : Nat) (A : Option Addr) (c : Nat) (W : World) (h : KIn W g M []) (hr : Rd W W.heap.size 1 A (heldsB F).length ((heldsB F).map bv)) (hc : (heldsB F).length ≤ c) => kimport_any g M [] A c W.heap.size (heldsB F) 0 16 W h hr (Nat.le_refl _) HFB.out hc (by simp))
          rw [f4, f5, errV_zero] at HIM2
          obtain ⟨e0, he0⟩ : ∃ e0, e0 = errV 0 := ⟨_, rfl⟩
          rw [← he0] at HEX HSE0
          clear hsp f1 f2 f3 f4 f5 hF HIM he0
          go_upto_block 6 with fail
          go_wp2_with fail
          go_loopw [24, 25] (fun o x wr => ∃ (i : Nat), i ≤ S.length ∧ x = .int .i64 i ∧ wr.ownsRow w3.heap.size 29 4 o ((S.take i).filter (inG lo hi)).length (hldCells ((S.take i).filter (inG lo hi))) ∧ Below w3.heap.size w3 wr) (fun _ x _ => S.length - (intOf x).toNat)
          case atStart => exact ⟨0, Nat.zero_le _, rfl, World.ownsRow_nil _ _ _ _, Below.refl _ _⟩
          obtain ⟨i, hil, rfl, ho, hbr⟩ := hrel
          have hwr := hbr.size
          by_cases hlt : i < S.length
          · obtain ⟨ad, x, rfl, hbk, hx, y0, y1, y2, y3⟩ := r3.hld_ hlt rfl (Below.refl _ _) (Nat.le_refl _)
            have HY := Lib.hid (fun (W : World) (h : Below w3.heap.size w3 W) => keep4 h hbk y0 y1 y2 y3)
            obtain ⟨g0, g1, g2, g3⟩ := HY.out _ hbr
            have hi0 : (0 : Int) ≤ (i : Int) := by omega
            have hi1 : (i : Int) < (S.length : Int) := by omega
            have hxk := (HFI.out x (List.mem_of_getElem? hx)).1
            have hgr := rgroup_any x.key wr (by have := hldOk_key hxk; omega)
            have HFN := Lib.hid (filter_next (f := inG lo hi) hx)
            have HIX : Hid (inG lo hi x = (decide (lo ≤ (gOf x.key : Int)) && decide ((gOf x.key : Int) < hi))) := Lib.hid rfl
            obtain ⟨T, hT⟩ : ∃ T, T = (S.take i).filter (inG lo hi) := ⟨_, rfl⟩
            have hTl : T.length ≤ i := by rw [hT]; exact Nat.le_trans (List.length_filter_le _ _) (by simp; omega)
            have HT := Lib.hid hT
            rw [← hT] at ho
            clear hx hxk hT y0 y1 y2 y3
            generalize gOf x.key = G at *
            go_upto_region 42 with (go_at_call 13; go_must (refine hgr.mono ?_); rintro e w5 ⟨rfl, hb5⟩)
            have hb35 := hbr.trans (hb5.mono hwr)
            have hs5 := hb35.size
            have ho5 := own_up ho hb5
            obtain ⟨g0, g1, g2, g3⟩ := HY.out _ hb35
            have hby : (T.length + 1) * 40 ≤ 140737488355328 := by omega
            clear ho hgr hb5 hbr hwr
            by_cases c1 : lo ≤ (G : Int)
            · by_cases c2 : (G : Int) < hi
              · have HFQ : Hid ((S.take (i + 1)).filter (inG lo hi) = T ++ [x]) := Lib.hid (by rw [HFN.out, HIX.out, decide_eq_true c1, decide_eq_true c2, ← HT.out]; rfl)
                go_wp2_with (first
                  | (with_reducible show wpList _ _ _ (⟨some 226, _, _, _, _, _⟩ :: _) _ _; go_must (refine wpList_newg (.tmp 220) (.tmp 225) el_held rfl rfl ho5 rfl rfl rfl rfl rfl hby hs5 ?_); intro v6 w6 hown6 hb6 hg6 ha6))
                go_roundw
                case rel => exact ⟨i + 1, by omega, by go_num, by rw [HFQ.out, List.length_append, hldCells_snoc]; exact hown6, hb35.trans hb6⟩
                case measure => simp [intOf]; omega
              · have HFQ : Hid ((S.take (i + 1)).filter (inG lo hi) = T) := Lib.hid (by rw [HFN.out, HIX.out, decide_eq_true c1, decide_eq_false c2, ← HT.out]; simp)
                have HO5 := Lib.hid ho5
                clear ho5
                go_wp2_with fail
                go_roundw
                case rel => exact ⟨i + 1, by omega, by go_num, by rw [HFQ.out]; exact HO5.out, hb35⟩
                case measure => simp [intOf]; omega
            · have HFQ : Hid ((S.take (i + 1)).filter (inG lo hi) = T) := Lib.hid (by rw [HFN.out, HIX.out, decide_eq_false c1, ← HT.out]; simp)
              have HO5 := Lib.hid ho5
              clear ho5
              go_wp2_with fail
              go_roundw
              case rel => exact ⟨i + 1, by omega, by go_num, by rw [HFQ.out]; exact HO5.out, hb35⟩
              case measure => simp [intOf]; omega
          · obtain rfl : i = S.length := by omega
            rw [List.take_length, ← HF.out] at ho
            have hkr := hk3.up hbr
            have hbelr := hbel3.trans (hbr.mono hs3)
            obtain ⟨Af, cf, rfl, _, _, _, rf⟩ := own_form ho
            have hshr := HSH.out Af cf wr rf
            have RF := Lib.hid rf
            have hwr3 := hbelr.size
            clear ho hk3 hbel3 hbr r3 hwr HF HFI rf
            go_upto_region 47 with (go_at_call 6; go_must (refine hshr.mono ?_); rintro e w5 ⟨v5, rfl, ho5, hb5⟩)
            have hbel5 := hbelr.trans (hb5.mono hwr3)
            have hex := HEX.out _ (hkr.up hb5)
            obtain ⟨A5, c5, rfl, _, _, _, r5⟩ := own_form ho5
            have rf5 := (RF.out.below hb5 (Nat.le_refl _)).more hb5.size
            have hs5 := hbel5.size
            clear ho5 hkr hbelr hshr hb5 RF
            have RF := Lib.hid rf5
            clear rf5
            go_upto_region 48 with (go_at_call 20; go_must (refine hex.mono ?_); rintro e w6 ⟨v6, rfl, ho6, hb6⟩)
            obtain ⟨A6, c6, rfl, hc6, _, _, r6⟩ := own_form ho6
            have hbel6 := hbel5.trans (hb6.mono hs5)
            have hse6 := HSE0.out _ hbel6
            have r56 := (r5.below hb6 (Nat.le_refl _)).more hb6.size
            have RF6 := Lib.hid ((RF.out.below hb6 (Nat.le_refl _)).more hb6.size)
            clear ho6 hex hbel5 r5 RF hb6
            go_upto_region 49 with (go_at_call 9; go_must (refine hse6.mono ?_); rintro e w7 ⟨rfl, hb7⟩)
            have r7 := (r6.below hb7 (Nat.le_refl _)).more hb7.size
            have hbel7 := hbel6.trans (hb7.mono hbel6.size)
            have q1 := run_string_rd (P := Tryz.prog) (c := c6) Tryz.underlying23 Tryz.underlying5 Tryz.underlying9 r7
            have q2 := run_string_rd (P := Tryz.prog) (c := c5) Tryz.underlying23 Tryz.underlying5 Tryz.underlying9 (r56.below hb7 (Nat.le_refl _))
            have RF7 := Lib.hid ((RF6.out.below hb7 (Nat.le_refl _)).more hb7.size)
            have R7 := Lib.hid r7
            have HNW := Lib.hid (knew_any w7)
            clear r6 r56 r7 RF6 hse6 hbel6 hb7
            go_upto_region 51 with fail
            clear q1 q2
            go_upto_region 54 with (go_at_call 11; go_must (refine HNW.out.mono ?_); rintro e w8 ⟨rfl, hk8, hb8, hz8⟩)
            have r8 := (R7.out.below hb8 (Nat.le_refl _)).more hb8.size
            have rf8 := (RF7.out.below hb8 (Nat.le_refl _)).more hb8.size
            have hbel8 := hbel7.trans (hb8.mono hbel7.size)
            obtain ⟨g2, hg2⟩ : ∃ g2, g2 = w7.heap.size + 1 := ⟨_, rfl⟩
            obtain ⟨m2, hm2⟩ : ∃ m2, m2 = w7.heap.size := ⟨_, rfl⟩
            have hm2w : w.heap.size ≤ m2 := by have := hbel7.size; omega
            rw [← hg2, ← hm2] at hk8
            rw [← hg2]
            have him := HIM2.out _ _ A6 c6 w8 hk8 r8 hc6
            obtain ⟨D8, hD8, _⟩ := hk8.own
            have RFX := Lib.hid (fun W (h : w8.grownBy W (some m2)) => rf8.map_ hD8 h)
            have HAL := Lib.hid (fun W (h : KIn W g2 m2 F) => kall_any g2 m2 F W h (by omega))
            have hsz8 := hbel8.size
            clear hg2 hm2 hz8 hk8 hb8 hD8 rf8 r8 R7 RF7 HNW hbel7
            go_upto_region 55 with (go_at_call 14; go_must (refine him.mono ?_); rintro e w9 ⟨rfl, hk9, hg9⟩)
            have hbel9 := hbel8.grown hg9 hsz8 (fun j hj => by cases hj; exact hm2w)
            have rf9 := (RFX.out _ hg9).more hg9.size
            have hal9 := HAL.out _ hk9
            clear him hg9 hk9 hbel8 RFX HAL
            have RF9 := Lib.hid rf9
            clear rf9
            go_wp2_with (first
              | (go_at_call 16; go_must (refine hal9.mono ?_); rintro e w10 ⟨A10, c10, rfl, _, _, r10, hb10⟩; have hsa := HSA.out A10 Af c10 cf F w10 hFl r10 ((RF9.out.below hb10 (Nat.le_refl _)).more hb10.size))
              | (go_at_call 15; go_must (refine hsa.mono ?_); rintro e w11 ⟨rfl, hb11⟩))
            go_ret
            exact ⟨rfl, below_up (below_up hbel9 hb10) hb11⟩
end Go.Proofs.YtcfijljagohmlaaGreatDoor
