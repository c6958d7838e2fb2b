/- The walk of weirlaw2.TableMerges. -/
import Derived.Test.YtcfijljagohmlaaDoorWalkTMerge
import Derived.Test.YtcfijljagohmlaaDoorWalkRPut
import Derived.Test.YtcfijljagohmlaaDoorWalkRLive
import Derived.Test.YtcfijljagohmlaaDoorPlainTMerge
import Derived.Test.YtcfijljagohmlaaDoorWalkERef
import Derived.Test.YtcfijljagohmlaaDoorWalkESame
import Derived.Test.YtcfijljagohmlaaDoorWalkAs
import Derived.Deep.CutBlock
import Derived.Deep.CutRange
namespace Go.Proofs.YtcfijljagohmlaaDoor
open Go.RowKit

theorem el_slB : Elt Tryd.prog 64 23 (.slice none 0 0) 1 24 := ⟨Tryd.underlying64, by kernel_rfl, rfl, by omega, by omega⟩
/-- A table as it lies in memory. -/
structure Bl where
  b : List UInt8
  A : Option Addr
  c : Nat
def Bl.val (e : Bl) : Value := .slice e.A e.b.length e.c
structure OwnBB (w : World) (base : Nat) (v : Value) (es : List Bl) : Prop where
  row : w.ownsRow base 23 1 v es.length (es.map Bl.val)
  ok : ∀ e ∈ es, w.ownsRow base 5 1 e.val e.b.length (e.b.map bv)
theorem OwnBB.start (w : World) (base : Nat) : OwnBB w base (.slice none 0 0) [] := ⟨World.ownsRow_nil _ _ _ _, fun _ h => (List.not_mem_nil h).elim⟩
theorem OwnBB.up {w w' : World} {base : Nat} {v : Value} {es : List Bl} (h : OwnBB w base v es) (hb : Below w.heap.size w w') : OwnBB w' base v es :=
  ⟨own_up h.row hb, fun e he => own_up (h.ok e he) hb⟩
theorem OwnBB.push {w w' : World} {base : Nat} {v v' : Value} {es : List Bl} {x : Bl} (h : OwnBB w base v es) (hx : w.ownsRow base 5 1 x.val x.b.length (x.b.map bv)) (hrow : w'.ownsRow base 23 1 v' (es.length + 1) (es.map Bl.val ++ [x.val])) (hg : w.grownBy w' v.ownBlock) : OwnBB w' base v' (es ++ [x]) := by
  refine ⟨by rw [List.length_append, List.map_append]; exact hrow, fun e he => ?_⟩
  rcases List.mem_append.1 he with he | he
  · exact own_far (h.ok e he) hg (own_ne (h.ok e he) h.row (by decide))
  · rw [List.mem_singleton.1 he]
    exact own_far hx hg (own_ne hx h.row (by decide))
theorem OwnBB.rd {w : World} {base : Nat} {v : Value} {es : List Bl} (h : OwnBB w base v es) : ∃ A c, v = .slice A es.length c ∧ es.length ≤ c ∧ c ≤ maxLen ∧ RdBB w w.heap.size A (es.map Bl.b) := by
  obtain ⟨A, c, e, h1, h2, _, h3⟩ := own_form h.row
  refine ⟨A, c, e, h1, h2, fun hn => ?_⟩
  obtain ⟨ad, e2, hb, hc⟩ := h3.2 (by simpa using hn)
  refine ⟨ad, e2, hb, fun i l hl => ?_⟩
  rw [List.getElem?_map, Option.map_eq_some_iff] at hl
  obtain ⟨x, hx, rfl⟩ := hl
  obtain ⟨A', c', e', k1, k2, _, k3⟩ := own_form (h.ok x (List.mem_of_getElem? hx))
  unfold Bl.val at e'
  injection e' with e3 _ e5
  rw [← e3] at k3
  rw [← e5] at k1 k2
  exact ⟨x.A, x.c, hc i x.val (by rw [List.getElem?_map, hx]; rfl), k1, k2, k3⟩
/-- The state of the outer loop. -/
structure TS (w wr : World) (ls : List (List Ent)) (i k : Nat) (o a : Value) (bs : List Bl) (L : List Ent) : Prop where
  tab : OwnBB wr w.heap.size o bs
  all_ : wr.ownsRow w.heap.size 57 3 a L.length (entCells L)
  isL : L = mixL (entsTo ls i k)
  few : L.length ≤ 400 * i + k
  bel : Below w.heap.size w wr
theorem tabB_le {l : List Ent} (hE : entsE l = 0) : (tabB l).length ≤ 200000 := by
  rw [tabB_good hE]
  have h1 := tabIn_le hE
  have h2 := numB_le ((tabIn l).length : Int)
  simp only [sealB, List.length_append]
  have h3 : (sum4 (sumB (tabIn l))).length = 4 := rfl
  omega
set_option maxRecDepth 100000 in
set_option maxHeartbeats 4000000 in
theorem lawtmerges_any (A : Option Addr) (c n : Nat) (ls : List (List Ent)) (dead : Bool) (w : World) (hg : HasErr w) (hr : RdEE w w.heap.size A ls) (hln : ls.length = n) (hn : n ≤ 140737488355328) (hok : ∀ l ∈ ls, l.length ≤ 140737488355328 ∧ ∀ r ∈ l, r.Ok) :
    Calls Tryd.prog 6 #[.slice A n c, .bool dead] w fun e w' => e = .returned (.bool true) ∧ Below w.heap.size w w' := by
  have HLN := Lib.hid hln
  have HOK := Lib.hid hok
  clear hln hok
  go_enter Tryd.func6, Tryd.ntmps6
  go_wp2_with fail
  go_loopw [5, 6, 7] (fun o a x wr => ∃ (i : Nat) (bs : List Bl) (L : List Ent), i ≤ n ∧ i ≤ 8 ∧ x = .int .i64 i ∧ bs.length = i ∧ TS w wr ls i 0 o a bs L ∧ Hid (bs.map Bl.b = (ls.take i).map tabB) ∧ Hid (∀ l ∈ ls.take i, entsE l = 0)) (fun _ _ x _ => n - (intOf x).toNat)
  case atStart => exact ⟨0, [], [], Nat.zero_le _, by omega, rfl, rfl, ⟨OwnBB.start _ _, World.ownsRow_nil _ _ _ _, by rw [entsTo_zero]; rfl, Nat.zero_le _, Below.refl _ _⟩, Lib.hid rfl, Lib.hid (fun l hl => by cases hl)⟩
  obtain ⟨i, bs, L, hi, hi8, rfl, hbs, hT, HB, HS⟩ := hrel
  have hbel := hT.bel
  have hws := hbel.size
  by_cases hlt : i < n ∧ i < 8
  · obtain ⟨hlt, hlt8⟩ := hlt
    obtain ⟨ad, rfl, hab, hcell⟩ := hr (by rw [HLN.out]; omega)
    obtain ⟨l, hl⟩ : ∃ l, ls[i]? = some l := ⟨_, List.getElem?_eq_getElem (by rw [HLN.out]; exact hlt)⟩
    obtain ⟨A1, c1, g0w, hlc, hcm, hrd⟩ := hcell i l hl
    have hbw : (ad.add i).block < w.heap.size := by rw [block_add]; exact hab
    have g0 := (hbel.cell hbw).trans g0w
    have HL := Lib.hid hl
    have hlok := HOK.out l (List.mem_of_getElem? hl)
    have HBU := Lib.hid (fun W (h : Below w.heap.size w W) => build_any A1 c1 w.heap.size l W (hrd.below h (Nat.le_refl _)) h.size hlok.2 hlok.1)
    have HEN := Lib.hid (fun W (h : Below w.heap.size w W) => entries_any A1 c1 w.heap.size l W (hrd.below h (Nat.le_refl _)) hlok.2 hlok.1)
    obtain ⟨m, hm⟩ : ∃ m, m = l.length := ⟨_, rfl⟩
    have Hm := Lib.hid hm
    rw [← hm] at g0 hlc hrd HBU HEN
    clear hl hcell hm
    have hi0 : (0 : Int) ≤ (i : Int) := by omega
    have hi1 : (i : Int) < (n : Int) := by omega
    have hi2 : (i : Int) < 8 := by omega
    by_cases hE : entsE l = 0
    · have hbu := HBU.out _ hbel
      rw [hE, errV_zero] at hbu
      have HE := Lib.hid hE
      have hm4 : m ≤ 400 := by rw [Hm.out]; exact (entsE_all hE).1
      have HKK := Lib.hid hlok.2
      clear hE hlok
      have hrowT := hT.tab.row
      have hby : (bs.length + 1) * 24 ≤ 140737488355328 := by rw [hbs]; omega
      have HTT := Lib.hid hT
      clear hT HBU HEN
      go_upto_region 11 with (first
        | (go_at_call 22; go_must (refine hbu.mono ?_); rintro e w2 ⟨v2, rfl, ho2, hb2⟩; obtain ⟨A2, c2, rfl, _, _, _, _⟩ := own_form ho2; have hbel2 := hbel.trans (hb2.mono hws); have hs2 := hbel2.size; have hrow2 := own_up hrowT hb2)
        | (with_reducible show wpList _ _ _ (⟨some 46, _, _, _, _, _⟩ :: _) _ _; go_must (refine wpList_newg (.tmp 43) (.tmp 45) el_slB rfl rfl hrow2 rfl rfl rfl rfl rfl hby hs2 ?_); intro v4 w4 hown4 hb4 hg4 ha4))
      have htab4 := (HTT.out.tab.up hb2).push (x := ⟨tabB l, A2, c2⟩) (own_base ho2 hws) hown4 hg4
      have hall2 := own_up HTT.out.all_ hb2
      have hall4 := own_far hall2 hg4 (own_ne hall2 (HTT.out.tab.up hb2).row (by decide))
      have hbel4 := hbel2.trans hb4
      have hTS4 : TS w w4 ls i 0 v4 _ (bs ++ [⟨tabB l, A2, c2⟩]) L := ⟨htab4, hall4, HTT.out.isL, HTT.out.few, hbel4⟩
      clear htab4 hall2 hall4 hown4 ho2 hrow2 hrowT hbu
      go_loopw [6, 10] (fun a x wz => ∃ (k : Nat) (L : List Ent), k ≤ m ∧ x = .int .i64 k ∧ TS w wz ls i k v4 a (bs ++ [⟨tabB l, A2, c2⟩]) L) (fun _ x _ => m - (intOf x).toNat)
      case atStart => exact ⟨0, L, Nat.zero_le _, rfl, hTS4⟩
      clear hTS4 hbel4 hbel2
      obtain ⟨k, L2, hk, rfl, hT2⟩ := hrel
      have hbz := hT2.bel
      have hwz := hbz.size
      have y0 := (hbz.cell hbw).trans g0w
      rw [← Hm.out] at y0
      by_cases hkm : k < m
      · obtain ⟨ad1, x, rfl, _, hx, x0, x1, x2⟩ := hrd.ent_ hkm Hm.out.symm hbz (Nat.le_refl _)
        have HN := Lib.hid (entsTo_next HL.out hx)
        obtain ⟨Aa, ca, ha, _, _, _, hra⟩ := own_form hT2.all_
        have hfew := hT2.few
        have hput := rput_any Aa ca wr.heap.size L2.length L2 x wr hra rfl (Nat.le_refl _) (by omega)
        unfold Ent.val at hput
        have HT2 := Lib.hid hT2
        have hk0 : (0 : Int) ≤ (k : Int) := by omega
        have hk1 : (k : Int) < (m : Int) := by omega
        clear hx hra hT2
        subst ha
        go_wp2_with (first
          | (go_at_call 28; go_must (refine hput.mono ?_); rintro e w5 ⟨v5, rfl, ho5, hb5⟩))
        have hTS5 : TS w w5 ls i (k + 1) v4 v5 (bs ++ [⟨tabB l, A2, c2⟩]) (entPut x L2) := ⟨HT2.out.tab.up hb5, own_base ho5 hwz, by rw [HN.out, mix_app, ← HT2.out.isL], by have := entPut_len (e := x) L2; omega, hbz.trans (hb5.mono hwz)⟩
        clear ho5
        go_roundw
        case rel => exact ⟨k + 1, _, Nat.succ_le_of_lt hkm, by go_num, hTS5⟩
        case measure => simp [intOf]; omega
      · obtain rfl : k = m := by omega
        have hline := entsTo_line HL.out
        rw [← Hm.out] at hline
        have hTS6 : TS w wr ls (i + 1) 0 v4 _ (bs ++ [⟨tabB l, A2, c2⟩]) L2 := ⟨hT2.tab, hT2.all_, by rw [← hline]; exact hT2.isL, by have := hT2.few; omega, hT2.bel⟩
        have HTS6 := Lib.hid hTS6
        have HB2 : Hid ((bs ++ [(⟨tabB l, A2, c2⟩ : Bl)]).map Bl.b = (ls.take (i + 1)).map tabB) := Lib.hid (by rw [List.take_add_one, HL.out, List.map_append, List.map_append, HB.out]; rfl)
        have HS2 : Hid (∀ l ∈ ls.take (i + 1), entsE l = 0) := Lib.hid (fun l' hl' => by
          rw [List.take_add_one, HL.out] at hl'
          rcases List.mem_append.1 hl' with h | h
          · exact HS.out l' h
          · have h2 : l' = l := by simpa using h
            rw [h2]; exact HE.out)
        clear hTS6 hT2
        go_wp2_with fail
        go_roundw
        case rel => exact ⟨i + 1, _, L2, by omega, by omega, by go_num, by rw [List.length_append, hbs]; rfl, HTS6.out, HB2, HS2⟩
        case measure => simp [intOf]; omega
    · have hbu := HBU.out _ hbel
      have hen := fun W h => HEN.out W h
      have HE0 : Hid (errV (entsE l) = .iface 75 (.int .i64 (entsE l : Nat))) := Lib.hid (by rw [errV, if_neg hE])
      generalize entsE l = E at *
      have hE2 : ¬ ((E : Int) = 0) := by omega
      go_wp2_with (first
        | (go_at_call 22; go_must (refine hbu.mono ?_); rintro e w2 ⟨v2, rfl, _, hb2⟩; rw [HE0.out]; have hbel2 := hbel.trans (hb2.mono hws); have g2 := (hb2.cell (Nat.lt_of_lt_of_le hbw hws)).trans g0)
        | (go_at_call 21; go_must (refine (hen _ hbel2).mono ?_); rintro e w3 ⟨rfl, q3, rfl⟩; have hbel3 := below_drewN hbel2 q3))
      go_ret
      exact ⟨by simp; omega, hbel3⟩
  · have hex : ¬ i < n ∨ ¬ i < 8 := by omega
    have hbs8 : bs.length ≤ 8 := by omega
    have HBS8 := Lib.hid hbs8
    subst hbs
    have hfl : entsTo ls bs.length 0 = (ls.take bs.length).flatten := by simp [entsTo]
    have hisL := hT.isL
    rw [hfl] at hisL
    have HLs : Hid (readsL (bs.map Bl.b) = ls.take bs.length ∧ (bs.map Bl.b).all (fun b => (readTab b).isSome) = true) := Lib.hid (by rw [HB.out]; exact reads_tab HS.out)
    have HMO : Hid (mixO dead (ls.take bs.length) = L.filter (wantE dead)) := Lib.hid (by rw [mixO, ← hisL])
    have HEN : Hid (entsE (mixO dead (ls.take bs.length)) = if 400 < (mixO dead (ls.take bs.length)).length then 4 else 0) := Lib.hid (by rw [mixO]; exact mix_filter_ents HS.out)
    have HTL : Hid (∀ b ∈ bs.map Bl.b, b.length ≤ 140737488355328) := Lib.hid (fun b hb => by
      rw [HB.out] at hb
      obtain ⟨l, hl, rfl⟩ := List.mem_map.1 hb
      have := tabB_le (HS.out l hl)
      omega)
    have hLf := hT.few
    have HOKL : Hid (∀ r ∈ mixO dead (ls.take bs.length), r.Ok) := Lib.hid (fun r hr => by
      obtain ⟨l, hl, he⟩ := mixO_mem hr
      exact (HOK.out l (List.mem_of_mem_take hl)).2 r he)
    obtain ⟨MO, hMO⟩ : ∃ MO, MO = mixO dead (ls.take bs.length) := ⟨_, rfl⟩
    rw [← hMO] at HMO HEN HOKL
    have HTE : Hid (tmE (bs.map Bl.b) dead = entsE MO) := Lib.hid (by rw [tmE, if_pos HLs.out.2, HLs.out.1, hMO])
    have HTB : Hid (tmB (bs.map Bl.b) dead = tabB MO) := Lib.hid (by rw [tmB, if_pos HLs.out.2, HLs.out.1, hMO])
    have hMl : MO.length ≤ 3600 := by rw [HMO.out]; exact Nat.le_trans (List.length_filter_le _ _) (by omega)
    clear hMO hfl hisL
    obtain ⟨At, ct, hot, _, _, _⟩ := hT.tab.rd
    subst hot
    have HT := Lib.hid hT
    clear hT
    have hex1 : ¬ ((bs.length : Int) < (n : Int)) ∨ ¬ ((bs.length : Int) < 8) := by omega
    by_cases hin : (bs.length : Int) < (n : Int)
    · have hi8n : ¬ ((bs.length : Int) < 8) := by omega
      cases dead with
      | true =>
        have HML : Hid (MO = L) := Lib.hid (by rw [HMO.out]; exact List.filter_eq_self.2 fun e _ => rfl)
        go_upto_region 17 with fail
        have hall := HT.out.all_
        rw [← HML.out] at hall
        have htab := HT.out.tab
        have hbel7 := hbel
        have hsz7 := hbel7.size
        obtain ⟨Am, cm, ham, _, _, _, hrm⟩ := own_form hall
        subst ham
        obtain ⟨At2, ct2, hot2, _, _, hbb⟩ := htab.rd
        injection hot2 with e1 _ e3
        subst e1 e3
        have htm := tmerge_any At ct wr.heap.size bs.length (bs.map Bl.b) true wr hbb (List.length_map _) (Nat.le_refl _) (Nat.le_trans HBS8.out (by decide)) HTL.out
        rw [HTE.out, HTB.out] at htm
        clear hall htab hbb
        clear hex hex1 hbs8
        by_cases h4 : 400 < MO.length
        · have hE4 : entsE MO = 4 := by rw [HEN.out, if_pos h4]
          rw [hE4] at htm
          have h4i : (400 : Int) < (MO.length : Int) := Int.ofNat_lt.2 h4
          go_wp2_with fail
          refine htm.mono ?_
          rintro e w8 ⟨v8, rfl, _, hb8⟩
          have hbel8 := hbel7.trans (hb8.mono hsz7)
          go_wp2_with fail
          refine (same_err 4 4 _ (hg.below hbel8 hg.2)).mono ?_
          rintro e w9 ⟨rfl, hb9⟩
          go_wp2_with fail
          go_ret
          exact ⟨rfl, below_up hbel8 hb9⟩
        · have hE0 : entsE MO = 0 := by rw [HEN.out, if_neg h4]
          rw [hE0, errV_zero] at htm
          have h4i : ¬ ((400 : Int) < (MO.length : Int)) := fun h => h4 (Int.ofNat_lt.1 h)
          have htr := tab_read hE0
          have htl := tabB_le hE0
          go_wp2_with fail
          refine htm.mono ?_
          rintro e w8 ⟨v8, rfl, ho8, hb8⟩
          have hbel8 := hbel7.trans (hb8.mono hsz7)
          obtain ⟨A8, c8, h8v, k81, _, _, k83⟩ := own_form ho8
          subst h8v
          have hse := same_err 0 0 w8 (hg.below hbel8 hg.2)
          rw [errV_zero] at hse
          go_wp2_with fail
          refine hse.mono ?_
          rintro e w9 ⟨rfl, hb9⟩
          have hbel9 := below_up hbel8 hb9
          have hrt := readtab_any A8 c8 w8.heap.size (tabB MO) w9 (k83.below hb9 (Nat.le_refl _)) hb9.size (Nat.le_trans htl (by decide)) k81
          rw [rtE_some htr, htr, Option.getD_some, errV_zero] at hrt
          go_wp2_with fail
          refine hrt.mono ?_
          rintro e w10 ⟨v10, rfl, ho10, hb10⟩
          obtain ⟨A10, c10, h10v, _, _, _, k10⟩ := own_form ho10
          subst h10v
          have hbel10 := below_up hbel9 hb10
          have hrm10 : Rd w10 w10.heap.size 3 Am MO.length (entCells MO) := by
            have h89 := hb8.trans (hb9.mono hb8.size)
            have h810 := h89.trans (hb10.mono h89.size)
            exact (hrm.below h810 (Nat.le_refl _)).more h810.size
          have hsm := ents_same A10 Am c10 cm w10.heap.size MO w10 k10 hrm10 (Nat.le_trans hMl (by decide))
          go_wp2_with fail
          refine hsm.mono ?_
          rintro e w11 ⟨rfl, q11, rfl⟩
          go_wp2_with fail
          go_ret
          exact ⟨rfl, below_drewN hbel10 q11⟩
      | false =>
        have HML : Hid (MO = liveE L) := Lib.hid (by rw [HMO.out]; rfl)
        obtain ⟨Aa, ca, ha, _, _, _, hra⟩ := own_form HT.out.all_
        have hlv := rlive_any Aa ca wr.heap.size L.length L wr hra rfl (Nat.le_refl _) (by omega)
        subst ha
        rw [← HML.out] at hlv
        go_upto_region 17 with (first
          | (go_at_call 29; go_must (refine hlv.mono ?_); rintro e w7 ⟨v7, rfl, ho7, hb7⟩))
        have hall := own_base ho7 hws
        have htab := HT.out.tab.up hb7
        have hbel7 := hbel.trans (hb7.mono hws)
        have hsz7 := hbel7.size
        obtain ⟨Am, cm, ham, _, _, _, hrm⟩ := own_form hall
        subst ham
        obtain ⟨At2, ct2, hot2, _, _, hbb⟩ := htab.rd
        injection hot2 with e1 _ e3
        subst e1 e3
        have htm := tmerge_any At ct w7.heap.size bs.length (bs.map Bl.b) false w7 hbb (List.length_map _) (Nat.le_refl _) (Nat.le_trans HBS8.out (by decide)) HTL.out
        rw [HTE.out, HTB.out] at htm
        clear hall htab hbb
        clear hex hex1 hbs8
        by_cases h4 : 400 < MO.length
        · have hE4 : entsE MO = 4 := by rw [HEN.out, if_pos h4]
          rw [hE4] at htm
          have h4i : (400 : Int) < (MO.length : Int) := Int.ofNat_lt.2 h4
          go_wp2_with fail
          refine htm.mono ?_
          rintro e w8 ⟨v8, rfl, _, hb8⟩
          have hbel8 := hbel7.trans (hb8.mono hsz7)
          go_wp2_with fail
          refine (same_err 4 4 _ (hg.below hbel8 hg.2)).mono ?_
          rintro e w9 ⟨rfl, hb9⟩
          go_wp2_with fail
          go_ret
          exact ⟨rfl, below_up hbel8 hb9⟩
        · have hE0 : entsE MO = 0 := by rw [HEN.out, if_neg h4]
          rw [hE0, errV_zero] at htm
          have h4i : ¬ ((400 : Int) < (MO.length : Int)) := fun h => h4 (Int.ofNat_lt.1 h)
          have htr := tab_read hE0
          have htl := tabB_le hE0
          go_wp2_with fail
          refine htm.mono ?_
          rintro e w8 ⟨v8, rfl, ho8, hb8⟩
          have hbel8 := hbel7.trans (hb8.mono hsz7)
          obtain ⟨A8, c8, h8v, k81, _, _, k83⟩ := own_form ho8
          subst h8v
          have hse := same_err 0 0 w8 (hg.below hbel8 hg.2)
          rw [errV_zero] at hse
          go_wp2_with fail
          refine hse.mono ?_
          rintro e w9 ⟨rfl, hb9⟩
          have hbel9 := below_up hbel8 hb9
          have hrt := readtab_any A8 c8 w8.heap.size (tabB MO) w9 (k83.below hb9 (Nat.le_refl _)) hb9.size (Nat.le_trans htl (by decide)) k81
          rw [rtE_some htr, htr, Option.getD_some, errV_zero] at hrt
          go_wp2_with fail
          refine hrt.mono ?_
          rintro e w10 ⟨v10, rfl, ho10, hb10⟩
          obtain ⟨A10, c10, h10v, _, _, _, k10⟩ := own_form ho10
          subst h10v
          have hbel10 := below_up hbel9 hb10
          have hrm10 : Rd w10 w10.heap.size 3 Am MO.length (entCells MO) := by
            have h89 := hb8.trans (hb9.mono hb8.size)
            have h810 := h89.trans (hb10.mono h89.size)
            exact (hrm.below h810 (Nat.le_refl _)).more h810.size
          have hsm := ents_same A10 Am c10 cm w10.heap.size MO w10 k10 hrm10 (Nat.le_trans hMl (by decide))
          go_wp2_with fail
          refine hsm.mono ?_
          rintro e w11 ⟨rfl, q11, rfl⟩
          go_wp2_with fail
          go_ret
          exact ⟨rfl, below_drewN hbel10 q11⟩
    · 
      cases dead with
      | true =>
        have HML : Hid (MO = L) := Lib.hid (by rw [HMO.out]; exact List.filter_eq_self.2 fun e _ => rfl)
        go_upto_region 17 with fail
        have hall := HT.out.all_
        rw [← HML.out] at hall
        have htab := HT.out.tab
        have hbel7 := hbel
        have hsz7 := hbel7.size
        obtain ⟨Am, cm, ham, _, _, _, hrm⟩ := own_form hall
        subst ham
        obtain ⟨At2, ct2, hot2, _, _, hbb⟩ := htab.rd
        injection hot2 with e1 _ e3
        subst e1 e3
        have htm := tmerge_any At ct wr.heap.size bs.length (bs.map Bl.b) true wr hbb (List.length_map _) (Nat.le_refl _) (Nat.le_trans HBS8.out (by decide)) HTL.out
        rw [HTE.out, HTB.out] at htm
        clear hall htab hbb
        clear hex hex1 hbs8
        by_cases h4 : 400 < MO.length
        · have hE4 : entsE MO = 4 := by rw [HEN.out, if_pos h4]
          rw [hE4] at htm
          have h4i : (400 : Int) < (MO.length : Int) := Int.ofNat_lt.2 h4
          go_wp2_with fail
          refine htm.mono ?_
          rintro e w8 ⟨v8, rfl, _, hb8⟩
          have hbel8 := hbel7.trans (hb8.mono hsz7)
          go_wp2_with fail
          refine (same_err 4 4 _ (hg.below hbel8 hg.2)).mono ?_
          rintro e w9 ⟨rfl, hb9⟩
          go_wp2_with fail
          go_ret
          exact ⟨rfl, below_up hbel8 hb9⟩
        · have hE0 : entsE MO = 0 := by rw [HEN.out, if_neg h4]
          rw [hE0, errV_zero] at htm
          have h4i : ¬ ((400 : Int) < (MO.length : Int)) := fun h => h4 (Int.ofNat_lt.1 h)
          have htr := tab_read hE0
          have htl := tabB_le hE0
          go_wp2_with fail
          refine htm.mono ?_
          rintro e w8 ⟨v8, rfl, ho8, hb8⟩
          have hbel8 := hbel7.trans (hb8.mono hsz7)
          obtain ⟨A8, c8, h8v, k81, _, _, k83⟩ := own_form ho8
          subst h8v
          have hse := same_err 0 0 w8 (hg.below hbel8 hg.2)
          rw [errV_zero] at hse
          go_wp2_with fail
          refine hse.mono ?_
          rintro e w9 ⟨rfl, hb9⟩
          have hbel9 := below_up hbel8 hb9
          have hrt := readtab_any A8 c8 w8.heap.size (tabB MO) w9 (k83.below hb9 (Nat.le_refl _)) hb9.size (Nat.le_trans htl (by decide)) k81
          rw [rtE_some htr, htr, Option.getD_some, errV_zero] at hrt
          go_wp2_with fail
          refine hrt.mono ?_
          rintro e w10 ⟨v10, rfl, ho10, hb10⟩
          obtain ⟨A10, c10, h10v, _, _, _, k10⟩ := own_form ho10
          subst h10v
          have hbel10 := below_up hbel9 hb10
          have hrm10 : Rd w10 w10.heap.size 3 Am MO.length (entCells MO) := by
            have h89 := hb8.trans (hb9.mono hb8.size)
            have h810 := h89.trans (hb10.mono h89.size)
            exact (hrm.below h810 (Nat.le_refl _)).more h810.size
          have hsm := ents_same A10 Am c10 cm w10.heap.size MO w10 k10 hrm10 (Nat.le_trans hMl (by decide))
          go_wp2_with fail
          refine hsm.mono ?_
          rintro e w11 ⟨rfl, q11, rfl⟩
          go_wp2_with fail
          go_ret
          exact ⟨rfl, below_drewN hbel10 q11⟩
      | false =>
        have HML : Hid (MO = liveE L) := Lib.hid (by rw [HMO.out]; rfl)
        obtain ⟨Aa, ca, ha, _, _, _, hra⟩ := own_form HT.out.all_
        have hlv := rlive_any Aa ca wr.heap.size L.length L wr hra rfl (Nat.le_refl _) (by omega)
        subst ha
        rw [← HML.out] at hlv
        go_upto_region 17 with (first
          | (go_at_call 29; go_must (refine hlv.mono ?_); rintro e w7 ⟨v7, rfl, ho7, hb7⟩))
        have hall := own_base ho7 hws
        have htab := HT.out.tab.up hb7
        have hbel7 := hbel.trans (hb7.mono hws)
        have hsz7 := hbel7.size
        obtain ⟨Am, cm, ham, _, _, _, hrm⟩ := own_form hall
        subst ham
        obtain ⟨At2, ct2, hot2, _, _, hbb⟩ := htab.rd
        injection hot2 with e1 _ e3
        subst e1 e3
        have htm := tmerge_any At ct w7.heap.size bs.length (bs.map Bl.b) false w7 hbb (List.length_map _) (Nat.le_refl _) (Nat.le_trans HBS8.out (by decide)) HTL.out
        rw [HTE.out, HTB.out] at htm
        clear hall htab hbb
        clear hex hex1 hbs8
        by_cases h4 : 400 < MO.length
        · have hE4 : entsE MO = 4 := by rw [HEN.out, if_pos h4]
          rw [hE4] at htm
          have h4i : (400 : Int) < (MO.length : Int) := Int.ofNat_lt.2 h4
          go_wp2_with fail
          refine htm.mono ?_
          rintro e w8 ⟨v8, rfl, _, hb8⟩
          have hbel8 := hbel7.trans (hb8.mono hsz7)
          go_wp2_with fail
          refine (same_err 4 4 _ (hg.below hbel8 hg.2)).mono ?_
          rintro e w9 ⟨rfl, hb9⟩
          go_wp2_with fail
          go_ret
          exact ⟨rfl, below_up hbel8 hb9⟩
        · have hE0 : entsE MO = 0 := by rw [HEN.out, if_neg h4]
          rw [hE0, errV_zero] at htm
          have h4i : ¬ ((400 : Int) < (MO.length : Int)) := fun h => h4 (Int.ofNat_lt.1 h)
          have htr := tab_read hE0
          have htl := tabB_le hE0
          go_wp2_with fail
          refine htm.mono ?_
          rintro e w8 ⟨v8, rfl, ho8, hb8⟩
          have hbel8 := hbel7.trans (hb8.mono hsz7)
          obtain ⟨A8, c8, h8v, k81, _, _, k83⟩ := own_form ho8
          subst h8v
          have hse := same_err 0 0 w8 (hg.below hbel8 hg.2)
          rw [errV_zero] at hse
          go_wp2_with fail
          refine hse.mono ?_
          rintro e w9 ⟨rfl, hb9⟩
          have hbel9 := below_up hbel8 hb9
          have hrt := readtab_any A8 c8 w8.heap.size (tabB MO) w9 (k83.below hb9 (Nat.le_refl _)) hb9.size (Nat.le_trans htl (by decide)) k81
          rw [rtE_some htr, htr, Option.getD_some, errV_zero] at hrt
          go_wp2_with fail
          refine hrt.mono ?_
          rintro e w10 ⟨v10, rfl, ho10, hb10⟩
          obtain ⟨A10, c10, h10v, _, _, _, k10⟩ := own_form ho10
          subst h10v
          have hbel10 := below_up hbel9 hb10
          have hrm10 : Rd w10 w10.heap.size 3 Am MO.length (entCells MO) := by
            have h89 := hb8.trans (hb9.mono hb8.size)
            have h810 := h89.trans (hb10.mono h89.size)
            exact (hrm.below h810 (Nat.le_refl _)).more h810.size
          have hsm := ents_same A10 Am c10 cm w10.heap.size MO w10 k10 hrm10 (Nat.le_trans hMl (by decide))
          go_wp2_with fail
          refine hsm.mono ?_
          rintro e w11 ⟨rfl, q11, rfl⟩
          go_wp2_with fail
          go_ret
          exact ⟨rfl, below_drewN hbel10 q11⟩
end Go.Proofs.YtcfijljagohmlaaDoor
