/- The walk of weirlaw2.TableGarbles. -/
import Derived.Test.YtcfijljagohmlaaDoorWalkGarb
import Derived.Test.YtcfijljagohmlaaDoorWalkAs
import Derived.Laws.OwnMore
import Derived.Deep.CutBlock
import Derived.Deep.CutRange
namespace Go.Proofs.YtcfijljagohmlaaDoor
open Go.RowKit

theorem bl_one (e : Bl) : ∀ u ∈ [e.val], u.oneCell' = true := by
  intro u hu
  rw [List.mem_singleton.1 hu]; rfl
theorem rdbb_of {w : World} {base k : Nat} {v : Value} {es : List Bl} (hk : es.length = k) (hrow : w.ownsRow base 23 1 v es.length (es.map Bl.val)) (hok : ∀ e ∈ es, e.b.length ≤ e.c ∧ e.c ≤ maxLen ∧ Rd w w.heap.size 1 e.A e.b.length (e.b.map bv)) :
    ∃ A c, v = .slice A k c ∧ k ≤ c ∧ c ≤ maxLen ∧ RdBB w w.heap.size A (es.map Bl.b) := by
  subst hk
  obtain ⟨A, c, e, h1, h2, _, h3⟩ := own_form hrow
  refine ⟨A, c, e, h1, h2, fun hn => ?_⟩
  obtain ⟨ad, e2, hb, hc⟩ := h3.2 (by simpa using hn)
  refine ⟨ad, e2, hb, fun i l hl => ?_⟩
  rw [List.getElem?_map, Option.map_eq_some_iff] at hl
  obtain ⟨x, hx, rfl⟩ := hl
  obtain ⟨k1, k2, k3⟩ := hok x (List.mem_of_getElem? hx)
  exact ⟨x.A, x.c, hc i x.val (by rw [List.getElem?_map, hx]; rfl), k1, k2, k3⟩
theorem rdbb_one {W : World} {B : Nat} {A : Option Addr} {c : Nat} {b : List UInt8} (hr : Rd W B 1 A b.length (b.map bv)) (hB : B ≤ W.heap.size) (hlc : b.length ≤ c) (hcm : c ≤ maxLen) :
    RdBB (W.alloc (.cells #[.slice A b.length c] 23)) (W.heap.size + 1) (some ⟨W.heap.size, 0, none⟩) [b] := by
  intro _
  refine ⟨_, rfl, by simp, fun i l hl => ?_⟩
  rcases i with _ | i
  · obtain rfl : b = l := by simpa using hl
    exact ⟨A, c, (Blk.new W 23 #[.slice A b.length c]).cell 0, hlc, hcm, (hr.alloc hB _).more (by omega)⟩
  · simp at hl
set_option maxRecDepth 100000 in
set_option maxHeartbeats 8000000 in
theorem lawgarbles_any (A A1 : Option Addr) (c c1 n n1 : Nat) (b : List UInt8) (l : List Ent) (ix : Int) (tb : UInt8) (w : World) (hg : HasErr w) (hr : Rd w w.heap.size 1 A n (b.map bv)) (hbn : b.length = n) (hn : n ≤ 140737488355328) (hnc : n ≤ c) (hcm : c ≤ maxLen)
    (hr1 : Rd w w.heap.size 3 A1 n1 (entCells l)) (hln : l.length = n1) (hn1 : n1 ≤ 140737488355328) (hok : ∀ r ∈ l, r.Ok) :
    Calls Tryd.prog 7 #[.slice A n c, .slice A1 n1 c1, .int .i64 ix, .int .u8 tb.toNat] w fun e w' => e = .returned (.bool true) ∧ Below w.heap.size w w' := by
  have HBN := Lib.hid hbn
  have HLN := Lib.hid hln
  have HOK := Lib.hid hok
  have HG := Lib.hid hg
  have HX := Lib.hid eX_got
  have hrx := rd_new w #[.string ⟨#[97]⟩, .string ⟨#[98]⟩, .bool false] 57 (size := 3) (m := 1) rfl
  have hbx := (Below.refl w.heap.size w).alloc (Nat.le_refl _) (.cells #[.string ⟨#[97]⟩, .string ⟨#[98]⟩, .bool false] 57)
  have hbu := build_any (some ⟨w.heap.size, 0, none⟩) 1 (w.heap.size + 1) [eX] _ hrx (by simp) (fun r hr => by rw [List.mem_singleton.1 hr]; exact ⟨by decide, by decide⟩) (by simp)
  rw [eX_ok, errV_zero] at hbu
  have htx := tab_read eX_ok
  have htl := tabB_le' eX_ok
  have HGE := Lib.hid (fun A c W (h : Rd W W.heap.size 1 A (tabB [eX]).length ((tabB [eX]).map bv)) (hc : (tabB [eX]).length ≤ c) => get_any A c W.heap.size (tabB [eX]) [eX] ⟨#[97]⟩ W h (Nat.le_refl _) (Nat.le_trans htl (by decide)) hc htx (by decide) (rise_keysG eX_ok).1)
  have HBU := Lib.hid (fun W (h : Below w.heap.size w W) => build_any A1 c1 w.heap.size l W (by rw [HLN.out]; exact hr1.below h (Nat.le_refl _)) h.size hok (by rw [HLN.out]; exact hn1))
  rw [HLN.out] at HBU
  clear hbn hln hok hg hrx htx htl
  obtain ⟨T, hT⟩ : ∃ T, T = tabB [eX] := ⟨_, rfl⟩
  rw [← hT] at hbu HGE
  clear hT
  generalize T.length = m at *
  go_enter Tryd.func7, Tryd.ntmps7
  go_upto_region 6 with (first
    | (go_at_call 22; go_must (refine hbu.mono ?_); rintro e w1 ⟨v1, rfl, ho1, hb1⟩; obtain ⟨A2, c2, rfl, k1, k2, _, r2⟩ := own_form ho1; have hge := HGE.out A2 c2 w1 r2 k1; rw [HX.out.1, HX.out.2, errV_zero] at hge)
    | (go_at_call 25; go_must (refine hge.mono ?_); rintro e w2 ⟨rfl, hb2⟩))
  have hbel2 := below_up (hbx.trans (hb1.mono (by simp))) hb2
  have hbel3 := hbel2.alloc hbel2.size (.cells #[.string ⟨#[97]⟩, .string ⟨#[98]⟩, .bool false] 57)
  have hws3 := hbel3.size
  obtain ⟨g2, hg2⟩ : ∃ g2, g2 = w2.heap.size := ⟨_, rfl⟩
  rw [← hg2]
  clear hg2
  generalize w2.alloc (.cells #[.string ⟨#[97]⟩, .string ⟨#[98]⟩, .bool false] 57) = w3 at *
  clear hbu HGE hbx hbel2 hb1 hb2 ho1 r2 hge k1 k2
  have hnil := World.ownsRow_nil w3 w.heap.size 23 1
  go_upto_region 8 with (first
    | (with_reducible show wpList _ _ _ (⟨some 52, _, _, _, _, _⟩ :: _) _ _; go_must (refine wpList_newg (.tmp 49) (.tmp 51) el_slB rfl rfl hnil rfl rfl rfl rfl rfl (by decide) hws3 ?_); intro v4 w4 hown4 hb4 hg4 ha4; have hbel4 := hbel3.trans hb4; have hbu4 := HBU.out w4 hbel4)
    | (go_at_call 22; go_must (refine hbu4.mono ?_); rintro e w5 ⟨v5, rfl, ho5, hb5⟩))
  have hws4 := hbel4.size
  have hbel5 := below_up hbel4 hb5
  have hown5 := own_up hown4 hb5
  have hr5 := hr.below hbel5 (Nat.le_refl _)
  have hws5 := hbel5.size
  simp only [Nat.zero_add, List.nil_append] at hown5
  by_cases hE : entsE l = 0
  · rw [hE, errV_zero]
    have hXl := tabB_le' hE
    have hXp := tabB_pos hE
    clear HBU hbu4
    generalize tabB l = X at *
    obtain ⟨N1, hN1⟩ : ∃ N1, N1 = X.length := ⟨_, rfl⟩
    rw [← hN1] at ho5 hXl hXp
    have HN1 := Lib.hid hN1
    clear hN1
    obtain ⟨g, c5, rfl, hgw4, k51⟩ : ∃ g c5, v5 = .slice (some ⟨g, 0, none⟩) N1 c5 ∧ w4.heap.size ≤ g ∧ N1 ≤ c5 ∧ c5 ≤ maxLen := by
      rcases ho5.2 with ⟨rfl, h⟩ | ⟨g, cap, cur, rfl, h1, _, h2, h3, _, _⟩
      · have := ho5.1
        rw [h] at this
        simp at this
        omega
      · exact ⟨g, cap, rfl, h1, h2, h3⟩
    have hz : ((N1 : Int) == 0) = false := by simp; omega
    have hp0 : (0 : Int) < (N1 : Int) := by omega
    obtain ⟨t0, t1⟩ := tmod_bd ix N1 hXp
    go_upto_region 10 with fail
    generalize ix.tmod (N1 : Int) = t at *
    by_cases ht : t < 0
    · obtain ⟨kn, hkn⟩ := Int.eq_ofNat_of_zero_le (show 0 ≤ t + (N1 : Int) by omega)
      have hk1 : kn < N1 := by omega
      have HKN := Lib.hid hkn
      have hk0' : (0 : Int) ≤ (kn : Int) := by omega
      have hk1' : (kn : Int) < (N1 : Int) := by omega
      clear hkn
      go_upto_region 12 with fail
      rw [HKN.out]
      clear ht t0 t1 HKN hz
      have hne5 := own_ne hown5 ho5 (by decide)
      have hxb : ((X.map bv).set kn (bv tb)) = (X.set kn tb).map bv := by rw [List.map_set]
      have hst := ho5.stored kn (bv tb)
      rw [hxb] at hst
      unfold bv at hst
      have hc5 := ho5.cellAt kn (by omega)
      rw [List.getElem?_map, List.getElem?_eq_getElem (by rw [← HN1.out]; exact hk1)] at hc5
      simp only [Option.map_some] at hc5
      have hf5 := ho5.frozenAt kn
      have hown6 := own_far hown5 hst.2 (fun k hk e => by injection e with e; exact hne5 k hk (by rw [e]; rfl))
      have hr6 := hr5.grown hst.2 hws5 (fun k hk => by cases hk; omega)
      have hbel6 := hbel5.grown hst.2 hws5 (fun k hk => by cases hk; omega)
      have hs6 := hbel6.size
      clear hown5 hne5 ho5 hr5
      go_upto_region 13 with fail
      generalize w5.setCell ⟨g, kn, none⟩ (.int .u8 (tb.toNat : Int)) = w6 at *
      clear hc5 hf5
      go_upto_region 14 with (first
        | (with_reducible show wpList _ _ _ (⟨some 82, _, _, _, _, _⟩ :: _) _ _; go_must (refine wpList_newg (.tmp 79) (.tmp 81) el_slB rfl rfl hown6 rfl rfl rfl rfl rfl (by decide) hs6 ?_); intro v7 w7 hown7 hb7 hg7 ha7))
      have hx7 := own_far hst.1 hg7 (own_ne hst.1 hown6 (by decide))
      have hbel7 := hbel6.trans hb7
      have hr7 := hr6.below hb7 (Nat.le_refl _)
      obtain ⟨Al, cl, rfl, k1, k2, hbb⟩ := rdbb_of (k := 2) (es := [⟨b, A, c⟩, ⟨X.set kn tb, some ⟨g, 0, none⟩, c5⟩]) rfl (w := w7) (v := v7) (base := w.heap.size) (by unfold Bl.val; simp only [List.map_cons, List.map_nil, List.length_cons, List.length_nil, HBN.out, List.length_set, ← HN1.out]; exact hown7) (fun e he => by
        rcases List.mem_cons.1 he with rfl | he
        · exact ⟨by show b.length ≤ c; rw [HBN.out]; exact hnc, hcm, by show Rd _ _ _ A b.length _; rw [HBN.out]; exact hr7.more hbel7.size⟩
        · rw [List.mem_singleton.1 he]
          exact ⟨by show (X.set kn tb).length ≤ c5; rw [List.length_set, ← HN1.out]; exact k51.1, k51.2, by show Rd _ _ _ _ (X.set kn tb).length _; rw [List.length_set, ← HN1.out]; exact own_rd hx7⟩)
      simp only [List.map_cons, List.map_nil] at hbb
      have hbl : ∀ b' ∈ [b, X.set kn tb], b'.length ≤ 140737488355328 := fun b' h => by
        rcases List.mem_cons.1 h with rfl | h
        · rw [HBN.out]; exact hn
        · rw [List.mem_singleton.1 h, List.length_set, ← HN1.out]; omega
      obtain ⟨bs, hbs⟩ : ∃ bs, bs = [b, X.set kn tb] := ⟨_, rfl⟩
      have HN : Hid (bs.length = 2) := Lib.hid (by rw [hbs]; rfl)
      rw [← hbs] at hbb hbl
      have HBEL := Lib.hid hbel7
      clear hown7 hown6 hnil hbel7 hbel6 hbel5 hbel4 hbel3 hb7 hb5 hb4 hg7 hg4 ha7 ha4 hws3 hws4 hws5 k1 k2 hbs hst hx7 hr7 hr6 hs6 hk0' hk1'
      go_wp2_with fail
      go_loopw [17] (fun x wr => ∃ i : Nat, i ≤ 2 ∧ x = .int .i64 i ∧ Below w7.heap.size w7 wr) (fun x _ => 2 - (intOf x).toNat)
      case atStart => exact ⟨0, Nat.zero_le _, rfl, Below.refl _ _⟩
      obtain ⟨i, hi, rfl, hbel⟩ := hrel
      have hws := hbel.size
      have hbW := HBEL.out.trans (hbel.mono HBEL.out.size)
      by_cases hlt : i < 2
      · obtain ⟨ad, rfl, hab, hcell⟩ := hbb (by rw [HN.out]; omega)
        obtain ⟨b', hbi⟩ : ∃ b', bs[i]? = some b' := ⟨_, List.getElem?_eq_getElem (by rw [HN.out]; exact hlt)⟩
        obtain ⟨A1', c1', g0w, hlc, hcm', hrd⟩ := hcell i b' hbi
        have hbw : (ad.add i).block < w7.heap.size := by rw [block_add]; omega
        have g0 := (hbel.cell hbw).trans g0w
        have hb'l := hbl b' (List.mem_of_getElem? hbi)
        have HRT := Lib.hid (fun W (h : Below w7.heap.size w7 W) => readtab_any A1' c1' w7.heap.size b' W (hrd.below h (Nat.le_refl _)) h.size hb'l hlc)
        have HSB := Lib.hid (fun W (h : Below w7.heap.size w7 W) => scan_bad A1' c1' w7.heap.size b' ⟨#[]⟩ ⟨#[]⟩ W (hrd.below h (Nat.le_refl _)) h.size hb'l hlc)
        have HSG := Lib.hid (fun W (h : Below w7.heap.size w7 W) E (hE : readTab b' = some E) => scan_any A1' c1' w7.heap.size b' E ⟨#[]⟩ ⟨#[]⟩ W (hrd.below h (Nat.le_refl _)) h.size hb'l hlc hE (entsE_all (readTab_ok hE)).1 (rise_keysG (readTab_ok hE)).1)
        have HTM := Lib.hid (fun W (h : Below w7.heap.size w7 W) => tmerge_any (some ⟨W.heap.size, 0, none⟩) 1 (W.heap.size + 1) 1 [b'] true (W.alloc (.cells #[.slice A1' b'.length c1'] 23)) (rdbb_one (hrd.below h (Nat.le_refl _)) h.size hlc hcm') rfl (by simp) (by omega) (fun x hx => by rw [List.mem_singleton.1 hx]; exact hb'l))
        obtain ⟨m', hm'⟩ : ∃ m', m' = b'.length := ⟨_, rfl⟩
        have HM := Lib.hid hm'
        rw [← hm'] at g0 hlc hrd HRT HSB HSG HTM
        have hi0 : (0 : Int) ≤ (i : Int) := by omega
        have hi1 : (i : Int) < (2 : Int) := by omega
        clear hbi hcell hm' g0
        rcases hrb : readTab b' with _ | E'
        · have hrt := HRT.out wr hbel
          rw [rtE_none hrb, hrb, show errV 9 = .iface 75 (.int .i64 9) from rfl] at hrt
          have HSC := Lib.hid (fun W h => HSB.out W h hrb)
          have HTN := Lib.hid (tm_none hrb)
          have g0 := (hbel.cell hbw).trans g0w
          rw [← HM.out] at g0
          clear hrb
          go_upto_region 20 with (first
            | (go_at_call 23; go_must (refine hrt.mono ?_); rintro e x1 ⟨v1, rfl, _, hx1⟩; have hbx1 := hbel.trans (hx1.mono hws); have g1 := (hbx1.cell hbw).trans g0w; rw [← HM.out] at g1; have hsc := HSC.out x1 hbx1)
            | (go_at_call 26; go_must (refine hsc.mono ?_); rintro e x2 ⟨v2, rfl, hx2⟩; have hbx2 := hbx1.trans (hx2.mono hbx1.size); have g2 := (hbx2.cell hbw).trans g0w; rw [← HM.out] at g2; have htm := HTM.out x2 hbx2; rw [HTN.out, show errV 9 = .iface 75 (.int .i64 9) from rfl] at htm)
            | (go_at_call 30; go_must (refine htm.mono ?_); rintro e x3 ⟨v3, rfl, _, hx3⟩))
          go_quiet (fail)
          have hbx3 := below_drewN ((hbx2.alloc hbx2.size (.cells #[.slice A1' m' c1'] 23)).trans (hx3.mono (by have := hbx2.size; simp; omega))) nq
          generalize x3.drewN nq = x4 at *
          have hgx4 := HG.out.below (HBEL.out.trans (hbx3.mono HBEL.out.size)) HG.out.2
          have hse := same_err 9 9 x4 hgx4
          rw [show errV 9 = .iface 75 (.int .i64 9) from rfl] at hse
          clear hx3 hbx2 hx2 hbx1 hx1 htm hsc hrt g0 g1 g2
          go_wp2_with (first
            | (go_at_call 10; go_must (refine hse.mono ?_); rintro e x5 ⟨rfl, hx5⟩))
          go_roundw
          case rel => exact ⟨i + 1, hlt, by go_num, below_up hbx3 hx5⟩
          case measure => simp [intOf]; omega
        · have hrt := HRT.out wr hbel
          have hEE := readTab_ok hrb
          have HTBK := Lib.hid (tab_back hrb)
          rw [rtE_some hrb, hrb, Option.getD_some, errV_zero] at hrt
          have HSC := Lib.hid (fun W h => HSG.out W h E' hrb)
          have HTN := Lib.hid (tm_some hrb)
          have HEE := Lib.hid hEE
          have hEl : E'.length ≤ 400 := (entsE_all hEE).1
          have HEO : Hid (∀ r ∈ E', r.Ok) := Lib.hid (fun r hr => by
            have := entE_good ((entsE_all HEE.out).2 r hr)
            exact ⟨by omega, by omega⟩)
          have g0 := (hbel.cell hbw).trans g0w
          rw [← HM.out] at g0
          have HBD := Lib.hid (fun A c B W (h : Rd W B 3 A E'.length (entCells E')) (hB : B ≤ W.heap.size) => build_any A c B E' W h hB HEO.out (by omega))
          rw [HEE.out, errV_zero, HTBK.out, ← HM.out] at HBD
          clear hrb hEE
          obtain ⟨e', he'⟩ : ∃ e', e' = E'.length := ⟨_, rfl⟩
          rw [← he'] at hrt HBD hEl
          clear he'
          go_upto_region 20 with (first
            | (go_at_call 23; go_must (refine hrt.mono ?_); rintro e x1 ⟨v1, rfl, hox1, hx1⟩; obtain ⟨Ae, ce, rfl, ke1, ke2, _, re⟩ := own_form hox1; have hbx1 := hbel.trans (hx1.mono hws); have g1 := (hbx1.cell hbw).trans g0w; rw [← HM.out] at g1; have hsc := HSC.out x1 hbx1)
            | (go_at_call 26; go_must (refine hsc.mono ?_); rintro e x2 ⟨v2, rfl, _, hx2⟩; have hbx2 := hbx1.trans (hx2.mono hbx1.size); have g2 := (hbx2.cell hbw).trans g0w; rw [← HM.out] at g2; have htm := HTM.out x2 hbx2; rw [HTN.out, errV_zero] at htm)
            | (go_at_call 30; go_must (refine htm.mono ?_); rintro e x3 ⟨v3, rfl, _, hx3⟩))
          go_quiet (fail)
          have hx23 := ((Below.refl x2.heap.size x2).alloc (Nat.le_refl _) (.cells #[.slice A1' m' c1'] 23)).trans (hx3.mono (by simp))
          have hbx3 := below_drewN (hbx2.trans (hx23.mono hbx2.size)) nq
          have re3 := ((re.below hx2 (Nat.le_refl _)).below hx23 hx2.size).drewN nq
          have hs13 : x1.heap.size ≤ (x3.drewN nq).heap.size := Nat.le_trans hx2.size (Nat.le_trans hx23.size (Nat.le_refl _))
          generalize x3.drewN nq = x4 at *
          have hbd := HBD.out Ae ce x1.heap.size x4 re3 hs13
          clear hx3 hbx2 hx2 hbx1 hx1 htm hsc hrt g0 g1 g2 hox1 re re3 hx23
          go_upto_region 27 with (first
            | (go_at_call 22; go_must (refine hbd.mono ?_); rintro e x5 ⟨v5, rfl, ho5, hx5⟩; obtain ⟨Ay, cy, rfl, _, _, _, ry⟩ := own_form ho5))
          have hbx5 := below_up hbx3 hx5
          have g5 := (hbx5.cell hbw).trans g0w
          rw [← HM.out] at g5
          have q1 := fun k => run_string_rd (P := Tryd.prog) (c := cy) Tryd.underlying23 Tryd.underlying5 Tryd.underlying9 (ry.drewN k)
          have q2 := fun k => run_string_rd (P := Tryd.prog) (c := c1') Tryd.underlying23 Tryd.underlying5 Tryd.underlying9 ((hrd.below hbx5 (Nat.le_refl _)).drewN k)
          clear ho5 hx5 hbd
          go_quiet (fail)
          have hbx6 := below_drewN hbx5 nq
          go_wp2_with fail
          go_roundw
          case rel => exact ⟨i + 1, hlt, by go_num, hbx6⟩
          case measure => simp [intOf]; omega
      · obtain rfl : i = 2 := by omega
        go_wp2_with fail
        go_ret
        exact ⟨rfl, hbW⟩
    · obtain ⟨kn, rfl⟩ := Int.eq_ofNat_of_zero_le (show 0 ≤ t by omega)
      have hk1 : kn < N1 := by omega
      have hk0' : (0 : Int) ≤ (kn : Int) := by omega
      have hk1' : (kn : Int) < (N1 : Int) := by omega
      have ht' : ¬ ((kn : Int) < 0) := by omega
      go_upto_region 12 with fail
      clear ht ht' t0 t1 hz
      have hne5 := own_ne hown5 ho5 (by decide)
      have hxb : ((X.map bv).set kn (bv tb)) = (X.set kn tb).map bv := by rw [List.map_set]
      have hst := ho5.stored kn (bv tb)
      rw [hxb] at hst
      unfold bv at hst
      have hc5 := ho5.cellAt kn (by omega)
      rw [List.getElem?_map, List.getElem?_eq_getElem (by rw [← HN1.out]; exact hk1)] at hc5
      simp only [Option.map_some] at hc5
      have hf5 := ho5.frozenAt kn
      have hown6 := own_far hown5 hst.2 (fun k hk e => by injection e with e; exact hne5 k hk (by rw [e]; rfl))
      have hr6 := hr5.grown hst.2 hws5 (fun k hk => by cases hk; omega)
      have hbel6 := hbel5.grown hst.2 hws5 (fun k hk => by cases hk; omega)
      have hs6 := hbel6.size
      clear hown5 hne5 ho5 hr5
      go_upto_region 13 with fail
      generalize w5.setCell ⟨g, kn, none⟩ (.int .u8 (tb.toNat : Int)) = w6 at *
      clear hc5 hf5
      go_upto_region 14 with (first
        | (with_reducible show wpList _ _ _ (⟨some 82, _, _, _, _, _⟩ :: _) _ _; go_must (refine wpList_newg (.tmp 79) (.tmp 81) el_slB rfl rfl hown6 rfl rfl rfl rfl rfl (by decide) hs6 ?_); intro v7 w7 hown7 hb7 hg7 ha7))
      have hx7 := own_far hst.1 hg7 (own_ne hst.1 hown6 (by decide))
      have hbel7 := hbel6.trans hb7
      have hr7 := hr6.below hb7 (Nat.le_refl _)
      obtain ⟨Al, cl, rfl, k1, k2, hbb⟩ := rdbb_of (k := 2) (es := [⟨b, A, c⟩, ⟨X.set kn tb, some ⟨g, 0, none⟩, c5⟩]) rfl (w := w7) (v := v7) (base := w.heap.size) (by unfold Bl.val; simp only [List.map_cons, List.map_nil, List.length_cons, List.length_nil, HBN.out, List.length_set, ← HN1.out]; exact hown7) (fun e he => by
        rcases List.mem_cons.1 he with rfl | he
        · exact ⟨by show b.length ≤ c; rw [HBN.out]; exact hnc, hcm, by show Rd _ _ _ A b.length _; rw [HBN.out]; exact hr7.more hbel7.size⟩
        · rw [List.mem_singleton.1 he]
          exact ⟨by show (X.set kn tb).length ≤ c5; rw [List.length_set, ← HN1.out]; exact k51.1, k51.2, by show Rd _ _ _ _ (X.set kn tb).length _; rw [List.length_set, ← HN1.out]; exact own_rd hx7⟩)
      simp only [List.map_cons, List.map_nil] at hbb
      have hbl : ∀ b' ∈ [b, X.set kn tb], b'.length ≤ 140737488355328 := fun b' h => by
        rcases List.mem_cons.1 h with rfl | h
        · rw [HBN.out]; exact hn
        · rw [List.mem_singleton.1 h, List.length_set, ← HN1.out]; omega
      obtain ⟨bs, hbs⟩ : ∃ bs, bs = [b, X.set kn tb] := ⟨_, rfl⟩
      have HN : Hid (bs.length = 2) := Lib.hid (by rw [hbs]; rfl)
      rw [← hbs] at hbb hbl
      have HBEL := Lib.hid hbel7
      clear hown7 hown6 hnil hbel7 hbel6 hbel5 hbel4 hbel3 hb7 hb5 hb4 hg7 hg4 ha7 ha4 hws3 hws4 hws5 k1 k2 hbs hst hx7 hr7 hr6 hs6 hk0' hk1'
      go_wp2_with fail
      go_loopw [17] (fun x wr => ∃ i : Nat, i ≤ 2 ∧ x = .int .i64 i ∧ Below w7.heap.size w7 wr) (fun x _ => 2 - (intOf x).toNat)
      case atStart => exact ⟨0, Nat.zero_le _, rfl, Below.refl _ _⟩
      obtain ⟨i, hi, rfl, hbel⟩ := hrel
      have hws := hbel.size
      have hbW := HBEL.out.trans (hbel.mono HBEL.out.size)
      by_cases hlt : i < 2
      · obtain ⟨ad, rfl, hab, hcell⟩ := hbb (by rw [HN.out]; omega)
        obtain ⟨b', hbi⟩ : ∃ b', bs[i]? = some b' := ⟨_, List.getElem?_eq_getElem (by rw [HN.out]; exact hlt)⟩
        obtain ⟨A1', c1', g0w, hlc, hcm', hrd⟩ := hcell i b' hbi
        have hbw : (ad.add i).block < w7.heap.size := by rw [block_add]; omega
        have g0 := (hbel.cell hbw).trans g0w
        have hb'l := hbl b' (List.mem_of_getElem? hbi)
        have HRT := Lib.hid (fun W (h : Below w7.heap.size w7 W) => readtab_any A1' c1' w7.heap.size b' W (hrd.below h (Nat.le_refl _)) h.size hb'l hlc)
        have HSB := Lib.hid (fun W (h : Below w7.heap.size w7 W) => scan_bad A1' c1' w7.heap.size b' ⟨#[]⟩ ⟨#[]⟩ W (hrd.below h (Nat.le_refl _)) h.size hb'l hlc)
        have HSG := Lib.hid (fun W (h : Below w7.heap.size w7 W) E (hE : readTab b' = some E) => scan_any A1' c1' w7.heap.size b' E ⟨#[]⟩ ⟨#[]⟩ W (hrd.below h (Nat.le_refl _)) h.size hb'l hlc hE (entsE_all (readTab_ok hE)).1 (rise_keysG (readTab_ok hE)).1)
        have HTM := Lib.hid (fun W (h : Below w7.heap.size w7 W) => tmerge_any (some ⟨W.heap.size, 0, none⟩) 1 (W.heap.size + 1) 1 [b'] true (W.alloc (.cells #[.slice A1' b'.length c1'] 23)) (rdbb_one (hrd.below h (Nat.le_refl _)) h.size hlc hcm') rfl (by simp) (by omega) (fun x hx => by rw [List.mem_singleton.1 hx]; exact hb'l))
        obtain ⟨m', hm'⟩ : ∃ m', m' = b'.length := ⟨_, rfl⟩
        have HM := Lib.hid hm'
        rw [← hm'] at g0 hlc hrd HRT HSB HSG HTM
        have hi0 : (0 : Int) ≤ (i : Int) := by omega
        have hi1 : (i : Int) < (2 : Int) := by omega
        clear hbi hcell hm' g0
        rcases hrb : readTab b' with _ | E'
        · have hrt := HRT.out wr hbel
          rw [rtE_none hrb, hrb, show errV 9 = .iface 75 (.int .i64 9) from rfl] at hrt
          have HSC := Lib.hid (fun W h => HSB.out W h hrb)
          have HTN := Lib.hid (tm_none hrb)
          have g0 := (hbel.cell hbw).trans g0w
          rw [← HM.out] at g0
          clear hrb
          go_upto_region 20 with (first
            | (go_at_call 23; go_must (refine hrt.mono ?_); rintro e x1 ⟨v1, rfl, _, hx1⟩; have hbx1 := hbel.trans (hx1.mono hws); have g1 := (hbx1.cell hbw).trans g0w; rw [← HM.out] at g1; have hsc := HSC.out x1 hbx1)
            | (go_at_call 26; go_must (refine hsc.mono ?_); rintro e x2 ⟨v2, rfl, hx2⟩; have hbx2 := hbx1.trans (hx2.mono hbx1.size); have g2 := (hbx2.cell hbw).trans g0w; rw [← HM.out] at g2; have htm := HTM.out x2 hbx2; rw [HTN.out, show errV 9 = .iface 75 (.int .i64 9) from rfl] at htm)
            | (go_at_call 30; go_must (refine htm.mono ?_); rintro e x3 ⟨v3, rfl, _, hx3⟩))
          go_quiet (fail)
          have hbx3 := below_drewN ((hbx2.alloc hbx2.size (.cells #[.slice A1' m' c1'] 23)).trans (hx3.mono (by have := hbx2.size; simp; omega))) nq
          generalize x3.drewN nq = x4 at *
          have hgx4 := HG.out.below (HBEL.out.trans (hbx3.mono HBEL.out.size)) HG.out.2
          have hse := same_err 9 9 x4 hgx4
          rw [show errV 9 = .iface 75 (.int .i64 9) from rfl] at hse
          clear hx3 hbx2 hx2 hbx1 hx1 htm hsc hrt g0 g1 g2
          go_wp2_with (first
            | (go_at_call 10; go_must (refine hse.mono ?_); rintro e x5 ⟨rfl, hx5⟩))
          go_roundw
          case rel => exact ⟨i + 1, hlt, by go_num, below_up hbx3 hx5⟩
          case measure => simp [intOf]; omega
        · have hrt := HRT.out wr hbel
          have hEE := readTab_ok hrb
          have HTBK := Lib.hid (tab_back hrb)
          rw [rtE_some hrb, hrb, Option.getD_some, errV_zero] at hrt
          have HSC := Lib.hid (fun W h => HSG.out W h E' hrb)
          have HTN := Lib.hid (tm_some hrb)
          have HEE := Lib.hid hEE
          have hEl : E'.length ≤ 400 := (entsE_all hEE).1
          have HEO : Hid (∀ r ∈ E', r.Ok) := Lib.hid (fun r hr => by
            have := entE_good ((entsE_all HEE.out).2 r hr)
            exact ⟨by omega, by omega⟩)
          have g0 := (hbel.cell hbw).trans g0w
          rw [← HM.out] at g0
          have HBD := Lib.hid (fun A c B W (h : Rd W B 3 A E'.length (entCells E')) (hB : B ≤ W.heap.size) => build_any A c B E' W h hB HEO.out (by omega))
          rw [HEE.out, errV_zero, HTBK.out, ← HM.out] at HBD
          clear hrb hEE
          obtain ⟨e', he'⟩ : ∃ e', e' = E'.length := ⟨_, rfl⟩
          rw [← he'] at hrt HBD hEl
          clear he'
          go_upto_region 20 with (first
            | (go_at_call 23; go_must (refine hrt.mono ?_); rintro e x1 ⟨v1, rfl, hox1, hx1⟩; obtain ⟨Ae, ce, rfl, ke1, ke2, _, re⟩ := own_form hox1; have hbx1 := hbel.trans (hx1.mono hws); have g1 := (hbx1.cell hbw).trans g0w; rw [← HM.out] at g1; have hsc := HSC.out x1 hbx1)
            | (go_at_call 26; go_must (refine hsc.mono ?_); rintro e x2 ⟨v2, rfl, _, hx2⟩; have hbx2 := hbx1.trans (hx2.mono hbx1.size); have g2 := (hbx2.cell hbw).trans g0w; rw [← HM.out] at g2; have htm := HTM.out x2 hbx2; rw [HTN.out, errV_zero] at htm)
            | (go_at_call 30; go_must (refine htm.mono ?_); rintro e x3 ⟨v3, rfl, _, hx3⟩))
          go_quiet (fail)
          have hx23 := ((Below.refl x2.heap.size x2).alloc (Nat.le_refl _) (.cells #[.slice A1' m' c1'] 23)).trans (hx3.mono (by simp))
          have hbx3 := below_drewN (hbx2.trans (hx23.mono hbx2.size)) nq
          have re3 := ((re.below hx2 (Nat.le_refl _)).below hx23 hx2.size).drewN nq
          have hs13 : x1.heap.size ≤ (x3.drewN nq).heap.size := Nat.le_trans hx2.size (Nat.le_trans hx23.size (Nat.le_refl _))
          generalize x3.drewN nq = x4 at *
          have hbd := HBD.out Ae ce x1.heap.size x4 re3 hs13
          clear hx3 hbx2 hx2 hbx1 hx1 htm hsc hrt g0 g1 g2 hox1 re re3 hx23
          go_upto_region 27 with (first
            | (go_at_call 22; go_must (refine hbd.mono ?_); rintro e x5 ⟨v5, rfl, ho5, hx5⟩; obtain ⟨Ay, cy, rfl, _, _, _, ry⟩ := own_form ho5))
          have hbx5 := below_up hbx3 hx5
          have g5 := (hbx5.cell hbw).trans g0w
          rw [← HM.out] at g5
          have q1 := fun k => run_string_rd (P := Tryd.prog) (c := cy) Tryd.underlying23 Tryd.underlying5 Tryd.underlying9 (ry.drewN k)
          have q2 := fun k => run_string_rd (P := Tryd.prog) (c := c1') Tryd.underlying23 Tryd.underlying5 Tryd.underlying9 ((hrd.below hbx5 (Nat.le_refl _)).drewN k)
          clear ho5 hx5 hbd
          go_quiet (fail)
          have hbx6 := below_drewN hbx5 nq
          go_wp2_with fail
          go_roundw
          case rel => exact ⟨i + 1, hlt, by go_num, hbx6⟩
          case measure => simp [intOf]; omega
      · obtain rfl : i = 2 := by omega
        go_wp2_with fail
        go_ret
        exact ⟨rfl, hbW⟩
  · have HE0 : Hid (errV (entsE l) = .iface 75 (.int .i64 (entsE l : Nat))) := Lib.hid (by rw [errV, if_neg hE])
    rw [HE0.out]
    generalize entsE l = E at *
    obtain ⟨Al, cl, rfl, k1, k2, hbb⟩ := rdbb_of (k := 1) (es := [⟨b, A, c⟩]) rfl (w := w5) (v := v4) (base := w.heap.size) (by unfold Bl.val; simp only [List.map_cons, List.map_nil, List.length_cons, List.length_nil, HBN.out]; exact hown5) (fun e he => by rw [List.mem_singleton.1 he]; exact ⟨by show b.length ≤ c; rw [HBN.out]; exact hnc, hcm, by show Rd _ _ _ A b.length _; rw [HBN.out]; exact hr5.more hws5⟩)
    simp only [List.map_cons, List.map_nil] at hbb
    have hbl : ∀ b' ∈ [b], b'.length ≤ 140737488355328 := fun b' h => by rw [List.mem_singleton.1 h, HBN.out]; exact hn
    clear hown4 hown5 ho5 hr5 hbu4 hnil
    obtain ⟨bs, hbs⟩ : ∃ bs, bs = [b] := ⟨_, rfl⟩
    have HN : Hid (bs.length = 1) := Lib.hid (by rw [hbs]; rfl)
    rw [← hbs] at hbb hbl
    have HBEL := Lib.hid hbel5
    clear hbel5 hbel4 hbel3 hb5 hb4 hg4 ha4 hws3 hws4 hws5 k1 k2 hbs
    go_wp2_with fail
    go_loopw [17] (fun x wr => ∃ i : Nat, i ≤ 1 ∧ x = .int .i64 i ∧ Below w5.heap.size w5 wr) (fun x _ => 1 - (intOf x).toNat)
    case atStart => exact ⟨0, Nat.zero_le _, rfl, Below.refl _ _⟩
    obtain ⟨i, hi, rfl, hbel⟩ := hrel
    have hws := hbel.size
    have hbW := HBEL.out.trans (hbel.mono HBEL.out.size)
    by_cases hlt : i < 1
    · obtain ⟨ad, rfl, hab, hcell⟩ := hbb (by rw [HN.out]; omega)
      obtain ⟨b', hbi⟩ : ∃ b', bs[i]? = some b' := ⟨_, List.getElem?_eq_getElem (by rw [HN.out]; exact hlt)⟩
      obtain ⟨A1', c1', g0w, hlc, hcm', hrd⟩ := hcell i b' hbi
      have hbw : (ad.add i).block < w5.heap.size := by rw [block_add]; omega
      have g0 := (hbel.cell hbw).trans g0w
      have hb'l := hbl b' (List.mem_of_getElem? hbi)
      have HRT := Lib.hid (fun W (h : Below w5.heap.size w5 W) => readtab_any A1' c1' w5.heap.size b' W (hrd.below h (Nat.le_refl _)) h.size hb'l hlc)
      have HSB := Lib.hid (fun W (h : Below w5.heap.size w5 W) => scan_bad A1' c1' w5.heap.size b' ⟨#[]⟩ ⟨#[]⟩ W (hrd.below h (Nat.le_refl _)) h.size hb'l hlc)
      have HSG := Lib.hid (fun W (h : Below w5.heap.size w5 W) E (hE : readTab b' = some E) => scan_any A1' c1' w5.heap.size b' E ⟨#[]⟩ ⟨#[]⟩ W (hrd.below h (Nat.le_refl _)) h.size hb'l hlc hE (entsE_all (readTab_ok hE)).1 (rise_keysG (readTab_ok hE)).1)
      have HTM := Lib.hid (fun W (h : Below w5.heap.size w5 W) => tmerge_any (some ⟨W.heap.size, 0, none⟩) 1 (W.heap.size + 1) 1 [b'] true (W.alloc (.cells #[.slice A1' b'.length c1'] 23)) (rdbb_one (hrd.below h (Nat.le_refl _)) h.size hlc hcm') rfl (by simp) (by omega) (fun x hx => by rw [List.mem_singleton.1 hx]; exact hb'l))
      obtain ⟨m', hm'⟩ : ∃ m', m' = b'.length := ⟨_, rfl⟩
      have HM := Lib.hid hm'
      rw [← hm'] at g0 hlc hrd HRT HSB HSG HTM
      have hi0 : (0 : Int) ≤ (i : Int) := by omega
      have hi1 : (i : Int) < (1 : Int) := by omega
      clear hbi hcell hm' g0
      rcases hrb : readTab b' with _ | E'
      · have hrt := HRT.out wr hbel
        rw [rtE_none hrb, hrb, show errV 9 = .iface 75 (.int .i64 9) from rfl] at hrt
        have HSC := Lib.hid (fun W h => HSB.out W h hrb)
        have HTN := Lib.hid (tm_none hrb)
        have g0 := (hbel.cell hbw).trans g0w
        rw [← HM.out] at g0
        clear hrb
        go_upto_region 20 with (first
          | (go_at_call 23; go_must (refine hrt.mono ?_); rintro e x1 ⟨v1, rfl, _, hx1⟩; have hbx1 := hbel.trans (hx1.mono hws); have g1 := (hbx1.cell hbw).trans g0w; rw [← HM.out] at g1; have hsc := HSC.out x1 hbx1)
          | (go_at_call 26; go_must (refine hsc.mono ?_); rintro e x2 ⟨v2, rfl, hx2⟩; have hbx2 := hbx1.trans (hx2.mono hbx1.size); have g2 := (hbx2.cell hbw).trans g0w; rw [← HM.out] at g2; have htm := HTM.out x2 hbx2; rw [HTN.out, show errV 9 = .iface 75 (.int .i64 9) from rfl] at htm)
          | (go_at_call 30; go_must (refine htm.mono ?_); rintro e x3 ⟨v3, rfl, _, hx3⟩))
        go_quiet (fail)
        have hbx3 := below_drewN ((hbx2.alloc hbx2.size (.cells #[.slice A1' m' c1'] 23)).trans (hx3.mono (by have := hbx2.size; simp; omega))) nq
        generalize x3.drewN nq = x4 at *
        have hgx4 := HG.out.below (HBEL.out.trans (hbx3.mono HBEL.out.size)) HG.out.2
        have hse := same_err 9 9 x4 hgx4
        rw [show errV 9 = .iface 75 (.int .i64 9) from rfl] at hse
        clear hx3 hbx2 hx2 hbx1 hx1 htm hsc hrt g0 g1 g2
        go_wp2_with (first
          | (go_at_call 10; go_must (refine hse.mono ?_); rintro e x5 ⟨rfl, hx5⟩))
        go_roundw
        case rel => exact ⟨i + 1, hlt, by go_num, below_up hbx3 hx5⟩
        case measure => simp [intOf]; omega
      · have hrt := HRT.out wr hbel
        have hEE := readTab_ok hrb
        have HTBK := Lib.hid (tab_back hrb)
        rw [rtE_some hrb, hrb, Option.getD_some, errV_zero] at hrt
        have HSC := Lib.hid (fun W h => HSG.out W h E' hrb)
        have HTN := Lib.hid (tm_some hrb)
        have HEE := Lib.hid hEE
        have hEl : E'.length ≤ 400 := (entsE_all hEE).1
        have HEO : Hid (∀ r ∈ E', r.Ok) := Lib.hid (fun r hr => by
          have := entE_good ((entsE_all HEE.out).2 r hr)
          exact ⟨by omega, by omega⟩)
        have g0 := (hbel.cell hbw).trans g0w
        rw [← HM.out] at g0
        have HBD := Lib.hid (fun A c B W (h : Rd W B 3 A E'.length (entCells E')) (hB : B ≤ W.heap.size) => build_any A c B E' W h hB HEO.out (by omega))
        rw [HEE.out, errV_zero, HTBK.out, ← HM.out] at HBD
        clear hrb hEE
        obtain ⟨e', he'⟩ : ∃ e', e' = E'.length := ⟨_, rfl⟩
        rw [← he'] at hrt HBD hEl
        clear he'
        go_upto_region 20 with (first
          | (go_at_call 23; go_must (refine hrt.mono ?_); rintro e x1 ⟨v1, rfl, hox1, hx1⟩; obtain ⟨Ae, ce, rfl, ke1, ke2, _, re⟩ := own_form hox1; have hbx1 := hbel.trans (hx1.mono hws); have g1 := (hbx1.cell hbw).trans g0w; rw [← HM.out] at g1; have hsc := HSC.out x1 hbx1)
          | (go_at_call 26; go_must (refine hsc.mono ?_); rintro e x2 ⟨v2, rfl, _, hx2⟩; have hbx2 := hbx1.trans (hx2.mono hbx1.size); have g2 := (hbx2.cell hbw).trans g0w; rw [← HM.out] at g2; have htm := HTM.out x2 hbx2; rw [HTN.out, errV_zero] at htm)
          | (go_at_call 30; go_must (refine htm.mono ?_); rintro e x3 ⟨v3, rfl, _, hx3⟩))
        go_quiet (fail)
        have hx23 := ((Below.refl x2.heap.size x2).alloc (Nat.le_refl _) (.cells #[.slice A1' m' c1'] 23)).trans (hx3.mono (by simp))
        have hbx3 := below_drewN (hbx2.trans (hx23.mono hbx2.size)) nq
        have re3 := ((re.below hx2 (Nat.le_refl _)).below hx23 hx2.size).drewN nq
        have hs13 : x1.heap.size ≤ (x3.drewN nq).heap.size := Nat.le_trans hx2.size (Nat.le_trans hx23.size (Nat.le_refl _))
        generalize x3.drewN nq = x4 at *
        have hbd := HBD.out Ae ce x1.heap.size x4 re3 hs13
        clear hx3 hbx2 hx2 hbx1 hx1 htm hsc hrt g0 g1 g2 hox1 re re3 hx23
        go_upto_region 27 with (first
          | (go_at_call 22; go_must (refine hbd.mono ?_); rintro e x5 ⟨v5, rfl, ho5, hx5⟩; obtain ⟨Ay, cy, rfl, _, _, _, ry⟩ := own_form ho5))
        have hbx5 := below_up hbx3 hx5
        have g5 := (hbx5.cell hbw).trans g0w
        rw [← HM.out] at g5
        have q1 := fun k => run_string_rd (P := Tryd.prog) (c := cy) Tryd.underlying23 Tryd.underlying5 Tryd.underlying9 (ry.drewN k)
        have q2 := fun k => run_string_rd (P := Tryd.prog) (c := c1') Tryd.underlying23 Tryd.underlying5 Tryd.underlying9 ((hrd.below hbx5 (Nat.le_refl _)).drewN k)
        clear ho5 hx5 hbd
        go_quiet (fail)
        have hbx6 := below_drewN hbx5 nq
        go_wp2_with fail
        go_roundw
        case rel => exact ⟨i + 1, hlt, by go_num, hbx6⟩
        case measure => simp [intOf]; omega
    · obtain rfl : i = 1 := by omega
      go_wp2_with fail
      go_ret
      exact ⟨rfl, hbW⟩
end Go.Proofs.YtcfijljagohmlaaDoor
