/- The walk of weirlaw2.TableReads. -/
import Derived.Test.YtcfijljagohmlaaDoorWalkScan
import Derived.Test.YtcfijljagohmlaaDoorWalkESame
import Derived.Test.YtcfijljagohmlaaDoorWalkAs
namespace Go.Proofs.YtcfijljagohmlaaDoor
open Go.RowKit

def zeroE : Ent := ⟨⟨#[]⟩, ⟨#[]⟩, false⟩
def wantL (key : ByteArray) (l : List Ent) (s : Nat × Ent) : Nat × Ent := l.foldl (fun s r => if r.key = key then (0, r) else s) s
theorem wantL_none {key : ByteArray} : ∀ {l : List Ent} {s : Nat × Ent}, (∀ r ∈ l, r.key ≠ key) → wantL key l s = s := by
  intro l
  induction l with
  | nil => intro s _; rfl
  | cons x l ih =>
    intro s h
    rw [wantL, List.foldl_cons, if_neg (h x List.mem_cons_self)]
    exact ih fun r hr => h r (List.mem_cons_of_mem _ hr)
theorem wantL_snoc (key : ByteArray) (l : List Ent) (r : Ent) (s : Nat × Ent) : wantL key (l ++ [r]) s = if r.key = key then (0, r) else wantL key l s := by
  rw [wantL, List.foldl_append]; rfl
theorem wantL_take {key : ByteArray} {l : List Ent} {k : Nat} {r : Ent} (h : l[k]? = some r) (s : Nat × Ent) : wantL key (l.take (k + 1)) s = if r.key = key then (0, r) else wantL key (l.take k) s := by
  rw [List.take_add_one, h]; exact wantL_snoc key _ r s
theorem wantL_is {key : ByteArray} {l : List Ent} (hs : riseK (keysE l)) : wantL key l (6, zeroE) = (gotN key l, gotE key l) := by
  rcases hh : hasK key (keysE l)
  · have hn : ∀ r ∈ l, r.key ≠ key := by
      intro r hr e
      obtain ⟨m, hm⟩ := List.mem_iff_getElem?.1 hr
      have hml : m < l.length := (List.getElem?_eq_some_iff.1 hm).1
      have hkm := keysE_at hm
      have h1 : lowK key (keysE l) ≤ m := by
        rcases Nat.lt_or_ge m (lowK key (keysE l)) with h | h
        · have := lowK_lt h; rw [hkm, e, klt_irrefl] at this; cases this
        · exact h
      have h2 : lowK key (keysE l) = m := by
        rcases Nat.eq_or_lt_of_le h1 with h | h
        · exact h
        · have h3 := List.pairwise_iff_getElem.1 hs (lowK key (keysE l)) m (by rw [keysE_len]; omega) (by rw [keysE_len]; exact hml) h
          have h4 := lowK_at (t := key) (ks := keysE l) (by rw [keysE_len]; omega)
          have ea : keyA (keysE l) (lowK key (keysE l)) = (keysE l)[lowK key (keysE l)]'(by rw [keysE_len]; omega) := by rw [keyA, List.getD_eq_getElem?_getD, List.getElem?_eq_getElem (by rw [keysE_len]; omega)]; rfl
          have eb : keyA (keysE l) m = (keysE l)[m]'(by rw [keysE_len]; exact hml) := by rw [keyA, List.getD_eq_getElem?_getD, List.getElem?_eq_getElem (by rw [keysE_len]; exact hml)]; rfl
          rw [← ea, ← eb, hkm, e] at h3
          rw [h3] at h4
          cases h4
      rw [hasK, h2, hkm, e, keysE_len] at hh
      simp [hml] at hh
    rw [wantL_none hn, gotN, gotE, if_neg (by simp [hh]), if_neg (by simp [hh])]; rfl
  · have hlt := hasK_lt hh
    rw [keysE_len] at hlt
    obtain ⟨i, hi⟩ : ∃ i, i = lowK key (keysE l) := ⟨_, rfl⟩
    rw [← hi] at hlt
    have hx : l[i]? = some l[i] := List.getElem?_eq_getElem hlt
    have hk : l[i].key = key := by
      rw [hasK, Bool.and_eq_true, ← hi, keysE_at hx] at hh
      exact of_decide_eq_true hh.2
    have hd : l = l.take i ++ (l[i] :: l.drop (i + 1)) := by rw [List.getElem_cons_drop, List.take_append_drop]
    have hn : ∀ r ∈ l.drop (i + 1), r.key ≠ key := by
      intro r hr e
      have hp : l.Pairwise fun a b => klt a.key b.key = true := List.pairwise_map.1 hs
      have h1 := hp.sublist (List.drop_sublist i l)
      rw [← List.getElem_cons_drop (h := hlt), List.pairwise_cons] at h1
      have := h1.1 r hr
      rw [hk, e, klt_irrefl] at this
      cases this
    rw [gotN, gotE, if_pos hh, if_pos hh, ← hi, List.getD_eq_getElem?_getD, hx]
    conv => lhs; rw [hd]
    rw [wantL, List.foldl_append, List.foldl_cons, if_pos hk]
    exact wantL_none hn
theorem ents_rise : ∀ (l : List Ent) (p : Option Ent), entsGo p l = 0 → (l.Pairwise fun a b => klt a.key b.key = true) ∧ ∀ q, p = some q → ∀ x ∈ l, klt q.key x.key = true := by
  intro l
  induction l with
  | nil => intro p _; exact ⟨.nil, fun _ _ _ h => absurd h List.not_mem_nil⟩
  | cons x l ih =>
    intro p h
    obtain ⟨_, h2, h3⟩ := entsGo_cons h
    obtain ⟨i1, i2⟩ := ih _ h3
    refine ⟨.cons (fun y hy => i2 x rfl y hy) i1, ?_⟩
    rintro q rfl y hy
    have hq : klt q.key x.key = true := by simpa [stuck, keyLt, klt] using h2
    rcases List.mem_cons.1 hy with rfl | hy
    · exact hq
    · exact klt_trans hq (i2 x rfl y hy)
theorem ents_keys {l : List Ent} (h : entsE l = 0) : riseK (keysE l) ∧ l.length ≤ 400 := by
  have hl := (entsE_all h).1
  rw [entsE, if_neg (by omega)] at h
  exact ⟨List.pairwise_map.2 (ents_rise l none h).1, hl⟩
theorem ent_eql (w : World) (x : Ent) : (binOp .eql 57 (.agg #[.string x.key, .string x.value, .bool x.dead]) (.agg #[.string x.key, .string x.value, .bool x.dead])).run Tryd.prog w = .ok (.bool true) w := by
  rw [run_eql_struct, run_equalIn_agg w _ _ _ _ (by kernel_rfl) (by kernel_rfl)]
  simp [Program.fieldsOf, Tryd.underlying57, go_sem]

set_option maxRecDepth 100000 in
set_option maxHeartbeats 4000000 in
theorem lawtable_bad (A : Option Addr) (c : Nat) (l : List Ent) (key low high : ByteArray) (w : World) (hg : HasErr w) (hr : Rd w w.heap.size 3 A l.length (entCells l)) (hok : ∀ r ∈ l, r.Ok) (hl : l.length ≤ 140737488355328) (hE : entsE l ≠ 0) :
    Calls Tryd.prog 5 #[.slice A l.length c, .string key, .string low, .string high] w fun e w' => e = .returned (.bool true) ∧ Below w.heap.size w w' := by
  have h1 := entries_any A c w.heap.size l w hr hok hl
  have h2 := fun W (hb : Below w.heap.size w W) => build_any A c w.heap.size l W (hr.below hb (Nat.le_refl _)) hb.size hok hl
  have h3 := fun v W (h : HasErr W) => same_err v (v : Int) W h
  have ht : tabB l = [] := tabB_bad rfl hE
  rw [ht] at h2
  have H2 := Lib.hid h2
  obtain ⟨E, hEE⟩ : ∃ E, E = entsE l := ⟨_, rfl⟩
  rw [← hEE] at h1 H2 hE
  clear h2 hEE ht
  generalize l.length = n at *
  have t0 : ((E : Int) == 0) = false := by simpa using hE
  have t1 : ((E : Int) != 0) = true := by simpa using hE
  go_enter Tryd.func5, Tryd.ntmps5
  go_wp2_with fail
  refine h1.mono ?_
  rintro e w1 ⟨rfl, q, rfl⟩
  have hb1 := below_drewN (Below.refl w.heap.size w) q
  generalize w.drewN q = w1 at *
  go_wp2_with fail
  refine (H2.out w1 hb1).mono ?_
  rintro e w2 ⟨v2, rfl, ho2, hb2⟩
  have hbb2 := below_up hb1 hb2
  obtain ⟨A2, c2, rfl, _, _, _, _⟩ := own_form ho2
  clear ho2
  go_wp2_with fail
  refine (same_err E E _ (hg.up hbb2)).mono ?_
  rintro e w3 ⟨rfl, hb3⟩
  rw [decide_eq_true (rfl : (E : Int) = (E : Int))]
  go_wp2_with fail
  go_ret
  exact ⟨rfl, below_up hbb2 hb3⟩

set_option maxRecDepth 100000 in
set_option maxHeartbeats 8000000 in
theorem lawtable_good (A : Option Addr) (c : Nat) (l : List Ent) (key low high : ByteArray) (w : World) (hg : HasErr w) (hr : Rd w w.heap.size 3 A l.length (entCells l)) (hok : ∀ r ∈ l, r.Ok) (hl : l.length ≤ 140737488355328) (hE : entsE l = 0) :
    Calls Tryd.prog 5 #[.slice A l.length c, .string key, .string low, .string high] w fun e w' => e = .returned (.bool true) ∧ Below w.heap.size w w' := by
  obtain ⟨hks, h400⟩ := ents_keys hE
  have hlen : (tabB l).length ≤ 200000 := by
    rw [tabB_good hE]
    have h1 := tabIn_le hE
    have h2 := numB_le ((tabIn l).length : Int)
    simp only [sealB, List.length_append]
    have h3 : (sum4 (sumB (tabIn l))).length = 4 := rfl
    omega
  have htr := tab_read hE
  have h1 := entries_any A c w.heap.size l w hr hok hl
  have h2 := fun W (hb : Below w.heap.size w W) => build_any A c w.heap.size l W (hr.below hb (Nat.le_refl _)) hb.size hok hl
  have h6 := fun W (hb : Below w.heap.size w W) => rpart_any A c w.heap.size l low high W (hr.below hb (Nat.le_refl _)) hb.size h400
  rw [hE] at h1 h2
  have hrd := fun A2 c2 B W (h : Rd W B 1 A2 (tabB l).length ((tabB l).map bv)) (hB : B ≤ W.heap.size) (hc : (tabB l).length ≤ c2) => readtab_any A2 c2 B (tabB l) W h hB (by omega) hc
  rw [rtE_some htr, htr, Option.getD_some, errV_zero] at hrd
  have hgt := fun A2 c2 B W (h : Rd W B 1 A2 (tabB l).length ((tabB l).map bv)) (hB : B ≤ W.heap.size) (hc : (tabB l).length ≤ c2) => get_any A2 c2 B (tabB l) l key W h hB (by omega) hc htr h400 hks
  have hsc := fun A2 c2 B W (h : Rd W B 1 A2 (tabB l).length ((tabB l).map bv)) (hB : B ≤ W.heap.size) (hc : (tabB l).length ≤ c2) => scan_any A2 c2 B (tabB l) l low high W h hB (by omega) hc htr h400 hks
  have hsm := fun A1 A2 c1 c2 B W (h : Rd W B 3 A1 l.length (entCells l)) (h' : Rd W B 3 A2 l.length (entCells l)) => ents_same A1 A2 c1 c2 B l W h h' hl
  have hpl : (partE low high l).length ≤ 140737488355328 := by
    have := List.length_filter_le (inPart low high) l
    rw [partE]; omega
  have hsp := fun A1 A2 c1 c2 B W (h : Rd W B 3 A1 (partE low high l).length (entCells (partE low high l))) (h' : Rd W B 3 A2 (partE low high l).length (entCells (partE low high l))) => ents_same A1 A2 c1 c2 B (partE low high l) W h h' hpl
  have H2 := Lib.hid h2
  have H6 := Lib.hid h6
  have HRD := Lib.hid hrd
  have HGT := Lib.hid hgt
  have HSC := Lib.hid hsc
  have HSM := Lib.hid hsm
  have HSP := Lib.hid hsp
  have HKS := Lib.hid hks
  obtain ⟨n, hn⟩ : ∃ n, n = l.length := ⟨_, rfl⟩
  rw [← hn] at h1 H2 H6 HRD HSM hr h400 ⊢
  have Hn := Lib.hid hn
  clear h2 h6 hrd hgt hsc hsm hsp hks hpl htr hn hE hl
  go_enter Tryd.func5, Tryd.ntmps5
  go_wp2_with fail
  refine h1.mono ?_
  rintro e w1 ⟨rfl, q, rfl⟩
  have hb1 := below_drewN (Below.refl w.heap.size w) q
  generalize w.drewN q = w1 at *
  clear h1
  go_wp2_with fail
  refine (H2.out w1 hb1).mono ?_
  rintro e w2 ⟨v2, rfl, ho2, hb2⟩
  have hbb2 := below_up hb1 hb2
  obtain ⟨A2, c2, rfl, hc2, hm2, _, r2⟩ := own_form ho2
  clear ho2
  go_wp2_with fail
  refine (same_err 0 0 _ (hg.up hbb2)).mono ?_
  rintro e w3 ⟨rfl, hb3⟩
  have hbb3 := below_up hbb2 hb3
  have r3 := r2.below hb3 (Nat.le_refl _)
  go_wp2_with fail
  refine (HRD.out A2 c2 _ w3 r3 hb3.size hc2).mono ?_
  rintro e w4 ⟨v4, rfl, ho4, hb4⟩
  have hbb4 := below_up hbb3 hb4
  have r4 := (r3.more hb3.size).below hb4 (Nat.le_refl _)
  obtain ⟨A4, c4, rfl, _, _, _, m4⟩ := own_form ho4
  clear ho4
  go_wp2_with fail
  refine (HSM.out A4 A c4 c w4.heap.size w4 m4 ((hr.below hbb4 (Nat.le_refl _)).more hbb4.size)).mono ?_
  rintro e w5 ⟨rfl, q5, hw5⟩
  have hb5 := below_drewN (Below.refl w4.heap.size w4) q5
  rw [← hw5] at hb5
  have hbb5 := below_up hbb4 hb5
  have r5 := ((r4.more hb4.size).below hb5 (Nat.le_refl _)).more hb5.size
  clear hw5 m4 r4 r3 r2
  have hb6 := hbb5.alloc hbb5.size (.cells #[.string ⟨#[]⟩, .string ⟨#[]⟩, .bool false] 57)
  have hG6 := Blk.new w5 57 #[.string ⟨#[]⟩, .string ⟨#[]⟩, .bool false]
  have hb56 := (Below.refl w5.heap.size w5).alloc (Nat.le_refl _) (.cells #[.string ⟨#[]⟩, .string ⟨#[]⟩, .bool false] 57)
  go_wp2_with fail
  generalize w5.alloc (.cells #[.string ⟨#[]⟩, .string ⟨#[]⟩, .bool false] 57) = w6 at *
  obtain ⟨gw, hgw⟩ : ∃ gw, gw = w5.heap.size := ⟨_, rfl⟩
  rw [← hgw] at hG6 hb56 ⊢
  have HGW := Lib.hid hgw
  clear hgw
  go_loopw [9, 16] (fun x i wr => ∃ k N : Nat, ∃ R : Ent, k ≤ n ∧ i = .int .i64 k ∧ x = .int .i64 N ∧ Hid (wantL key (l.take k) (6, zeroE) = (N, R)) ∧ Blk wr gw 57 #[.string R.key, .string R.value, .bool R.dead] ∧ Below gw w5 wr) (fun _ i _ => n - (intOf i).toNat)
  case atStart => exact ⟨0, 6, zeroE, Nat.zero_le _, rfl, rfl, Lib.hid rfl, hG6, hb56⟩
  clear hG6 hb56 hb6
  obtain ⟨k, N, R, hk, rfl, rfl, HW, hG, hb56⟩ := hrel
  have hbw : Below w.heap.size w wr := hbb5.trans (hb56.mono (by rw [HGW.out]; exact hbb5.size))
  by_cases hlt : k < n
  · obtain ⟨ad, r, rfl, _, hx, g0, g1, g2⟩ := hr.ent_ hlt (Hn.out).symm hbw (Nat.le_refl _)
    have hst := wantL_take (key := key) hx (6, zeroE)
    have HST := Lib.hid hst
    have hk0 : (0 : Int) ≤ (k : Int) := by omega
    have hk1 : (k : Int) < (n : Int) := by omega
    clear hx hst
    by_cases he : r.key = key
    · have t0 : (r.key.toList == key.toList) = true := by rw [he]; simp
      have HE2 := Lib.hid he
      have f0 := hG.frozen 0
      have f1 := hG.frozen 1
      have f2 := hG.frozen 2
      obtain ⟨y0, y1, y2⟩ := cells3 hG
      have hG3 := blk_set3 (a := .string r.key) (b := .string r.value) (c := .bool r.dead) hG
      have hb3' := ((hb56.setCell (p := ⟨gw, 0, none⟩) (Nat.le_refl _) (.string r.key)).setCell (p := ⟨gw, 1, none⟩) (Nat.le_refl _) (.string r.value)).setCell (p := ⟨gw, 2, none⟩) (Nat.le_refl _) (.bool r.dead)
      clear he
      go_wp2_with fail
      go_roundw
      case rel => exact ⟨k + 1, 0, r, by omega, by go_num, rfl, Lib.hid (by rw [HST.out, if_pos HE2.out]), hG3, hb3'⟩
      case measure => simp [intOf]; omega
    · have t0 : (r.key.toList == key.toList) = false := by simpa using fun h => he (bytes_same h)
      have HE2 := Lib.hid he
      clear he
      go_wp2_with fail
      go_roundw
      case rel => exact ⟨k + 1, N, R, by omega, by go_num, rfl, Lib.hid (by rw [HST.out, if_neg HE2.out]; exact HW.out), hG, hb56⟩
      case measure => simp [intOf]; omega
  · have htk : l.take k = l := List.take_of_length_le (by have := Hn.out; omega)
    have hwl := wantL_is (key := key) HKS.out
    rw [← htk, HW.out, htk] at hwl
    have HN : Hid (gotN key l = N) := Lib.hid (by injection hwl with a b; exact a.symm)
    have HRR : Hid (gotE key l = R) := Lib.hid (by injection hwl with a b; exact b.symm)
    clear htk hwl
    have r6 := r5.below hb56 (by rw [HGW.out]; exact Nat.le_refl _)
    have hval : R.val = .agg #[.string R.key, .string R.value, .bool R.dead] := rfl
    go_wp2_with fail
    refine (HGT.out A2 c2 _ wr r6 hb56.size hc2).mono ?_
    rintro e w7 ⟨rfl, hb7⟩
    rw [HN.out, HRR.out, hval]
    clear hval
    have hbw7 := below_up hbw hb7
    have r7 := (r6.more hb56.size).below hb7 (Nat.le_refl _)
    have hG8 := (hG.up hb7).alloc (.cells #[.string R.key, .string R.value, .bool R.dead] 57)
    have hX8 := Blk.new w7 57 #[.string R.key, .string R.value, .bool R.dead]
    have hbw8 := hbw7.alloc hbw7.size (.cells #[.string R.key, .string R.value, .bool R.dead] 57)
    have r8 := r7.alloc hb7.size (.cells #[.string R.key, .string R.value, .bool R.dead] 57)
    have h78 : w7.heap.size < (w7.alloc (.cells #[.string R.key, .string R.value, .bool R.dead] 57)).heap.size := by simp
    have hs7 := hb7.size
    go_wp2_with fail
    generalize w7.alloc (.cells #[.string R.key, .string R.value, .bool R.dead] 57) = w8 at *
    obtain ⟨gx, hgx⟩ : ∃ gx, gx = w7.heap.size := ⟨_, rfl⟩
    rw [← hgx] at hX8 h78 hs7 ⊢
    clear hgx hG hb56 hbw hbw7 r6 r7
    refine (same_err N N _ (hg.up hbw8)).mono ?_
    rintro e w9 ⟨rfl, hb9⟩
    rw [decide_eq_true (rfl : (N : Int) = (N : Int))]
    have hbw9 := below_up hbw8 hb9
    have r9 := r8.below hb9 (by omega)
    have hG9 := hG8.up hb9
    have hX9 := hX8.up hb9
    have hs9 := hb9.size
    go_wp2_with fail
    refine (HSC.out A2 c2 _ w9 r9 (by omega) hc2).mono ?_
    rintro e w10 ⟨v10, rfl, ho10, hb10⟩
    have hbw10 := below_up hbw9 hb10
    have hG10 := hG9.up hb10
    have hX10 := hX9.up hb10
    obtain ⟨A10, c10, rfl, _, _, _, p10⟩ := own_form ho10
    clear ho10
    go_wp2_with fail
    refine (H6.out w10 hbw10).mono ?_
    rintro e w11 ⟨v11, rfl, ho11, hb11⟩
    have hbw11 := below_up hbw10 hb11
    have hG11 := hG10.up hb11
    have hX11 := hX10.up hb11
    have p11 := (p10.below hb11 (Nat.le_refl _)).more hb11.size
    obtain ⟨A11, c11, rfl, _, _, _, q11⟩ := own_form ho11
    clear ho11
    go_wp2_with fail
    refine (HSP.out A10 A11 c10 c11 w11.heap.size w11 p11 q11).mono ?_
    rintro e w12 ⟨rfl, q12, rfl⟩
    have hbw12 := below_drewN hbw11 q12
    obtain ⟨y0, y1, y2⟩ := cells3 (hG11.drewN q12)
    obtain ⟨x0, x1, x2⟩ := cells3 (hX11.drewN q12)
    have heq := fun W => ent_eql W R
    generalize w11.drewN q12 = w12 at *
    go_wp2_with fail
    go_ret
    exact ⟨rfl, hbw12⟩
theorem lawtable_any (A : Option Addr) (c : Nat) (l : List Ent) (key low high : ByteArray) (w : World) (hg : HasErr w) (hr : Rd w w.heap.size 3 A l.length (entCells l)) (hok : ∀ r ∈ l, r.Ok) (hl : l.length ≤ 140737488355328) :
    Calls Tryd.prog 5 #[.slice A l.length c, .string key, .string low, .string high] w fun e w' => e = .returned (.bool true) ∧ Below w.heap.size w w' := by
  by_cases hE : entsE l = 0
  · exact lawtable_good A c l key low high w hg hr hok hl hE
  · exact lawtable_bad A c l key low high w hg hr hok hl hE
end Go.Proofs.YtcfijljagohmlaaDoor
