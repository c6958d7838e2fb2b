/- The walk of (*Share).Take: a picture is taken. -/
import Derived.Test.YtmeemcafjebanaaGreatDoorShareFind
import Derived.Test.YtmeemcafjebanaaGreatDoorWalkKeys
import Derived.Test.YtmeemcafjebanaaGreatDoorWalkConcat
import Derived.Test.YtmeemcafjebanaaGreatDoorWalkAs
import Derived.Deep.Cut
namespace Go.Proofs.YtmeemcafjebanaaGreatDoor
open Go.RowKit Go.Maps Go.WideMaps

/-- The fault of a picture. -/
def takeE (pics : List Pic) (n : Int) (fs : List ByteArray) : Nat := if n < 0 then 1 else if (atP n pics).isSome then 8 else if 400 < fs.length then 4 else if !fs.all namedB then 2 else 0
/-- Its files' names in order, each once. -/
def dsort (fs : List ByteArray) : List ByteArray := (allKeys fs).map bk
theorem own_sl {w : World} {base n size : Nat} {e : TypeId} {v : Value} {xs : List Value} (h : w.ownsRow base e size v n xs) : ∃ (g : Option Nat) (c : Nat), v = .slice (g.map fun k => ⟨k, 0, none⟩) n c := by
  rcases h.2 with ⟨rfl, rfl⟩ | ⟨g, cap, cur, rfl, _⟩
  · exact ⟨none, 0, rfl⟩
  · exact ⟨some g, cap, rfl⟩
/-- Counts with some names once more. -/
def fT (f : ByteArray → Nat) (l : List ByteArray) : ByteArray → Nat := fun m => f m + if (l.any fun z => decide (z = m)) = true then 1 else 0
theorem fT_nil (f : ByteArray → Nat) (m : ByteArray) : f m = fT f [] m := rfl
theorem any_mem {l : List ByteArray} {m : ByteArray} : (l.any fun z => decide (z = m)) = true ↔ m ∈ l := by
  rw [List.any_eq_true]
  constructor
  · rintro ⟨x, hx, e⟩
    rw [← show x = m from by simpa using e]; exact hx
  · intro h
    exact ⟨m, h, by simp⟩
theorem nodup_take {l : List ByteArray} (h : l.Nodup) {i : Nat} {x : ByteArray} (hx : l[i]? = some x) : x ∉ l.take i := by
  intro hm
  obtain ⟨j, hj⟩ := List.mem_iff_getElem?.1 hm
  have hlt := (List.getElem?_eq_some_iff.1 hj).1
  have hji : j < i := by rw [List.length_take] at hlt; omega
  rw [List.getElem?_take_of_lt hji] at hj
  have hil := (List.getElem?_eq_some_iff.1 hx).1
  have := (List.getElem?_inj (by omega : j < l.length) h).1 (hj.trans hx.symm)
  omega
theorem fT_step {f : ByteArray → Nat} {l : List ByteArray} (h : l.Nodup) {i : Nat} {x : ByteArray} (hx : l[i]? = some x) : ∀ m, setF (fT f (l.take i)) x (fT f (l.take i) x + 1) m = fT f (l.take (i + 1)) m := by
  intro m
  have hn := nodup_take h hx
  have h0 : fT f (l.take i) x = f x := by
    unfold fT
    rw [if_neg (fun e => hn (any_mem.1 e))]; rfl
  rw [h0]
  unfold setF
  split
  · rename_i e
    subst e
    unfold fT
    rw [if_pos]
    rw [any_mem, List.take_add_one, hx]
    exact List.mem_append_right _ (by simp)
  · rename_i e
    unfold fT
    congr 1
    have : (l.take (i + 1)).any (fun z => decide (z = m)) = (l.take i).any (fun z => decide (z = m)) := by
      rw [List.take_add_one, hx, List.any_append]
      have hxm : decide (x = m) = false := decide_eq_false (fun e' => e e'.symm)
      simp [hxm]
    rw [this]
theorem cntP_cons (p : Pic) (pics : List Pic) (m : ByteArray) : fT (cntP pics) p.nm m = cntP (p :: pics) m := by
  unfold fT cntP
  rw [List.countP_cons]
theorem cntP_le (pics : List Pic) (m : ByteArray) : cntP pics m ≤ pics.length := List.countP_le_length
set_option maxRecDepth 100000 in
set_option maxHeartbeats 4000000 in
/-- It is refused. -/
theorem take_no (base g : Nat) (pics : List Pic) (n : Int) (A : Option Addr) (c B : Nat) (fs : List ByteArray) (w : World) (h : ShareIn w base g pics) (hwf : (Lit.int .i64 n).wf = true) (hpl : pics.length ≤ 300) (hr : Rd w B 1 A fs.length (fs.map sv)) (hB : B ≤ w.heap.size) (hfl : fs.length ≤ 140737488355328) (hsz : ∀ x ∈ fs, x.size ≤ 9223372036854775807) (hE : takeE pics n fs ≠ 0) :
    Calls Tryz.prog 8 #[.pointer (some ⟨g, 0, none⟩), .int .i64 n, .slice A fs.length c] w fun r w' => r = .returned (errV (takeE pics n fs)) ∧ Below w.heap.size w w' := by
  obtain ⟨Mp, Mc, C, hblk, hbg, hMp, hMc, hne, hP, hC, hcnt⟩ := h.rows
  have hlk := hP.look hwf
  have c0 := hblk.cell 0
  have c1 := hblk.cell 1
  simp at c0 c1
  obtain ⟨E, hEd⟩ : ∃ E, E = takeE pics n fs := ⟨_, rfl⟩
  rw [← hEd] at hE ⊢
  unfold takeE at hEd
  generalize picV (atP n pics) = pv at *
  by_cases h1 : n < 0
  · rw [if_pos h1] at hEd
    have HE := Lib.hid hEd
    clear hEd hE
    generalize (atP n pics).isSome = bh at *
    go_enter Tryz.func8, Tryz.ntmps8
    go_wp2_with fail
    go_ret
    rw [HE.out]
    exact ⟨rfl, Below.refl _ _⟩
  rw [if_neg h1] at hEd
  rcases hh : (atP n pics).isSome
  · rw [hh] at hlk hEd
    rw [if_neg (by decide)] at hEd
    obtain ⟨D, hD, hL⟩ := hP
    have hsz2 := hL.size
    by_cases h4 : 400 < fs.length
    · rw [if_pos h4] at hEd
      have HE := Lib.hid hEd
      have HS2 := Lib.hid hsz2
      have h4i : (400 : Int) < (fs.length : Int) := by omega
      have h3i : ¬ (400 : Int) ≤ (pics.length : Int) := by omega
      clear hEd hE hh hsz2
      go_enter Tryz.func8, Tryz.ntmps8
      go_wp2_with (first
        | (with_reducible show wpList _ _ _ (⟨some 33, _, _, _, _, _⟩ :: _) _ _; go_must (refine wpList_len_own _ rfl _ 67 rfl 3 23 Tryz.underlying67 slR Mp pics.length D rfl hD ?_); rw [HS2.out]))
      go_ret
      rw [HE.out]
      exact ⟨rfl, Below.refl _ _⟩
    · rw [if_neg h4] at hEd
      rcases hnm : fs.all namedB
      · rw [hnm] at hEd
        rw [if_pos (by decide)] at hEd
        have HE := Lib.hid hEd
        have HS2 := Lib.hid hsz2
        have h4i : ¬ (400 : Int) < (fs.length : Int) := by omega
        have h3i : ¬ (400 : Int) ≤ (pics.length : Int) := by omega
        have hcf := nonames_any A c fs.length B fs w hr rfl hB hfl hsz
        rw [hnm] at hcf
        clear hEd hE hh hsz2 hnm hsz
        go_enter Tryz.func8, Tryz.ntmps8
        go_wp2_with (first
          | (with_reducible show wpList _ _ _ (⟨some 33, _, _, _, _, _⟩ :: _) _ _; go_must (refine wpList_len_own _ rfl _ 67 rfl 3 23 Tryz.underlying67 slR Mp pics.length D rfl hD ?_); rw [HS2.out])
          | (go_at_call 30; go_must (refine hcf.mono ?_); rintro e w2 ⟨rfl, hb2⟩))
        go_ret
        rw [HE.out]
        exact ⟨rfl, hb2⟩
      · rw [hnm] at hEd
        exact absurd (hEd.trans (if_neg (by decide))) hE
  · rw [hh] at hlk hEd
    rw [if_pos rfl] at hEd
    have HE := Lib.hid hEd
    clear hEd hE hh
    go_enter Tryz.func8, Tryz.ntmps8
    go_wp2_with fail
    go_ret
    rw [HE.out]
    exact ⟨rfl, Below.refl _ _⟩
theorem cn_len {w : World} {M : Nat} {C : List Cn} {f : ByteArray → Nat} {L : List ByteArray} (h : CMap w M C) (hc : CntOk f C) (hL : ∀ m, 0 < f m → m ∈ L) : C.length ≤ L.length := by
  obtain ⟨D, _, hM⟩ := h
  have hn : (C.map Cn.name).Nodup := List.pairwise_map.2 (hM.apart.imp fun {a b} h e => h (by rw [kfC, kfC, e]))
  have := nodup_lenL hn (P := L) (fun m hm => by
    obtain ⟨x, hx, rfl⟩ := List.mem_map.1 hm
    obtain ⟨h1, h2⟩ := hc.is_ x hx
    exact hL _ (by omega))
  simpa using this
theorem cntP_mem {pics : List Pic} {m : ByteArray} (h : 0 < cntP pics m) : m ∈ pics.flatMap Pic.nm := by
  obtain ⟨p, hp, hm⟩ := List.countP_pos_iff.1 h
  exact List.mem_flatMap.2 ⟨p, hp, any_mem.1 hm⟩
theorem flat_le400 {pics : List Pic} (h : ∀ p ∈ pics, p.nm.length ≤ 400) : (pics.flatMap Pic.nm).length ≤ 400 * pics.length := by
  induction pics with
  | nil => simp
  | cons p ps ih =>
    have h1 := h p List.mem_cons_self
    have h2 := ih fun q hq => h q (List.mem_cons_of_mem _ hq)
    rw [List.flatMap_cons, List.length_append, List.length_cons]
    omega
theorem fT_mem {pics : List Pic} {l : List ByteArray} {m : ByteArray} (h : 0 < fT (cntP pics) l m) : m ∈ pics.flatMap Pic.nm ++ l := by
  unfold fT at h
  split at h
  · rename_i e; exact List.mem_append_right _ (any_mem.1 e)
  · exact List.mem_append_left _ (cntP_mem (by omega))
theorem fT_le (pics : List Pic) (l : List ByteArray) (m : ByteArray) : fT (cntP pics) l m ≤ pics.length + 1 := by
  have := cntP_le pics m
  unfold fT
  split <;> omega
theorem riseK_nodup {l : List ByteArray} (h : riseK l) : l.Nodup := List.Pairwise.imp (fun {_ _} h e => klt_ne h e) h
theorem dsort_nodup (fs : List ByteArray) : (dsort fs).Nodup := riseK_nodup (allKeys_rise fs)
theorem dsort_mem {fs : List ByteArray} {k : ByteArray} : k ∈ dsort fs ↔ k ∈ fs := allKeys_mem
theorem dsort_len (fs : List ByteArray) : (dsort fs).length ≤ fs.length := by
  rw [dsort, List.length_map]; exact allKeys_len fs
theorem offP_none {pics : List Pic} {n : Int} (h : atP n pics = none) : offKey kfP (.int .i64 n) pics = pics := off_none fun x hx e => atP_none.1 h x hx (by injection e)
theorem takeE_zero {pics : List Pic} {n : Int} {fs : List ByteArray} (h : takeE pics n fs = 0) : ¬ n < 0 ∧ atP n pics = none ∧ fs.length ≤ 400 ∧ fs.all namedB = true := by
  unfold takeE at h
  split at h
  · cases h
  · rename_i h1
    split at h
    · cases h
    · rename_i h2
      split at h
      · cases h
      · rename_i h3
        split at h
        · cases h
        · rename_i h4
          refine ⟨h1, ?_, by omega, by simpa using h4⟩
          rcases ha : atP n pics with _ | x
          · rfl
          · rw [ha] at h2; exact absurd rfl h2
set_option maxRecDepth 100000 in
set_option maxHeartbeats 4000000 in
/-- It is taken. -/
theorem take_yes (base g : Nat) (pics : List Pic) (n : Int) (A : Option Addr) (c B : Nat) (fs : List ByteArray) (w : World) (h : ShareIn w base g pics) (hwf : (Lit.int .i64 n).wf = true) (hpl : pics.length ≤ 300) (hr : Rd w B 1 A fs.length (fs.map sv)) (hB : B ≤ w.heap.size) (hbw : base ≤ w.heap.size) (hsz : ∀ x ∈ fs, x.size ≤ 9223372036854775807) (hE : takeE pics n fs = 0) :
    Calls Tryz.prog 8 #[.pointer (some ⟨g, 0, none⟩), .int .i64 n, .slice A fs.length c] w fun r w' => r = .returned (errV 0) ∧ (∃ gg cc, ShareIn w' base g (⟨n, dsort fs, gg, cc⟩ :: pics)) ∧ Below base w w' ∧ KeepF offMap w w' := by
  obtain ⟨e1, e2, e3, e4⟩ := takeE_zero hE
  obtain ⟨Mp, Mc, C, hblk, hbg, hMp, hMc, hne, hP, hC, hcnt⟩ := h.rows
  have hlk := hP.look hwf
  have c0 := hblk.cell 0
  have c1 := hblk.cell 1
  simp at c0 c1
  have hfine := h.fine
  rw [e2] at hlk
  obtain ⟨D, hD, hL⟩ := hP
  have hsz2 := hL.size
  have HS2 := Lib.hid hsz2
  have h4i : ¬ (400 : Int) < (fs.length : Int) := by omega
  have h3i : ¬ (400 : Int) ≤ (pics.length : Int) := by omega
  have hcf := nonames_any A c fs.length B fs w hr rfl hB (by omega) hsz
  rw [e4] at hcf
  have HN20 := Lib.hid (fun x (hx : x ∈ dsort fs) => namedB_size (List.all_eq_true.1 e4 x (dsort_mem.1 hx)))
  obtain ⟨fl, hfl⟩ : ∃ fl, fl = fs.length := ⟨_, rfl⟩
  have hcl := fun (W : World) (hb : Below w.heap.size w W) => clone_any A c B fs W (hr.below hb hB) (Nat.le_trans hB hb.size) (by omega)
  rw [← hfl] at hcf hcl e3 h4i ⊢
  have HCL := Lib.hid hcl
  have HFL := Lib.hid hfl
  have HL := Lib.hid hL
  have HP0 := Lib.hid (offP_none e2)
  have HFI := Lib.hid hfine
  have HCNT := Lib.hid hcnt
  have hkey := kint_key hwf
  have HND := Lib.hid (dsort_nodup fs)
  have HDL := Lib.hid (dsort_len fs)
  clear hE h hr hcl hsz hfl hL hsz2 e2 e4 hfine hcnt
  go_enter Tryz.func8, Tryz.ntmps8
  go_upto_region 11 with (first
    | (with_reducible show wpList _ _ _ (⟨some 33, _, _, _, _, _⟩ :: _) _ _; go_must (refine wpList_len_own _ rfl _ 67 rfl 3 23 Tryz.underlying67 slR Mp pics.length D rfl hD ?_); rw [HS2.out])
    | (go_at_call 30; go_must (refine hcf.mono ?_); rintro e w1 ⟨rfl, hb1⟩; have hcl := HCL.out w1 hb1)
    | (go_at_call 33; go_must (refine hcl.mono ?_); rintro e w2 ⟨v2, rfl, hown2, hb2⟩))
  have hb2w := hb1.trans (hb2.mono hb1.size)
  have hs12 := hb1.size
  have hsr := sort_any v2 fl w1.heap.size fs w2 hown2 hb2.size (by omega)
  go_upto_region 12 with (go_at_call 34; go_must (refine hsr.mono ?_); rintro e w3 ⟨rfl, hown3, hb3⟩)
  have hb3w := hb2w.trans (hb3.mono hs12)
  have hcp := compact_any v2 fl w1.heap.size fs w3 hown3 (Nat.le_trans hb2.size hb3.size) (by omega)
  go_upto_region 13 with (go_at_call 35; go_must (refine hcp.mono ?_); rintro e w4 ⟨v4, rfl, hown4, hb4⟩)
  have hb4w := hb3w.trans (hb4.mono hs12)
  have hown4 : w4.ownsRow w1.heap.size 9 1 v4 (dsort fs).length ((dsort fs).map sv) := by
    rw [dsort, List.length_map]; exact hown4
  obtain ⟨gg, cc, rfl⟩ := own_sl hown4
  obtain ⟨m, hm⟩ : ∃ m, m = (dsort fs).length := ⟨_, rfl⟩
  have HM := Lib.hid hm
  have hm4 : m ≤ 400 := by have := HDL.out; have := HFL.out; omega
  have hown4b := own_base hown4 hs12
  rw [← hm] at hown4 hown4b ⊢
  obtain ⟨A4, c4, e44, _, _, _, hr4⟩ := own_form hown4
  injection e44 with e44 _ e45
  subst e44 e45
  clear hm hcf hsr hcp hown2 hown3 hb2 hb3 hb4 hcl
  have hD4 := own_up_map hD hb4w
  have hC4 := hC.up hb4w
  have hblk4 := hblk.up hb4w
  have c0 := hblk4.cell 0
  simp at c0
  have hR : slR (.slice (gg.map fun k => ⟨k, 0, none⟩) m cc) = some (pD ⟨n, dsort fs, gg, cc⟩, []) := by rw [HM.out]; exact slR_mk _ _ _
  go_upto_region 14 with (first
    | (at_mapUpdate; go_must (refine wpList_mapUpdate_own _ rfl _ _ _ 67 rfl 3 23 kint Tryz.underlying67 slR Mp pics.length D rfl hD4 (by unfold maxLen; omega) _ _ (.int .i64 n) rfl rfl hkey (pD ⟨n, dsort fs, gg, cc⟩) [] hR ?_); intro w5 hown5 hgr5))
  have hk5 := keepM_grown hD4 hgr5
  have hP5 : PMap w5 Mp (⟨n, dsort fs, gg, cc⟩ :: pics) := by
    have hput := HL.out.put ⟨n, dsort fs, gg, cc⟩ (kfP_lit _)
    rw [show kfP (⟨n, dsort fs, gg, cc⟩ : Pic) = .int .i64 n from rfl, HP0.out] at hput
    exact PMap.of hown5 hput
  have hC5 := hC4.same (hgr5.block Mc hC4.lt (fun e => hne (by injection e with e; exact e.symm)))
  have hblk5 := hk5.blk hblk4 rfl
  have hr5 := Rd.map_ hr4 hD4 hgr5
  have hown5r := hk5.own hown4b (fun _ => rfl)
  have hb5 : Below base w w5 := (hb4w.mono hbw).grown hgr5 (Nat.le_trans hbw hb4w.size) (fun j hj => by cases hj; exact hMp)
  have hkw5 : KeepF offMap w w5 := (keepF_below hb4w).trans hk5
  clear hlk hD hD4 hown5 hgr5 hk5 hC4 hblk hblk4 hR hown4 hown4b hr4 c0 c1 hC hkey h3i h4i
  obtain ⟨LN, hLN⟩ : ∃ LN, LN = dsort fs := ⟨_, rfl⟩
  rw [← hLN] at hr5 hown5r hP5
  have HLN := Lib.hid hLN
  clear hLN
  obtain ⟨A5, hA5⟩ : ∃ A5, A5 = Option.map (fun k => (⟨k, 0, none⟩ : Addr)) gg := ⟨_, rfl⟩
  rw [← hA5] at hr5 hown5r ⊢
  have HA5 := Lib.hid hA5
  clear hA5
  go_wp2_with fail
  go_loopw [59] (fun iv wr => ∃ (i : Nat) (C2 : List Cn), i ≤ m ∧ iv = .int .i64 i ∧ CMap wr Mc C2 ∧ Hid (CntOk (fT (cntP pics) (LN.take i)) C2) ∧ w5.grownBy wr (some Mc)) (fun iv _ => m - (intOf iv).toNat)
  case atStart => exact ⟨0, C, Nat.zero_le _, rfl, hC5, Lib.hid (HCNT.out.congr fun x => fT_nil _ _), only_refl _ _⟩
  obtain ⟨i, C2, hi, rfl, hC, HC2, hgr⟩ := hrel
  obtain ⟨D5, hD5, hL5⟩ := hC5
  have hkr := keepM_grown hD5 hgr
  by_cases hlt : i < m
  · have hx : LN[i]? = some (strAt LN i) := by
      have h1 := HM.out
      have h2 := HLN.out
      rw [strAt, List.getD_eq_getElem?_getD, List.getElem?_eq_getElem (by rw [h2]; omega)]; rfl
    obtain ⟨ad, rfl, _, g0⟩ := (Rd.map_ hr5 hD5 hgr).str_ hlt
    obtain ⟨x, hxe⟩ : ∃ x, x = strAt LN i := ⟨_, rfl⟩
    rw [← hxe] at g0 hx
    have h20 : x.size ≤ 20 := HN20.out x (by rw [← HLN.out]; exact List.mem_of_getElem? hx)
    have c1 := (hkr.blk hblk5 rfl).cell 1
    simp at c1
    have hlk2 := hC.look (n := x) (Nat.le_trans h20 (by decide))
    rw [HC2.out.at_ x] at hlk2
    have hkx := fT_le pics (LN.take i) x
    have hclen := cn_len hC HC2.out (fun m hm => fT_mem hm)
    have hfl4 := flat_le400 (pics := pics) fun p hp => (HFI.out p hp).2.2.2
    have htk : (LN.take i).length ≤ i := List.length_take_le _ _
    rw [List.length_append] at hclen
    have HPUT := Lib.hid ((HC2.out.put x (k := fT (cntP pics) (LN.take i) x + 1) (Nat.succ_pos _)).congr (fT_step (by rw [HLN.out]; exact HND.out) hx))
    obtain ⟨D2, hD2, hL2⟩ := hC
    have HL2 := Lib.hid hL2
    have hkey2 := klS_key (k := x) (Nat.le_trans h20 (by decide))
    generalize fT (cntP pics) (LN.take i) x = kx at *
    have hcR : cR (.int .i64 ((kx : Int) + 1)) = some (cD ⟨x, kx + 1⟩, []) := rfl
    have hcl2 : C2.length < maxLen := by unfold maxLen; omega
    have hi0 : (0 : Int) ≤ (i : Int) := by omega
    have hi1 : (i : Int) < (m : Int) := by omega
    clear hxe hx hL2 hL5 hclen hfl4 htk
    go_wp2_with (first
      | (at_mapUpdate; go_must (refine wpList_mapUpdate_own _ rfl _ _ _ 68 rfl 9 3 kstr Tryz.underlying68 cR Mc C2.length D2 rfl hD2 hcl2 _ _ (klS x) rfl rfl hkey2 (cD ⟨x, kx + 1⟩) [] hcR ?_); intro w6 hown6 hgr6))
    go_roundw
    case rel => exact ⟨i + 1, _, hlt, by go_num, CMap.of hown6 (HL2.out.put ⟨x, kx + 1⟩ (kfC_lit _)), HPUT, only_trans hgr hgr6⟩
    case measure => simp [intOf]; omega
  · obtain rfl : i = m := by omega
    have hP6 := hP5.same (hgr.block Mp hP5.lt (fun e => hne (by injection e)))
    have hblk6 := hkr.blk hblk5 rfl
    have hown6 := hkr.own hown5r (fun _ => rfl)
    have hcz : CntOk (cntP (⟨n, LN, gg, cc⟩ :: pics)) C2 := by
      have h1 := HC2.out
      rw [List.take_of_length_le (by rw [HLN.out, HM.out]; exact Nat.le_refl _)] at h1
      exact h1.congr fun y => cntP_cons ⟨n, LN, gg, cc⟩ pics y
    have HCZ := Lib.hid hcz
    clear hcz hL5
    go_wp2_with fail
    go_ret
    rw [← HLN.out]
    refine ⟨rfl, ⟨gg, cc, ⟨Mp, Mc, C2, hblk6, hbg, hMp, hMc, hne, hP6, hC, HCZ.out⟩, fun p hp => ?_⟩, hb5.grown hgr (Nat.le_trans hbw hb5.size) (fun j hj => by cases hj; exact hMc), hkw5.trans hkr⟩
    rcases List.mem_cons.1 hp with rfl | hp
    · refine ⟨?_, fun x hx => HN20.out x (by rw [← HLN.out]; exact hx), by show LN.Nodup; rw [HLN.out]; exact HND.out, by show LN.length ≤ 400; rw [HLN.out, ← HM.out]; exact hm4⟩
      show World.ownsRow _ base _ 1 (.slice (gg.map fun k => ⟨k, 0, none⟩) LN.length cc) LN.length (LN.map sv)
      rw [← HA5.out, show LN.length = i from by rw [HLN.out, ← HM.out]]
      exact own_base hown6 hbw
    · obtain ⟨k1, k2⟩ := HFI.out p hp
      exact ⟨(k1.keep hkw5 (fun _ => rfl)).keep hkr (fun _ => rfl), k2⟩
end Go.Proofs.YtmeemcafjebanaaGreatDoor
