/- The walks of (*Share).Drop, Count, New. -/
import Derived.Test.YtmeemcafjebanaaGreatDoorShareTake
namespace Go.Proofs.YtmeemcafjebanaaGreatDoor
open Go.RowKit Go.Maps Go.WideMaps

def offI (n : Int) (l : List Pic) : List Pic := offKey kfP (.int .i64 n) l
theorem mem_offI {n : Int} {l : List Pic} {x : Pic} : x ∈ offI n l ↔ x ∈ l ∧ x.n ≠ n := by
  rw [offI, mem_off (klI_lit n)]
  exact ⟨fun ⟨h1, h2⟩ => ⟨h1, fun e => h2 (by rw [kfP, e])⟩, fun ⟨h1, h2⟩ => ⟨h1, fun e => h2 (by injection e)⟩⟩
theorem offI_is (n : Int) (l : List Pic) : offI n l = l.filter fun z => !decide (z.n = n) := by
  unfold offI offKey
  congr 1
  funext z
  by_cases h : z.n = n
  · rw [show kfP z = Lit.int .i64 n from by rw [kfP, h], WideAt.sameKey_self (klI_lit n)]
    simp [h]
  · rw [show (kfP z).sameKey (Lit.int .i64 n) = false from sameKey_ne (fun e => h (by injection e))]
    simp [h]
/-- Counts with some names still once more: those from the i-th on. -/
theorem drop_fT {l : List ByteArray} (h : l.Nodup) {i : Nat} {x : ByteArray} (hx : l[i]? = some x) (f : ByteArray → Nat) : ∀ m, setF (fT f (l.drop i)) x (fT f (l.drop i) x - 1) m = fT f (l.drop (i + 1)) m := by
  intro m
  have hlt := (List.getElem?_eq_some_iff.1 hx).1
  have hd : l.drop i = x :: l.drop (i + 1) := by
    rw [List.drop_eq_getElem_cons hlt]
    rw [List.getElem?_eq_getElem hlt] at hx
    injection hx with hx
    rw [hx]
  have hn : x ∉ l.drop (i + 1) := by
    have : (l.drop i).Nodup := h.sublist (List.drop_sublist _ _)
    rw [hd] at this
    exact (List.nodup_cons.1 this).1
  have h0 : fT f (l.drop i) x = f x + 1 := by
    unfold fT
    rw [if_pos (any_mem.2 (by rw [hd]; exact List.mem_cons_self))]
  rw [h0]
  unfold setF
  split
  · rename_i e
    subst e
    unfold fT
    rw [if_neg (fun e => hn (any_mem.1 e))]
    rfl
  · rename_i e
    unfold fT
    congr 1
    rw [hd, List.any_cons]
    have hxm : decide (x = m) = false := decide_eq_false (fun e' => e e'.symm)
    rw [hxm, Bool.false_or]
theorem cntP_perm {a b : List Pic} (h : a.Perm b) (m : ByteArray) : cntP a m = cntP b m := h.countP_eq _
theorem off_perm {pics : List Pic} (hn : pics.Pairwise fun a b => a.n ≠ b.n) {n : Int} {p : Pic} (h : atP n pics = some p) : pics.Perm (p :: offI n pics) := by
  rw [offI_is]
  induction pics with
  | nil => cases h
  | cons q qs ih =>
    obtain ⟨h1, h2⟩ := List.pairwise_cons.1 hn
    by_cases e : q.n = n
    · have hq : q = p := by
        rw [atP, List.find?_cons_of_pos (by simpa using e)] at h
        injection h
      subst hq
      rw [List.filter_cons_of_neg (by simp [e]), List.filter_eq_self.2]
      intro z hz
      have := h1 z hz
      simp
      intro e2
      exact this (e.trans e2.symm)
    · have hq : atP n qs = some p := by
        rw [atP, List.find?_cons_of_neg (by simpa using e)] at h
        exact h
      rw [List.filter_cons_of_pos (by simp [e])]
      exact ((ih h2 hq).cons q).trans (List.Perm.swap _ _ _)
theorem PMap.apart {w : World} {M : Nat} {l : List Pic} (h : PMap w M l) : l.Pairwise fun a b => a.n ≠ b.n := by
  obtain ⟨D, _, hL⟩ := h
  exact hL.apart.imp fun {a b} h e => h (by rw [kfP, kfP, e])
theorem CntOk.mem {f : ByteArray → Nat} {C C' : List Cn} (h : CntOk f C) (e : ∀ y, y ∈ C' ↔ y ∈ C) : CntOk f C' :=
  ⟨fun x hx => h.is_ x ((e x).1 hx), fun nm hm => by
    obtain ⟨x, hx, hn⟩ := h.has nm hm
    exact ⟨x, (e x).2 hx, hn⟩⟩
/-- The fault of a picture that is to be there. -/
def dropE (pics : List Pic) (n : Int) : Nat := if (atP n pics).isSome then 0 else 6
set_option maxRecDepth 100000 in
set_option maxHeartbeats 4000000 in
theorem drop_no (base g : Nat) (pics : List Pic) (n : Int) (w : World) (h : ShareIn w base g pics) (hwf : (Lit.int .i64 n).wf = true) (hE : atP n pics = none) :
    Calls Tryz.prog 9 #[.pointer (some ⟨g, 0, none⟩), .int .i64 n] w fun r w' => r = .returned (errV 6) ∧ w' = w := by
  obtain ⟨Mp, Mc, C, hblk, hbg, hMp, hMc, hne, hP, hC, hcnt⟩ := h.rows
  have hlk := hP.look hwf
  have c0 := hblk.cell 0
  simp at c0
  rw [hE] at hlk
  clear hE
  go_enter Tryz.func9, Tryz.ntmps9
  go_wp2_with fail
  go_ret
  exact ⟨rfl, rfl⟩
set_option maxRecDepth 100000 in
set_option maxHeartbeats 4000000 in
theorem drop_yes (base g : Nat) (pics : List Pic) (n : Int) (p : Pic) (w : World) (h : ShareIn w base g pics) (hwf : (Lit.int .i64 n).wf = true) (hpl : pics.length ≤ 300) (hbw : base ≤ w.heap.size) (hE : atP n pics = some p) :
    Calls Tryz.prog 9 #[.pointer (some ⟨g, 0, none⟩), .int .i64 n] w fun r w' => r = .returned (errV 0) ∧ ShareIn w' base g (offI n pics) ∧ Below base w w' ∧ KeepF offMap w w' := by
  obtain ⟨Mp, Mc, C, hblk, hbg, hMp, hMc, hne, hP, hC, hcnt⟩ := h.rows
  have hlk := hP.look hwf
  have c0 := hblk.cell 0
  simp at c0
  rw [hE] at hlk
  obtain ⟨hpm, hpn⟩ := atP_some hE
  obtain ⟨hpo, hp20, hpd, hp4⟩ := h.fine p hpm
  have hperm := off_perm hP.apart hE
  have HFI := Lib.hid h.fine
  have HCZ : Hid (∀ m, cntP pics m = fT (cntP (offI n pics)) p.nm m) := Lib.hid (fun m => (cntP_perm hperm m).trans (cntP_cons p _ m).symm)
  have HP20 := Lib.hid hp20
  have HPD := Lib.hid hpd
  have hplen : (offI n pics).length ≤ 300 := by
    have := hperm.length_eq
    rw [List.length_cons] at this
    omega
  have hkey := kint_key hwf
  obtain ⟨D, hD, hL⟩ := hP
  have HL := Lib.hid hL
  replace hlk : (Instr.lookup 67 (.map (some Mp)) (.int .i64 n) true).run Tryz.prog w = .ok (.tuple #[.slice (p.g.map fun k => ⟨k, 0, none⟩) p.nm.length p.c, .bool true]) w := hlk
  have hpo2 : w.ownsRow base 9 1 (.slice (p.g.map fun k => ⟨k, 0, none⟩) p.nm.length p.c) p.nm.length (p.nm.map sv) := hpo
  obtain ⟨LN, hLN⟩ : ∃ LN, LN = p.nm := ⟨_, rfl⟩
  obtain ⟨m, hm⟩ : ∃ m, m = p.nm.length := ⟨_, rfl⟩
  obtain ⟨A5, hA5⟩ : ∃ A5, A5 = Option.map (fun k => (⟨k, 0, none⟩ : Addr)) p.g := ⟨_, rfl⟩
  have hr5 := own_rd hpo2
  rw [← hm] at hlk hr5 hp4
  rw [← hA5] at hlk hr5
  rw [← hLN] at hr5 HCZ HP20 HPD
  have HLL : Hid (LN.length = m) := Lib.hid (by rw [hLN, hm])
  have HCNT := Lib.hid hcnt
  clear hcnt hA5 hm hLN hpo hpo2 hp20 hpd hE hperm hpm hL h
  go_enter Tryz.func9, Tryz.ntmps9
  go_upto_region 5 with (first
    | (at_delete; go_must (refine wpList_delete_own _ rfl _ _ 67 3 rfl 23 kint Tryz.underlying67 slR Mp pics.length D rfl hD _ (.int .i64 n) rfl hkey ?_); intro w5 hown5 hgr5))
  have hgr5 := hgr5.grown
  have hk5 := keepM_grown hD hgr5
  have hP5 : PMap w5 Mp (offI n pics) := PMap.of hown5 (HL.out.del (.int .i64 n) (klI_lit n))
  have hC5 := hC.same (hgr5.block Mc hC.lt (fun e => hne (by injection e with e; exact e.symm)))
  have hblk5 := hk5.blk hblk rfl
  have hr5 := Rd.map_ hr5 hD hgr5
  have hb5 : Below base w w5 := (Below.refl base w).grown hgr5 hbw (fun j hj => by cases hj; exact hMp)
  clear hlk hD hown5 hgr5 hC hblk c0 hkey
  go_wp2_with fail
  go_loopw [28] (fun iv wr => ∃ (i : Nat) (C2 : List Cn), i ≤ m ∧ iv = .int .i64 i ∧ CMap wr Mc C2 ∧ Hid (CntOk (fT (cntP (offI n pics)) (LN.drop i)) C2) ∧ w5.grownBy wr (some Mc)) (fun iv _ => m - (intOf iv).toNat)
  case atStart => exact ⟨0, C, Nat.zero_le _, rfl, hC5, Lib.hid (HCNT.out.congr HCZ.out), only_refl _ _⟩
  obtain ⟨i, C2, hi, rfl, hC, HC2, hgr⟩ := hrel
  obtain ⟨D5, hD5, hL5⟩ := hC5
  have hkr := keepM_grown hD5 hgr
  by_cases hlt : i < m
  · have hx : LN[i]? = some (strAt LN i) := by
      have h1 := HLL.out
      rw [strAt, List.getD_eq_getElem?_getD, List.getElem?_eq_getElem (by omega)]; rfl
    obtain ⟨ad, hade, _, g0⟩ := (Rd.map_ hr5 hD5 hgr).str_ hlt
    obtain rfl := hade
    obtain ⟨x, hxe⟩ : ∃ x, x = strAt LN i := ⟨_, rfl⟩
    rw [← hxe] at g0 hx
    have h20 : x.size ≤ 20 := HP20.out x (List.mem_of_getElem? hx)
    have c1 := (hkr.blk hblk5 rfl).cell 1
    simp at c1
    have hlk2 := hC.look (n := x) (Nat.le_trans h20 (by decide))
    rw [HC2.out.at_ x] at hlk2
    have hkx := fT_le (offI n pics) (LN.drop i) x
    have hpos : 0 < fT (cntP (offI n pics)) (LN.drop i) x := by
      unfold fT
      rw [if_pos (any_mem.2 (by
        have hlt2 := (List.getElem?_eq_some_iff.1 hx).1
        rw [List.drop_eq_getElem_cons hlt2]
        rw [List.getElem?_eq_getElem hlt2] at hx
        injection hx with hx
        rw [hx]
        exact List.mem_cons_self))]
      exact Nat.succ_pos _
    have hclen := cn_len hC HC2.out (fun m hm => fT_mem hm)
    have hfl4 := flat_le400 (pics := offI n pics) fun q hq => (HFI.out q (mem_offI.1 hq).1).2.2.2
    have hdl : (LN.drop i).length ≤ 400 := by rw [List.length_drop, HLL.out]; omega
    rw [List.length_append] at hclen
    have HST := Lib.hid (drop_fT HPD.out hx (cntP (offI n pics)))
    have hcl2 : C2.length < maxLen := by unfold maxLen; omega
    have hi0 : (0 : Int) ≤ (i : Int) := by omega
    have hi1 : (i : Int) < (m : Int) := by omega
    have hkey2 := klS_key (k := x) (Nat.le_trans h20 (by decide))
    obtain ⟨D2, hD2, hL2⟩ := hC
    have HL2 := Lib.hid hL2
    obtain ⟨kx, hkxe⟩ : ∃ kx, kx = fT (cntP (offI n pics)) (LN.drop i) x := ⟨_, rfl⟩
    rw [← hkxe] at hlk2 hkx hpos HST
    obtain ⟨k1, rfl⟩ : ∃ k1, kx = k1 + 1 := ⟨kx - 1, by omega⟩
    clear hkxe
    have hcR : cR (.int .i64 (k1 : Int)) = some (cD ⟨x, k1⟩, []) := rfl
    have hlk2 : (Instr.lookup 68 (.map (some Mc)) (.string x) false).run Tryz.prog wr = .ok (.int .i64 ((k1 : Int) + 1)) wr := hlk2
    have HGR := Lib.hid hgr
    clear hxe hx hL2 hL5 hclen hfl4 hdl hpos
    go_upto_region 9 with (first
      | (at_mapUpdate; go_must (refine wpList_mapUpdate_own _ rfl _ _ _ 68 rfl 9 3 kstr Tryz.underlying68 cR Mc C2.length D2 rfl hD2 hcl2 _ _ (klS x) rfl rfl hkey2 (cD ⟨x, k1⟩) [] hcR ?_); intro w6 hown6 hgr6))
    have hk6 := keepM_grown hD2 hgr6
    have hC6 : CMap w6 Mc (⟨x, k1⟩ :: offC x C2) := CMap.of hown6 (HL2.out.put ⟨x, k1⟩ (kfC_lit _))
    have hgr56 := only_trans HGR.out hgr6
    have c1 := (hk6.blk (hkr.blk hblk5 rfl) rfl).cell 1
    simp at c1
    have hlk3 := hC6.look (n := x) (Nat.le_trans h20 (by decide))
    rw [show atC x (⟨x, k1⟩ :: offC x C2) = some ⟨x, k1⟩ from by rw [atC, List.find?_cons_of_pos (by simp)]] at hlk3
    replace hlk3 : (Instr.lookup 68 (.map (some Mc)) (.string x) false).run Tryz.prog w6 = .ok (.int .i64 (k1 : Int)) w6 := hlk3
    clear hlk2 hD2 hown6 hgr6 hk6 hcR
    rcases Nat.eq_zero_or_pos k1 with hk0 | hk0
    · have HC7 : Hid (CntOk (fT (cntP (offI n pics)) (LN.drop (i + 1))) (offC x (⟨x, k1⟩ :: offC x C2))) := Lib.hid (by
        have h1 := (HC2.out.del x).congr (f' := fT (cntP (offI n pics)) (LN.drop (i + 1))) (fun m => by have := HST.out m; rw [hk0] at this; exact this)
        refine h1.mem fun y => ?_
        rw [mem_offC]
        constructor
        · rintro ⟨hy, hyn⟩
          rcases List.mem_cons.1 hy with rfl | hy
          · exact absurd rfl hyn
          · exact hy
        · intro hy
          exact ⟨List.mem_cons_of_mem _ hy, (mem_offC.1 hy).2⟩)
      obtain ⟨D6, hD6, hL6⟩ := hC6
      have HL6 := Lib.hid hL6
      rw [hk0] at hlk3
      clear hL6 hk0
      go_wp2_with (first
        | (at_delete; go_must (refine wpList_delete_own _ rfl _ _ 68 9 rfl 3 kstr Tryz.underlying68 cR Mc _ D6 rfl hD6 _ (klS x) rfl hkey2 ?_); intro w7 hown7 hgr7))
      go_roundw
      case rel => exact ⟨i + 1, _, hlt, by go_num, CMap.of hown7 (HL6.out.del (klS x) (klS_lit x)), HC7, only_trans hgr56 hgr7.grown⟩
      case measure => simp [intOf]; omega
    · have HC7 : Hid (CntOk (fT (cntP (offI n pics)) (LN.drop (i + 1))) (⟨x, k1⟩ :: offC x C2)) := Lib.hid ((HC2.out.put x hk0).congr HST.out)
      have hk1 : ¬ (k1 : Int) = 0 := by omega
      go_wp2_with fail
      go_roundw
      case rel => exact ⟨i + 1, _, hlt, by go_num, hC6, HC7, hgr56⟩
      case measure => simp [intOf]; omega
  · obtain rfl : i = m := by omega
    have hP6 := hP5.same (hgr.block Mp hP5.lt (fun e => hne (by injection e)))
    have hblk6 := hkr.blk hblk5 rfl
    have hcz : CntOk (cntP (offI n pics)) C2 := by
      have h1 := HC2.out
      rw [List.drop_of_length_le (by rw [HLL.out]; exact Nat.le_refl _)] at h1
      exact h1.congr fun y => (fT_nil _ y).symm
    have HCZ2 := Lib.hid hcz
    clear hcz hL5
    go_wp2_with fail
    go_ret
    refine ⟨rfl, ⟨⟨Mp, Mc, C2, hblk6, hbg, hMp, hMc, hne, hP6, hC, HCZ2.out⟩, fun q hq => ?_⟩, hb5.grown hgr (Nat.le_trans hbw hb5.size) (fun j hj => by cases hj; exact hMc), hk5.trans hkr⟩
    obtain ⟨k1, k2⟩ := HFI.out q (mem_offI.1 hq).1
    exact ⟨(k1.keep hk5 (fun _ => rfl)).keep hkr (fun _ => rfl), k2⟩
end Go.Proofs.YtmeemcafjebanaaGreatDoor
