/- LsmReads LsmWrites in one text. -/
import Derived.Test.YtcfijljagohmlaaGreatDoorLsmSlices
import Derived.Deep.RegionHeld3
import Derived.Test.YtcfijljagohmlaaGreatDoorWalkPart
import Derived.Test.YtcfijljagohmlaaGreatDoorWalkTabs
import Derived.StillTailTactics
import Derived.BigQuiet
import Derived.Deep.DrawnRows
/- WalkLsm1 WalkLsm2 in one text. -/
/- The walks of lsm.news and lsm.all. -/
namespace Go.Proofs.YtcfijljagohmlaaGreatDoor
open Go.RowKit Go.Maps Go.WideMaps

theorem entOf_perm {O F : List Ent} (hp : O.Perm F) (hF : riseE F) (k : ByteArray) : entOf O k = entOf F k := by
  rcases hf : entOf F k with _ | x
  · exact entOf_none.2 fun y hy => entOf_none.1 hf y (hp.mem_iff.1 hy)
  · obtain ⟨h1, h2⟩ := entOf_some hf
    rcases ho : entOf O k with _ | y
    · exact absurd h2 (entOf_none.1 ho x (hp.mem_iff.2 h1))
    · obtain ⟨h3, h4⟩ := entOf_some ho
      have h5 := entOf_mem hF (hp.mem_iff.1 h3)
      rw [h4, hf] at h5
      exact h5.symm
theorem mix_perm {O F : List Ent} (hp : O.Perm F) (hF : riseE F) : mixL O = F :=
  rise_ext (mix_rise _) hF fun k => by rw [mix_of, entOf_perm hp hF]
theorem mixO_true (ls : List (List Ent)) : mixO true ls = mixL ls.flatten := List.filter_eq_self.2 fun _ _ => rfl
theorem rdee_one {W : World} {B : Nat} {A : Option Addr} {c : Nat} {b : List Ent} (hr : Rd W B 3 A b.length (entCells b)) (hB : B ≤ W.heap.size) (hlc : b.length ≤ c) (hcm : c ≤ maxLen) :
    RdEE (W.alloc (.cells #[.slice A b.length c] 57)) (W.heap.size + 1) (some ⟨W.heap.size, 0, none⟩) [b] := by
  intro _
  refine ⟨_, rfl, by simp, fun i l hl => ?_⟩
  rcases i with _ | i
  · obtain rfl : b = l := by simpa using hl
    exact ⟨A, c, (Blk.new W 57 #[.slice A b.length c]).cell 0, hlc, hcm, (hr.alloc hB _).more (by omega)⟩
  · simp at hl
theorem LsmOk.few_fresh {s : Lsm} (h : LsmOk s) : s.F.length ≤ 400 := Nat.le_trans h.fresh_le h.few
theorem LsmOk.keyF {s : Lsm} (h : LsmOk s) : ∀ e ∈ s.F, e.key.size ≤ 120 := fun e he => (entE_good (h.fine e he)).1
set_option maxRecDepth 100000 in
set_option maxHeartbeats 4000000 in
theorem news_any (base g M : Nat) (lim : Int) (s : Lsm) (w : World) (h : LsmIn w base g M lim s) :
    Calls Tryz.prog 63 #[.pointer (some ⟨g, 0, none⟩)] w fun e w' => ∃ A c, e = .returned (.slice A s.F.length c) ∧ s.F.length ≤ c ∧ c ≤ maxLen ∧ w'.ownsRow w.heap.size 67 3 (.slice A s.F.length c) s.F.length (entCells s.F) ∧ Below w.heap.size w w' := by
  have hF4 := h.ok.few_fresh
  have HF := Lib.hid h.ok.rise
  have HKF := Lib.hid h.ok.keyF
  obtain ⟨D, hown, hmap⟩ := h.map_
  obtain ⟨vt, vl, bs, es, hblk, _⟩ := h.rows
  have c1 := hblk.cell 1
  simp at c1
  obtain ⟨F, hFF⟩ : ∃ F, F = s.F := ⟨_, rfl⟩
  obtain ⟨fn, hfn⟩ : ∃ fn, fn = F.length := ⟨_, rfl⟩
  rw [← hFF] at hF4 HF HKF hown hmap ⊢
  rw [← hfn] at hF4 hown ⊢
  have hMl := hown.lt
  have HFN := Lib.hid hfn
  have HM := Lib.hid hmap
  clear hFF hfn hblk h hmap
  go_enter Tryz.func63, Tryz.ntmps63
  go_wp2_with (first
    | (at_range; go_must (refine wpList_range_own _ rfl _ 114 rfl 9 67 kstr Tryz.underlying114 entR M fn D rfl hown ?_); intro w0 hrg0 hg0 hs0))
  go_frame
  go_loopw [3] (fun o wr => ∃ (left : Lit → Bool) (cnt : Nat) (O : List Ent), wr.ranges Tryz.prog 9 entR M w.heap.size fn D left cnt ∧ Hid (CollL kfE F (fun _ => true) D left O) ∧ wr.ownsRow (w.heap.size + 1) 67 3 o O.length (entCells O) ∧ w.heap.size + 1 ≤ wr.heap.size ∧ Below w.heap.size w wr) (fun _ wr => wr.rangeLeft M w.heap.size)
  case atStart => exact ⟨_, _, [], hrg0, Lib.hid (CollL.start HM.out), World.ownsRow_nil _ _ _ _, by omega, (Below.refl _ _).grown hg0 (Nat.le_refl _) (fun j hj => by cases hj)⟩
  clear hrg0 hg0 hs0 hown
  obtain ⟨left, cnt, O, hrg, HC, hro, hsz, hbel⟩ := hrel
  have hfew : O.length ≤ fn := by rw [HFN.out]; exact HC.out.few
  go_wp2_with (first
    | (at_next; go_must (refine wpList_next_ranges _ rfl _ rfl 9 kstr entR Value.string (fun e : Ent => .agg #[.string e.key, .string e.value, .bool e.dead]) (fun key kl h => keyOf_str_inv h) (fun v y hv => by obtain ⟨e, rfl, _⟩ := entR_inv hv; exact ⟨e, rfl⟩) M w.heap.size fn D left cnt rfl hrg ?_ ?_)))
  · intro hc0 hl0
    have hp := HC.out.done HM.out hl0
    rw [List.filter_eq_self.2 fun _ _ => rfl] at hp
    have HMX : Hid (mixO true [O] = F) := Lib.hid (by rw [mixO_true]; simpa using mix_perm hp HF.out)
    obtain ⟨A5, c5, rfl, hnc, hcm, _, r5⟩ := own_form hro
    have hmx := mix_any (some ⟨wr.heap.size, 0, none⟩) 1 (wr.heap.size + 1) 1 [O] true (wr.alloc (.cells #[.slice A5 O.length c5] 57)) (rdee_one r5 (Nat.le_refl _) hnc hcm) rfl (by simp) (by omega) (by simp; omega) (fun l hl e he => by
      rw [List.mem_singleton.1 hl] at he
      have := HKF.out e (hp.mem_iff.1 he)
      unfold maxLen; omega)
    rw [HMX.out, ← HFN.out] at hmx
    clear hro r5 hp hrg
    go_wp2_with (go_at_call 98; go_must (refine hmx.mono ?_); rintro e w5 ⟨A6, c6, rfl, q1, q2, _, hown6, hb6⟩)
    go_ret
    have hb7 := hbel.alloc hbel.size (.cells #[.slice A5 O.length c5] 57)
    exact ⟨A6, c6, rfl, q1, q2, own_base hown6 hb7.size, hb7.trans (hb6.mono hb7.size)⟩
  · intro x e kl y1 y2 w1 cnt1 hkx hlk hRc hat hrg1 hlt1 hg1 hs1 hen
    obtain ⟨p, hp, rfl⟩ := HM.out.dom kl (HC.out.has kl hlk)
    obtain rfl : p.key = x := klS_inj (keyOf_str_kl hkx)
    have hpe : p = e := by
      rw [entR_mk] at hRc
      injection hRc with hRc
      injection hRc with hRc _
      have h1 := hat .nil
      rw [HM.out.at_ p hp] at h1
      exact entD_inj (h1.trans hRc.symm)
    subst hpe
    have hb1 : Below w.heap.size w w1 := hbel.grown hg1 hbel.size (fun j hj => by cases hj; exact Nat.le_refl _)
    have hro1 := own_far hro hg1 (fun k hk e => by injection e with e; have := (hro.lt k hk).1; omega)
    have hsz1 : w.heap.size + 1 ≤ w1.heap.size := by omega
    clear hat hRc hkx hro hbel
    have hrg2 := hrg1.kept (World.grownBy_alloc w1 (.cells #[.string p.key, .string p.value, .bool p.dead] 67) none) (by simp) (by simp)
    have hb2 := hb1.alloc hb1.size (.cells #[.string p.key, .string p.value, .bool p.dead] 67)
    have hro2 := hro1.alloc (.cells #[.string p.key, .string p.value, .bool p.dead] 67)
    have hszx : w.heap.size + 1 ≤ (w1.alloc (.cells #[.string p.key, .string p.value, .bool p.dead] 67)).heap.size := by simp; omega
    have hgx : (w1.alloc (.cells #[.string p.key, .string p.value, .bool p.dead] 67)).heap.size = wr.heap.size + 1 := by simp [hs1]
    have hbyx : (O.length + 1) * 40 ≤ 140737488355328 := by omega
    have HST := Lib.hid (HC.out.step HM.out hp rfl hlk (kfE_lit p))
    go_wp2_with (first
      | (with_reducible show wpList _ _ _ (⟨some 18, _, _, _, _, _⟩ :: _) _ _; go_must (refine wpList_newg (.tmp 15) (.tmp 17) el_ent rfl rfl hro2 rfl rfl hgx rfl rfl hbyx hszx ?_); intro v4 w4 hown4 hb4 hg4 ha4))
    have hrg3 := hrg2.kept hg4 (fun e => by have := (hro2.lt M e.symm).1; omega) (fun e => by have := (hro2.lt w.heap.size e.symm).1; omega)
    go_roundw
    case rel =>
      refine ⟨_, cnt1, O ++ [p], hrg3, HST, ?_, Nat.le_trans hszx hb4.size, hb2.trans (hb4.mono (by omega))⟩
      rw [List.length_append, entCells_app]
      exact hown4
    case measure => rw [hrg3.left_eq, hrg.left_eq]; exact hlt1
theorem rdee_of {w : World} {base k : Nat} {v : Value} {es : List El} (hk : es.length = k) (hrow : w.ownsRow base 57 1 v es.length (es.map El.val)) (hok : ∀ e ∈ es, e.l.length ≤ e.c ∧ e.c ≤ maxLen ∧ Rd w w.heap.size 3 e.A e.l.length (entCells e.l)) :
    ∃ A c, v = .slice A k c ∧ k ≤ c ∧ c ≤ maxLen ∧ RdEE w w.heap.size A (es.map El.l) := by
  subst hk
  obtain ⟨A, c, e, h1, h2, _, h3⟩ := own_form hrow
  refine ⟨A, c, e, h1, h2, fun hn => ?_⟩
  obtain ⟨ad, e2, hb, hc⟩ := h3.2 (by simpa using hn)
  refine ⟨ad, e2, hb, fun i l hl => ?_⟩
  rw [List.getElem?_map, Option.map_eq_some_iff] at hl
  obtain ⟨x, hx, rfl⟩ := hl
  obtain ⟨k1, k2, k3⟩ := hok x (List.mem_of_getElem? hx)
  exact ⟨x.A, x.c, hc i x.val (by rw [List.getElem?_map, hx]; rfl), k1, k2, k3⟩
theorem el_vals_one (es : List El) : ∀ u ∈ es.map El.val, u.oneCell' = true := fun u hu => by
  obtain ⟨e, _, rfl⟩ := List.mem_map.1 hu
  rfl
theorem flatten_le {k : Nat} : ∀ {ls : List (List Ent)}, (∀ l ∈ ls, l.length ≤ k) → ls.flatten.length ≤ ls.length * k := by
  intro ls
  induction ls with
  | nil => intro _; simp
  | cons x xs ih =>
    intro h
    have h1 := h x List.mem_cons_self
    have h2 := ih fun l hl => h l (List.mem_cons_of_mem _ hl)
    rw [List.flatten_cons, List.length_append, List.length_cons, Nat.succ_mul]
    omega
theorem ents_few {l : List Ent} (h : entsE l = 0) : l.length ≤ 400 := (entsE_all h).1
theorem all_mix {s : Lsm} (hok : LsmOk s) (hLS : s.LS.length ≤ 200000) {es : List El} (hLs : es.map El.l = s.LS) {k fn : Nat} (hk : k = es.length) (hfn : fn = s.F.length) {A2 : Option Addr} {c2 b : Nat} {W : World} {v : Value} (n1 : fn ≤ c2) (n2 : c2 ≤ maxLen)
    (hr2 : Rd W W.heap.size 3 A2 fn (entCells s.F)) (hEE : ∀ e ∈ es, e.l.length ≤ e.c ∧ e.c ≤ maxLen ∧ Rd W W.heap.size 3 e.A e.l.length (entCells e.l)) (ho : W.ownsRow b 57 1 v (1 + k) (#[Value.slice A2 fn c2].toList ++ es.map El.val)) :
    ∃ A c, v = .slice A (1 + k) c ∧ Calls Tryz.prog 98 #[.slice A (1 + k) c, .bool true] W fun e w' => ∃ A c, e = .returned (.slice A s.all.length c) ∧ s.all.length ≤ c ∧ c ≤ maxLen ∧ w'.ownsRow W.heap.size 67 3 (.slice A s.all.length c) s.all.length (entCells s.all) ∧ Below W.heap.size W w' := by
  subst hk hfn
  have hlen : ((⟨s.F, A2, c2⟩ : El) :: es).length = 1 + es.length := by rw [List.length_cons]; omega
  obtain ⟨A, c, e1, _, _, hre⟩ := rdee_of (es := (⟨s.F, A2, c2⟩ : El) :: es) hlen (by rw [hlen]; exact ho) (fun e he => by
    rcases List.mem_cons.1 he with rfl | he
    · exact ⟨n1, n2, hr2⟩
    · exact hEE e he)
  rw [List.map_cons, hLs] at hre
  have hen : es.length = s.LS.length := by rw [← hLs, List.length_map]
  have hfl := flatten_le (k := 400) fun l hl => ents_few (hok.lists l hl)
  have hff := hok.few_fresh
  have hmx := mix_any A c W.heap.size (1 + es.length) (s.F :: s.LS) true W hre (by rw [List.length_cons]; omega) (Nat.le_refl _) (by omega) (by rw [List.flatten_cons, List.length_append]; omega) (fun l hl e he => by
    have : e.key.size ≤ 120 := by
      rcases List.mem_cons.1 hl with rfl | hl
      · exact hok.keyF e he
      · exact (entE_good ((entsE_all (hok.lists l hl)).2 e he)).1
    unfold maxLen; omega)
  rw [show mixO true (s.F :: s.LS) = s.all from by rw [mixO_true]; rfl] at hmx
  refine ⟨A, c, e1, hmx.mono ?_⟩
  rintro e w' ⟨A', c', rfl, q1, q2, _, q3, q4⟩
  exact ⟨A', c', rfl, q1, q2, q3, q4⟩
set_option maxRecDepth 100000 in
set_option maxHeartbeats 4000000 in
theorem all_any (base g M : Nat) (lim : Int) (s : Lsm) (w : World) (h : LsmIn w base g M lim s) (hLS : s.LS.length ≤ 200000) :
    Calls Tryz.prog 68 #[.pointer (some ⟨g, 0, none⟩)] w fun e w' => ∃ A c, e = .returned (.slice A s.all.length c) ∧ s.all.length ≤ c ∧ c ≤ maxLen ∧ w'.ownsRow w.heap.size 67 3 (.slice A s.all.length c) s.all.length (entCells s.all) ∧ Below w.heap.size w w' := by
  have HOK := Lib.hid h.ok
  have hd : LsmIn w.drew base g M lim s := h.up (Below.refl _ _).drew
  have hnews := news_any base g M lim s w.drew hd
  obtain ⟨vt, vl, bs, es, hblk, _, hEE, _, hLs⟩ := h.rows
  have HLs := Lib.hid hLs
  have hen : es.length = s.LS.length := by rw [← hLs, List.length_map]
  have c3 := hblk.cell 3
  simp at c3
  have HEE := Lib.hid hEE
  have hgl := hblk.lt
  obtain ⟨k, hk⟩ : ∃ k, k = es.length := ⟨_, rfl⟩
  have hk2 : k ≤ 200000 := by omega
  have HK := Lib.hid hk
  obtain ⟨Av, cv, hv, _, _, _, hrv⟩ := own_form hEE.row
  have HRV := Lib.hid hrv
  rw [← hk] at hv
  subst hv
  obtain ⟨fn, hfn⟩ : ∃ fn, fn = s.F.length := ⟨_, rfl⟩
  have hf4 : fn ≤ 400 := by rw [hfn]; exact h.ok.few_fresh
  have HFN := Lib.hid hfn
  rw [← hfn] at hnews
  have HHLS := Lib.hid hLS
  have HEN := Lib.hid hen
  clear hfn hk hrv hLs hEE hblk hd h hLS hen
  have hS : ∀ W, Below w.heap.size w W → W.cell? ⟨g, 3, none⟩ = some (.slice Av k cv) := fun W hb => (hb.cell (p := ⟨g, 3, none⟩) hgl).trans c3
  have hbd : Below w.heap.size w w.drew := (Below.refl _ _).drew
  have hone := el_vals_one es
  have hrd : ∀ W, Below w.heap.size w W → Rd W w.heap.size 1 Av k (es.map El.val) := fun W hb => by
    have := HRV.out.below hb (Nat.le_refl _)
    rwa [← HK.out] at this
  have hEl : ∀ W, Below w.heap.size w W → ∀ e ∈ es, e.l.length ≤ e.c ∧ e.c ≤ maxLen ∧ Rd W W.heap.size 3 e.A e.l.length (entCells e.l) := fun W hb e he => by
    obtain ⟨A', c', e', k1, k2, _, k3⟩ := own_form (own_up (HEE.out.ok e he) hb)
    unfold El.val at e'
    injection e' with e3 _ e5
    rw [← e3] at k3
    rw [← e5] at k1 k2
    exact ⟨k1, k2, k3⟩
  have hMX := fun (A2 : Option Addr) (c2 b : Nat) (W : World) (v : Value) (n1 : fn ≤ c2) (n2 : c2 ≤ maxLen) (hr2 : Rd W W.heap.size 3 A2 fn (entCells s.F)) (hb : Below w.heap.size w W) (ho : W.ownsRow b 57 1 v (1 + k) (#[Value.slice A2 fn c2].toList ++ es.map El.val)) => all_mix HOK.out HHLS.out HLs.out HK.out HFN.out n1 n2 hr2 (hEl W hb) ho
  have hlit := fun (A2 : Option Addr) (c2 : Nat) (W : World) => World.ownsRow_lit (base := W.heap.size) (e := 57) (size := 1) W #[.slice A2 fn c2] 1 (Nat.le_refl _) (by unfold maxLen; omega) rfl
  have hby : (1 + k) * 24 ≤ 140737488355328 := by omega
  have hale := fun (W : World) (o : Obj) => (show W.heap.size ≤ (W.alloc o).heap.size from by simp)
  have rd2 := fun (A2 : Option Addr) (c2 B : Nat) (W W' : World) (ho : W.ownsRow B 67 3 (.slice A2 fn c2) fn (entCells s.F)) (hb : Below W.heap.size W W') => (show Rd W' W'.heap.size 3 A2 fn (entCells s.F) from by
    obtain ⟨A', c', e', _, _, _, k3⟩ := own_form (own_up ho hb)
    injection e' with e3 _ _
    rw [e3]; exact k3)
  go_enter Tryz.func68, Tryz.ntmps68
  go_wp2_with fail
  go_region_held3 (fun w' => w'.cell? ⟨g, 3, none⟩ = some (.slice Av k cv)) (first | exact hS _ hbd | exact hS _ hbw2 | exact hS _ (hbw2.alloc hbw2.size _) | exact hS _ hbw3 | exact hS _ hbw4)
    ((first
      | (go_at_call 63; go_must (refine hnews.mono ?_); rintro e w2 ⟨A2, c2, rfl, n1, n2, own2, hb2⟩; have hbw2 : Below w.heap.size w w2 := hbd.trans hb2)
      | (with_reducible show (if Region.wanted (⟨some 10, _, _, _, _, _⟩ : Oper) _ = true then _ else _); go_must (refine step_rd (.tmp 5) (.tmp 9) el_slE rfl rfl (hlit A2 c2 w2) rfl (hrd _ (hbw2.alloc hbw2.size _)) rfl hone hby (hale _ _) ?_); intro v3 w3 own3 hb3 hg3 ha3; have hbw3 := (hbw2.alloc hbw2.size (.cells #[.slice A2 fn c2] 57)).trans (hb3.mono hbw2.size); have hb23 := ((Below.refl w2.heap.size w2).alloc (Nat.le_refl _) (.cells #[.slice A2 fn c2] 57)).trans hb3; obtain ⟨A3, c3', rfl, hmx⟩ := hMX A2 c2 _ w3 v3 n1 n2 (rd2 A2 c2 _ w2 w3 own2 hb23) hbw3 own3)
      | (go_at_call 98; go_must (refine hmx.mono ?_); rintro e w4 ⟨A4, c4, rfl, m1, m2, own4, hb4⟩; have hbw4 := hbw3.trans (hb4.mono hbw3.size))))
  all_goals go_wp2_with fail
  all_goals go_ret
  all_goals exact ⟨A4, c4, rfl, m1, m2, own_base own4 hbw3.size, hbw4⟩
end Go.Proofs.YtcfijljagohmlaaGreatDoor

/- The walks of lsm.Get, Scan, Fresh, Tables. -/
namespace Go.Proofs.YtcfijljagohmlaaGreatDoor
open Go.RowKit Go.Maps Go.WideMaps

theorem riseE_K {l : List Ent} (h : riseE l) : riseK (keysE l) := by
  unfold riseK keysE
  rw [List.pairwise_map]
  exact h
set_option maxRecDepth 100000 in
set_option maxHeartbeats 1000000 in
theorem scandead_any : PredE 71 #[] Ent.dead fun _ => True := fun W x _ => by
  unfold Ent.val
  go_enter Tryz.func71, Tryz.ntmps71
  go_wp2_with fail
  go_ret
  exact ⟨rfl, (Below.refl _ _).alloc (Nat.le_refl _) _⟩
set_option maxRecDepth 100000 in
set_option maxHeartbeats 1000000 in
theorem compdead_any : PredE 69 #[] Ent.dead fun _ => True := fun W x _ => by
  unfold Ent.val
  go_enter Tryz.func69, Tryz.ntmps69
  go_wp2_with fail
  go_ret
  exact ⟨rfl, (Below.refl _ _).alloc (Nat.le_refl _) _⟩
/-- What is there, and not gone. -/
def Lsm.live (s : Lsm) : List Ent := s.all.filter fun e => !e.dead
set_option maxRecDepth 100000 in
set_option maxHeartbeats 1000000 in
theorem lscan_any (base g M : Nat) (lim : Int) (s : Lsm) (lo hi : ByteArray) (w : World) (h : LsmIn w base g M lim s) (hLS : s.LS.length ≤ 200000) :
    Calls Tryz.prog 34 #[.pointer (some ⟨g, 0, none⟩), .string lo, .string hi] w fun e w' => ∃ v, e = .returned v ∧ w'.ownsRow w.heap.size 67 3 v (partE lo hi s.live).length (entCells (partE lo hi s.live)) ∧ Below w.heap.size w w' := by
  have hal := all_any base g M lim s w h hLS
  have hfew := h.ok.few
  have hk := riseE_K s.all_rise
  have hPL : Hid ((partE lo hi s.all).filter (fun e => !e.dead) = partE lo hi s.live) := Lib.hid (by
    unfold partE Lsm.live
    rw [List.filter_filter, List.filter_filter]
    exact List.filter_congr fun x _ => Bool.and_comm _ _)
  have hP4 : (partE lo hi s.all).length ≤ 400 := Nat.le_trans (List.length_filter_le _ _) hfew
  have HPT := Lib.hid (fun (A : Option Addr) (c : Nat) (W : World) (hr : Rd W W.heap.size 3 A s.all.length (entCells s.all)) (hc : s.all.length ≤ c) (hcm : c ≤ maxLen) => part_any A c W.heap.size s.all lo hi W hr (Nat.le_refl _) hfew hk hc hcm)
  have HDE := Lib.hid (fun (v : Value) (b : Nat) (W : World) (ho : W.ownsRow b 67 3 v (partE lo hi s.all).length (entCells (partE lo hi s.all))) => dele_any 71 Ent.dead (fun _ _ => by kernel_rfl) scandead_any v _ b (partE lo hi s.all) W ho rfl (by omega))
  rw [hPL.out] at HDE
  generalize partE lo hi s.live = PL at *
  generalize partE lo hi s.all = PA at *
  generalize s.all = SA at *
  clear hk h
  go_enter Tryz.func34, Tryz.ntmps34
  go_wp2_with (first
    | (go_at_call 68; go_must (refine hal.mono ?_); rintro e w1 ⟨A1, c1, rfl, q1, q2, own1, hb1⟩; obtain ⟨_, _, e1, _, _, _, r1⟩ := own_form own1; injection e1 with e11 _ e12; subst e11 e12)
    | (go_at_call 70; go_must (refine (HPT.out A1 c1 w1 r1 q1 q2).mono ?_); rintro e w2 ⟨v2, rfl, own2, hb2⟩)
    | (go_at_call 67; go_must (refine (HDE.out v2 _ w2 own2).mono ?_); rintro e w3 ⟨v3, rfl, own3, hg3⟩))
  go_ret
  have hb12 := below_up hb1 hb2
  exact ⟨v3, rfl, own_base own3 hb1.size, hb12.grown hg3 hb12.size (fun j hj => Nat.le_trans hb1.size (own2.lt j hj).1)⟩
set_option maxRecDepth 100000 in
set_option maxHeartbeats 1000000 in
theorem lfresh_any (base g M : Nat) (lim : Int) (s : Lsm) (w : World) (h : LsmIn w base g M lim s) :
    Calls Tryz.prog 36 #[.pointer (some ⟨g, 0, none⟩)] w fun e w' => e = .returned (.int .i64 s.F.length) ∧ ∃ q, w' = w.drewN q := by
  obtain ⟨D, hown, hmap⟩ := h.map_
  obtain ⟨vt, vl, bs, es, hblk, _⟩ := h.rows
  have c1 := hblk.cell 1
  simp at c1
  have HSZ := Lib.hid hmap.size
  go_enter Tryz.func36, Tryz.ntmps36
  go_wp2_with (first
    | (with_reducible show wpList _ _ _ (⟨some 7, _, _, _, _, _⟩ :: _) _ _; go_must (refine wpList_len_own _ rfl _ _ rfl 9 67 Tryz.underlying114 entR M s.F.length D rfl hown ?_)))
  go_ret
  exact ⟨by rw [HSZ.out]; rfl, 0, rfl⟩
set_option maxRecDepth 100000 in
set_option maxHeartbeats 4000000 in
theorem lget_any (base g M : Nat) (lim : Int) (s : Lsm) (key : ByteArray) (w : World) (h : LsmIn w base g M lim s) (hLS : s.LS.length ≤ 200000) :
    Calls Tryz.prog 32 #[.pointer (some ⟨g, 0, none⟩), .string key] w fun e w' => e = .returned (.tuple #[.string (lsmGetV s key), errV (lsmGetE s key)]) ∧ Below w.heap.size w w' := by
  have hal := all_any base g M lim s w h hLS
  have hfew := h.ok.few
  have hrise : riseE (s.all.filter fun e => !e.dead) := s.all_rise.filter _
  have HHIT : Hid (∀ x ∈ s.all, x.key = key → x.dead = false → lsmGetV s key = x.value ∧ lsmGetE s key = 0) := Lib.hid (fun x hx hk hd => by
    have h1 := entOf_mem hrise (List.mem_filter.2 ⟨hx, by rw [hd]; rfl⟩)
    rw [hk] at h1
    have h2 : lsmGet s key = some x.value := by rw [lsmGet, h1]; rfl
    rw [lsmGetV, lsmGetE, h2]
    exact ⟨rfl, rfl⟩)
  have HMISS : Hid ((∀ x ∈ s.all, x.key = key → x.dead = true) → lsmGetV s key = ⟨#[]⟩ ∧ lsmGetE s key = 6) := Lib.hid (fun hm => by
    have h1 : entOf (s.all.filter fun e => !e.dead) key = none := entOf_none.2 fun x hx hk => by
      obtain ⟨h1, h2⟩ := List.mem_filter.1 hx
      rw [hm x h1 hk] at h2; cases h2
    have h2 : lsmGet s key = none := by rw [lsmGet, h1]; rfl
    rw [lsmGetV, lsmGetE, h2]
    exact ⟨rfl, rfl⟩)
  clear hrise h
  generalize s.all = SA at *
  generalize lsmGetV s key = GV at *
  generalize lsmGetE s key = GE at *
  obtain ⟨n, hn⟩ : ∃ n, n = SA.length := ⟨_, rfl⟩
  have HN := Lib.hid hn
  rw [← hn] at hal hfew
  clear hn
  go_enter Tryz.func32, Tryz.ntmps32
  go_wp2_with (go_at_call 68; go_must (refine hal.mono ?_); rintro e w1 ⟨A1, c1, rfl, q1, q2, own1, hb1⟩; obtain ⟨_, _, e1, _, _, _, r1⟩ := own_form own1; injection e1 with e11 _ e12; subst e11 e12)
  go_loopw [11] (fun x wr => ∃ i : Nat, i ≤ n ∧ x = .int .i64 i ∧ Hid (∀ j x, j < i → SA[j]? = some x → x.key = key → x.dead = true) ∧ Below w1.heap.size w1 wr) (fun x _ => n - (intOf x).toNat)
  case atStart => exact ⟨0, Nat.zero_le _, rfl, Lib.hid (fun j x hj => by omega), Below.refl _ _⟩
  obtain ⟨i, hi, rfl, HJ, hbel⟩ := hrel
  have hws := hbel.size
  by_cases hlt : i < n
  · obtain ⟨ad, x, rfl, hbk, hx, g0, g1, g2⟩ := r1.ent_ hlt HN.out.symm hbel (Nat.le_refl _)
    have hi0 : (0 : Int) ≤ (i : Int) := by omega
    have hi1 : (i : Int) < (n : Int) := by omega
    have HX := Lib.hid hx
    clear hx
    have hba := hbel.alloc hws (.cells #[.string x.key, .string x.value, .bool x.dead] 67)
    by_cases hk : x.key = key
    · rcases hd : x.dead
      · obtain ⟨hv, he⟩ := HHIT.out x (List.mem_of_getElem? HX.out) hk hd
        have HV := Lib.hid hv
        have HE := Lib.hid he
        rw [hd] at g2 hba
        rw [hk] at g0 hba
        clear hv he hk hd HHIT HMISS
        go_wp2_with fail
        go_ret2
        exact ⟨by rw [HV.out, HE.out]; rfl, below_up hb1 hba⟩
      · have HJ2 : Hid (∀ j y, j < i + 1 → SA[j]? = some y → y.key = key → y.dead = true) := Lib.hid (fun j y hj hy hyk => by
          rcases Nat.lt_or_ge j i with h | h
          · exact HJ.out j y h hy hyk
          · obtain rfl : j = i := by omega
            rw [HX.out] at hy
            injection hy with hy
            rw [← hy]; exact hd)
        rw [hd] at g2 hba
        rw [hk] at g0 hba
        clear hk hd HHIT HMISS
        go_wp2_with fail
        go_roundw
        case rel => exact ⟨i + 1, hlt, by go_num, HJ2, hba⟩
        case measure => simp [intOf]; omega
    · have HJ2 : Hid (∀ j y, j < i + 1 → SA[j]? = some y → y.key = key → y.dead = true) := Lib.hid (fun j y hj hy hyk => by
        rcases Nat.lt_or_ge j i with h | h
        · exact HJ.out j y h hy hyk
        · obtain rfl : j = i := by omega
          rw [HX.out] at hy
          injection hy with hy
          exact absurd (hy ▸ hyk) hk)
      have h3 : (x.key.toList == key.toList) = false := by rw [beq_eq_false_iff_ne]; exact fun e => hk (bytes_same e)
      clear hk HHIT HMISS
      go_wp2_with fail
      go_roundw
      case rel => exact ⟨i + 1, hlt, by go_num, HJ2, hba⟩
      case measure => simp [intOf]; omega
  · obtain rfl : i = n := by omega
    obtain ⟨hv, he⟩ := HMISS.out fun x hx hk => by
      obtain ⟨j, hj⟩ := List.mem_iff_getElem?.1 hx
      exact HJ.out j x (by rw [HN.out]; exact (List.getElem?_eq_some_iff.1 hj).1) hj hk
    have HV := Lib.hid hv
    have HE := Lib.hid he
    clear hv he HHIT HMISS
    go_wp2_with fail
    go_ret2
    exact ⟨by rw [HV.out, HE.out]; rfl, below_up hb1 hbel⟩
set_option maxRecDepth 100000 in
set_option maxHeartbeats 1000000 in
theorem bclone_any (A : Option Addr) (c n B : Nat) (l : List UInt8) (w : World) (hr : Rd w B 1 A n (l.map bv)) (hn : n = l.length) (hB : B ≤ w.heap.size) (hl : n ≤ 140737488355328) :
    Calls Tryz.prog 72 #[.slice A n c] w fun e w' => ∃ v, e = .returned v ∧ w'.ownsRow w.heap.size 5 1 v n (l.map bv) ∧ Below w.heap.size w w' := by
  rcases A with _ | ad
  · have hn0 : n = 0 := by
      rcases Nat.eq_zero_or_pos n with h | h
      · exact h
      · obtain ⟨_, h, _⟩ := hr.2 h; cases h
    subst hn0
    have hl0 : l = [] := List.eq_nil_of_length_eq_zero hn.symm
    subst hl0
    clear hn
    have heq : ∀ W : World, (binOp .eql 23 (.slice none 0 c) (.slice none 0 0)).run Tryz.prog W = .ok (.bool true) W := fun W => Go.Lib.run_eql_slice_nil W 23 5 none 0 c 0 0 Tryz.underlying23
    go_enter Tryz.func72, Tryz.ntmps72
    go_wp2_with fail
    go_ret
    exact ⟨_, rfl, World.ownsRow_nil _ _ _ _, Below.refl _ _⟩
  · clear hn
    have hb := (Below.refl w.heap.size w).alloc (Nat.le_refl _) (.cells #[] 5)
    have hown : (w.alloc (.cells #[] 5)).ownsRow w.heap.size 5 1 (.slice (some ⟨w.heap.size, 0, none⟩) 0 0) 0 [] := ⟨rfl, .inr ⟨w.heap.size, 0, _, rfl, Nat.le_refl _, heap_alloc_new w _, Nat.le_refl _, Nat.zero_le _, rfl, rfl⟩⟩
    have hr2 := hr.alloc hB (.cells #[] 5)
    have h1 : ∀ u ∈ l.map bv, u.oneCell' = true := by
      intro u hu
      obtain ⟨x, _, rfl⟩ := List.mem_map.1 hu
      rfl
    generalize l.map bv = xs at *
    have heq : ∀ W : World, (binOp .eql 23 (.slice (some ad) n c) (.slice none 0 0)).run Tryz.prog W = .ok (.bool false) W := fun W => Go.Lib.run_eql_slice_nil W 23 5 (some ad) n c 0 0 Tryz.underlying23
    go_enter Tryz.func72, Tryz.ntmps72
    go_wp2_with (first
      | (with_reducible show wpList _ _ _ (⟨some 7, _, _, _, _, _⟩ :: _) _ _; go_must (refine wpList_rd (.tmp 5) (.tmp 6) el_u8 rfl rfl hown rfl hr2 rfl h1 (by omega) (by simp) ?_); intro v1 w1 hown1 hb1 hg1 ha1))
    go_ret
    exact ⟨v1, rfl, by simpa using hown1, hb.trans hb1⟩
theorem tabB_few {l : List Ent} : (tabB l).length ≤ 1000000 := by
  by_cases hE : entsE l = 0
  · rw [tabB_good hE]
    have h1 := tabIn_le hE
    have h2 := numB_le ((tabIn l).length : Int)
    simp only [sealB, List.length_append]
    have h3 : (sum4 (sumB (tabIn l))).length = 4 := rfl
    omega
  · rw [tabB_bad rfl hE]; exact Nat.zero_le _
set_option maxRecDepth 100000 in
set_option maxHeartbeats 4000000 in
theorem ltables_any (base g M : Nat) (lim : Int) (s : Lsm) (w : World) (h : LsmIn w base g M lim s) (hLS : s.LS.length ≤ 200000) :
    Calls Tryz.prog 37 #[.pointer (some ⟨g, 0, none⟩)] w fun e w' => ∃ v bs, e = .returned v ∧ OwnBB w' w.heap.size v bs ∧ bs.map Bl.b = s.LS.map tabB ∧ Below w.heap.size w w' := by
  obtain ⟨vt, vl, bs0, es, hblk, hBB, _, hbs, _⟩ := h.rows
  have c2 := hblk.cell 2
  simp at c2
  obtain ⟨At, ct, rfl, _, _, hrb⟩ := hBB.rd
  obtain ⟨n, hn⟩ : ∃ n, n = bs0.length := ⟨_, rfl⟩
  have hn2 : n ≤ 200000 := by
    have : (bs0.map Bl.b).length = (s.LS.map tabB).length := by rw [hbs]
    rw [List.length_map, List.length_map] at this
    omega
  have HBS := Lib.hid hbs
  have HN : Hid (n = (bs0.map Bl.b).length) := Lib.hid (by rw [hn, List.length_map])
  rw [← hn] at c2
  have HSM : Hid (∀ b ∈ bs0.map Bl.b, b.length ≤ 1000000) := Lib.hid (fun b hb => by
    rw [hbs] at hb
    obtain ⟨l, _, rfl⟩ := List.mem_map.1 hb
    exact tabB_few)
  generalize bs0.map Bl.b = TS at *
  clear hn hBB hbs hblk h hLS
  go_enter Tryz.func37, Tryz.ntmps37
  go_wp2_with fail
  go_loopw [3, 11] (fun o x wr => ∃ (i : Nat) (bs : List Bl), i ≤ n ∧ x = .int .i64 i ∧ bs.length = i ∧ OwnBB wr w.heap.size o bs ∧ Hid (bs.map Bl.b = TS.take i) ∧ Below w.heap.size w wr) (fun _ x _ => n - (intOf x).toNat)
  case atStart => exact ⟨0, [], Nat.zero_le _, rfl, rfl, OwnBB.start _ _, Lib.hid rfl, Below.refl _ _⟩
  obtain ⟨i, bs, hi, rfl, hbl, hO, HT, hbel⟩ := hrel
  have hws := hbel.size
  by_cases hlt : i < n
  · obtain ⟨ad, rfl, hab, hcell⟩ := hrb (by have := HN.out; omega)
    obtain ⟨b, hbi⟩ : ∃ b, TS[i]? = some b := ⟨_, List.getElem?_eq_getElem (by have := HN.out; omega)⟩
    obtain ⟨A1, c1, g0w, hlc, hcm, hrd⟩ := hcell i b hbi
    have hbw : (ad.add i).block < w.heap.size := by rw [block_add]; exact hab
    have g0 := (hbel.cell hbw).trans g0w
    obtain ⟨m, hm⟩ : ∃ m, m = b.length := ⟨_, rfl⟩
    have hms := HSM.out b (List.mem_of_getElem? hbi)
    rw [← hm] at g0 hrd hms
    have hcl := bclone_any A1 c1 m w.heap.size b wr (hrd.below hbel (Nat.le_refl _)) hm hws (by omega)
    have HTN : Hid (TS.take (i + 1) = TS.take i ++ [b]) := Lib.hid (by rw [List.take_add_one, hbi]; rfl)
    have HMM := Lib.hid hm
    have hi0 : (0 : Int) ≤ (i : Int) := by omega
    have hi1 : (i : Int) < (n : Int) := by omega
    have hby : (bs.length + 1) * 24 ≤ 140737488355328 := by omega
    clear hbi g0w hrd hcell hm
    have HOO := Lib.hid hO
    have hrow := hO.row
    clear hO
    go_wp2_with (first
      | (go_at_call 72; go_must (refine hcl.mono ?_); rintro e w2 ⟨v2, rfl, own2, hb2⟩; obtain ⟨A2, c2', rfl, _, _, _, _⟩ := own_form own2; have hrow2 := own_up hrow hb2; have hs2 := Nat.le_trans hws hb2.size)
      | (with_reducible show wpList _ _ _ (⟨some 19, _, _, _, _, _⟩ :: _) _ _; go_must (refine wpList_newg (.tmp 15) (.tmp 18) el_slB rfl rfl hrow2 rfl rfl rfl rfl rfl hby hs2 ?_); intro v4 w4 hown4 hb4 hg4 ha4))
    have hO4 := (HOO.out.up hb2).push (x := ⟨b, A2, c2'⟩) (by have := own_base own2 hws; rw [HMM.out] at this; exact this) (by rw [HMM.out] at hown4; exact hown4) hg4
    go_roundw
    case rel => exact ⟨i + 1, _, hlt, by go_num, by rw [List.length_append, hbl]; rfl, hO4, Lib.hid (by rw [HTN.out, List.map_append, HT.out]; rfl), (hbel.trans (hb2.mono hws)).trans hb4⟩
    case measure => simp [intOf]; omega
  · obtain rfl : i = n := by omega
    have HRES : Hid (bs.map Bl.b = s.LS.map tabB) := Lib.hid (by rw [HT.out, HN.out, List.take_length, HBS.out])
    go_wp2_with fail
    go_ret
    exact ⟨_, bs, rfl, hO, HRES.out, hbel⟩
end Go.Proofs.YtcfijljagohmlaaGreatDoor

/- WalkLsm3 WalkLsm4 WalkLsm5 in one text. -/
/- The walks of lsm.Flush, put, Put, Del. -/
namespace Go.Proofs.YtcfijljagohmlaaGreatDoor
open Go.RowKit Go.Maps Go.WideMaps

theorem KeepF.mono {f f' : Obj → Bool} {w w' : World} (h : KeepF f w w') (hf : ∀ o, f' o = true → f o = true) : KeepF f' w w' := ⟨h.os, h.tape, h.output, h.size, fun k o hk ho => h.block k o hk (hf o ho)⟩
/-- All but cells of one type. -/
def offT (t : TypeId) : Obj → Bool
  | .cells _ t' _ => !(t' == t)
  | _ => true
/-- All but maps. -/
def offMap : Obj → Bool
  | .map _ _ => false
  | _ => true
theorem offT_fix {t : TypeId} (h : t = 117 ∨ t = 23 ∨ t = 57) : ∀ o, fixL o = true → offT t o = true := by
  intro o ho
  cases o with
  | cells c t' fz =>
    simp only [fixL, Bool.and_eq_true, Bool.not_eq_true', beq_eq_false_iff_ne] at ho
    simp only [offT, Bool.not_eq_true', beq_eq_false_iff_ne]
    rcases h with rfl | rfl | rfl
    · exact ho.1.1
    · exact ho.1.2
    · exact ho.2
  | _ => rfl
theorem offMap_fix : ∀ o, fixL o = true → offMap o = true := by
  intro o ho
  cases o with
  | map _ _ => cases ho
  | _ => rfl
theorem keepT_grown {w w' : World} {base n size : Nat} {e : TypeId} {v : Value} {xs : List Value} (ho : w.ownsRow base e size v n xs) (hg : w.grownBy w' v.ownBlock) : KeepF (offT e) w w' :=
  keepF_grown hg fun k o hk hko => by
    rcases ho.2 with ⟨rfl, _⟩ | ⟨g, cap, cur, rfl, _, hg2, _⟩
    · cases hk
    · obtain rfl : g = k := by simpa [Value.ownBlock] using hk
      rw [hg2] at hko
      injection hko with hko
      rw [← hko]
      simp [offT]
theorem keepT_set {w : World} {g : Nat} {t : TypeId} {cs : Array Value} (hb : Blk w g t cs) (i : Nat) (u : Value) : KeepF (offT t) w (w.setCell ⟨g, i, none⟩ u) :=
  (KeepF.refl _ w).set_ (p := ⟨g, i, none⟩) (fun o ho => by
    have := hb.symm.trans ho
    injection this with this
    rw [← this]
    simp [offT]) u
theorem keepM_grown {P : Program} {k : TypeId} {R : Value → Option (DataW Unit × List MemPlace)} {w w' : World} {M n : Nat} {D : DataW Unit} (ho : w.ownsMap P k R M n D) (hg : w.grownBy w' (some M)) : KeepF offMap w w' :=
  keepF_grown hg fun j o hk hko => by
    obtain ⟨es, cl, h1, _⟩ := ho
    injection hk with hk
    subst hk
    rw [h1] at hko
    injection hko with hko
    rw [← hko]; rfl
theorem run_clear_map {P : Program} {k e t : TypeId} {R : Value → Option (DataW Unit × List MemPlace)} {w : World} {M n : Nat} {D : DataW Unit} (ht : P.underlying t = some (.map k e)) (hown : w.ownsMap P k R M n D) :
    ∃ w', (∀ ty, (Builtin.clear_ #[t] ty #[.map (some M)]).run P w = .ok (.tuple #[]) w') ∧ w'.ownsMap P k R M 0 (.map []) ∧ w.grownBy w' (some M) := by
  obtain ⟨es, clock, hb, _⟩ := hown
  refine ⟨{ w with heap := w.heap.setIfInBounds M (.map #[] clock) }, fun ty => ?_, ⟨#[], clock, (Go.MapKept.heap_set hb).1, ⟨by simp, Go.MapKept.stamped_empty clock, by simp⟩, Nat.le_refl _, rfl⟩, ⟨rfl, rfl, rfl, by simp, fun i _ hi => (Go.MapKept.heap_set hb).2 i fun e => hi (by rw [e])⟩⟩
  simp [Builtin.clear_, run_underlying ht, Go.MapKept.run_getObj_map hb, Go.MapKept.run_setObj_map _ hb, Result.andThen]
theorem tabs_len {s : Lsm} {bs : List Bl} (h : bs.map Bl.b = s.LS.map tabB) : bs.length = s.LS.length := by
  have := congrArg List.length h
  simpa using this
theorem lists_len {s : Lsm} {es : List El} (h : es.map El.l = s.LS) : es.length = s.LS.length := by rw [← h, List.length_map]
theorem bl_vals_one (es : List Bl) : ∀ u ∈ es.map Bl.val, u.oneCell' = true := fun u hu => by
  obtain ⟨e, _, rfl⟩ := List.mem_map.1 hu
  rfl
theorem OwnBB.keep {f : Obj → Bool} {w w' : World} {base : Nat} {v : Value} {es : List Bl} (h : OwnBB w base v es) (hk : KeepF f w w') (h1 : ∀ cs, f (.cells cs 23 (0, 0)) = true) (h2 : ∀ cs, f (.cells cs 5 (0, 0)) = true) : OwnBB w' base v es := ⟨hk.own h.row h1, fun e he => hk.own (h.ok e he) h2⟩
theorem OwnEE.keep {f : Obj → Bool} {w w' : World} {base : Nat} {v : Value} {es : List El} (h : OwnEE w base v es) (hk : KeepF f w w') (h1 : ∀ cs, f (.cells cs 57 (0, 0)) = true) (h2 : ∀ cs, f (.cells cs 67 (0, 0)) = true) : OwnEE w' base v es := ⟨hk.own h.row h1, fun e he => hk.own (h.ok e he) h2⟩
theorem own_new {w : World} {base e size n m : Nat} {v : Value} {xs : List Value} (ho : w.ownsRow base e size v n xs) (hm : w.heap.size = m) : v.ownBlock ≠ some m := fun h => by
  have := (ho.lt m h).2
  omega
set_option maxRecDepth 100000 in
set_option maxHeartbeats 4000000 in
theorem lflush_any (base g M : Nat) (lim : Int) (s : Lsm) (w : World) (h : LsmIn w base g M lim s) (hLS : s.LS.length ≤ 200000) (hbw : base ≤ w.heap.size) :
    Calls Tryz.prog 27 #[.pointer (some ⟨g, 0, none⟩)] w fun e w' => e = .returned .nilIface ∧ LsmIn w' base g M lim (lsmFlush s) ∧ Below base w w' ∧ KeepF fixL w w' := by
  have hnews := news_any base g M lim s w h
  have hf4 := h.ok.few_fresh
  obtain ⟨fn, hfn⟩ : ∃ fn, fn = s.F.length := ⟨_, rfl⟩
  rw [← hfn] at hf4 hnews
  have HFN := Lib.hid hfn
  have HH := Lib.hid h
  clear hfn
  by_cases hF : fn = 0
  · have HFL : Hid (lsmFlush s = s) := Lib.hid (by rw [lsmFlush, if_pos (List.eq_nil_of_length_eq_zero (HFN.out.symm.trans hF))])
    subst hF
    clear h
    go_enter Tryz.func27, Tryz.ntmps27
    go_wp2_with (go_at_call 63; go_must (refine hnews.mono ?_); rintro e w1 ⟨A1, c1, rfl, q1, q2, own1, hb1⟩)
    go_ret
    rw [HFL.out]
    exact ⟨rfl, HH.out.up hb1, hb1.mono hbw, keepF_below hb1⟩
  · have hFne : s.F ≠ [] := fun e => hF (by rw [HFN.out, e]; rfl)
    have HFL : Hid (lsmFlush s = ⟨[], s.F :: s.LS⟩) := Lib.hid (by rw [lsmFlush, if_neg hFne])
    have hFi : ((fn : Int) == 0) = false := by rw [beq_eq_false_iff_ne]; omega
    obtain ⟨D, hown, hmap⟩ := h.map_
    obtain ⟨vt, vl, bs, es, hblk, hBB, hEE, hbs, hes⟩ := h.rows
    have HBS := Lib.hid hbs
    have HES := Lib.hid hes
    have hbl := tabs_len hbs
    have hel := lists_len hes
    have HOK := Lib.hid h.ok
    have HGB := Lib.hid (And.intro h.gb h.Mb)
    have HBD := Lib.hid (fun (A : Option Addr) (c : Nat) (W : World) (hr : Rd W W.heap.size 3 A fn (entCells s.F)) => (show Calls Tryz.prog 64 #[.slice A fn c] W fun e w' => ∃ v, e = .returned (.tuple #[v, errV 0]) ∧ w'.ownsRow W.heap.size 5 1 v (tabB s.F).length ((tabB s.F).map bv) ∧ Below W.heap.size W w' from by
      have hr' := hr
      rw [HFN.out] at hr' ⊢
      have := build_any A c W.heap.size s.F W hr' (Nat.le_refl _) (fun r hr => by
        obtain ⟨h1, h2, _⟩ := entE_good (HOK.out.fine r hr)
        exact ⟨by omega, by omega⟩) (by have := HFN.out; omega)
      rwa [HOK.out.fresh_ents] at this))
    rw [errV_zero] at HBD
    obtain ⟨k, hk⟩ : ∃ k, k = bs.length := ⟨_, rfl⟩
    have hk2 : k ≤ 200000 := by omega
    have hke : k = es.length := by omega
    have HKB := Lib.hid hk
    have HKE := Lib.hid hke
    clear h hbs hes hbl hel hLS hk hke hmap
    go_enter Tryz.func27, Tryz.ntmps27
    go_upto_region 4 with (go_at_call 63; go_must (refine hnews.mono ?_); rintro e w1 ⟨A1, c1, rfl, q1, q2, own1, hb1⟩)
    obtain ⟨_, _, e1, _, _, _, r1⟩ := own_form own1
    injection e1 with e11 _ e12
    subst e11 e12
    have hbd := HBD.out A1 c1 w1 r1
    clear hnews r1
    go_upto_region 7 with (go_at_call 64; go_must (refine hbd.mono ?_); rintro e w2 ⟨v2, rfl, own2, hb2⟩)
    have hb12 := below_up hb1 hb2
    have hbl2 := hblk.up hb12
    have hBB2 := hBB.up hb12
    have hEE2 := hEE.up hb12
    have hown2 := own_up_map hown hb12
    have hF2 := own_base (own_up own1 hb2) hbw
    obtain ⟨A2, c2, rfl, _, _, _, _⟩ := own_form own2
    have hT2 := own_base own2 (Nat.le_trans hbw hb1.size)
    have hbs2 : base ≤ w2.heap.size := Nat.le_trans hbw hb12.size
    have HB12 := Lib.hid hb12
    clear hblk hBB hEE hown own1 own2 hb1 hb2 hbd hb12 HBD
    obtain ⟨tb, htb⟩ : ∃ tb, tb = (tabB s.F).length := ⟨_, rfl⟩
    have HTB := Lib.hid htb
    rw [← htb] at hT2 ⊢
    clear htb
    have hbA := (Below.refl w2.heap.size w2).alloc (Nat.le_refl _) (.cells #[.slice A2 tb c2] 23)
    have hblA := hbl2.up hbA
    have hrowA := own_up hBB2.row hbA
    rw [← HKB.out] at hrowA
    have hins := ins_bytes base k w2.heap.size vt (.slice A2 tb c2) (bs.map Bl.val) (w2.alloc (.cells #[.slice A2 tb c2] 23)) hrowA (Blk.new _ _ _) (own_new (hBB2.row) rfl) rfl (bl_vals_one bs) (by omega) (Nat.le_trans hbs2 hbA.size)
    have d2 := hbl2.cell 2
    simp at d2
    have dA := hblA.cell 2
    simp at dA
    go_upto_region 8 with (go_at_call 65; go_must (refine hins.mono ?_); rintro e w4 ⟨v4, rfl, own4, hg4⟩; obtain ⟨A4, c4, rfl, _, _, _, _⟩ := own_form own4; have hK2 := keepT_grown hrowA hg4; have hbl4 := hK2.blk hblA rfl; have e4 := hbl4.cell 2; have f4 := hbl4.frozen 2; simp at e4)
    have hK3 := keepT_set hbl4 2 (.slice A4 (k + 1) c4)
    have hKA : ∀ f, KeepF f w2 (w2.alloc (.cells #[.slice A2 tb c2] 23)) := fun f => keepF_below hbA
    have hbl5 : Blk (w4.setCell ⟨g, 2, none⟩ (.slice A4 (k + 1) c4)) g 117 #[.int .i64 lim, .map (some M), .slice A4 (k + 1) c4, vl] := by
      have := hbl4.set_ 2 (.slice A4 (k + 1) c4)
      simpa using this
    have hBB5 : OwnBB (w4.setCell ⟨g, 2, none⟩ (.slice A4 (k + 1) c4)) base (.slice A4 (k + 1) c4) (⟨tabB s.F, A2, c2⟩ :: bs) := by
      refine ⟨?_, fun e he => ?_⟩
      · have := hK3.own own4 (fun _ => rfl)
        rw [HKB.out] at this ⊢
        rw [HTB.out] at this
        exact this
      · rcases List.mem_cons.1 he with rfl | he
        · have := hK3.own (hK2.own (own_up hT2 hbA) (fun _ => rfl)) (fun _ => rfl)
          rw [HTB.out] at this
          exact this
        · exact hK3.own (hK2.own (own_up (hBB2.ok e he) hbA) (fun _ => rfl)) (fun _ => rfl)
    have hEE5 := ((hEE2.up hbA).keep hK2 (fun _ => rfl) (fun _ => rfl)).keep hK3 (fun _ => rfl) (fun _ => rfl)
    have hown5 := hK3.map_ (hK2.map_ (own_up_map hown2 hbA) (fun _ _ => rfl)) (fun _ _ => rfl)
    have hF5 := hK3.own (hK2.own (own_up hF2 hbA) (fun _ => rfl)) (fun _ => rfl)
    have hkf5 : KeepF fixL w (w4.setCell ⟨g, 2, none⟩ (.slice A4 (k + 1) c4)) := (((keepF_below HB12.out).trans (hKA _)).trans (hK2.mono (offT_fix (.inr (.inl rfl))))).trans (hK3.mono (offT_fix (.inl rfl)))
    have hbl45 : Below base w (w4.setCell ⟨g, 2, none⟩ (.slice A4 (k + 1) c4)) := (((HB12.out.mono hbw).trans (hbA.mono hbs2)).grown hg4 (Nat.le_trans hbs2 hbA.size) (fun j hj => (hrowA.lt j hj).1)).setCell HGB.out.1 _
    clear hK2 hK3 hKA hbl4 e4 f4 own4 hg4 hins d2 dA hrowA hblA hbA hbl2 hBB2 hEE2 hown2 hF2 hT2
    generalize w4.setCell ⟨g, 2, none⟩ (.slice A4 (k + 1) c4) = w5 at *
    generalize (Value.slice A4 (k + 1) c4) = vt5 at *
    have hbs5 := hbl45.size
    have hbs5' : base ≤ w5.heap.size := Nat.le_trans hbw hbs5
    have hbA := (Below.refl w5.heap.size w5).alloc (Nat.le_refl _) (.cells #[.slice A1 fn c1] 57)
    have hblA := hbl5.up hbA
    have hrowA := own_up hEE5.row hbA
    rw [← HKE.out] at hrowA
    have hins := ins_ents base k w5.heap.size vl (.slice A1 fn c1) (es.map El.val) (w5.alloc (.cells #[.slice A1 fn c1] 57)) hrowA (Blk.new _ _ _) (own_new (hEE5.row) rfl) rfl (el_vals_one es) (by omega) (Nat.le_trans hbs5' hbA.size)
    have d2 := hbl5.cell 3
    simp at d2
    have dA := hblA.cell 3
    simp at dA
    go_upto_region 9 with (go_at_call 66; go_must (refine hins.mono ?_); rintro e w6 ⟨v6, rfl, own6, hg6⟩; obtain ⟨A6, c6, rfl, _, _, _, _⟩ := own_form own6; have hK2 := keepT_grown hrowA hg6; have hbl6 := hK2.blk hblA rfl; have e4 := hbl6.cell 3; have f4 := hbl6.frozen 3; simp at e4)
    have hK3 := keepT_set hbl6 3 (.slice A6 (k + 1) c6)
    have hKA : ∀ f, KeepF f w5 (w5.alloc (.cells #[.slice A1 fn c1] 57)) := fun f => keepF_below hbA
    have hbl7 : Blk (w6.setCell ⟨g, 3, none⟩ (.slice A6 (k + 1) c6)) g 117 #[.int .i64 lim, .map (some M), vt5, .slice A6 (k + 1) c6] := by
      have := hbl6.set_ 3 (.slice A6 (k + 1) c6)
      simpa using this
    have hEE7 : OwnEE (w6.setCell ⟨g, 3, none⟩ (.slice A6 (k + 1) c6)) base (.slice A6 (k + 1) c6) (⟨s.F, A1, c1⟩ :: es) := by
      refine ⟨?_, fun e he => ?_⟩
      · have := hK3.own own6 (fun _ => rfl)
        rw [HKE.out] at this ⊢
        rw [HFN.out] at this
        exact this
      · rcases List.mem_cons.1 he with rfl | he
        · have := hK3.own (hK2.own (own_up hF5 hbA) (fun _ => rfl)) (fun _ => rfl)
          rw [HFN.out] at this
          exact this
        · exact hK3.own (hK2.own (own_up (hEE5.ok e he) hbA) (fun _ => rfl)) (fun _ => rfl)
    have hBB7 := ((hBB5.up hbA).keep hK2 (fun _ => rfl) (fun _ => rfl)).keep hK3 (fun _ => rfl) (fun _ => rfl)
    have hown7 := hK3.map_ (hK2.map_ (own_up_map hown5 hbA) (fun _ _ => rfl)) (fun _ _ => rfl)
    have hkf7 : KeepF fixL w (w6.setCell ⟨g, 3, none⟩ (.slice A6 (k + 1) c6)) := ((hkf5.trans (hKA _)).trans (hK2.mono (offT_fix (.inr (.inr rfl))))).trans (hK3.mono (offT_fix (.inl rfl)))
    have hbl57 : Below base w (w6.setCell ⟨g, 3, none⟩ (.slice A6 (k + 1) c6)) := ((hbl45.trans (hbA.mono hbs5')).grown hg6 (Nat.le_trans hbs5' hbA.size) (fun j hj => (hrowA.lt j hj).1)).setCell HGB.out.1 _
    clear hK2 hK3 hKA hbl6 e4 f4 own6 hg6 hins d2 dA hrowA hblA hbA hbl5 hBB5 hEE5 hown5 hF5 hkf5 hbl45
    generalize w6.setCell ⟨g, 3, none⟩ (.slice A6 (k + 1) c6) = w7 at *
    generalize (Value.slice A6 (k + 1) c6) = vl7 at *
    obtain ⟨w8, hcl, hown8, hg8⟩ := run_clear_map Tryz.underlying114 hown7
    have d1 := hbl7.cell 1
    simp at d1
    have HO8 := Lib.hid hown8
    have HO7 := Lib.hid hown7
    clear hown8 hown7
    go_wp2_with fail
    go_ret
    rw [HFL.out]
    have hKM := keepM_grown HO7.out hg8
    refine ⟨rfl, ⟨?_, HGB.out.1, HGB.out.2, ⟨_, HO8.out, MapL.start⟩, ⟨vt5, vl7, _, _, hKM.blk hbl7 rfl, hBB7.keep hKM (fun _ => rfl) (fun _ => rfl), hEE7.keep hKM (fun _ => rfl) (fun _ => rfl), ?_, ?_⟩⟩, hbl57.grown hg8 (Nat.le_trans hbw hbl57.size) (fun j hj => by cases hj; exact HGB.out.2), hkf7.trans (hKM.mono offMap_fix)⟩
    · have := lsmFlush_ok HOK.out
      rwa [HFL.out] at this
    · rw [List.map_cons, HBS.out]; rfl
    · rw [List.map_cons, HES.out]
end Go.Proofs.YtcfijljagohmlaaGreatDoor

/- The walks of lsm.put, Put, Del. -/
namespace Go.Proofs.YtcfijljagohmlaaGreatDoor
open Go.RowKit Go.Maps Go.WideMaps

theorem mem_of_rise {l : List Ent} (h : riseE l) {x : Ent} : x ∈ l ↔ entOf l x.key = some x := ⟨fun hx => entOf_mem h hx, fun hx => (entOf_some hx).1⟩
theorem entSet_perm {F : List Ent} {D : DataW Unit} {e : Ent} (hm : MapL kfE entD D F) (hr : riseE F) : (e :: offKey kfE (kfE e) F).Perm (entSet e F) := by
  have hnd : (e :: offKey kfE (kfE e) F).Nodup := nodup_of_apart (hm.put e (kfE_lit e)).apart
  have hr2 := entSet_rise (e := e) hr
  have hnd2 : (entSet e F).Nodup := List.Pairwise.imp (fun {a b : Ent} (hab : klt a.key b.key = true) (e : a = b) => klt_ne hab (by rw [e])) hr2
  refine (List.perm_ext_iff_of_nodup hnd hnd2).2 fun x => ?_
  rw [mem_of_rise hr2, entSet_of hr, List.mem_cons, mem_off (kfE_lit e), mem_of_rise hr]
  constructor
  · rintro (rfl | ⟨h1, h2⟩)
    · rw [if_pos rfl]
    · rw [if_neg (fun h => h2 (by rw [kfE, h]; rfl))]; exact h1
  · intro h
    split at h
    · left; injection h with h; exact h.symm
    · rename_i hne
      right
      exact ⟨h, fun h2 => hne (klS_inj h2)⟩
set_option maxRecDepth 100000 in
set_option maxHeartbeats 1000000 in
theorem putkey_any (gx : Nat) (k : ByteArray) : PredE 97 #[.pointer (some ⟨gx, 0, none⟩)] (fun x => decide (x.key = k)) fun W => gx < W.heap.size ∧ W.cell? ⟨gx, 0, none⟩ = some (.string k) := fun W x hW => by
  obtain ⟨hlt, hc⟩ := hW
  unfold Ent.val
  show Calls _ _ _ _ fun e w' => e = .returned (.bool (decide (x.key = k))) ∧ Below W.heap.size W w'
  by_cases hk : x.key = k
  · have HK : Hid (decide (x.key = k) = true) := Lib.hid (decide_eq_true hk)
    rw [HK.out]
    subst hk
    go_enter Tryz.func97, Tryz.ntmps97
    go_wp2_with fail
    go_ret
    exact ⟨by simp, (Below.refl _ _).alloc (Nat.le_refl _) _⟩
  · have HK : Hid (decide (x.key = k) = false) := Lib.hid (decide_eq_false hk)
    have h3 : (x.key.toList == k.toList) = false := by rw [beq_eq_false_iff_ne]; exact fun e => hk (bytes_same e)
    rw [HK.out]
    clear hk
    go_enter Tryz.func97, Tryz.ntmps97
    go_wp2_with fail
    go_ret
    exact ⟨by simp, (Below.refl _ _).alloc (Nat.le_refl _) _⟩
theorem any_has {l : List Ent} {k : ByteArray} : (l.any fun x => decide (x.key = k)) = (entOf l k).isSome := by
  have := keyTo_all (k := k) (l := l)
  rwa [keyTo, List.take_length] at this
set_option maxRecDepth 100000 in
set_option maxHeartbeats 4000000 in
theorem lput_any (base g M : Nat) (lim : Int) (s : Lsm) (e : Ent) (w : World) (h : LsmIn w base g M lim s) (hLS : s.LS.length ≤ 199999) (hbw : base ≤ w.heap.size) (hd : e.dead = true → e.value = ⟨#[]⟩) :
    Calls Tryz.prog 60 #[.pointer (some ⟨g, 0, none⟩), e.val] w fun r w' => r = .returned (errV (lsmPutE s e)) ∧ LsmIn w' base g M lim (lsmPut lim s e) ∧ Below base w w' ∧ KeepF fixL w w' := by
  have hbx := Blk.new w 67 #[.string e.key, .string e.value, .bool e.dead]
  have hb0 := (Below.refl w.heap.size w).alloc (Nat.le_refl _) (.cells #[.string e.key, .string e.value, .bool e.dead] 67)
  have h0 := h.up hb0
  have HOK := Lib.hid h.ok
  have HE : Hid (lsmPutE s e = if 120 < e.key.size ∨ 120 < e.value.size then 1 else if entOf s.all e.key = none ∧ 400 ≤ s.all.length then 4 else 0) := Lib.hid rfl
  have HP : Hid (lsmPut lim s e = if lsmPutE s e = 0 then (if lim ≤ ((lsmSet s e).F.length : Int) then lsmFlush (lsmSet s e) else lsmSet s e) else s) := Lib.hid rfl
  have HH := Lib.hid h
  go_enter Tryz.func60, Tryz.ntmps60
  unfold Ent.val
  by_cases hk : 120 < e.key.size ∨ 120 < e.value.size
  · have HE1 : Hid (lsmPutE s e = 1) := Lib.hid (by rw [HE.out, if_pos hk])
    have HP1 : Hid (lsmPut lim s e = s) := Lib.hid (by rw [HP.out, HE1.out, if_neg (by decide)])
    rw [HE1.out, HP1.out]
    by_cases h1 : 120 < e.key.size
    · have h1i : (120 : Int) < (e.key.size : Int) := by omega
      clear hk h1 hbx
      go_wp2_with fail
      go_ret
      exact ⟨rfl, h0, hb0.mono hbw, keepF_below hb0⟩
    · have h1i : ¬ (120 : Int) < (e.key.size : Int) := by omega
      have h2i : (120 : Int) < (e.value.size : Int) := by omega
      clear hk h1 hbx
      go_wp2_with fail
      go_ret
      exact ⟨rfl, h0, hb0.mono hbw, keepF_below hb0⟩
  · have h1i : ¬ (120 : Int) < (e.key.size : Int) := by omega
    have h2i : ¬ (120 : Int) < (e.value.size : Int) := by omega
    obtain ⟨gx, hgx⟩ : ∃ gx, gx = w.heap.size := ⟨_, rfl⟩
    go_upto_region 3 with fail
    rw [← hgx] at hbx ⊢
    have HGX := Lib.hid hgx
    clear hgx
    generalize w.alloc (.cells #[.string e.key, .string e.value, .bool e.dead] 67) = w0 at *
    have hal := all_any base g M lim s w0 h0 (by omega)
    obtain ⟨n, hn⟩ : ∃ n, n = s.all.length := ⟨_, rfl⟩
    rw [← hn] at hal
    have HN := Lib.hid hn
    have HHAS := Lib.hid (fun (A : Option Addr) (c : Nat) (W : World) (hr : Rd W W.heap.size 3 A n (entCells s.all)) (hb : Blk W gx 67 #[.string e.key, .string e.value, .bool e.dead]) => has_any 97 #[.pointer (some ⟨gx, 0, none⟩)] (fun x => decide (x.key = e.key)) _ (fun _ _ => by kernel_rfl) (putkey_any gx e.key) A c n W.heap.size s.all W (fun W' hb' => ⟨Nat.lt_of_lt_of_le hb.lt hb'.size, (Blk.up hb hb').cell 0⟩) hr hn.symm (Nat.le_refl _) (by have := HOK.out.few; omega))
    rw [any_has] at HHAS
    obtain ⟨hs, hhs⟩ : ∃ hs, hs = (entOf s.all e.key).isSome := ⟨_, rfl⟩
    rw [← hhs] at HHAS
    have HS := Lib.hid hhs
    clear hn hhs
    have hKE := Lib.hid hk
    clear hk
    go_upto_region 5 with (first
      | (go_at_call 68; go_must (refine hal.mono ?_); rintro e w1 ⟨A1, c1, rfl, q1, q2, own1, hb1⟩; obtain ⟨_, _, e1, _, _, _, r1⟩ := own_form own1; injection e1 with e11 _ e12; subst e11 e12; have hbx1 := hbx.up hb1)
      | (go_at_call 96; go_must (refine (HHAS.out A1 c1 w1 r1 hbx1).mono ?_); rintro e w2 ⟨rfl, hb2⟩))
    have hb12 := below_up hb1 hb2
    have h2 := h0.up hb12
    have hbx2 := hbx1.up hb2
    have hbw2 := hb0.trans (hb12.mono hb0.size)
    clear hal own1 hbx1 hb1 r1 hb2 h0 hb12 hbx hb0
    go_cut [29] from 23 to 29 (fun u wx => u = .bool (decide (hs = false ∧ 400 ≤ n)) ∧ w2 = wx)
    case first =>
      rcases hs with _ | _
      · by_cases hn4 : 400 ≤ n
        · have hn4i : (400 : Int) ≤ (n : Int) := by omega
          go_wp2_with fail
          go_meet
          exact ⟨by simp [hn4], rfl⟩
        · have hn4i : ¬ (400 : Int) ≤ (n : Int) := by omega
          go_wp2_with fail
          go_meet
          exact ⟨by simp [hn4], rfl⟩
      · go_wp2_with fail
        go_meet
        exact ⟨by simp, rfl⟩
    case rest =>
      obtain ⟨rfl, rfl⟩ := hcut
      have hEI : lsmPutE s e = if hs = false ∧ 400 ≤ n then 4 else 0 := by
        rw [HE.out, if_neg hKE.out, HS.out, HN.out]
        have : ((entOf s.all e.key).isSome = false) ↔ entOf s.all e.key = none := by simp
        by_cases hc : entOf s.all e.key = none ∧ 400 ≤ s.all.length
        · rw [if_pos hc, if_pos ⟨this.2 hc.1, hc.2⟩]
        · rw [if_neg hc, if_neg (fun h => hc ⟨this.1 h.1, h.2⟩)]
      by_cases hfull : hs = false ∧ 400 ≤ n
      · have HE1 : Hid (lsmPutE s e = 4) := Lib.hid (by rw [hEI, if_pos hfull])
        have HP1 : Hid (lsmPut lim s e = s) := Lib.hid (by rw [HP.out, HE1.out, if_neg (by decide)])
        rw [decide_eq_true hfull]
        clear hEI hfull hbx2
        go_wp2_with fail
        go_ret
        rw [HE1.out, HP1.out]
        exact ⟨rfl, h2, hbw2.mono hbw, keepF_below hbw2⟩
      · have HE1 : Hid (lsmPutE s e = 0) := Lib.hid (by rw [hEI, if_neg hfull])
        have HP1 : Hid (lsmPut lim s e = if lim ≤ ((lsmSet s e).F.length : Int) then lsmFlush (lsmSet s e) else lsmSet s e) := Lib.hid (by rw [HP.out, if_pos HE1.out])
        rw [decide_eq_false hfull]
        have HOS := Lib.hid (lsmSet_ok HOK.out HE1.out hd)
        clear hEI hfull
        rename World => w2
        obtain ⟨D, hown, hmap⟩ := h2.map_
        obtain ⟨vt, vl, bs, es, hblk, hBB, hEE, hbs, hes⟩ := h2.rows
        have hkey : keyOf Tryz.prog 9 (.string e.key) = some (klS e.key) := klS_key (by have := hKE.out; unfold maxLen; omega)
        have hF4 := HOK.out.few_fresh
        have HMAP := Lib.hid hmap
        have d1 := hblk.cell 1
        have x0 := hbx2.cell 0
        have x1 := hbx2.cell 1
        have x2 := hbx2.cell 2
        simp at d1 x0 x1 x2
        clear hmap
        go_upto_region 7 with fail
        go_still_tail 7, (by kernel_rfl)
        change wpList _ _ _ _ _ w2.drew
        go_upto_region 8 with (first
          | (at_mapUpdate; go_must (refine wpList_mapUpdate_own _ rfl _ _ _ 114 rfl 9 67 kstr Tryz.underlying114 entR M s.F.length D rfl hown.drew (by unfold maxLen; omega) _ _ (klS e.key) rfl rfl hkey (entD e) [] rfl ?_); intro w3 hown3 hgr3))
        have hKM := keepM_grown hown.drew hgr3
        have hbl3 := hKM.blk hblk.drew rfl
        have hm3 := (HMAP.out.put e (kfE_lit e)).perm (entSet_perm HMAP.out HOK.out.rise)
        have ht3 := own_tight hown3
        rw [show Maps.size (D.put (klS e.key) (entD e)) = (entSet e s.F).length from hm3.size] at ht3
        have h3 : LsmIn w3 base g M lim (lsmSet s e) := ⟨HOS.out, h2.gb, h2.Mb, ⟨_, ht3, hm3⟩, ⟨vt, vl, bs, es, hbl3, (hBB.up (Below.refl _ _).drew).keep hKM (fun _ => rfl) (fun _ => rfl), (hEE.up (Below.refl _ _).drew).keep hKM (fun _ => rfl) (fun _ => rfl), hbs, hes⟩⟩
        have hbel3 : Below base w w3 := ((hbw2.mono hbw).drew).grown hgr3 (Nat.le_trans hbw hbw2.size) (fun j hj => by cases hj; exact h2.Mb)
        have hkf3 : KeepF fixL w w3 := ((keepF_below hbw2).drew).trans (hKM.mono offMap_fix)
        have hlen := fun ty => (ht3.drew).len Tryz.underlying114 ty
        have hms : Maps.size (D.put (klS e.key) (entD e)) = (entSet e s.F).length := hm3.size
        rw [hms] at hlen
        clear hms
        have d0 := hbl3.cell 0
        have d1 := hbl3.cell 1
        simp at d0 d1
        have d0d : w3.drew.cell? ⟨g, 0, none⟩ = some (.int .i64 lim) := d0
        have d1d : w3.drew.cell? ⟨g, 1, none⟩ = some (.map (some M)) := d1
        have HH3 := Lib.hid h3
        have HFL : Hid ((lsmSet s e).F.length = (entSet e s.F).length) := Lib.hid rfl
        clear h3 x0 x1 x2 hblk hBB hEE hbs hes hown hown3 hgr3 hKM hbl3 hm3 ht3 h2 hbx2 hbw2 d0 d1
        generalize (entSet e s.F).length = fl at *
        by_cases hli : lim ≤ (fl : Int)
        · have hfl := lflush_any base g M lim (lsmSet s e) w3.drew (HH3.out.drewN 1) (by show s.LS.length ≤ 200000; omega) (Nat.le_trans hbw hbel3.size)
          have HLI := Lib.hid hli
          have hB : decide (lim ≤ (fl : Int)) = true := decide_eq_true hli
          go_region
          all_goals go_wp2_with (go_at_call 27; go_must (refine hfl.mono ?_); rintro e w4 ⟨rfl, h4, hb4, hk4⟩)
          all_goals go_ret
          all_goals
            rw [HE1.out, HP1.out, HFL.out, if_pos HLI.out]
            exact ⟨rfl, h4, hbel3.drew.trans hb4, hkf3.drew.trans hk4⟩
        · have HLI := Lib.hid hli
          have hB : decide (lim ≤ (fl : Int)) = false := decide_eq_false hli
          go_region
          all_goals go_wp2_with fail
          all_goals go_ret
          all_goals
            rw [HE1.out, HP1.out, HFL.out, if_neg (by have := HLI.out; omega)]
            exact ⟨rfl, HH3.out.drewN 1, hbel3.drew, hkf3.drew⟩
set_option maxRecDepth 100000 in
set_option maxHeartbeats 1000000 in
theorem lPut_any (base g M : Nat) (lim : Int) (s : Lsm) (k v : ByteArray) (w : World) (h : LsmIn w base g M lim s) (hLS : s.LS.length ≤ 199999) (hbw : base ≤ w.heap.size) :
    Calls Tryz.prog 24 #[.pointer (some ⟨g, 0, none⟩), .string k, .string v] w fun r w' => r = .returned (errV (lsmPutE s ⟨k, v, false⟩)) ∧ LsmIn w' base g M lim (lsmPut lim s ⟨k, v, false⟩) ∧ Below base w w' ∧ KeepF fixL w w' := by
  have hp := lput_any base g M lim s ⟨k, v, false⟩ w h hLS hbw (fun e => by cases e)
  unfold Ent.val at hp
  generalize errV (lsmPutE s ⟨k, v, false⟩) = E at *
  go_enter Tryz.func24, Tryz.ntmps24
  go_wp2_with (go_at_call 60; go_must (refine hp.mono ?_); rintro e w4 ⟨rfl, h4, hb4, hk4⟩)
  go_ret
  exact ⟨rfl, h4, hb4, hk4⟩
set_option maxRecDepth 100000 in
set_option maxHeartbeats 1000000 in
theorem lDel_any (base g M : Nat) (lim : Int) (s : Lsm) (k : ByteArray) (w : World) (h : LsmIn w base g M lim s) (hLS : s.LS.length ≤ 199999) (hbw : base ≤ w.heap.size) :
    Calls Tryz.prog 26 #[.pointer (some ⟨g, 0, none⟩), .string k] w fun r w' => r = .returned (errV (lsmPutE s ⟨k, ⟨#[]⟩, true⟩)) ∧ LsmIn w' base g M lim (lsmPut lim s ⟨k, ⟨#[]⟩, true⟩) ∧ Below base w w' ∧ KeepF fixL w w' := by
  have hp := lput_any base g M lim s ⟨k, ⟨#[]⟩, true⟩ w h hLS hbw (fun _ => rfl)
  unfold Ent.val at hp
  generalize errV (lsmPutE s ⟨k, ⟨#[]⟩, true⟩) = E at *
  go_enter Tryz.func26, Tryz.ntmps26
  go_wp2_with (go_at_call 60; go_must (refine hp.mono ?_); rintro e w4 ⟨rfl, h4, hb4, hk4⟩)
  go_ret
  exact ⟨rfl, h4, hb4, hk4⟩
theorem live_ents {s : Lsm} (h : LsmOk s) : entsE s.live = 0 ∧ s.live.length ≤ 400 := by
  have h2 : s.live.length ≤ 400 := Nat.le_trans (List.length_filter_le _ _) h.few
  unfold Lsm.live at h2 ⊢
  exact ⟨by rw [rise_ents ((s.all_rise).filter _) fun e he => h.all_fine e (List.mem_filter.1 he).1, if_neg (by omega)], h2⟩
set_option maxRecDepth 100000 in
set_option maxHeartbeats 4000000 in
theorem lcompact_any (base g M : Nat) (lim : Int) (s : Lsm) (w : World) (h : LsmIn w base g M lim s) (hLS : s.LS.length ≤ 200000) (hbw : base ≤ w.heap.size) :
    Calls Tryz.prog 29 #[.pointer (some ⟨g, 0, none⟩)] w fun e w' => e = .returned .nilIface ∧ LsmIn w' base g M lim (lsmCompact s) ∧ Below base w w' ∧ KeepF fixL w w' := by
  have hal := all_any base g M lim s w h hLS
  have hfew := h.ok.few
  obtain ⟨hle, hl4⟩ := live_ents h.ok
  have HOK := Lib.hid (lsmCompact_ok h.ok)
  have HGB := Lib.hid (And.intro h.gb h.Mb)
  have HLC : Hid (lsmCompact s = ⟨[], if s.live = [] then [] else [s.live]⟩) := Lib.hid rfl
  have HFINE := Lib.hid (show ∀ e ∈ s.live, e.Ok from fun e he => by
    obtain ⟨h1, h2, _⟩ := entE_good (h.ok.all_fine e (List.mem_filter.1 he).1)
    exact ⟨by omega, by omega⟩)
  have HDE := Lib.hid (fun (v : Value) (b : Nat) (W : World) (ho : W.ownsRow b 67 3 v s.all.length (entCells s.all)) => (show Calls Tryz.prog 67 #[v, .func (.func 69) #[] #[]] W fun e w' => ∃ v', e = .returned v' ∧ w'.ownsRow b 67 3 v' s.live.length (entCells s.live) ∧ W.grownBy w' v.ownBlock from by
    have := dele_any 69 Ent.dead (fun _ _ => by kernel_rfl) compdead_any v _ b s.all W ho rfl (by omega)
    unfold Lsm.live
    exact this))
  have HBD := Lib.hid (fun (A : Option Addr) (c : Nat) (W : World) (hr : Rd W W.heap.size 3 A s.live.length (entCells s.live)) => (show Calls Tryz.prog 64 #[.slice A s.live.length c] W fun e w' => ∃ v, e = .returned (.tuple #[v, errV 0]) ∧ w'.ownsRow W.heap.size 5 1 v (tabB s.live).length ((tabB s.live).map bv) ∧ Below W.heap.size W w' from by
    have := build_any A c W.heap.size s.live W hr (Nat.le_refl _) HFINE.out (by omega)
    rwa [hle] at this))
  rw [errV_zero] at HBD
  obtain ⟨D, hown, hmap⟩ := h.map_
  obtain ⟨vt, vl, bs, es, hblk, _⟩ := h.rows
  generalize s.all = SA at *
  generalize s.live = SL at *
  obtain ⟨n, hn⟩ : ∃ n, n = SL.length := ⟨_, rfl⟩
  rw [← hn] at HDE HBD hl4
  have HN := Lib.hid hn
  clear hn h hmap hle hLS
  go_enter Tryz.func29, Tryz.ntmps29
  go_upto_region 2 with (first
    | (go_at_call 68; go_must (refine hal.mono ?_); rintro e w1 ⟨A1, c1, rfl, q1, q2, own1, hb1⟩)
    | (go_at_call 67; go_must (refine (HDE.out _ _ w1 own1).mono ?_); rintro e w2 ⟨v2, rfl, own2, hg2⟩; obtain ⟨A2, c2, rfl, _, _, _, r2⟩ := own_form own2))
  have hb12 : Below w.heap.size w w2 := hb1.grown hg2 hb1.size (fun j hj => (own1.lt j hj).1)
  have hbd := HBD.out A2 c2 w2 r2
  clear hal HDE r2 own1 hg2 hb1
  go_upto_region 5 with (go_at_call 64; go_must (refine hbd.mono ?_); rintro e w3 ⟨v3, rfl, own3, hb3⟩)
  obtain ⟨A3, c3, rfl, _, _, _, _⟩ := own_form own3
  have hb13 := below_up hb12 hb3
  have hT3 := own_base own3 (Nat.le_trans hbw hb12.size)
  have hL3 := own_base (own_up own2 hb3) hbw
  have hown3 := own_up_map hown hb13
  have hbl3 := hblk.up hb13
  obtain ⟨tb, htb⟩ : ∃ tb, tb = (tabB SL).length := ⟨_, rfl⟩
  have HTB := Lib.hid htb
  rw [← htb] at hT3 ⊢
  obtain ⟨w4, hcl, hown4, hg4⟩ := run_clear_map Tryz.underlying114 hown3
  have d1 := hbl3.cell 1
  simp at d1
  have hKM := keepM_grown hown3 hg4
  have hbl4 := hKM.blk hbl3 rfl
  have hT4 := hKM.own hT3 (fun _ => rfl)
  have hL4 := hKM.own hL3 (fun _ => rfl)
  have hkf4 : KeepF fixL w w4 := (keepF_below hb13).trans (hKM.mono offMap_fix)
  have hbe4 : Below base w w4 := (hb13.mono hbw).grown hg4 (Nat.le_trans hbw hb13.size) (fun j hj => by cases hj; exact HGB.out.2)
  have e2 := hbl4.cell 2
  have e3 := hbl4.cell 3
  have f2 := hbl4.frozen 2
  have f3 := hbl4.frozen 3
  simp at e2 e3
  have HO4 := Lib.hid hown4
  have HL4 := Lib.hid hL4
  have HT4 := Lib.hid hT4
  clear htb own2 own3 hb3 hb12 hbd HBD hown hblk hT3 hL3 hKM hg4 hown4 hown3 hL4 hT4 hb13
  go_upto_region 7 with fail
  have hKa := keepT_set hbl4 2 (.slice none 0 0)
  have hbl5a := hbl4.set_ 2 (.slice none 0 0)
  have hKb := keepT_set hbl5a 3 (.slice none 0 0)
  have hbl5 : Blk ((w4.setCell ⟨g, 2, none⟩ (.slice none 0 0)).setCell ⟨g, 3, none⟩ (.slice none 0 0)) g 117 #[.int .i64 lim, .map (some M), .slice none 0 0, .slice none 0 0] := by
    have := hbl5a.set_ 3 (.slice none 0 0)
    simpa using this
  have hK5 := hKa.trans hKb
  have hL5 := hK5.own HL4.out (fun _ => rfl)
  have hT5 := hK5.own HT4.out (fun _ => rfl)
  have hown5 := hK5.map_ HO4.out (fun _ _ => rfl)
  have hkf5 := hkf4.trans (hK5.mono (offT_fix (.inl rfl)))
  have hbe5 := (hbe4.setCell (p := ⟨g, 2, none⟩) HGB.out.1 (.slice none 0 0)).setCell (p := ⟨g, 3, none⟩) HGB.out.1 (.slice none 0 0)
  clear hKa hKb hK5 hbl5a hbl4 e2 e3 f2 f3 HL4 HT4 HO4 hkf4 hbe4 hcl d1 hbl3
  generalize (w4.setCell ⟨g, 2, none⟩ (.slice none 0 0)).setCell ⟨g, 3, none⟩ (.slice none 0 0) = w5 at *
  have hw5 : base ≤ w5.heap.size := Nat.le_trans hbw hbe5.size
  by_cases hn0 : 0 < n
  · have hn0i : (0 : Int) < (n : Int) := by omega
    have HNE : Hid (¬ SL = []) := Lib.hid (fun e => by have := HN.out; rw [e] at this; simp at this; omega)
    have hba := (Below.refl w5.heap.size w5).alloc (Nat.le_refl _) (.cells #[.slice A3 tb c3] 23)
    have hbb := hba.alloc hba.size (.cells #[.slice A2 n c2] 57)
    have hla := World.ownsRow_lit (base := base) (e := 23) (size := 1) w5 #[.slice A3 tb c3] 1 hw5 (by unfold maxLen; omega) rfl
    have hlb := World.ownsRow_lit (base := base) (e := 57) (size := 1) (w5.alloc (.cells #[.slice A3 tb c3] 23)) #[.slice A2 n c2] 1 (Nat.le_trans hw5 hba.size) (by unfold maxLen; omega) rfl
    have hla2 := own_up hla ((Below.refl _ _).alloc (Nat.le_refl _) (.cells #[.slice A2 n c2] 57))
    have hL6 := own_up hL5 hbb
    have hT6 := own_up hT5 hbb
    have hown6 := own_up_map hown5 hbb
    have hbl6 := hbl5.up hbb
    have hkf6 := hkf5.up hbb
    have hbe6 := hbe5.trans (hbb.mono hw5)
    have e2 := hbl6.cell 2
    have e3 := hbl6.cell 3
    have f2 := hbl6.frozen 2
    have f3 := hbl6.frozen 3
    simp at e2 e3
    have HLA := Lib.hid hla2
    have HLB := Lib.hid hlb
    have HL6 := Lib.hid hL6
    have HT6 := Lib.hid hT6
    have HO6 := Lib.hid hown6
    clear hla hlb hla2 hL6 hT6 hown6 hL5 hT5 hown5 hbl5 hkf5 hba hbb
    go_wp2_with fail
    go_ret
    have hKa := keepT_set hbl6 2 (.slice (some ⟨w5.heap.size, 0, none⟩) 1 1)
    have hbl7 := hbl6.set_ 2 (.slice (some ⟨w5.heap.size, 0, none⟩) 1 1)
    have hKb := keepT_set hbl7 3 (.slice (some ⟨w5.heap.size + 1, 0, none⟩) 1 1)
    have hbl8 := hbl7.set_ 3 (.slice (some ⟨w5.heap.size + 1, 0, none⟩) 1 1)
    have hK := hKa.trans hKb
    have htb := HTB.out
    have hnn := HN.out
    subst htb hnn
    have hok := HOK.out
    rw [HLC.out, if_neg HNE.out] at hok ⊢
    refine ⟨rfl, ⟨hok, HGB.out.1, HGB.out.2, ⟨_, hK.map_ HO6.out (fun _ _ => rfl), MapL.start⟩, ⟨.slice (some ⟨w5.heap.size, 0, none⟩) 1 1, .slice (some ⟨w5.heap.size + 1, 0, none⟩) 1 1, [⟨tabB SL, A3, c3⟩], [⟨SL, A2, c2⟩], by simpa using hbl8, ⟨?_, ?_⟩, ⟨?_, ?_⟩, rfl, rfl⟩⟩, (hbe6.setCell (p := ⟨g, 2, none⟩) HGB.out.1 _).setCell (p := ⟨g, 3, none⟩) HGB.out.1 _, hkf6.trans (hK.mono (offT_fix (.inl rfl)))⟩
    · have := hK.own HLA.out (fun _ => rfl)
      exact this
    · intro e he
      rw [List.mem_singleton.1 he]
      have := hK.own HT6.out (fun _ => rfl)
      exact this
    · have := hK.own HLB.out (fun _ => rfl)
      rw [show (w5.alloc (.cells #[.slice A3 (tabB SL).length c3] 23)).heap.size = w5.heap.size + 1 from by simp] at this
      exact this
    · intro e he
      rw [List.mem_singleton.1 he]
      have := hK.own HL6.out (fun _ => rfl)
      exact this
  · have hn0i : ¬ (0 : Int) < (n : Int) := by omega
    have HNE : Hid (SL = []) := Lib.hid (List.eq_nil_of_length_eq_zero (by have := HN.out; omega))
    go_wp2_with fail
    go_ret
    have hok := HOK.out
    rw [HLC.out, if_pos HNE.out] at hok ⊢
    exact ⟨rfl, ⟨hok, HGB.out.1, HGB.out.2, ⟨_, hown5, MapL.start⟩, ⟨_, _, [], [], hbl5, OwnBB.start _ _, ⟨World.ownsRow_nil _ _ _ _, fun _ h => (List.not_mem_nil h).elim⟩, rfl, rfl⟩⟩, hbe5, hkf5⟩
end Go.Proofs.YtcfijljagohmlaaGreatDoor

/- The walks of lsm.Open, New. -/
namespace Go.Proofs.YtcfijljagohmlaaGreatDoor
open Go.RowKit Go.Maps Go.WideMaps

/-- A call of a Go function with one argument, as one step of a region that draws its order. -/
theorem step_call1 {P : Program} {ops : Array Oper} {o : Oper} {a : Act} {w : World} {K : Act → World → Prop} {Q : Exit → Act → World → Prop} {E : Prop} (hg : o.guard = none) (f : FuncId) (x : Operand) (t : TypeId)
    (hop : o.op = .call { callee := .value (.func f), args := #[x], argTypes := #[t] }) (u : Value) (hx : a.eval x = u) (eg : ∀ args w, (callFunc f args).run P w = .ok (.enter f args) w) {R : Value → World → Prop}
    (hc : Calls P f #[u] w fun e w' => ∃ v, e = .returned v ∧ R v w') (hK : ∀ v w', R v w' → K (a.put o.dst v) w') : if Region.wanted o (yielded ops a.tmps) = true then Oper.wp P o a w K Q else E := by
  have hw : Region.wanted o (yielded ops a.tmps) = true := by simp [Region.wanted, hg]
  rw [if_pos hw]
  have hrun : (execOp a.eval o).run P w = .ok (.enter f #[u]) w := by
    have hf : a.eval (.func f) = .func (.func f) #[] #[] := rfl
    simp [execOp, hop, resolve, invoke, hx, hf, Deferred.ofValue, eg]
  unfold Oper.wp
  rw [hrun, Oper.upon_enter]
  refine hc.mono ?_
  rintro e w' ⟨v, rfl, h⟩
  exact hK v w' h
theorem blk4_2 {w : World} {g : Nat} {t : TypeId} {a b c d : Value} (h : Blk w g t #[a, b, c, d]) : w.cell? ⟨g, 2, none⟩ = some c := by have := h.cell 2; simpa using this
/-- What Open has put in so far. -/
structure OpIn (w : World) (base g M : Nat) (lim : Int) (LS : List (List Ent)) : Prop where
  map_ : w.ownsMap Tryz.prog 9 entR M 0 (.map [])
  rows : ∃ vt vl bs es, Blk w g 117 #[.int .i64 lim, .map (some M), vt, vl] ∧ OwnBB w base vt bs ∧ OwnEE w base vl es ∧ bs.map Bl.b = LS.map tabB ∧ es.map El.l = LS
theorem OpIn.up {w w' : World} {base g M : Nat} {lim : Int} {LS : List (List Ent)} (h : OpIn w base g M lim LS) (hb : Below w.heap.size w w') : OpIn w' base g M lim LS := by
  obtain ⟨vt, vl, bs, es, h1, h2, h3, h4, h5⟩ := h.rows
  exact ⟨own_up_map h.map_ hb, vt, vl, bs, es, h1.up hb, h2.up hb, h3.up hb, h4, h5⟩
set_option maxRecDepth 100000 in
set_option maxHeartbeats 4000000 in
theorem lopen_any (A : Option Addr) (c n B : Nat) (LS : List (List Ent)) (lim : Int) (w : World) (hr : RdBB w B A (LS.map tabB)) (hn : LS.length = n) (hB : B ≤ w.heap.size) (hn2 : n ≤ 200000) (hok : ∀ l ∈ LS, entsE l = 0) (hfew : (mixL LS.flatten).length ≤ 400) (h1 : 1 ≤ lim) (h4 : lim ≤ 400) :
    Calls Tryz.prog 58 #[.slice A n c, .int .i64 lim] w fun e w' => ∃ g M, e = .returned (.tuple #[.pointer (some ⟨g, 0, none⟩), .nilIface]) ∧ LsmIn w' w.heap.size g M lim ⟨[], LS⟩ ∧ Below w.heap.size w w' := by
  have HN := Lib.hid hn
  have HOK := Lib.hid hok
  have HLSO : Hid (LsmOk ⟨[], LS⟩) := Lib.hid ⟨.nil, fun _ h => (List.not_mem_nil h).elim, hok, by unfold Lsm.all; simpa using hfew⟩
  have hmm := @run_makeMap Tryz.prog
  have hown0 := World.ownsMap_made w Tryz.prog 9 entR
  have hi1 : ¬ (lim < 1) := by omega
  have hi4 : ¬ (400 < lim) := by omega
  clear hn hok hfew
  go_enter Tryz.func58, Tryz.ntmps58
  go_upto_region 4 with fail
  obtain ⟨g, hg⟩ : ∃ g, g = w.heap.size + 1 := ⟨_, rfl⟩
  obtain ⟨M, hM⟩ : ∃ M, M = w.heap.size := ⟨_, rfl⟩
  have hb0 := ((Below.refl w.heap.size w).alloc (Nat.le_refl _) (.map #[] 0)).alloc (by simp) (.cells #[.int .i64 lim, .map (some M), .slice none 0 0, .slice none 0 0] 117)
  have hO0 : OpIn ((w.alloc (.map #[] 0)).alloc (.cells #[.int .i64 lim, .map (some M), .slice none 0 0, .slice none 0 0] 117)) w.heap.size g M lim [] := by
    refine ⟨?_, _, _, [], [], ?_, OwnBB.start _ _, ⟨World.ownsRow_nil _ _ _ _, fun _ h => (List.not_mem_nil h).elim⟩, rfl, rfl⟩
    · rw [hM]; exact own_up_map hown0 ((Below.refl _ _).alloc (Nat.le_refl _) _)
    · have := Blk.new (w.alloc (.map #[] 0)) 117 #[.int .i64 lim, .map (some M), .slice none 0 0, .slice none 0 0]
      rw [show (w.alloc (.map #[] 0)).heap.size = g from by rw [hg]; simp] at this
      exact this
  have hgw : w.heap.size ≤ g := by omega
  have hMw : w.heap.size ≤ M := by omega
  rw [← hM]
  rw [show (M + 1 : Nat) = g from by omega]
  generalize ((w.alloc (.map #[] 0)).alloc (.cells #[.int .i64 lim, .map (some M), .slice none 0 0, .slice none 0 0] 117)) = w0 at *
  clear hmm hown0 hg hM
  go_wp2_with fail
  go_loopw [24] (fun x wr => ∃ i : Nat, i ≤ n ∧ x = .int .i64 i ∧ OpIn wr w.heap.size g M lim (LS.take i) ∧ Below w.heap.size w wr) (fun x _ => n - (intOf x).toNat)
  case atStart => exact ⟨0, Nat.zero_le _, rfl, hO0, hb0⟩
  clear hO0 hb0
  obtain ⟨i, hi, rfl, hO, hbel⟩ := hrel
  have hws := hbel.size
  by_cases hlt : i < n
  · obtain ⟨l, hl⟩ : ∃ l, LS[i]? = some l := ⟨_, List.getElem?_eq_getElem (by rw [HN.out]; exact hlt)⟩
    have hlb : (LS.map tabB)[i]? = some (tabB l) := by rw [List.getElem?_map, hl]; rfl
    obtain ⟨ad, rfl, hab, hcell⟩ := hr (by rw [List.length_map, HN.out]; omega)
    obtain ⟨A1, c1, g0w, hlc, hcm, hrd⟩ := hcell i _ hlb
    have hbw : (ad.add i).block < w.heap.size := by rw [block_add]; omega
    have g0 := (hbel.cell hbw).trans g0w
    have hEl := HOK.out l (List.mem_of_getElem? hl)
    have hfw := tabB_few (l := l)
    have htr := tab_read hEl
    have hrt := readtab_any A1 c1 B (tabB l) wr (hrd.below hbel hB) (Nat.le_trans hB hws) (by omega) hlc
    rw [show rtE (tabB l) = 0 from by rw [rtE, htr]; rfl, htr, Option.getD_some, errV_zero] at hrt
    obtain ⟨m, hm⟩ : ∃ m, m = (tabB l).length := ⟨_, rfl⟩
    have HM := Lib.hid hm
    have HCL := Lib.hid (fun W (h : Below w.heap.size w W) => (show Calls Tryz.prog 72 #[.slice A1 m c1] W fun e w' => ∃ v, e = .returned v ∧ w'.ownsRow W.heap.size 5 1 v m ((tabB l).map bv) ∧ Below W.heap.size W w' from bclone_any A1 c1 m B (tabB l) W (by rw [hm]; exact hrd.below h hB) hm (Nat.le_trans hB h.size) (by omega)))
    rw [← hm] at g0 hrt
    have HTK : Hid (LS.take (i + 1) = LS.take i ++ [l]) := Lib.hid (by rw [List.take_add_one, hl]; rfl)
    have hi0 : (0 : Int) ≤ (i : Int) := by omega
    have hi1' : (i : Int) < (n : Int) := by omega
    have hTL : (LS.take i).length ≤ 200000 := by rw [List.length_take]; omega
    clear hl hlb hcell g0w hrd htr hEl hm hlc hcm
    go_upto_region 10 with (go_at_call 94; go_must (refine hrt.mono ?_); rintro e w1 ⟨v1, rfl, own1, hb1⟩)
    obtain ⟨A9, c9, rfl, _, _, _, _⟩ := own_form own1
    have hbel1 := hbel.trans (hb1.mono hws)
    have hO1 := hO.up hb1
    have hL1 := own_base own1 hws
    clear hO hrt own1 hb1 hbel
    obtain ⟨vt, vl, bs, es, hblk, hBB, hEE, hbs, hes⟩ := hO1.rows
    have HBS := Lib.hid hbs
    have HES := Lib.hid hes
    have hbl : bs.length = (LS.take i).length := by have := congrArg List.length hbs; simpa using this
    have hel : es.length = (LS.take i).length := by rw [← hes, List.length_map]
    obtain ⟨k, hk⟩ : ∃ k, k = bs.length := ⟨_, rfl⟩
    have hke : k = es.length := by omega
    have hk2 : k ≤ 200000 := by omega
    have HKB := Lib.hid hk
    have HKE := Lib.hid hke
    have hrow := hBB.row
    rw [← hk] at hrow
    have hs1 := hbel1.size
    have hcl := HCL.out w1.drew hbel1.drew
    have hby : (k + 1) * 24 ≤ 140737488355328 := by omega
    have d2 := hblk.cell 2
    simp at d2
    have d2d : w1.drew.cell? ⟨g, 2, none⟩ = some vt := d2
    have hgl : g < w1.drew.heap.size := hblk.lt
    have hs1d : w.heap.size ≤ w1.drew.heap.size := hs1
    clear hbs hes hbl hel hk hke
    go_region_law
      ((first
        | (with_reducible show (if Region.wanted (⟨some 42, _, _, _, _, _⟩ : Oper) _ = true then _ else _); go_must (refine step_call1 rfl 72 (.tmp 41) 23 rfl (.slice A1 m c1) rfl (fun _ _ => by kernel_rfl) hcl ?_; rintro v2 w2 ⟨own2, hb2⟩; obtain ⟨A2, c2, rfl, _, _, _, _⟩ := own_form own2; have hrow2 := own_up (World.ownsRow.drew hrow) hb2; have d22 := (hb2.cell (p := ⟨g, 2, none⟩) hgl).trans d2d; have hs2 : w.heap.size ≤ w2.heap.size := Nat.le_trans hs1d hb2.size; have d2a := fun o => (World.cell?_alloc_lt w2 o ⟨g, 2, none⟩ (Nat.lt_of_lt_of_le hgl hb2.size)).trans d22; have hbl2 := (hblk.drew).up hb2))
        | (with_reducible show (if Region.wanted (⟨some 44, _, _, _, _, _⟩ : Oper) _ = true then _ else _); go_must (refine step_newg (.tmp 40) (.tmp 43) el_slB rfl rfl hrow2 rfl rfl rfl rfl rfl hby hs2 ?_); intro v4 w4 hown4 hb4 hg4 ha4; obtain ⟨A4, c4, rfl, _, _, _, _⟩ := own_form hown4; have hK2 := keepT_grown hrow2 hg4; have hbl4 := hK2.blk hbl2 rfl; have e4 := blk4_2 hbl4; have f4 := hbl4.frozen 2)))
    all_goals
      have hb12 : Below w1.heap.size w1 w2 := (Below.refl _ _).drew.trans hb2
      have hbA := (Below.refl w2.heap.size w2).alloc (Nat.le_refl _) (.cells #[.slice A2 m c2] 23)
      have hK3 := keepT_set hbl4 2 (.slice A4 (k + 1) c4)
      have hBB4 : OwnBB w4 w.heap.size (.slice A4 (k + 1) c4) (bs ++ [⟨tabB l, A2, c2⟩]) := (hBB.up hb12).push (x := ⟨tabB l, A2, c2⟩) (by
        have := own_base own2 hs1d
        rw [HM.out] at this
        exact this) (by
        have := hown4
        rw [HM.out] at this
        rw [← HKB.out]
        exact this) hg4
      have hBB5 := hBB4.keep hK3 (fun _ => rfl) (fun _ => rfl)
      have hEE5 := ((hEE.up hb12).keep hK2 (fun _ => rfl) (fun _ => rfl)).keep hK3 (fun _ => rfl) (fun _ => rfl)
      have hM5 := hK3.map_ (hK2.map_ (own_up_map hO1.map_ hb12) (fun _ _ => rfl)) (fun _ _ => rfl)
      have hL5 := hK3.own (hK2.own (own_up hL1 hb12) (fun _ => rfl)) (fun _ => rfl)
      have hbl5 : Blk (w4.setCell ⟨g, 2, none⟩ (.slice A4 (k + 1) c4)) g 117 #[.int .i64 lim, .map (some M), .slice A4 (k + 1) c4, vl] := by
        have := hbl4.set_ 2 (.slice A4 (k + 1) c4)
        simpa using this
      have hbel5 : Below w.heap.size w (w4.setCell ⟨g, 2, none⟩ (.slice A4 (k + 1) c4)) := ((hbel1.trans (hb12.mono hs1)).grown hg4 hs2 (fun j hj => (hrow2.lt j hj).1)).setCell hgw _
      clear hK2 hK3 hBB4 hbl4 e4 f4 hown4 hg4 ha4 own2 hb2 hbA hb12 hrow2 d22 d2a hs2 hbl2 hcl hBB hEE hblk d2 d2d hgl hs1d hO1 hL1 hrow hbel1 hs1
      generalize (w4.setCell ⟨g, 2, none⟩ (.slice A4 (k + 1) c4)) = w5 at *
      generalize (Value.slice A4 (k + 1) c4) = vt5 at *
      have hs5 := hbel5.size
      have hrowE := hEE5.row
      rw [← HKE.out] at hrowE
      have d3 := hbl5.cell 3
      simp at d3
      have HFE := Lib.hid (fun W (h : Blk W g 117 #[.int .i64 lim, .map (some M), vt5, vl]) => (show W.cell? ⟨g, 3, none⟩ = some vl ∧ W.frozen? ⟨g, 3, none⟩ = false from ⟨by have := h.cell 3; simpa using this, h.frozen 3⟩))
      have hbAE := (Below.refl w5.heap.size w5).alloc (Nat.le_refl _) (.cells #[.slice A9 l.length c9] 57)
      have d3a : (w5.alloc (.cells #[.slice A9 l.length c9] 57)).cell? ⟨g, 3, none⟩ = some vl := (World.cell?_alloc_lt w5 _ ⟨g, 3, none⟩ hbl5.lt).trans d3
      go_wp2_with (first
        | (with_reducible show wpList _ _ _ (⟨some 54, _, _, _, _, _⟩ :: _) _ _; go_must (refine wpList_newg (.tmp 51) (.tmp 53) el_slE rfl rfl hrowE rfl rfl rfl rfl rfl hby hs5 ?_; intro v6 w6 hown6 hb6 hg6 ha6; obtain ⟨A6, c6, rfl, _, _, _, _⟩ := own_form hown6; have hK2 := keepT_grown hrowE hg6; have hbl6 := hK2.blk hbl5 rfl; obtain ⟨e4, f4⟩ := HFE.out w6 hbl6)))
      have hK3 := keepT_set hbl6 3 (.slice A6 (k + 1) c6)
      have hEE6 : OwnEE w6 w.heap.size (.slice A6 (k + 1) c6) (es ++ [⟨l, A9, c9⟩]) := hEE5.push (x := ⟨l, A9, c9⟩) hL5 (by rw [← HKE.out]; exact hown6) hg6
      have hbl7 : Blk (w6.setCell ⟨g, 3, none⟩ (.slice A6 (k + 1) c6)) g 117 #[.int .i64 lim, .map (some M), vt5, .slice A6 (k + 1) c6] := by
        have := hbl6.set_ 3 (.slice A6 (k + 1) c6)
        simpa using this
      go_roundw
      case rel => exact ⟨i + 1, hlt, by go_num, ⟨hK3.map_ (hK2.map_ hM5 (fun _ _ => rfl)) (fun _ _ => rfl), vt5, _, _, _, hbl7, (hBB5.keep hK2 (fun _ => rfl) (fun _ => rfl)).keep hK3 (fun _ => rfl) (fun _ => rfl), hEE6.keep hK3 (fun _ => rfl) (fun _ => rfl), by rw [HTK.out, List.map_append, List.map_append, HBS.out]; rfl, by rw [HTK.out, List.map_append, HES.out]; rfl⟩, (hbel5.grown hg6 hs5 (fun j hj => (hrowE.lt j hj).1)).setCell hgw _⟩
      case measure => simp [intOf]; omega
  · obtain rfl : i = n := by omega
    rw [show LS.take i = LS from by rw [← HN.out]; exact List.take_length] at hO
    obtain ⟨vt, vl, bs, es, hblk, hBB, hEE, hbs, hes⟩ := hO.rows
    have hin : LsmIn wr w.heap.size g M lim ⟨[], LS⟩ := ⟨HLSO.out, hgw, hMw, ⟨_, hO.map_, MapL.start⟩, ⟨vt, vl, bs, es, hblk, hBB, hEE, hbs, hes⟩⟩
    have hal := all_any w.heap.size g M lim ⟨[], LS⟩ wr hin (by show LS.length ≤ 200000; rw [HN.out]; exact hn2)
    have h4f : (Lsm.all ⟨[], LS⟩).length ≤ 400 := HLSO.out.few
    have HIN := Lib.hid hin
    generalize Lsm.all ⟨[], LS⟩ = SA at *
    obtain ⟨na, hna⟩ : ∃ na, na = SA.length := ⟨_, rfl⟩
    rw [← hna] at hal h4f
    clear hin hO hblk hBB hEE hbs hes hna
    have h4i : ¬ (400 : Int) < (na : Int) := by omega
    go_wp2_with (go_at_call 68; go_must (refine hal.mono ?_); rintro e w1 ⟨A1, c1, rfl, q1, q2, own1, hb1⟩)
    go_ret2
    exact ⟨g, M, rfl, HIN.out.up hb1, hbel.trans (hb1.mono hws)⟩
set_option maxRecDepth 100000 in
set_option maxHeartbeats 1000000 in
theorem lopen_bad (A : Option Addr) (c n : Nat) (lim : Int) (w : World) (h : lim < 1 ∨ 400 < lim) :
    Calls Tryz.prog 58 #[.slice A n c, .int .i64 lim] w fun e w' => e = .returned (.tuple #[.pointer none, errV 1]) ∧ Below w.heap.size w w' := by
  by_cases h1 : lim < 1
  · clear h
    go_enter Tryz.func58, Tryz.ntmps58
    go_wp2_with fail
    go_ret2
    exact ⟨rfl, Below.refl _ _⟩
  · have h4 : 400 < lim := by omega
    clear h
    go_enter Tryz.func58, Tryz.ntmps58
    go_wp2_with fail
    go_ret2
    exact ⟨rfl, Below.refl _ _⟩
set_option maxRecDepth 100000 in
set_option maxHeartbeats 1000000 in
theorem lnew_any (lim : Int) (w : World) (h1 : 1 ≤ lim) (h4 : lim ≤ 400) :
    Calls Tryz.prog 21 #[.int .i64 lim] w fun e w' => ∃ g M, e = .returned (.tuple #[.pointer (some ⟨g, 0, none⟩), .nilIface]) ∧ LsmIn w' w.heap.size g M lim lsmNone ∧ Below w.heap.size w w' := by
  have h := lopen_any none 0 0 w.heap.size [] lim w (fun h => absurd h (by simp)) rfl (Nat.le_refl _) (by omega) (fun _ h => (List.not_mem_nil h).elim) (by simp [mixL]) h1 h4
  go_enter Tryz.func21, Tryz.ntmps21
  go_wp2_with (go_at_call 58; go_must (refine h.mono ?_); rintro e w1 ⟨g, M, rfl, hin, hb1⟩)
  go_ret2
  exact ⟨g, M, rfl, hin, hb1⟩
set_option maxRecDepth 100000 in
set_option maxHeartbeats 1000000 in
theorem lnew_bad (lim : Int) (w : World) (h : lim < 1 ∨ 400 < lim) :
    Calls Tryz.prog 21 #[.int .i64 lim] w fun e w' => e = .returned (.tuple #[.pointer none, errV 1]) ∧ Below w.heap.size w w' := by
  have h := lopen_bad none 0 0 lim w h
  go_enter Tryz.func21, Tryz.ntmps21
  go_wp2_with (go_at_call 58; go_must (refine h.mono ?_); rintro e w1 ⟨rfl, hb1⟩)
  go_ret2
  exact ⟨rfl, hb1⟩
end Go.Proofs.YtcfijljagohmlaaGreatDoor
