/- WalkLsm1 WalkLsm2 in one text. -/
import Derived.Test.YtcfijljagohmlaaMemLsm
import Derived.Test.YtcfijljagohmlaaWalkDelE
import Derived.Deep.RegionHeld3
import Derived.Test.YtcfijljagohmlaaWalkPart
/- The walks of lsm.news and lsm.all. -/
namespace Go.Proofs.Ytcfijljagohmlaa
open Go.RowKit Go.Maps Go.WideMaps

theorem entOf_perm {O F : List Ent} (hp : O.Perm F) (hF : riseE F) (k : ByteArray) : entOf O k = entOf F k := by
  rcases hf : entOf F k with _ | x
  · exact entOf_none.2 fun y hy => entOf_none.1 hf y (hp.mem_iff.1 hy)
  · obtain ⟨h1, h2⟩ := entOf_some hf
    rcases ho : entOf O k with _ | y
    · exact absurd h2 (entOf_none.1 ho x (hp.mem_iff.2 h1))
    · obtain ⟨h3, h4⟩ := entOf_some ho
      have h5 := entOf_mem hF (hp.mem_iff.1 h3)
      rw [h4, hf] at h5
      exact h5.symm
theorem mix_perm {O F : List Ent} (hp : O.Perm F) (hF : riseE F) : mixL O = F :=
  rise_ext (mix_rise _) hF fun k => by rw [mix_of, entOf_perm hp hF]
theorem mixO_true (ls : List (List Ent)) : mixO true ls = mixL ls.flatten := List.filter_eq_self.2 fun _ _ => rfl
theorem rdee_one {W : World} {B : Nat} {A : Option Addr} {c : Nat} {b : List Ent} (hr : Rd W B 3 A b.length (entCells b)) (hB : B ≤ W.heap.size) (hlc : b.length ≤ c) (hcm : c ≤ maxLen) :
    RdEE (W.alloc (.cells #[.slice A b.length c] 72)) (W.heap.size + 1) (some ⟨W.heap.size, 0, none⟩) [b] := by
  intro _
  refine ⟨_, rfl, by simp, fun i l hl => ?_⟩
  rcases i with _ | i
  · obtain rfl : b = l := by simpa using hl
    exact ⟨A, c, (Blk.new W 72 #[.slice A b.length c]).cell 0, hlc, hcm, (hr.alloc hB _).more (by omega)⟩
  · simp at hl
theorem LsmOk.few_fresh {s : Lsm} (h : LsmOk s) : s.F.length ≤ 400 := Nat.le_trans h.fresh_le h.few
theorem LsmOk.keyF {s : Lsm} (h : LsmOk s) : ∀ e ∈ s.F, e.key.size ≤ 120 := fun e he => (entE_good (h.fine e he)).1
set_option maxRecDepth 100000 in
set_option maxHeartbeats 4000000 in
theorem news_any (base g M : Nat) (lim : Int) (s : Lsm) (w : World) (h : LsmIn w base g M lim s) :
    Calls Try.prog 65 #[.pointer (some ⟨g, 0, none⟩)] w fun e w' => ∃ A c, e = .returned (.slice A s.F.length c) ∧ s.F.length ≤ c ∧ c ≤ maxLen ∧ w'.ownsRow w.heap.size 107 3 (.slice A s.F.length c) s.F.length (entCells s.F) ∧ Below w.heap.size w w' := by
  have hF4 := h.ok.few_fresh
  have HF := Lib.hid h.ok.rise
  have HKF := Lib.hid h.ok.keyF
  obtain ⟨D, hown, hmap⟩ := h.map_
  obtain ⟨vt, vl, bs, es, hblk, _⟩ := h.rows
  have c1 := hblk.cell 1
  simp at c1
  obtain ⟨F, hFF⟩ : ∃ F, F = s.F := ⟨_, rfl⟩
  obtain ⟨fn, hfn⟩ : ∃ fn, fn = F.length := ⟨_, rfl⟩
  rw [← hFF] at hF4 HF HKF hown hmap ⊢
  rw [← hfn] at hF4 hown ⊢
  have hMl := hown.lt
  have HFN := Lib.hid hfn
  have HM := Lib.hid hmap
  clear hFF hfn hblk h hmap
  go_enter Try.func65, Try.ntmps65
  go_wp2_with (first
    | (at_range; go_must (refine wpList_range_own _ rfl _ 117 rfl 9 107 kstr Try.underlying117 entR M fn D rfl hown ?_); intro w0 hrg0 hg0 hs0))
  go_frame
  go_loopw [3] (fun o wr => ∃ (left : Lit → Bool) (cnt : Nat) (O : List Ent), wr.ranges Try.prog 9 entR M w.heap.size fn D left cnt ∧ Hid (CollL kfE F (fun _ => true) D left O) ∧ wr.ownsRow (w.heap.size + 1) 107 3 o O.length (entCells O) ∧ w.heap.size + 1 ≤ wr.heap.size ∧ Below w.heap.size w wr) (fun _ wr => wr.rangeLeft M w.heap.size)
  case atStart => exact ⟨_, _, [], hrg0, Lib.hid (CollL.start HM.out), World.ownsRow_nil _ _ _ _, by omega, (Below.refl _ _).grown hg0 (Nat.le_refl _) (fun j hj => by cases hj)⟩
  clear hrg0 hg0 hs0 hown
  obtain ⟨left, cnt, O, hrg, HC, hro, hsz, hbel⟩ := hrel
  have hfew : O.length ≤ fn := by rw [HFN.out]; exact HC.out.few
  go_wp2_with (first
    | (at_next; go_must (refine wpList_next_ranges _ rfl _ rfl 9 kstr entR Value.string (fun e : Ent => .agg #[.string e.key, .string e.value, .bool e.dead]) (fun key kl h => keyOf_str_inv h) (fun v y hv => by obtain ⟨e, rfl, _⟩ := entR_inv hv; exact ⟨e, rfl⟩) M w.heap.size fn D left cnt rfl hrg ?_ ?_)))
  · intro hc0 hl0
    have hp := HC.out.done HM.out hl0
    rw [List.filter_eq_self.2 fun _ _ => rfl] at hp
    have HMX : Hid (mixO true [O] = F) := Lib.hid (by rw [mixO_true]; simpa using mix_perm hp HF.out)
    obtain ⟨A5, c5, rfl, hnc, hcm, _, r5⟩ := own_form hro
    have hmx := mix_any (some ⟨wr.heap.size, 0, none⟩) 1 (wr.heap.size + 1) 1 [O] true (wr.alloc (.cells #[.slice A5 O.length c5] 72)) (rdee_one r5 (Nat.le_refl _) hnc hcm) rfl (by simp) (by omega) (by simp; omega) (fun l hl e he => by
      rw [List.mem_singleton.1 hl] at he
      have := HKF.out e (hp.mem_iff.1 he)
      unfold maxLen; omega)
    rw [HMX.out, ← HFN.out] at hmx
    clear hro r5 hp hrg
    go_wp2_with (go_at_call 79; go_must (refine hmx.mono ?_); rintro e w5 ⟨A6, c6, rfl, q1, q2, _, hown6, hb6⟩)
    go_ret
    have hb7 := hbel.alloc hbel.size (.cells #[.slice A5 O.length c5] 72)
    exact ⟨A6, c6, rfl, q1, q2, own_base hown6 hb7.size, hb7.trans (hb6.mono hb7.size)⟩
  · intro x e kl y1 y2 w1 cnt1 hkx hlk hRc hat hrg1 hlt1 hg1 hs1 hen
    obtain ⟨p, hp, rfl⟩ := HM.out.dom kl (HC.out.has kl hlk)
    obtain rfl : p.key = x := klS_inj (keyOf_str_kl hkx)
    have hpe : p = e := by
      rw [entR_mk] at hRc
      injection hRc with hRc
      injection hRc with hRc _
      have h1 := hat .nil
      rw [HM.out.at_ p hp] at h1
      exact entD_inj (h1.trans hRc.symm)
    subst hpe
    have hb1 : Below w.heap.size w w1 := hbel.grown hg1 hbel.size (fun j hj => by cases hj; exact Nat.le_refl _)
    have hro1 := own_far hro hg1 (fun k hk e => by injection e with e; have := (hro.lt k hk).1; omega)
    have hsz1 : w.heap.size + 1 ≤ w1.heap.size := by omega
    clear hat hRc hkx hro hbel
    have hrg2 := hrg1.kept (World.grownBy_alloc w1 (.cells #[.string p.key, .string p.value, .bool p.dead] 107) none) (by simp) (by simp)
    have hb2 := hb1.alloc hb1.size (.cells #[.string p.key, .string p.value, .bool p.dead] 107)
    have hro2 := hro1.alloc (.cells #[.string p.key, .string p.value, .bool p.dead] 107)
    have hszx : w.heap.size + 1 ≤ (w1.alloc (.cells #[.string p.key, .string p.value, .bool p.dead] 107)).heap.size := by simp; omega
    have hgx : (w1.alloc (.cells #[.string p.key, .string p.value, .bool p.dead] 107)).heap.size = wr.heap.size + 1 := by simp [hs1]
    have hbyx : (O.length + 1) * 40 ≤ 140737488355328 := by omega
    have HST := Lib.hid (HC.out.step HM.out hp rfl hlk (kfE_lit p))
    go_wp2_with (first
      | (with_reducible show wpList _ _ _ (⟨some 18, _, _, _, _, _⟩ :: _) _ _; go_must (refine wpList_newg (.tmp 15) (.tmp 17) el_ent rfl rfl hro2 rfl rfl hgx rfl rfl hbyx hszx ?_); intro v4 w4 hown4 hb4 hg4 ha4))
    have hrg3 := hrg2.kept hg4 (fun e => by have := (hro2.lt M e.symm).1; omega) (fun e => by have := (hro2.lt w.heap.size e.symm).1; omega)
    go_roundw
    case rel =>
      refine ⟨_, cnt1, O ++ [p], hrg3, HST, ?_, Nat.le_trans hszx hb4.size, hb2.trans (hb4.mono (by omega))⟩
      rw [List.length_append, entCells_app]
      exact hown4
    case measure => rw [hrg3.left_eq, hrg.left_eq]; exact hlt1
theorem rdee_of {w : World} {base k : Nat} {v : Value} {es : List El} (hk : es.length = k) (hrow : w.ownsRow base 72 1 v es.length (es.map El.val)) (hok : ∀ e ∈ es, e.l.length ≤ e.c ∧ e.c ≤ maxLen ∧ Rd w w.heap.size 3 e.A e.l.length (entCells e.l)) :
    ∃ A c, v = .slice A k c ∧ k ≤ c ∧ c ≤ maxLen ∧ RdEE w w.heap.size A (es.map El.l) := by
  subst hk
  obtain ⟨A, c, e, h1, h2, _, h3⟩ := own_form hrow
  refine ⟨A, c, e, h1, h2, fun hn => ?_⟩
  obtain ⟨ad, e2, hb, hc⟩ := h3.2 (by simpa using hn)
  refine ⟨ad, e2, hb, fun i l hl => ?_⟩
  rw [List.getElem?_map, Option.map_eq_some_iff] at hl
  obtain ⟨x, hx, rfl⟩ := hl
  obtain ⟨k1, k2, k3⟩ := hok x (List.mem_of_getElem? hx)
  exact ⟨x.A, x.c, hc i x.val (by rw [List.getElem?_map, hx]; rfl), k1, k2, k3⟩
theorem el_vals_one (es : List El) : ∀ u ∈ es.map El.val, u.oneCell' = true := fun u hu => by
  obtain ⟨e, _, rfl⟩ := List.mem_map.1 hu
  rfl
theorem flatten_le {k : Nat} : ∀ {ls : List (List Ent)}, (∀ l ∈ ls, l.length ≤ k) → ls.flatten.length ≤ ls.length * k := by
  intro ls
  induction ls with
  | nil => intro _; simp
  | cons x xs ih =>
    intro h
    have h1 := h x List.mem_cons_self
    have h2 := ih fun l hl => h l (List.mem_cons_of_mem _ hl)
    rw [List.flatten_cons, List.length_append, List.length_cons, Nat.succ_mul]
    omega
theorem ents_few {l : List Ent} (h : entsE l = 0) : l.length ≤ 400 := (entsE_all h).1
theorem all_mix {s : Lsm} (hok : LsmOk s) (hLS : s.LS.length ≤ 200000) {es : List El} (hLs : es.map El.l = s.LS) {k fn : Nat} (hk : k = es.length) (hfn : fn = s.F.length) {A2 : Option Addr} {c2 b : Nat} {W : World} {v : Value} (n1 : fn ≤ c2) (n2 : c2 ≤ maxLen)
    (hr2 : Rd W W.heap.size 3 A2 fn (entCells s.F)) (hEE : ∀ e ∈ es, e.l.length ≤ e.c ∧ e.c ≤ maxLen ∧ Rd W W.heap.size 3 e.A e.l.length (entCells e.l)) (ho : W.ownsRow b 72 1 v (1 + k) (#[Value.slice A2 fn c2].toList ++ es.map El.val)) :
    ∃ A c, v = .slice A (1 + k) c ∧ Calls Try.prog 79 #[.slice A (1 + k) c, .bool true] W fun e w' => ∃ A c, e = .returned (.slice A s.all.length c) ∧ s.all.length ≤ c ∧ c ≤ maxLen ∧ w'.ownsRow W.heap.size 107 3 (.slice A s.all.length c) s.all.length (entCells s.all) ∧ Below W.heap.size W w' := by
  subst hk hfn
  have hlen : ((⟨s.F, A2, c2⟩ : El) :: es).length = 1 + es.length := by rw [List.length_cons]; omega
  obtain ⟨A, c, e1, _, _, hre⟩ := rdee_of (es := (⟨s.F, A2, c2⟩ : El) :: es) hlen (by rw [hlen]; exact ho) (fun e he => by
    rcases List.mem_cons.1 he with rfl | he
    · exact ⟨n1, n2, hr2⟩
    · exact hEE e he)
  rw [List.map_cons, hLs] at hre
  have hen : es.length = s.LS.length := by rw [← hLs, List.length_map]
  have hfl := flatten_le (k := 400) fun l hl => ents_few (hok.lists l hl)
  have hff := hok.few_fresh
  have hmx := mix_any A c W.heap.size (1 + es.length) (s.F :: s.LS) true W hre (by rw [List.length_cons]; omega) (Nat.le_refl _) (by omega) (by rw [List.flatten_cons, List.length_append]; omega) (fun l hl e he => by
    have : e.key.size ≤ 120 := by
      rcases List.mem_cons.1 hl with rfl | hl
      · exact hok.keyF e he
      · exact (entE_good ((entsE_all (hok.lists l hl)).2 e he)).1
    unfold maxLen; omega)
  rw [show mixO true (s.F :: s.LS) = s.all from by rw [mixO_true]; rfl] at hmx
  refine ⟨A, c, e1, hmx.mono ?_⟩
  rintro e w' ⟨A', c', rfl, q1, q2, _, q3, q4⟩
  exact ⟨A', c', rfl, q1, q2, q3, q4⟩
set_option maxRecDepth 100000 in
set_option maxHeartbeats 4000000 in
theorem all_any (base g M : Nat) (lim : Int) (s : Lsm) (w : World) (h : LsmIn w base g M lim s) (hLS : s.LS.length ≤ 200000) :
    Calls Try.prog 59 #[.pointer (some ⟨g, 0, none⟩)] w fun e w' => ∃ A c, e = .returned (.slice A s.all.length c) ∧ s.all.length ≤ c ∧ c ≤ maxLen ∧ w'.ownsRow w.heap.size 107 3 (.slice A s.all.length c) s.all.length (entCells s.all) ∧ Below w.heap.size w w' := by
  have HOK := Lib.hid h.ok
  have hd : LsmIn w.drew base g M lim s := h.up (Below.refl _ _).drew
  have hnews := news_any base g M lim s w.drew hd
  obtain ⟨vt, vl, bs, es, hblk, _, hEE, _, hLs⟩ := h.rows
  have HLs := Lib.hid hLs
  have hen : es.length = s.LS.length := by rw [← hLs, List.length_map]
  have c3 := hblk.cell 3
  simp at c3
  have HEE := Lib.hid hEE
  have hgl := hblk.lt
  obtain ⟨k, hk⟩ : ∃ k, k = es.length := ⟨_, rfl⟩
  have hk2 : k ≤ 200000 := by omega
  have HK := Lib.hid hk
  obtain ⟨Av, cv, hv, _, _, _, hrv⟩ := own_form hEE.row
  have HRV := Lib.hid hrv
  rw [← hk] at hv
  subst hv
  obtain ⟨fn, hfn⟩ : ∃ fn, fn = s.F.length := ⟨_, rfl⟩
  have hf4 : fn ≤ 400 := by rw [hfn]; exact h.ok.few_fresh
  have HFN := Lib.hid hfn
  rw [← hfn] at hnews
  have HHLS := Lib.hid hLS
  have HEN := Lib.hid hen
  clear hfn hk hrv hLs hEE hblk hd h hLS hen
  have hS : ∀ W, Below w.heap.size w W → W.cell? ⟨g, 3, none⟩ = some (.slice Av k cv) := fun W hb => (hb.cell (p := ⟨g, 3, none⟩) hgl).trans c3
  have hbd : Below w.heap.size w w.drew := (Below.refl _ _).drew
  have hone := el_vals_one es
  have hrd : ∀ W, Below w.heap.size w W → Rd W w.heap.size 1 Av k (es.map El.val) := fun W hb => by
    have := HRV.out.below hb (Nat.le_refl _)
    rwa [← HK.out] at this
  have hEl : ∀ W, Below w.heap.size w W → ∀ e ∈ es, e.l.length ≤ e.c ∧ e.c ≤ maxLen ∧ Rd W W.heap.size 3 e.A e.l.length (entCells e.l) := fun W hb e he => by
    obtain ⟨A', c', e', k1, k2, _, k3⟩ := own_form (own_up (HEE.out.ok e he) hb)
    unfold El.val at e'
    injection e' with e3 _ e5
    rw [← e3] at k3
    rw [← e5] at k1 k2
    exact ⟨k1, k2, k3⟩
  have hMX := fun (A2 : Option Addr) (c2 b : Nat) (W : World) (v : Value) (n1 : fn ≤ c2) (n2 : c2 ≤ maxLen) (hr2 : Rd W W.heap.size 3 A2 fn (entCells s.F)) (hb : Below w.heap.size w W) (ho : W.ownsRow b 72 1 v (1 + k) (#[Value.slice A2 fn c2].toList ++ es.map El.val)) => all_mix HOK.out HHLS.out HLs.out HK.out HFN.out n1 n2 hr2 (hEl W hb) ho
  have hlit := fun (A2 : Option Addr) (c2 : Nat) (W : World) => World.ownsRow_lit (base := W.heap.size) (e := 72) (size := 1) W #[.slice A2 fn c2] 1 (Nat.le_refl _) (by unfold maxLen; omega) rfl
  have hby : (1 + k) * 24 ≤ 140737488355328 := by omega
  have hale := fun (W : World) (o : Obj) => (show W.heap.size ≤ (W.alloc o).heap.size from by simp)
  have rd2 := fun (A2 : Option Addr) (c2 B : Nat) (W W' : World) (ho : W.ownsRow B 107 3 (.slice A2 fn c2) fn (entCells s.F)) (hb : Below W.heap.size W W') => (show Rd W' W'.heap.size 3 A2 fn (entCells s.F) from by
    obtain ⟨A', c', e', _, _, _, k3⟩ := own_form (own_up ho hb)
    injection e' with e3 _ _
    rw [e3]; exact k3)
  go_enter Try.func59, Try.ntmps59
  go_wp2_with fail
  go_region_held3 (fun w' => w'.cell? ⟨g, 3, none⟩ = some (.slice Av k cv)) (first | exact hS _ hbd | exact hS _ hbw2 | exact hS _ (hbw2.alloc hbw2.size _) | exact hS _ hbw3 | exact hS _ hbw4)
    ((first
      | (go_at_call 65; go_must (refine hnews.mono ?_); rintro e w2 ⟨A2, c2, rfl, n1, n2, own2, hb2⟩; have hbw2 : Below w.heap.size w w2 := hbd.trans hb2)
      | (with_reducible show (if Region.wanted (⟨some 10, _, _, _, _, _⟩ : Oper) _ = true then _ else _); go_must (refine step_rd (.tmp 5) (.tmp 9) el_slE rfl rfl (hlit A2 c2 w2) rfl (hrd _ (hbw2.alloc hbw2.size _)) rfl hone hby (hale _ _) ?_); intro v3 w3 own3 hb3 hg3 ha3; have hbw3 := (hbw2.alloc hbw2.size (.cells #[.slice A2 fn c2] 72)).trans (hb3.mono hbw2.size); have hb23 := ((Below.refl w2.heap.size w2).alloc (Nat.le_refl _) (.cells #[.slice A2 fn c2] 72)).trans hb3; obtain ⟨A3, c3', rfl, hmx⟩ := hMX A2 c2 _ w3 v3 n1 n2 (rd2 A2 c2 _ w2 w3 own2 hb23) hbw3 own3)
      | (go_at_call 79; go_must (refine hmx.mono ?_); rintro e w4 ⟨A4, c4, rfl, m1, m2, own4, hb4⟩; have hbw4 := hbw3.trans (hb4.mono hbw3.size))))
  all_goals go_wp2_with fail
  all_goals go_ret
  all_goals exact ⟨A4, c4, rfl, m1, m2, own_base own4 hbw3.size, hbw4⟩
end Go.Proofs.Ytcfijljagohmlaa

/- The walks of lsm.Get, Scan, Fresh, Tables. -/
namespace Go.Proofs.Ytcfijljagohmlaa
open Go.RowKit Go.Maps Go.WideMaps

theorem riseE_K {l : List Ent} (h : riseE l) : riseK (keysE l) := by
  unfold riseK keysE
  rw [List.pairwise_map]
  exact h
set_option maxRecDepth 100000 in
set_option maxHeartbeats 1000000 in
theorem scandead_any : PredE 64 #[] Ent.dead fun _ => True := fun W x _ => by
  unfold Ent.val
  go_enter Try.func64, Try.ntmps64
  go_wp2_with fail
  go_ret
  exact ⟨rfl, (Below.refl _ _).alloc (Nat.le_refl _) _⟩
set_option maxRecDepth 100000 in
set_option maxHeartbeats 1000000 in
theorem compdead_any : PredE 71 #[] Ent.dead fun _ => True := fun W x _ => by
  unfold Ent.val
  go_enter Try.func71, Try.ntmps71
  go_wp2_with fail
  go_ret
  exact ⟨rfl, (Below.refl _ _).alloc (Nat.le_refl _) _⟩
/-- What is there, and not gone. -/
def Lsm.live (s : Lsm) : List Ent := s.all.filter fun e => !e.dead
set_option maxRecDepth 100000 in
set_option maxHeartbeats 1000000 in
theorem lscan_any (base g M : Nat) (lim : Int) (s : Lsm) (lo hi : ByteArray) (w : World) (h : LsmIn w base g M lim s) (hLS : s.LS.length ≤ 200000) :
    Calls Try.prog 36 #[.pointer (some ⟨g, 0, none⟩), .string lo, .string hi] w fun e w' => ∃ v, e = .returned v ∧ w'.ownsRow w.heap.size 107 3 v (partE lo hi s.live).length (entCells (partE lo hi s.live)) ∧ Below w.heap.size w w' := by
  have hal := all_any base g M lim s w h hLS
  have hfew := h.ok.few
  have hk := riseE_K s.all_rise
  have hPL : Hid ((partE lo hi s.all).filter (fun e => !e.dead) = partE lo hi s.live) := Lib.hid (by
    unfold partE Lsm.live
    rw [List.filter_filter, List.filter_filter]
    exact List.filter_congr fun x _ => Bool.and_comm _ _)
  have hP4 : (partE lo hi s.all).length ≤ 400 := Nat.le_trans (List.length_filter_le _ _) hfew
  have HPT := Lib.hid (fun (A : Option Addr) (c : Nat) (W : World) (hr : Rd W W.heap.size 3 A s.all.length (entCells s.all)) (hc : s.all.length ≤ c) (hcm : c ≤ maxLen) => part_any A c W.heap.size s.all lo hi W hr (Nat.le_refl _) hfew hk hc hcm)
  have HDE := Lib.hid (fun (v : Value) (b : Nat) (W : World) (ho : W.ownsRow b 107 3 v (partE lo hi s.all).length (entCells (partE lo hi s.all))) => dele_any 64 Ent.dead (fun _ _ => by kernel_rfl) scandead_any v _ b (partE lo hi s.all) W ho rfl (by omega))
  rw [hPL.out] at HDE
  generalize partE lo hi s.live = PL at *
  generalize partE lo hi s.all = PA at *
  generalize s.all = SA at *
  clear hk h
  go_enter Try.func36, Try.ntmps36
  go_wp2_with (first
    | (go_at_call 59; go_must (refine hal.mono ?_); rintro e w1 ⟨A1, c1, rfl, q1, q2, own1, hb1⟩; obtain ⟨_, _, e1, _, _, _, r1⟩ := own_form own1; injection e1 with e11 _ e12; subst e11 e12)
    | (go_at_call 63; go_must (refine (HPT.out A1 c1 w1 r1 q1 q2).mono ?_); rintro e w2 ⟨v2, rfl, own2, hb2⟩)
    | (go_at_call 62; go_must (refine (HDE.out v2 _ w2 own2).mono ?_); rintro e w3 ⟨v3, rfl, own3, hg3⟩))
  go_ret
  have hb12 := below_up hb1 hb2
  exact ⟨v3, rfl, own_base own3 hb1.size, hb12.grown hg3 hb12.size (fun j hj => Nat.le_trans hb1.size (own2.lt j hj).1)⟩
set_option maxRecDepth 100000 in
set_option maxHeartbeats 1000000 in
theorem lfresh_any (base g M : Nat) (lim : Int) (s : Lsm) (w : World) (h : LsmIn w base g M lim s) :
    Calls Try.prog 40 #[.pointer (some ⟨g, 0, none⟩)] w fun e w' => e = .returned (.int .i64 s.F.length) ∧ ∃ q, w' = w.drewN q := by
  obtain ⟨D, hown, hmap⟩ := h.map_
  obtain ⟨vt, vl, bs, es, hblk, _⟩ := h.rows
  have c1 := hblk.cell 1
  simp at c1
  have HSZ := Lib.hid hmap.size
  go_enter Try.func40, Try.ntmps40
  go_wp2_with (first
    | (with_reducible show wpList _ _ _ (⟨some 7, _, _, _, _, _⟩ :: _) _ _; go_must (refine wpList_len_own _ rfl _ _ rfl 9 107 Try.underlying117 entR M s.F.length D rfl hown ?_)))
  go_ret
  exact ⟨by rw [HSZ.out]; rfl, 0, rfl⟩
set_option maxRecDepth 100000 in
set_option maxHeartbeats 4000000 in
theorem lget_any (base g M : Nat) (lim : Int) (s : Lsm) (key : ByteArray) (w : World) (h : LsmIn w base g M lim s) (hLS : s.LS.length ≤ 200000) :
    Calls Try.prog 32 #[.pointer (some ⟨g, 0, none⟩), .string key] w fun e w' => e = .returned (.tuple #[.string (lsmGetV s key), errV (lsmGetE s key)]) ∧ Below w.heap.size w w' := by
  have hal := all_any base g M lim s w h hLS
  have hfew := h.ok.few
  have hrise : riseE (s.all.filter fun e => !e.dead) := s.all_rise.filter _
  have HHIT : Hid (∀ x ∈ s.all, x.key = key → x.dead = false → lsmGetV s key = x.value ∧ lsmGetE s key = 0) := Lib.hid (fun x hx hk hd => by
    have h1 := entOf_mem hrise (List.mem_filter.2 ⟨hx, by rw [hd]; rfl⟩)
    rw [hk] at h1
    have h2 : lsmGet s key = some x.value := by rw [lsmGet, h1]; rfl
    rw [lsmGetV, lsmGetE, h2]
    exact ⟨rfl, rfl⟩)
  have HMISS : Hid ((∀ x ∈ s.all, x.key = key → x.dead = true) → lsmGetV s key = ⟨#[]⟩ ∧ lsmGetE s key = 6) := Lib.hid (fun hm => by
    have h1 : entOf (s.all.filter fun e => !e.dead) key = none := entOf_none.2 fun x hx hk => by
      obtain ⟨h1, h2⟩ := List.mem_filter.1 hx
      rw [hm x h1 hk] at h2; cases h2
    have h2 : lsmGet s key = none := by rw [lsmGet, h1]; rfl
    rw [lsmGetV, lsmGetE, h2]
    exact ⟨rfl, rfl⟩)
  clear hrise h
  generalize s.all = SA at *
  generalize lsmGetV s key = GV at *
  generalize lsmGetE s key = GE at *
  obtain ⟨n, hn⟩ : ∃ n, n = SA.length := ⟨_, rfl⟩
  have HN := Lib.hid hn
  rw [← hn] at hal hfew
  clear hn
  go_enter Try.func32, Try.ntmps32
  go_wp2_with (go_at_call 59; go_must (refine hal.mono ?_); rintro e w1 ⟨A1, c1, rfl, q1, q2, own1, hb1⟩; obtain ⟨_, _, e1, _, _, _, r1⟩ := own_form own1; injection e1 with e11 _ e12; subst e11 e12)
  go_loopw [11] (fun x wr => ∃ i : Nat, i ≤ n ∧ x = .int .i64 i ∧ Hid (∀ j x, j < i → SA[j]? = some x → x.key = key → x.dead = true) ∧ Below w1.heap.size w1 wr) (fun x _ => n - (intOf x).toNat)
  case atStart => exact ⟨0, Nat.zero_le _, rfl, Lib.hid (fun j x hj => by omega), Below.refl _ _⟩
  obtain ⟨i, hi, rfl, HJ, hbel⟩ := hrel
  have hws := hbel.size
  by_cases hlt : i < n
  · obtain ⟨ad, x, rfl, hbk, hx, g0, g1, g2⟩ := r1.ent_ hlt HN.out.symm hbel (Nat.le_refl _)
    have hi0 : (0 : Int) ≤ (i : Int) := by omega
    have hi1 : (i : Int) < (n : Int) := by omega
    have HX := Lib.hid hx
    clear hx
    have hba := hbel.alloc hws (.cells #[.string x.key, .string x.value, .bool x.dead] 107)
    by_cases hk : x.key = key
    · rcases hd : x.dead
      · obtain ⟨hv, he⟩ := HHIT.out x (List.mem_of_getElem? HX.out) hk hd
        have HV := Lib.hid hv
        have HE := Lib.hid he
        rw [hd] at g2 hba
        rw [hk] at g0 hba
        clear hv he hk hd HHIT HMISS
        go_wp2_with fail
        go_ret2
        exact ⟨by rw [HV.out, HE.out]; rfl, below_up hb1 hba⟩
      · have HJ2 : Hid (∀ j y, j < i + 1 → SA[j]? = some y → y.key = key → y.dead = true) := Lib.hid (fun j y hj hy hyk => by
          rcases Nat.lt_or_ge j i with h | h
          · exact HJ.out j y h hy hyk
          · obtain rfl : j = i := by omega
            rw [HX.out] at hy
            injection hy with hy
            rw [← hy]; exact hd)
        rw [hd] at g2 hba
        rw [hk] at g0 hba
        clear hk hd HHIT HMISS
        go_wp2_with fail
        go_roundw
        case rel => exact ⟨i + 1, hlt, by go_num, HJ2, hba⟩
        case measure => simp [intOf]; omega
    · have HJ2 : Hid (∀ j y, j < i + 1 → SA[j]? = some y → y.key = key → y.dead = true) := Lib.hid (fun j y hj hy hyk => by
        rcases Nat.lt_or_ge j i with h | h
        · exact HJ.out j y h hy hyk
        · obtain rfl : j = i := by omega
          rw [HX.out] at hy
          injection hy with hy
          exact absurd (hy ▸ hyk) hk)
      have h3 : (x.key.toList == key.toList) = false := by rw [beq_eq_false_iff_ne]; exact fun e => hk (bytes_same e)
      clear hk HHIT HMISS
      go_wp2_with fail
      go_roundw
      case rel => exact ⟨i + 1, hlt, by go_num, HJ2, hba⟩
      case measure => simp [intOf]; omega
  · obtain rfl : i = n := by omega
    obtain ⟨hv, he⟩ := HMISS.out fun x hx hk => by
      obtain ⟨j, hj⟩ := List.mem_iff_getElem?.1 hx
      exact HJ.out j x (by rw [HN.out]; exact (List.getElem?_eq_some_iff.1 hj).1) hj hk
    have HV := Lib.hid hv
    have HE := Lib.hid he
    clear hv he HHIT HMISS
    go_wp2_with fail
    go_ret2
    exact ⟨by rw [HV.out, HE.out]; rfl, below_up hb1 hbel⟩
set_option maxRecDepth 100000 in
set_option maxHeartbeats 1000000 in
theorem bclone_any (A : Option Addr) (c n B : Nat) (l : List UInt8) (w : World) (hr : Rd w B 1 A n (l.map bv)) (hn : n = l.length) (hB : B ≤ w.heap.size) (hl : n ≤ 140737488355328) :
    Calls Try.prog 70 #[.slice A n c] w fun e w' => ∃ v, e = .returned v ∧ w'.ownsRow w.heap.size 5 1 v n (l.map bv) ∧ Below w.heap.size w w' := by
  rcases A with _ | ad
  · have hn0 : n = 0 := by
      rcases Nat.eq_zero_or_pos n with h | h
      · exact h
      · obtain ⟨_, h, _⟩ := hr.2 h; cases h
    subst hn0
    have hl0 : l = [] := List.eq_nil_of_length_eq_zero hn.symm
    subst hl0
    clear hn
    have heq : ∀ W : World, (binOp .eql 22 (.slice none 0 c) (.slice none 0 0)).run Try.prog W = .ok (.bool true) W := fun W => Go.Lib.run_eql_slice_nil W 22 5 none 0 c 0 0 Try.underlying22
    go_enter Try.func70, Try.ntmps70
    go_wp2_with fail
    go_ret
    exact ⟨_, rfl, World.ownsRow_nil _ _ _ _, Below.refl _ _⟩
  · clear hn
    have hb := (Below.refl w.heap.size w).alloc (Nat.le_refl _) (.cells #[] 5)
    have hown : (w.alloc (.cells #[] 5)).ownsRow w.heap.size 5 1 (.slice (some ⟨w.heap.size, 0, none⟩) 0 0) 0 [] := ⟨rfl, .inr ⟨w.heap.size, 0, _, rfl, Nat.le_refl _, heap_alloc_new w _, Nat.le_refl _, Nat.zero_le _, rfl, rfl⟩⟩
    have hr2 := hr.alloc hB (.cells #[] 5)
    have h1 : ∀ u ∈ l.map bv, u.oneCell' = true := by
      intro u hu
      obtain ⟨x, _, rfl⟩ := List.mem_map.1 hu
      rfl
    generalize l.map bv = xs at *
    have heq : ∀ W : World, (binOp .eql 22 (.slice (some ad) n c) (.slice none 0 0)).run Try.prog W = .ok (.bool false) W := fun W => Go.Lib.run_eql_slice_nil W 22 5 (some ad) n c 0 0 Try.underlying22
    go_enter Try.func70, Try.ntmps70
    go_wp2_with (first
      | (with_reducible show wpList _ _ _ (⟨some 7, _, _, _, _, _⟩ :: _) _ _; go_must (refine wpList_rd (.tmp 5) (.tmp 6) el_u8 rfl rfl hown rfl hr2 rfl h1 (by omega) (by simp) ?_); intro v1 w1 hown1 hb1 hg1 ha1))
    go_ret
    exact ⟨v1, rfl, by simpa using hown1, hb.trans hb1⟩
theorem tabB_few {l : List Ent} : (tabB l).length ≤ 1000000 := by
  by_cases hE : entsE l = 0
  · rw [tabB_good hE]
    have h1 := tabIn_le hE
    have h2 := numB_le ((tabIn l).length : Int)
    simp only [sealB, List.length_append]
    have h3 : (sum4 (sumB (tabIn l))).length = 4 := rfl
    omega
  · rw [tabB_bad rfl hE]; exact Nat.zero_le _
set_option maxRecDepth 100000 in
set_option maxHeartbeats 4000000 in
theorem ltables_any (base g M : Nat) (lim : Int) (s : Lsm) (w : World) (h : LsmIn w base g M lim s) (hLS : s.LS.length ≤ 200000) :
    Calls Try.prog 39 #[.pointer (some ⟨g, 0, none⟩)] w fun e w' => ∃ v bs, e = .returned v ∧ OwnBB w' w.heap.size v bs ∧ bs.map Bl.b = s.LS.map tabB ∧ Below w.heap.size w w' := by
  obtain ⟨vt, vl, bs0, es, hblk, hBB, _, hbs, _⟩ := h.rows
  have c2 := hblk.cell 2
  simp at c2
  obtain ⟨At, ct, rfl, _, _, hrb⟩ := hBB.rd
  obtain ⟨n, hn⟩ : ∃ n, n = bs0.length := ⟨_, rfl⟩
  have hn2 : n ≤ 200000 := by
    have : (bs0.map Bl.b).length = (s.LS.map tabB).length := by rw [hbs]
    rw [List.length_map, List.length_map] at this
    omega
  have HBS := Lib.hid hbs
  have HN : Hid (n = (bs0.map Bl.b).length) := Lib.hid (by rw [hn, List.length_map])
  rw [← hn] at c2
  have HSM : Hid (∀ b ∈ bs0.map Bl.b, b.length ≤ 1000000) := Lib.hid (fun b hb => by
    rw [hbs] at hb
    obtain ⟨l, _, rfl⟩ := List.mem_map.1 hb
    exact tabB_few)
  generalize bs0.map Bl.b = TS at *
  clear hn hBB hbs hblk h hLS
  go_enter Try.func39, Try.ntmps39
  go_wp2_with fail
  go_loopw [3, 11] (fun o x wr => ∃ (i : Nat) (bs : List Bl), i ≤ n ∧ x = .int .i64 i ∧ bs.length = i ∧ OwnBB wr w.heap.size o bs ∧ Hid (bs.map Bl.b = TS.take i) ∧ Below w.heap.size w wr) (fun _ x _ => n - (intOf x).toNat)
  case atStart => exact ⟨0, [], Nat.zero_le _, rfl, rfl, OwnBB.start _ _, Lib.hid rfl, Below.refl _ _⟩
  obtain ⟨i, bs, hi, rfl, hbl, hO, HT, hbel⟩ := hrel
  have hws := hbel.size
  by_cases hlt : i < n
  · obtain ⟨ad, rfl, hab, hcell⟩ := hrb (by have := HN.out; omega)
    obtain ⟨b, hbi⟩ : ∃ b, TS[i]? = some b := ⟨_, List.getElem?_eq_getElem (by have := HN.out; omega)⟩
    obtain ⟨A1, c1, g0w, hlc, hcm, hrd⟩ := hcell i b hbi
    have hbw : (ad.add i).block < w.heap.size := by rw [block_add]; exact hab
    have g0 := (hbel.cell hbw).trans g0w
    obtain ⟨m, hm⟩ : ∃ m, m = b.length := ⟨_, rfl⟩
    have hms := HSM.out b (List.mem_of_getElem? hbi)
    rw [← hm] at g0 hrd hms
    have hcl := bclone_any A1 c1 m w.heap.size b wr (hrd.below hbel (Nat.le_refl _)) hm hws (by omega)
    have HTN : Hid (TS.take (i + 1) = TS.take i ++ [b]) := Lib.hid (by rw [List.take_add_one, hbi]; rfl)
    have HMM := Lib.hid hm
    have hi0 : (0 : Int) ≤ (i : Int) := by omega
    have hi1 : (i : Int) < (n : Int) := by omega
    have hby : (bs.length + 1) * 24 ≤ 140737488355328 := by omega
    clear hbi g0w hrd hcell hm
    have HOO := Lib.hid hO
    have hrow := hO.row
    clear hO
    go_wp2_with (first
      | (go_at_call 70; go_must (refine hcl.mono ?_); rintro e w2 ⟨v2, rfl, own2, hb2⟩; obtain ⟨A2, c2', rfl, _, _, _, _⟩ := own_form own2; have hrow2 := own_up hrow hb2; have hs2 := Nat.le_trans hws hb2.size)
      | (with_reducible show wpList _ _ _ (⟨some 19, _, _, _, _, _⟩ :: _) _ _; go_must (refine wpList_newg (.tmp 15) (.tmp 18) el_slB rfl rfl hrow2 rfl rfl rfl rfl rfl hby hs2 ?_); intro v4 w4 hown4 hb4 hg4 ha4))
    have hO4 := (HOO.out.up hb2).push (x := ⟨b, A2, c2'⟩) (by have := own_base own2 hws; rw [HMM.out] at this; exact this) (by rw [HMM.out] at hown4; exact hown4) hg4
    go_roundw
    case rel => exact ⟨i + 1, _, hlt, by go_num, by rw [List.length_append, hbl]; rfl, hO4, Lib.hid (by rw [HTN.out, List.map_append, HT.out]; rfl), (hbel.trans (hb2.mono hws)).trans hb4⟩
    case measure => simp [intOf]; omega
  · obtain rfl : i = n := by omega
    have HRES : Hid (bs.map Bl.b = s.LS.map tabB) := Lib.hid (by rw [HT.out, HN.out, List.take_length, HBS.out])
    go_wp2_with fail
    go_ret
    exact ⟨_, bs, rfl, hO, HRES.out, hbel⟩
end Go.Proofs.Ytcfijljagohmlaa
