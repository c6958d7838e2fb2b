/- The walk of window.Slide. -/
import Derived.Test.YtelailhghhjleaaWalkSorted
import Derived.Deep.CutBlock
import Derived.Deep.CutRange
namespace Go.Proofs.Ytelailhghhjleaa
open Go.RowKit Go.Maps Go.Sort

/-- The first fault. -/
def slideE (l : List Rec) (size by_ slack : Int) : Nat := if recsE l ≠ 0 then recsE l else if 1 ≤ size ∧ size ≤ 1000000 ∧ 1 ≤ by_ ∧ by_ ≤ 1000000 ∧ 0 ≤ slack ∧ slack ≤ 1000000 ∧ size ≤ 16 * by_ then 0 else 1
theorem markTo_succ {slack : Int} {l : List Rec} {i : Nat} {r : Rec} (h : l[i]? = some r) : markTo slack (l.take (i + 1)) = max (markTo slack (l.take i)) (r.time - slack) := by
  rw [List.take_add_one, h, markTo, List.foldl_append]; rfl
theorem recsE_all {l : List Rec} (h : recsE l = 0) : ∀ r ∈ l, recOk r = true := by
  unfold recsE at h
  split at h
  · cases h
  · split at h
    · rename_i h4; exact List.all_eq_true.1 h4
    · cases h
theorem recAt_of {l : List Rec} {i : Nat} {r : Rec} (h : l[i]? = some r) : recAt l i = r := by rw [recAt, List.getD_eq_getElem?_getD, h]; rfl

theorem cells3s {w : World} {g : Nat} {t : TypeId} {x y z : Value} (h : Blk w g t #[x, y, z]) : w.cell? ⟨g, 0, none⟩ = some x ∧ w.cell? ⟨g, 1, none⟩ = some y ∧ w.cell? ⟨g, 2, none⟩ = some z := ⟨h.cell 0, h.cell 1, h.cell 2⟩
theorem last_at {T b F : Int} (h0 : 0 ≤ T) (hb : 1 ≤ b) (hF : F = T / b * b) : 0 ≤ F ∧ F ≤ T := by
  rw [hF]
  exact ⟨Int.mul_nonneg (Int.ediv_nonneg h0 (by omega)) (by omega), Int.ediv_mul_le T (by omega)⟩
theorem last_is {T b F : Int} {J : Nat} (h0 : 0 ≤ T) (hb : 1 ≤ b) (hF : F = T / b * b) (hJ : J = (T / b).toNat + 1) : F = b * (J : Nat) - b := by
  have h1 : 0 ≤ T / b := Int.ediv_nonneg h0 (by omega)
  have h2 : (J : Int) = T / b + 1 := by omega
  rw [h2, Int.mul_add, hF, Int.mul_comm]; omega
theorem markTo_bounds {slack : Int} {l : List Rec} (hs : 0 ≤ slack) (h : ∀ r ∈ l, r.time ≤ 1000000) : 0 ≤ markTo slack l ∧ markTo slack l ≤ 1000000 := by
  have : ∀ (l : List Rec) (m : Int), 0 ≤ m → m ≤ 1000000 → (∀ r ∈ l, r.time ≤ 1000000) → 0 ≤ l.foldl (fun m r => max m (r.time - slack)) m ∧ l.foldl (fun m r => max m (r.time - slack)) m ≤ 1000000 := by
    intro l
    induction l with
    | nil => intro m h1 h2 _; exact ⟨h1, h2⟩
    | cons x xs ih =>
      intro m h1 h2 h3
      have := h3 x List.mem_cons_self
      exact ih (max m (x.time - slack)) (by omega) (by omega) fun r hr => h3 r (List.mem_cons_of_mem _ hr)
  exact this l 0 (by omega) (by omega) h
theorem grown_cell (w : World) (g j : Nat) (u : Value) : w.grownBy (w.setCell ⟨g, j, none⟩ u) (some g) :=
  ⟨rfl, rfl, rfl, by simp, fun k _ hne => Below.heap_setCell w ⟨g, j, none⟩ u k (fun e => hne (by rw [e]))⟩
theorem grown_celld (w : World) (g j : Nat) (u : Value) : w.grownBy (w.setCell ⟨g, j, none⟩ u).drew (some g) :=
  ⟨rfl, rfl, rfl, by simp, fun k _ hne => Below.heap_setCell w ⟨g, j, none⟩ u k (fun e => hne (by rw [e]))⟩

set_option maxRecDepth 100000 in
set_option maxHeartbeats 8000000 in
theorem slide_good (A : Option Addr) (c B : Nat) (l : List Rec) (size by_ slack : Int) (w : World) (hr : Rd w B 3 A l.length (recCells l)) (hB : B ≤ w.heap.size) (hok : ∀ r ∈ l, r.Ok) (hl : l.length ≤ 400)
    (hE : recsE l = 0) (s0 : 1 ≤ size) (s1 : size ≤ 1000000) (b0 : 1 ≤ by_) (b1 : by_ ≤ 1000000) (k0 : 0 ≤ slack) (k1 : slack ≤ 1000000) (hsb : size ≤ 16 * by_) :
    Calls Try.prog 39 #[.slice A l.length c, .int .i64 size, .int .i64 by_, .int .i64 slack] w fun e w' => ∃ A c Q, e = .returned (.tuple #[.slice A Q.length c, .nilIface]) ∧ Q.length ≤ c ∧ c ≤ maxLen ∧ Q.Perm (slideTo size by_ slack l l.length) ∧ Up (ltOf paneCf) Q ∧ Rd w' w'.heap.size 6 A Q.length (paneCells Q) ∧ Below w.heap.size w w' := by
  have hch := check_any A c B l w hr hB hok (by omega)
  rw [hE] at hch
  have HE := Lib.hid hE
  clear hE
  obtain ⟨n, hn⟩ : ∃ n, n = l.length := ⟨_, rfl⟩
  have HN := Lib.hid hn
  rw [← hn] at hch hl hr ⊢
  clear hn
  have e1 : (decide (1 ≤ size) && decide (size ≤ 1000000)) = true := by simp [s0, s1]
  have e2 : (decide (1 ≤ by_) && decide (by_ ≤ 1000000)) = true := by simp [b0, b1]
  have ht1 := fun W => time_any size W
  have ht2 := fun W => time_any by_ W
  rw [e1] at ht1
  rw [e2] at ht2
  clear e1 e2
  have hmm := @run_makeMap Try.prog
  go_enter Try.func39, Try.ntmps39
  go_wp2_with (first
    | (go_at_call 24; go_must (refine hch.mono ?_); rintro e w1 ⟨rfl, hb1⟩; rw [errV_zero])
    | (go_at_call_of 25 size; go_must (refine (ht1 _).mono ?_); rintro e w2 ⟨rfl, rfl⟩)
    | (go_at_call_of 25 by_; go_must (refine (ht2 _).mono ?_); rintro e w2 ⟨rfl, rfl⟩))
  have hp0 := Pns.start (size := size) (base := w.heap.size) hb1.size
  have hbel0 := hb1.alloc hb1.size (.map #[] 0)
  obtain ⟨M, hM⟩ : ∃ M, M = w1.heap.size := ⟨_, rfl⟩
  rw [← hM] at hp0 ⊢
  generalize w1.alloc (.map #[] 0) = w2 at *
  clear hM hmm hch ht1 ht2 hb1
  have HOK := Lib.hid hok
  clear hok
  go_loopw [11, 49] (fun mk x wr => ∃ j k : Nat, ∃ D bs P, x = .int .i64 j ∧ j ≤ n ∧ mk = .int .i64 (markTo slack (l.take j)) ∧ k ≤ 1000001 * j ∧ P.length ≤ k ∧ Hid (P = slideTo size by_ slack l j) ∧ Pns wr w.heap.size M k D bs P size ∧ Below w.heap.size w wr) (fun _ x _ => n - (intOf x).toNat)
  case atStart => exact ⟨0, 0, _, _, _, rfl, Nat.zero_le _, rfl, Nat.le_refl _, Nat.le_refl _, Lib.hid rfl, hp0, hbel0⟩
  clear hp0 hbel0
  obtain ⟨j, k, D, bs, P, rfl, hj, rfl, hk, hPk, HP, hpns, hbel⟩ := hrel
  have hws := hbel.size
  by_cases hlt : j < n
  · obtain ⟨ad, r, rfl, hx, g0, g1, g2⟩ := hr.rec_ hlt HN.out.symm hbel hB
    obtain ⟨r1, r2, r3⟩ := recOk_parts (recsE_all HE.out _ (List.mem_of_getElem? hx))
    have hrok := HOK.out _ (List.mem_of_getElem? hx)
    have HX := Lib.hid hx
    clear hx
    have hk0 : (0 : Int) ≤ (j : Int) := by omega
    have hk1 : (j : Int) < (n : Int) := by omega
    obtain ⟨F0, hF0⟩ : ∃ F0, F0 = r.time / by_ * by_ := ⟨_, rfl⟩
    obtain ⟨f0, f1⟩ := last_at r2 b0 hF0
    have f2 : wrap64 (r.time / by_ * by_) = F0 := by rw [← hF0]; unfold wrap64; omega
    have HF2 := Lib.hid f2
    obtain ⟨J, hJ⟩ : ∃ J, J = (r.time / by_).toNat + 1 := ⟨_, rfl⟩
    have HF0 : Hid (F0 = by_ * (J : Nat) - by_) := Lib.hid (last_is r2 b0 hF0 hJ)
    have hJb : J ≤ 1000001 := by
      have := Int.ediv_le_self by_ r2
      omega
    have HS : Hid (slideTo size by_ slack l (j + 1) = downTo r size by_ (markTo slack (l.take j)) J P) := Lib.hid (by rw [slideTo, recAt_of HX.out, ← hJ, ← HP.out])
    have HM : Hid (markTo slack (l.take (j + 1)) = max (markTo slack (l.take j)) (r.time - slack)) := Lib.hid (markTo_succ HX.out)
    obtain ⟨mk, hmk⟩ : ∃ mk, mk = markTo slack (l.take j) := ⟨_, rfl⟩
    have hmkb := markTo_bounds k0 (l := l.take j) (slack := slack) (fun x hx => (recOk_parts (recsE_all HE.out x (List.mem_of_mem_take hx))).2.2)
    rw [← hmk] at HS HM hmkb ⊢
    clear hmk f2 hJ hF0
    go_upto_region 12 with fail
    rw [HF2.out]
    have hbel3 := hbel.alloc hws (.cells #[.string r.key, .int .i64 r.num, .int .i64 r.time] 29)
    have hrb := Blk.new wr 29 #[.string r.key, .int .i64 r.num, .int .i64 r.time]
    have hp3 := hpns.up ((Below.refl wr.heap.size wr).alloc (Nat.le_refl _) (.cells #[.string r.key, .int .i64 r.num, .int .i64 r.time] 29))
    have hnb : wr.heap.size ∉ bs := fun h => by have := hpns.lt h; omega
    have hMl := hpns.own.lt
    obtain ⟨rb, hrbe⟩ : ∃ rb, rb = wr.heap.size := ⟨_, rfl⟩
    rw [← hrbe] at hrb hnb ⊢
    generalize wr.alloc (.cells #[.string r.key, .int .i64 r.num, .int .i64 r.time] 29) = w3 at *
    have hrM : rb ≠ M := by omega
    clear hrbe hpns hbel g0 g1 g2
    go_loopw [15] (fun f wz => ∃ (i k2 : Nat) (F : Int) (D2 : DataW Unit) (bs2 : List Nat) (P2 : List Pane), f = .int .i64 F ∧ Hid (F = by_ * (i : Nat) - by_) ∧ i ≤ J ∧ F ≤ 1000000 ∧ -1000000 ≤ F ∧ k2 + i ≤ k + J ∧ P2.length ≤ k2 ∧ Hid (slideTo size by_ slack l (j + 1) = downTo r size by_ mk i P2) ∧ Pns wz w.heap.size M k2 D2 bs2 P2 size ∧ rb ∉ bs2 ∧ Blk wz rb 29 #[.string r.key, .int .i64 r.num, .int .i64 r.time] ∧ Below w.heap.size w wz) (fun f _ => (intOf f + by_).toNat)
    case atStart => exact ⟨J, k, F0, D, bs, P, rfl, HF0, Nat.le_refl _, by omega, by omega, Nat.le_refl _, hPk, HS, hp3, hnb, hrb, hbel3⟩
    clear hp3 hnb hrb hbel3 HF2 HF0 HS
    obtain ⟨i, k2, F, D2, bs2, P2, rfl, HF, hi, hF1, hF2, hk2, hPk2, HD, hpns, hnb, hrb, hbel⟩ := hrel
    have hws2 := hbel.size
    obtain ⟨x0, x1, x2⟩ := cells3s hrb
    rcases i with _ | i
    · have hneg : F < 0 := by have := HF.out; simp at this; omega
      go_wp2_with fail
      go_roundw
      case rel =>
        refine ⟨j + 1, k2, D2, bs2, P2, by go_num, by omega, by rw [HM.out], by omega, hPk2, Lib.hid ?_, hpns, hbel⟩
        have e : slideTo size by_ slack l (j + 1) = P2 := (HD.out)
        exact e.symm
      case measure => simp [intOf]; omega
    · have hF : F = by_ * (i : Nat) := by have := HF.out; rw [Int.natCast_add, Int.mul_add] at this; simp at this; omega
      have hF0 : 0 ≤ F := by rw [hF]; exact Int.mul_nonneg (by omega) (by omega)
      have HFF := Lib.hid hF
      clear hF
      by_cases hcnd : r.time < F + size
      · have hw1 : (Lit.int .i64 F).wf = true := WalkArith.wf_i64 (by omega)
        have hw2 : (Lit.int .i64 (F + size)).wf = true := WalkArith.wf_i64 (by omega)
        have hkm : r.key.size ≤ maxLen := by unfold maxLen; omega
        have hkey := keyOf_pane hkm hw1 hw2
        unfold keyV at hkey
        have HD2 : Hid (slideTo size by_ slack l (j + 1) = downTo r size by_ mk i (upd P2 r.key F size mk r.num)) := Lib.hid (by rw [HD.out, downTo, ← HFF.out, if_pos hcnd])
        have hMl := hpns.own.lt
        go_upto_if 83 with (first
          | (at_lookup; go_must (refine wpList_lookup_ptr _ rfl _ _ 94 rfl 31 95 kpane Try.underlying94 (zpane _) M k2 D2 rfl (hpns.own.alloc _) _ (klP r.key F (F + size)) rfl hkey ?_); intro v ps hv; obtain ⟨o, rfl⟩ := ptrR_form hv))
        have hpk := hpns.up ((Below.refl wr.heap.size wr).alloc (Nat.le_refl _) (.cells #[.string r.key, .int .i64 F, .int .i64 (F + size), .int .i64 0, .int .i64 0, .int .i64 0] 31))
        have hrk := hrb.alloc (.cells #[.string r.key, .int .i64 F, .int .i64 (F + size), .int .i64 0, .int .i64 0, .int .i64 0] 31)
        have hbk := hbel.alloc hws2 (.cells #[.string r.key, .int .i64 F, .int .i64 (F + size), .int .i64 0, .int .i64 0, .int .i64 0] 31)
        have hgk := Blk.new wr 31 #[.string r.key, .int .i64 F, .int .i64 (F + size), .int .i64 0, .int .i64 0, .int .i64 0]
        obtain ⟨gk, hgke⟩ : ∃ gk, gk = wr.heap.size := ⟨_, rfl⟩
        rw [← hgke] at hgk ⊢
        generalize wr.alloc (.cells #[.string r.key, .int .i64 F, .int .i64 (F + size), .int .i64 0, .int .i64 0, .int .i64 0] 31) = wk at *
        have hwsk := hbk.size
        have hMk := hpk.own.lt
        clear hpns hrb hbel x0 x1 x2 hgke hMl
        go_cut [17] from 83 to 94 (fun v wx => ∃ (g jj k3 : Nat) (D3 : DataW Unit) (bs3 : List Nat) (p0 : Pane), v = .pointer (some ⟨g, 0, none⟩) ∧ Pns wx w.heap.size M k3 D3 bs3 (ens P2 r.key F size) size ∧ k3 ≤ k2 + 1 ∧ (ens P2 r.key F size).length ≤ k3 ∧ bs3[jj]? = some g ∧ (ens P2 r.key F size)[jj]? = some p0 ∧ p0.key = r.key ∧ p0.lo = F ∧ rb ∉ bs3 ∧ Blk wx rb 29 #[.string r.key, .int .i64 r.num, .int .i64 r.time] ∧ Below w.heap.size w wx)
        case first =>
          have y0 := hgk.cell 0
          have y1 := hgk.cell 1
          have y2 := hgk.cell 2
          have y3 := hgk.cell 3
          have y4 := hgk.cell 4
          have y5 := hgk.cell 5
          simp at y0 y1 y2 y3 y4 y5
          obtain ⟨x0, x1, x2⟩ := cells3s hrk
          rcases ha : P2.any (isAt r.key F) with _ | _
          · have hno := hpk.non r.key F ha hkm hw1 hw2
            rw [hno] at hv
            obtain rfl : o = none := by have h := ptrR_nil hv; injection h
            have HA := Lib.hid ha
            clear ha hno hv
            have hga := hgk.alloc (.cells #[.string r.key, .int .i64 F, .int .i64 (F + size), .int .i64 0, .int .i64 0, .int .i64 0] 31)
            have u0 := hga.cell 0
            have u1 := hga.cell 1
            have u2 := hga.cell 2
            have u3 := hga.cell 3
            have u4 := hga.cell 4
            have u5 := hga.cell 5
            simp at u0 u1 u2 u3 u4 u5
            go_wp2_with (first
              | (at_mapUpdate; go_must (refine wpList_mapUpdate_own _ rfl _ _ _ 94 rfl 31 95 kpane Try.underlying94 ptrR M k2 D2 rfl (hpk.own.alloc _) (by unfold maxLen; omega) _ _ (klP r.key F (F + size)) rfl rfl hkey (.lit (.int .i64 wk.heap.size)) [] rfl ?_); intro w9 hown9 hgr9))
            go_meet
            refine ⟨wk.heap.size, P2.length, k2 + 1, D2.put (klP r.key F (F + size)) (.lit (.int .i64 (wk.heap.size : Nat))), bs2 ++ [wk.heap.size], ⟨r.key, F, F + size, 0, 0, 0⟩, rfl, ?_, Nat.le_refl _, ?_, ?_, ?_, rfl, rfl, ?_, ?_, ?_⟩
            · rw [ens_new HA.out]
              have hb0 := (Below.refl wk.heap.size wk).alloc (Nat.le_refl _) (.cells #[.string r.key, .int .i64 F, .int .i64 (F + size), .int .i64 0, .int .i64 0, .int .i64 0] 31)
              exact (hpk.up hb0).add (p := ⟨r.key, F, F + size, 0, 0, 0⟩) (Blk.new wk 31 _) (fun h => by have := hpk.lt h; omega) ⟨hwsk, by omega⟩ ⟨hkm, hw1, rfl, hw2⟩ HA.out hown9 hgr9
            · rw [ens_new HA.out]; simp; omega
            · rw [List.getElem?_append_right (by rw [hpk.len]; exact Nat.le_refl _), hpk.len, Nat.sub_self]; rfl
            · rw [ens_new HA.out, List.getElem?_append_right (Nat.le_refl _), Nat.sub_self]; rfl
            · intro h
              rcases List.mem_append.1 h with h | h
              · exact hnb h
              · have := hrk.lt; rw [← List.mem_singleton.1 h] at this; omega
            · have h1 := hrk.alloc (.cells #[.string r.key, .int .i64 F, .int .i64 (F + size), .int .i64 0, .int .i64 0, .int .i64 0] 31)
              exact (hgr9.block rb h1.lt (fun e => hrM (by injection e))).trans h1
            · exact (hbk.alloc hwsk _).grown hgr9 (by simp; omega) (fun q hq => by cases hq; exact hpk.mb)
          · obtain ⟨jj, p0, hpj, e1, e2⟩ := ens_at (P := P2) (k := r.key) (f := F) (size := size)
            rw [ens_there ha] at hpj
            have hjl := (List.getElem?_eq_some_iff.1 hpj).1
            obtain ⟨g, hbj⟩ : ∃ g, bs2[jj]? = some g := ⟨_, List.getElem?_eq_getElem (by rw [hpk.len]; exact hjl)⟩
            have hkk := hpk.key jj g p0 hbj hpj
            obtain ⟨_, _, f3, _⟩ := hpk.fine p0 (List.mem_of_getElem? hpj)
            rw [f3, e1, e2] at hkk
            rw [hkk] at hv
            obtain rfl : o = some ⟨g, 0, none⟩ := by have h := ptrR_some hv; injection h
            have HA := Lib.hid (ens_there (size := size) ha)
            have HPJ := Lib.hid hpj
            have HBJ := Lib.hid hbj
            clear ha hv hkk hpj hbj f3 hjl
            go_wp2_with fail
            go_meet
            exact ⟨g, jj, k2, D2, bs2, p0, rfl, by rw [HA.out]; exact hpk, by omega, by rw [HA.out]; exact hPk2, HBJ.out, by rw [HA.out]; exact HPJ.out, e1, e2, hnb, hrk, hbk⟩
        case rest =>
          obtain ⟨g, jj, k3, D3, bs3, p0, rfl, hp4, hk3, hlen3, hbj, hpj, e1, e2, hnb3, hrb3, hbel4⟩ := hcut
          have HU := Lib.hid (upd_set (mark := mk) (num := r.num) hpk.apart hpj ⟨e1, e2⟩)
          have hul : (upd P2 r.key F size mk r.num).length = (ens P2 r.key F size).length := by rw [HU.out, List.length_set]
          have hbg := hp4.blk jj g p0 hbj hpj
          have hgb := hp4.at_ g (List.mem_of_getElem? hbj)
          have hgr : g ≠ rb := fun e => hnb3 (e ▸ List.mem_of_getElem? hbj)
          have hws4 := hbel4.size
          have HP4 := Lib.hid hp4
          have HBJ := Lib.hid hbj
          have HPJ := Lib.hid hpj
          clear hpk hrk hbk hgk hwsk hMk hp4 hbj hpj hnb hv hkey
          have c2 := hbg.cell 2
          have c3 := hbg.cell 3
          have c4 := hbg.cell 4
          have c5 := hbg.cell 5
          have z3 := hbg.frozen 3
          have z5 := hbg.frozen 5
          simp [Pane.cells] at c2 c3 c4 c5
          obtain ⟨x0, x1, x2⟩ := cells3s hrb3
          have HNX : Hid (F - by_ = by_ * (i : Nat) - by_) := Lib.hid (by rw [HFF.out])
          by_cases hlate : p0.hi ≤ mk
          · have HB : Hid (bump mk r.num p0 = ⟨p0.key, p0.lo, p0.hi, p0.many, p0.sum, wrap64 (p0.late + 1)⟩) := Lib.hid (by rw [bump, if_pos hlate])
            go_wp2_with fail
            go_roundw
            case rel =>
              have hb9 : Blk (wc.setCell ⟨g, 5, none⟩ (.int .i64 (wrap64 (p0.late + 1)))) g 31 (bump mk r.num p0).cells.toArray := by
                have h := hbg.set_ 5 (.int .i64 (wrap64 (p0.late + 1)))
                rw [HB.out]; exact h
              refine ⟨i, k3, F - by_, D3, bs3, _, by go_num, HNX, by omega, by omega, by omega, by omega, by rw [hul]; exact hlen3, HD2, ?_, hnb3, hrb3.far (p := ⟨g, 5, none⟩) (by simpa using fun e => hgr e.symm) _, hbel4.setCell hgb.1 _⟩
              rw [HU.out]
              exact HP4.out.set HBJ.out HPJ.out ⟨(bump_key _ _ _).1, (bump_key _ _ _).2.1, (bump_key _ _ _).2.2⟩ hb9 (grown_cell wc g 5 _)
            case measure => simp [intOf]; omega
          · have HB : Hid (bump mk r.num p0 = ⟨p0.key, p0.lo, p0.hi, wrap64 (p0.many + 1), wrap64 (p0.sum + r.num), p0.late⟩) := Lib.hid (by rw [bump, if_neg hlate])
            go_upto_region 22 with fail
            have hb8 := hbg.set_ 3 (.int .i64 (wrap64 (p0.many + 1)))
            have hrb8 := hrb3.far (p := ⟨g, 3, none⟩) (by simpa using fun e => hgr e.symm) (.int .i64 (wrap64 (p0.many + 1)))
            have hg8 := grown_cell wc g 3 (.int .i64 (wrap64 (p0.many + 1)))
            have hbel8 : Below w.heap.size w (wc.setCell ⟨g, 3, none⟩ (.int .i64 (wrap64 (p0.many + 1)))) := hbel4.setCell hgb.1 _
            generalize wc.setCell ⟨g, 3, none⟩ (.int .i64 (wrap64 (p0.many + 1))) = w8 at *
            clear c2 c3 c4 c5 z3 z5 x0 x1 x2
            have c4 := hb8.cell 4
            have z4 := hb8.frozen 4
            simp [Pane.cells] at c4
            obtain ⟨x0, x1, x2⟩ := cells3s hrb8
            go_region
            go_wp2_with fail
            go_roundw
            case rel =>
              have hb9 : Blk (w8.setCell ⟨g, 4, none⟩ (.int .i64 (wrap64 (p0.sum + r.num)))).drew g 31 (bump mk r.num p0).cells.toArray := by
                have h := hb8.set_ 4 (.int .i64 (wrap64 (p0.sum + r.num)))
                rw [HB.out]; exact h
              have hg9 : wc.grownBy (w8.setCell ⟨g, 4, none⟩ (.int .i64 (wrap64 (p0.sum + r.num)))).drew (some g) := hg8.trans (grown_celld w8 g 4 _)
              refine ⟨i, k3, F - by_, D3, bs3, _, by go_num, HNX, by omega, by omega, by omega, by omega, by rw [hul]; exact hlen3, HD2, ?_, hnb3, (hrb8.far (p := ⟨g, 4, none⟩) (by simpa using fun e => hgr e.symm) _).drew, (hbel8.setCell hgb.1 _).drew⟩
              rw [HU.out]
              exact HP4.out.set HBJ.out HPJ.out ⟨(bump_key _ _ _).1, (bump_key _ _ _).2.1, (bump_key _ _ _).2.2⟩ hb9 hg9
            case measure => simp [intOf]; omega
      · have hcnd0 : ¬ (r.time < F + size) := hcnd
        go_wp2_with fail
        go_roundw
        case rel =>
          refine ⟨j + 1, k2, D2, bs2, P2, by go_num, by omega, by rw [HM.out], by omega, hPk2, Lib.hid ?_, hpns, hbel⟩
          have e : slideTo size by_ slack l (j + 1) = P2 := (by rw [HD.out, downTo, if_neg (by rw [← HFF.out]; exact hcnd0)])
          exact e.symm
        case measure => simp [intOf]; omega
  · have e : j = n := by omega
    subst e
    go_wp2_with (first
      | (go_at_call 58; go_must (refine (sorted_any hpns (by omega)).mono ?_); rintro e w5 ⟨A5, c5, Q, rfl, q5, q6, q1, q2, q3, q4⟩))
    go_ret2
    exact ⟨A5, c5, Q, rfl, q5, q6, by rw [← HP.out]; exact q1, q2, q3, hbel.trans (q4.mono hws)⟩
set_option maxRecDepth 100000 in
set_option maxHeartbeats 8000000 in
theorem slide_bad (A : Option Addr) (c B : Nat) (l : List Rec) (size by_ slack : Int) (w : World) (hr : Rd w B 3 A l.length (recCells l)) (hB : B ≤ w.heap.size) (hok : ∀ r ∈ l, r.Ok) (hl : l.length ≤ 140737488355328)
    (hby0 : -9223372036854775808 ≤ by_) (hby1 : by_ ≤ 9223372036854775807) (hE : slideE l size by_ slack ≠ 0) :
    Calls Try.prog 39 #[.slice A l.length c, .int .i64 size, .int .i64 by_, .int .i64 slack] w fun e w' => e = .returned (.tuple #[.slice none 0 0, errV (slideE l size by_ slack)]) ∧ Below w.heap.size w w' := by
  have hch := check_any A c B l w hr hB hok hl
  have ht1 := fun W => time_any size W
  have ht2 := fun W => time_any by_ W
  by_cases h0 : recsE l = 0
  · have hE1 : slideE l size by_ slack = 1 := by
      unfold slideE at hE ⊢
      rw [if_neg (by simp [h0])] at hE ⊢
      split at hE
      · exact absurd rfl hE
      · rename_i h; rw [if_neg h]
    have hno : ¬ (1 ≤ size ∧ size ≤ 1000000 ∧ 1 ≤ by_ ∧ by_ ≤ 1000000 ∧ 0 ≤ slack ∧ slack ≤ 1000000 ∧ size ≤ 16 * by_) := by
      intro h
      unfold slideE at hE
      rw [if_neg (by simp [h0]), if_pos h] at hE
      exact hE rfl
    rw [hE1]
    rw [show errV 1 = .iface 63 (.int .i64 1) from rfl]
    rw [h0] at hch
    clear hE hE1 h0
    generalize l.length = n at *
    by_cases s : 1 ≤ size ∧ size ≤ 1000000
    · have e1 : (decide (1 ≤ size) && decide (size ≤ 1000000)) = true := by simp [s.1, s.2]
      rw [e1] at ht1
      obtain ⟨s0, s1⟩ := s
      by_cases b : 1 ≤ by_ ∧ by_ ≤ 1000000
      · have e2 : (decide (1 ≤ by_) && decide (by_ ≤ 1000000)) = true := by simp [b.1, b.2]
        rw [e2] at ht2
        obtain ⟨b0, b1⟩ := b
        by_cases k0 : slack < 0
        · 
          go_enter Try.func39, Try.ntmps39
          go_wp2_with (first
            | (go_at_call 24; go_must (refine hch.mono ?_); rintro e w1 ⟨rfl, hb1⟩; rw [errV_zero])
            | (go_at_call_of 25 size; go_must (refine (ht1 _).mono ?_); rintro e w2 ⟨rfl, rfl⟩)
            | (go_at_call_of 25 by_; go_must (refine (ht2 _).mono ?_); rintro e w2 ⟨rfl, rfl⟩))
          go_ret2
          exact ⟨rfl, hb1⟩
        · by_cases k1 : 1000000 < slack
          · 
            go_enter Try.func39, Try.ntmps39
            go_wp2_with (first
              | (go_at_call 24; go_must (refine hch.mono ?_); rintro e w1 ⟨rfl, hb1⟩; rw [errV_zero])
              | (go_at_call_of 25 size; go_must (refine (ht1 _).mono ?_); rintro e w2 ⟨rfl, rfl⟩)
              | (go_at_call_of 25 by_; go_must (refine (ht2 _).mono ?_); rintro e w2 ⟨rfl, rfl⟩))
            go_ret2
            exact ⟨rfl, hb1⟩
          · have k2 : 16 * by_ < size := by omega
            go_enter Try.func39, Try.ntmps39
            go_wp2_with (first
              | (go_at_call 24; go_must (refine hch.mono ?_); rintro e w1 ⟨rfl, hb1⟩; rw [errV_zero])
              | (go_at_call_of 25 size; go_must (refine (ht1 _).mono ?_); rintro e w2 ⟨rfl, rfl⟩)
              | (go_at_call_of 25 by_; go_must (refine (ht2 _).mono ?_); rintro e w2 ⟨rfl, rfl⟩))
            go_ret2
            exact ⟨rfl, hb1⟩
      · have e2 : (decide (1 ≤ by_) && decide (by_ ≤ 1000000)) = false := by simp; omega
        rw [e2] at ht2
        clear hno
        go_enter Try.func39, Try.ntmps39
        go_wp2_with (first
          | (go_at_call 24; go_must (refine hch.mono ?_); rintro e w1 ⟨rfl, hb1⟩; rw [errV_zero])
          | (go_at_call_of 25 size; go_must (refine (ht1 _).mono ?_); rintro e w2 ⟨rfl, rfl⟩)
          | (go_at_call_of 25 by_; go_must (refine (ht2 _).mono ?_); rintro e w2 ⟨rfl, rfl⟩))
        go_ret2
        exact ⟨rfl, hb1⟩
    · have e1 : (decide (1 ≤ size) && decide (size ≤ 1000000)) = false := by simp; omega
      rw [e1] at ht1
      clear hno
      go_enter Try.func39, Try.ntmps39
      go_wp2_with (first
        | (go_at_call 24; go_must (refine hch.mono ?_); rintro e w1 ⟨rfl, hb1⟩; rw [errV_zero])
        | (go_at_call_of 25 size; go_must (refine (ht1 _).mono ?_); rintro e w2 ⟨rfl, rfl⟩)
        | (go_at_call_of 25 by_; go_must (refine (ht2 _).mono ?_); rintro e w2 ⟨rfl, rfl⟩))
      go_ret2
      exact ⟨rfl, hb1⟩
  · have hE1 : slideE l size by_ slack = recsE l := by unfold slideE; rw [if_pos h0]
    rw [hE1]
    have HE : Hid (errV (recsE l) = .iface 63 (.int .i64 (recsE l : Nat))) := Lib.hid (by rw [errV, if_neg h0])
    generalize recsE l = E at *
    clear hE hE1 h0
    generalize l.length = n at *
    go_enter Try.func39, Try.ntmps39
    go_wp2_with (first
      | (go_at_call 24; go_must (refine hch.mono ?_); rintro e w1 ⟨rfl, hb1⟩; rw [HE.out]))
    go_ret2
    exact ⟨by rw [HE.out]; rfl, hb1⟩
end Go.Proofs.Ytelailhghhjleaa
