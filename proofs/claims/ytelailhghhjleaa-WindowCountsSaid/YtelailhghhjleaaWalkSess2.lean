/- The walk of window.Session. -/
import Derived.Test.YtelailhghhjleaaWalkSess1
import Derived.Test.YtelailhghhjleaaWalkStableK
import Derived.Deep.RegionLaw
import Derived.BigQuiet
namespace Go.Proofs.Ytelailhghhjleaa
open Go.RowKit Go.Sort Go.Shelf Go.Lib

theorem sess_lays (blk off size : Nat) (w : World) : CmpLays Try.prog 28 #[] Rec.cells 3 recCf blk off size w :=
  fun _ _ _ _ x y => sesscmp_any x y _
theorem el_pane : Elt Try.prog 23 31 (.agg #[.string ByteArray.empty, .int .i64 0, .int .i64 0, .int .i64 0, .int .i64 0, .int .i64 0]) 6 56 := ⟨Try.underlying23, by kernel_rfl, rfl, by omega, by omega⟩
/-- The sort of records of a row of the call's own. -/
theorem sess_sort {w : World} {base n c g : Nat} {l : List Rec} (h : w.ownsRow base 29 3 (.slice (some ⟨g, 0, none⟩) n c) n (recCells l)) (hl : l.length = n) (hn : n < 4611686018427387904) (hb : base ≤ w.heap.size) :
    Calls Try.prog 27 #[.slice (some ⟨g, 0, none⟩) n c, .func (.func 28) #[] #[]] w fun e w' =>
      e = .returned (.tuple #[]) ∧ ∃ s : List Rec, s.Perm l ∧ Up (ltOf recCf) s ∧ Rd w' w'.heap.size 3 (some ⟨g, 0, none⟩) n (recCells s) ∧ Below base w w' := by
  obtain ⟨hH, hlt, hge⟩ := holdsK_own (enc := Rec.cells) recK (by omega) h hl
  have hz : l.toArray.size = n := by simpa using hl
  have H : Srt Rec.cells 3 recCf 28 #[] g 0 n l.toArray w := ⟨sizeRec, recSwo, fun _ _ => by kernel_rfl, sess_lays _ _ _ _, ⟨recK, recK1, hH, hlt⟩, hz, hn⟩
  refine (sortK_any H c l.toArray w hz (SWK.start hH)).mono ?_
  rintro e w' ⟨rfl, d', hst, hso, hds, hS⟩
  have hd : d' = (([] : List Rec) ++ (d'.toList ++ [])).toArray := by simp
  have hlen : d'.toList.length = n := by simpa using hds
  have hup : Up (ltOf recCf) d'.toList := by
    refine up_of_sortedIn (x := []) (y := []) ?_
    rw [← hd, List.length_nil, Nat.zero_add, hlen]
    exact hso
  refine ⟨rfl, d'.toList, by simpa using hst.perm.symm, hup, ?_, below_swk hS hge hb⟩
  have := rd_of_holdsK (enc := Rec.cells) recK (by omega) (holdsK_row (hS.holds hlt hH (hds.trans hz.symm))) (B := w'.heap.size) (hS.lt hlt)
  rw [hlen] at this
  exact this

theorem sess_sorts {w : World} {base n : Nat} {v : Value} {l : List Rec} (h : w.ownsRow base 29 3 v n (recCells l)) (hl : l.length = n) (hn : n < 4611686018427387904) (hb : base ≤ w.heap.size) : ∃ A c, v = .slice A n c ∧
    Calls Try.prog 27 #[.slice A n c, .func (.func 28) #[] #[]] w fun e w' =>
      e = .returned (.tuple #[]) ∧ ∃ s : List Rec, s.Perm l ∧ Up (ltOf recCf) s ∧ Rd w' w'.heap.size 3 A n (recCells s) ∧ Below base w w' := by
  rcases h.2 with ⟨rfl, rfl⟩ | ⟨g, cap, cur, rfl, _⟩
  · refine ⟨none, 0, rfl, (sortK_none none 0 28 #[] w).mono ?_⟩
    rintro e w' ⟨rfl, rfl⟩
    obtain rfl := List.eq_nil_of_length_eq_zero hl
    exact ⟨rfl, [], .refl _, List.Pairwise.nil, Rd.nil_, Below.refl _ _⟩
  · exact ⟨_, cap, rfl, sess_sort h hl hn hb⟩
theorem own_some {w : World} {base size n : Nat} {e : TypeId} {v : Value} {xs : List Value} (h : w.ownsRow base e size v n xs) (hn : 0 < n) : ∃ g c, v = .slice (some ⟨g, 0, none⟩) n c := by
  rcases h.2 with ⟨_, rfl⟩ | ⟨g, cap, cur, rfl, _⟩
  · omega
  · exact ⟨g, cap, rfl⟩
theorem Blk.app_ {w w' : World} {g : Nat} {t : TypeId} {cs : Array Value} {v : Value} (h : Blk w g t cs) (hb : w.grownBy w' v.ownBlock) (hn : ∀ k, v.ownBlock = some k → k ≠ g) : Blk w' g t cs :=
  h.grown hb fun e => hn g e.symm rfl
theorem paneCells_len (l : List Pane) : (paneCells l).length = l.length * 6 := by
  induction l with
  | nil => rfl
  | cons a l ih => rw [paneCells, List.flatMap_cons, List.length_append, List.length_cons, ← paneCells, ih]; simp only [Pane.cells, List.length_cons, List.length_nil]; omega
theorem paneCells_snoc (l : List Pane) (p : Pane) : paneCells (l ++ [p]) = paneCells l ++ p.cells := by simp [paneCells]
theorem set_tail {L : List Value} {a : Nat} (ha : a = L.length) (p : Pane) (j : Nat) (u : Value) : (L ++ p.cells).set (a + j) u = L ++ p.cells.set j u := by
  rw [List.set_append_right _ _ (by omega), ha, Nat.add_sub_cancel_left]
theorem sessR_take {gap : Int} {s : List Rec} {k : Nat} {r : Rec} (h : s[k]? = some r) : sessR gap (s.take (k + 1)) = stepR gap (sessR gap (s.take k)) r := by
  rw [sessR, sessR, List.take_add_one, h, List.foldl_append]; rfl
theorem many_bd (gap : Int) : ∀ (l : List Rec) (o : List Pane) (n : Nat), (∀ p ∈ o, 0 ≤ p.many ∧ p.many ≤ n) → ∀ p ∈ l.foldl (stepR gap) o, 0 ≤ p.many ∧ p.many ≤ (n + l.length : Nat) := by
  intro l
  induction l with
  | nil => intro o n h; simpa using h
  | cons r l ih =>
    intro o n h p hp
    have := ih (stepR gap o r) (n + 1) (by
      intro q hq
      cases o with
      | nil =>
        obtain rfl := List.mem_singleton.1 hq
        simp only [Pane.ext, Pane.new]; omega
      | cons x o =>
        rw [stepR] at hq
        split at hq
        · rcases List.mem_cons.1 hq with rfl | hq
          · have := h x (List.mem_cons_self ..)
            simp only [Pane.ext]; omega
          · have := h q (List.mem_cons_of_mem _ hq); omega
        · rcases List.mem_cons.1 hq with rfl | hq
          · simp only [Pane.ext, Pane.new]; omega
          · have := h q hq; omega) p hp
    rw [List.length_cons]; omega
theorem many_at {gap : Int} {s : List Rec} {k : Nat} {p : Pane} (h : p ∈ sessR gap (s.take k)) : 0 ≤ p.many ∧ p.many ≤ k := by
  have := many_bd gap (s.take k) [] 0 (by simp) p h
  have h2 : (s.take k).length ≤ k := by simp; omega
  omega

/-- A pane at the end of a row. -/
structure AtPane (w : World) (base go n c a : Nat) (L : List Value) (p : Pane) : Prop where
  own : w.ownsRow base 31 6 (.slice (some ⟨go, 0, none⟩) n c) n (L ++ p.cells)
  len : a = L.length
theorem AtPane.cell {w : World} {base go n c a : Nat} {L : List Value} {p : Pane} (h : AtPane w base go n c a L p) (j : Nat) (hj : j < 6) : w.cell? ⟨go, a + j, none⟩ = p.cells[j]? := by
  have hl := h.own.1
  rw [List.length_append] at hl
  have hc : p.cells.length = 6 := rfl
  rw [h.own.cellAt (a + j) (by have := h.len; omega), List.getElem?_append_right (by have := h.len; omega), h.len, Nat.add_sub_cancel_left]
theorem AtPane.free {w : World} {base go n c a : Nat} {L : List Value} {p : Pane} (h : AtPane w base go n c a L p) (j : Nat) : w.frozen? ⟨go, j, none⟩ = false := h.own.frozenAt j
theorem AtPane.done {w : World} {base go n c a B : Nat} {L : List Value} {p : Pane} (h : AtPane w base go n c a L p) (gap : Int) (r : Rec) (hB : B ≤ base) (hw : B ≤ w.heap.size) :
    (((w.setCell ⟨go, a + 2, none⟩ (.int .i64 (r.time + gap))).setCell ⟨go, a + 3, none⟩ (.int .i64 (p.many + 1))).setCell ⟨go, a + 4, none⟩ (.int .i64 (IntKind.i64.wrap (p.sum + r.num)))).ownsRow base 31 6 (.slice (some ⟨go, 0, none⟩) n c) n (L ++ (p.ext gap r).cells) ∧
    Below B w (((w.setCell ⟨go, a + 2, none⟩ (.int .i64 (r.time + gap))).setCell ⟨go, a + 3, none⟩ (.int .i64 (p.many + 1))).setCell ⟨go, a + 4, none⟩ (.int .i64 (IntKind.i64.wrap (p.sum + r.num)))) := by
  have s1 := h.own.stored (a + 2) (.int .i64 (r.time + gap))
  have s2 := s1.1.stored (a + 3) (.int .i64 (p.many + 1))
  have s3 := s2.1.stored (a + 4) (.int .i64 (IntKind.i64.wrap (p.sum + r.num)))
  have hge : base ≤ go := (h.own.lt go rfl).1
  refine ⟨?_, below_of_only (only_trans (only_trans s1.2 s2.2) s3.2) (by omega) hw⟩
  have e := s3.1
  rw [h.len, List.set_append_right _ _ (by omega), List.set_append_right _ _ (by omega), List.set_append_right _ _ (by omega), Nat.add_sub_cancel_left, Nat.add_sub_cancel_left, Nat.add_sub_cancel_left] at e
  rw [h.len]
  exact e

theorem AtPane.facts {w : World} {base go n c a : Nat} {L : List Value} {p : Pane} (h : AtPane w base go n c a L p) :
    w.frozen? ⟨go, a + 2, none⟩ = false ∧ w.frozen? ⟨go, a + 3, none⟩ = false ∧ w.frozen? ⟨go, a + 4, none⟩ = false ∧
    w.cell? ⟨go, a + 2, none⟩ = some (.int .i64 p.hi) ∧ w.cell? ⟨go, a + 3, none⟩ = some (.int .i64 p.many) ∧ w.cell? ⟨go, a + 4, none⟩ = some (.int .i64 p.sum) :=
  ⟨h.free _, h.free _, h.free _, h.cell 2 (by omega), h.cell 3 (by omega), h.cell 4 (by omega)⟩
theorem new_facts {w : World} {base n a : Nat} {v : Value} {L : List Value} (r : Rec) (h : w.ownsRow base 31 6 v (n + 1) (L ++ (#[.string r.key, .int .i64 r.time, .int .i64 0, .int .i64 0, .int .i64 0, .int .i64 0] : Array Value).toList)) (ha : a = L.length) :
    ∃ go c p, v = .slice (some ⟨go, 0, none⟩) (n + 1) c ∧ Hid (p = Pane.new r) ∧ (0 ≤ p.many ∧ p.many ≤ 1000) ∧ Hid (AtPane w base go (n + 1) c a L p) := by
  obtain ⟨go, c, rfl⟩ := own_some h (by omega)
  exact ⟨go, c, Pane.new r, rfl, Lib.hid rfl, (by show (0 : Int) ≤ 0 ∧ (0 : Int) ≤ 1000; omega), Lib.hid ⟨h, ha⟩⟩

/-- What window.Session hands back. -/
def SessPost (w : World) (l : List Rec) (gap : Int) (v : Value) (w' : World) : Prop :=
  ∃ P, (if sessE l gap = 0 then SessIs gap l P else P = []) ∧ w'.ownsRow w.heap.size 31 6 v P.length (paneCells P) ∧ Below w.heap.size w w'

set_option maxRecDepth 100000 in
set_option maxHeartbeats 8000000 in
theorem session_any (A : Option Addr) (c B : Nat) (l : List Rec) (gap : Int) (w : World) (hr : Rd w B 3 A l.length (recCells l)) (hB : B ≤ w.heap.size) (hok : ∀ r ∈ l, r.Ok) (hl : l.length ≤ 140737488355328) (hg0 : -9223372036854775808 ≤ gap) (hg1 : gap ≤ 9223372036854775807) :
    Calls Try.prog 8 #[.slice A l.length c, .int .i64 gap] w fun e w' => ∃ v, e = .returned (.tuple #[v, errV (sessE l gap)]) ∧ SessPost w l gap v w' := by
  have hchk := check_any A c B l w hr hB hok hl
  by_cases hE : recsE l = 0
  · by_cases hgap : 1 ≤ gap ∧ gap ≤ 1000000
    · have HE : Hid (sessE l gap = 0) := Lib.hid (by rw [sessE, if_neg (by simp [hE]), if_pos hgap])
      obtain ⟨hl4, hrok⟩ : l.length ≤ 400 ∧ ∀ r ∈ l, recOk r = true := by
        unfold recsE at hE
        split at hE
        · cases hE
        · split at hE
          · rename_i h1 h2; exact ⟨by omega, List.all_eq_true.1 h2⟩
          · cases hE
      rw [hE] at hchk
      have HCHK : Hid (Calls Try.prog 24 #[.slice A l.length c] w fun e w' => e = .returned .nilIface ∧ Below w.heap.size w w') := Lib.hid hchk
      have HCL := Lib.hid (fun W (h : Below w.heap.size w W) => cloneK_any A c B l W (hr.below h hB) (Nat.le_trans hB h.size) (by omega))
      clear hchk hE hr
      obtain ⟨g1, g2⟩ := hgap
      have HT := Lib.hid (fun W => time_any gap W)
      simp only [g1, g2, decide_true, Bool.and_self] at HT
      obtain ⟨n, hn⟩ : ∃ n, n = l.length := ⟨_, rfl⟩
      have HN := Lib.hid hn
      rw [← hn] at HCHK HCL hl4 ⊢
      clear hn hl
      go_enter Try.func8, Try.ntmps8
      go_wp2_with (first
        | (go_at_call 24; go_must (refine HCHK.out.mono ?_); rintro e w1 ⟨rfl, hb1⟩)
        | (go_at_call 25; go_must (refine (HT.out _).mono ?_); rintro e w1' ⟨rfl, rfl⟩)
        | (go_at_call 26; go_must (refine (HCL.out _ hb1).mono ?_); rintro e w2 ⟨v2, rfl, ho2, hb2⟩; obtain ⟨A2, c2, rfl, hso⟩ := sess_sorts ho2 HN.out.symm (by omega) hb2.size)
        | (go_at_call 27; go_must (refine hso.mono ?_); rintro e w3 ⟨rfl, s, hsp, hsu, hrs, hb3⟩))
      have hbS := below_up hb1 (hb2.trans hb3)
      have HS := Lib.hid (And.intro hsp hsu)
      clear hsp hsu hso ho2 hb1 hb2 hb3 HCHK HCL HT
      go_loopw [7, 26] (fun b i wr => ∃ (k : Nat) (o : List Pane), k ≤ n ∧ i = .int .i64 k ∧ o.length ≤ k ∧ Hid (o = sessR gap (s.take k)) ∧ wr.ownsRow w3.heap.size 31 6 b o.length (paneCells o.reverse) ∧ Below w3.heap.size w3 wr) (fun _ i _ => n - (intOf i).toNat)
      case atStart => exact ⟨0, [], Nat.zero_le _, rfl, Nat.le_refl _, Lib.hid rfl, World.ownsRow_nil _ _ _ _, Below.refl _ _⟩
      case round =>
        obtain ⟨k, o, hk, rfl, hol, HO, hown, hbel⟩ := hrel
        by_cases hlt : k < n
        · obtain ⟨ad, r, rfl, hx, d0, d1, d2⟩ := hrs.rec_ hlt (by rw [HS.out.1.length_eq]; exact HN.out.symm) hbel (Nat.le_refl _)
          have hrm : r ∈ l := HS.out.1.subset (List.mem_of_getElem? hx)
          obtain ⟨q0, q1, q2⟩ := recOk_parts (hrok r hrm)
          obtain ⟨_, ⟨q3, q4⟩, _⟩ := hok r hrm
          have HX := Lib.hid (sessR_take (gap := gap) hx)
          rw [← HO.out] at HX
          have hM : ∀ p ∈ o, 0 ≤ p.many ∧ p.many ≤ k := by rw [HO.out]; exact fun p hp => many_at hp
          clear hx hrm
          have hsz := hbel.size
          rcases o with _ | ⟨p, ps⟩
          · simp only [List.length_nil, List.reverse_nil] at hown hol
            obtain ⟨Ao, co, rfl, hqo, hco, hbo, hro⟩ := own_form hown
            clear hro hbo
            go_wp2_with fail
            have hbx := Blk.new wr 29 #[.string r.key, .int .i64 r.num, .int .i64 r.time]
            have hownA := hown.alloc (.cells #[.string r.key, .int .i64 r.num, .int .i64 r.time] 29)
            have hbelA := hbel.alloc hbel.size (.cells #[.string r.key, .int .i64 r.num, .int .i64 r.time] 29)
            have hge : w3.heap.size ≤ wr.heap.size := hbel.size
            have hne : ∀ g, Value.ownBlock (.slice Ao 0 co) = some g → g ≠ wr.heap.size := fun g hg => by have := (hown.lt g hg).2; omega
            generalize wr.alloc (.cells #[.string r.key, .int .i64 r.num, .int .i64 r.time] 29) = wa at *
            generalize wr.heap.size = gr at *
            clear hown hbel d0 d1 d2
            go_quiet (fail)
            obtain ⟨wq, hwq⟩ : ∃ wq, wq = wa.drewN nq := ⟨_, rfl⟩
            have hbx2 := hbx.drewN nq
            have hown2 := own_drewN hownA nq
            have hbel2 := below_drewN hbelA nq
            rw [← hwq] at hbx2 hown2 hbel2 ⊢
            clear hwq hbx hownA hbelA
            have e0 := hbx2.cell 0
            have e2 := hbx2.cell 2
            simp at e0 e2
            have hlq := hbel2.size
            go_wp2_with (first | (with_reducible show wpList _ _ _ (⟨some 62, _, _, _, _, _⟩ :: _) _ _; go_must (refine wpList_newg (.tmp 55) (.tmp 61) el_pane rfl rfl hown2 rfl rfl (by simp) rfl rfl (by first | omega | (simp; omega)) (by first | omega | (simp; omega)) ?_); intro v2 w4 ho4 hb4 hg4 ha4; have hbx4 := Blk.app_ hbx2 hg4 hne; have hbel4 := hbel2.trans hb4; have x0 := hbx4.cell 0; have x1 := hbx4.cell 1; have x2 := hbx4.cell 2; simp at x0 x1 x2; obtain ⟨go, c4, p0, rfl, HP, hpm, HAT⟩ := new_facts (a := 0) r ho4 rfl; have hgo : go ≠ gr := row_ne ha4 hne (by have := hbx2.lt; omega) go rfl; obtain ⟨f2, f3, f4, i2, i3, i4⟩ := HAT.out.facts; simp only [Nat.zero_add] at f2 f3 f4 i2 i3 i4))
            have hl4' : w3.heap.size ≤ w4.heap.size := hbel4.size
            have hgo' : gr ≠ go := hgo.symm
            go_region_law
            (fail)
            all_goals go_wp2
            all_goals
              go_roundw
              case rel =>
                obtain ⟨t1, t2⟩ := HAT.out.done gap r (Nat.le_refl _) hl4'
                refine ⟨k + 1, [p0.ext gap r], by omega, by go_num, by first | (have := HM.out; simp; omega) | simp, Lib.hid ?_, ?_, hbel4.trans ?_⟩
                · rw [HX.out]; (rw [HP.out]; rfl)
                · simp only [IntWalk.i64_left, List.length_cons, List.reverse_cons, paneCells_snoc, Nat.zero_add] at t1 ⊢; exact t1
                · simp only [IntWalk.i64_left, Nat.zero_add] at t2; exact t2.drew
              case measure => simp [intOf]; omega
          · simp only [List.length_cons, List.reverse_cons] at hown hol
            rw [paneCells_snoc] at hown
            obtain ⟨go, co, rfl⟩ := own_some hown (by omega)
            have hpm := hM p (List.mem_cons_self ..)
            have HLEN := Lib.hid (show ps.length * 6 = (paneCells ps.reverse).length from by rw [paneCells_len, List.length_reverse])
            obtain ⟨m, hm⟩ : ∃ m, m = ps.length := ⟨_, rfl⟩
            have HM := Lib.hid hm
            rw [← hm] at hown hol HLEN ⊢
            clear hm hM
            go_wp2_with fail
            have hbx := Blk.new wr 29 #[.string r.key, .int .i64 r.num, .int .i64 r.time]
            have hownA := hown.alloc (.cells #[.string r.key, .int .i64 r.num, .int .i64 r.time] 29)
            have hbelA := hbel.alloc hbel.size (.cells #[.string r.key, .int .i64 r.num, .int .i64 r.time] 29)
            have hge : w3.heap.size ≤ wr.heap.size := hbel.size
            have hne : ∀ g, Value.ownBlock (.slice (some ⟨go, 0, none⟩) (m + 1) co) = some g → g ≠ wr.heap.size := fun g hg => by have := (hown.lt g hg).2; omega
            generalize wr.alloc (.cells #[.string r.key, .int .i64 r.num, .int .i64 r.time] 29) = wa at *
            generalize wr.heap.size = gr at *
            clear hown hbel d0 d1 d2
            have HAT0 : Hid (AtPane wa w3.heap.size go (m + 1) co (m * 6) (paneCells ps.reverse) p) := Lib.hid ⟨hownA, HLEN.out⟩
            have hgo : go ≠ gr := hne go rfl
            have y0 := HAT0.out.cell 0 (by omega)
            have y2 := HAT0.out.cell 2 (by omega)
            simp [Pane.cells] at y0 y2
            have z0 := hbx.cell 0
            have z2 := hbx.cell 2
            simp at z0 z2
            have hi2 : IntKind.i64.wrap ((m : Int) + 1 - 1) = (m : Int) := by rw [IntWalk.i64_in _ (by omega)]; omega
            have hi3 : decide ((m : Int) < 0) = false := by simp
            have hi4 : (m : Int) < (m : Int) + 1 := by omega
            have hi6 : (0 : Int) ≤ (m : Int) + 1 := by omega
            have hi5 : (m : Int) + 1 < (m : Int) + 1 + 1 := by omega
            by_cases hkk : (p.key.toList == r.key.toList) = true
            · by_cases ht : r.time < p.hi
              · go_quiet (fail)
                obtain ⟨w4, hw4⟩ : ∃ w4, w4 = wa.drewN nq := ⟨_, rfl⟩
                have hbx4 := hbx.drewN nq
                have hbel4 := below_drewN hbelA nq
                have HAT : Hid (AtPane (wa.drewN nq) w3.heap.size go (m + 1) co (m * 6) (paneCells ps.reverse) p) := Lib.hid ⟨HAT0.out.own, HAT0.out.len⟩
                rw [← hw4] at hbx4 hbel4 HAT ⊢
                clear hw4 hbx hownA hbelA y0 y2 z0 z2
                have x0 := hbx4.cell 0
                have x1 := hbx4.cell 1
                have x2 := hbx4.cell 2
                simp at x0 x1 x2
                obtain ⟨f2, f3, f4, i2, i3, i4⟩ := HAT.out.facts
                go_wp2_with fail
                have hl4' : w3.heap.size ≤ w4.heap.size := hbel4.size
                have hgo' : gr ≠ go := hgo.symm
                go_region_law
                (fail)
                all_goals go_wp2
                all_goals
                  go_roundw
                  case rel =>
                    obtain ⟨t1, t2⟩ := HAT.out.done gap r (Nat.le_refl _) hl4'
                    refine ⟨k + 1, (p.ext gap r :: ps), by omega, by go_num, by first | (have := HM.out; simp; omega) | simp, Lib.hid ?_, ?_, hbel4.trans ?_⟩
                    · rw [HX.out]; (rw [stepR, if_pos (joins_iff.2 ⟨by simpa using hkk, ht⟩)])
                    · simp only [IntWalk.i64_left, List.length_cons, List.reverse_cons, paneCells_snoc] at t1 ⊢; (rw [← HM.out]; exact t1)
                    · simp only [IntWalk.i64_left] at t2; exact t2.drew
                  case measure => simp [intOf]; omega
              · go_quiet (fail)
                obtain ⟨wq, hwq⟩ : ∃ wq, wq = wa.drewN nq := ⟨_, rfl⟩
                have hbx2 := hbx.drewN nq
                have hown2 := own_drewN hownA nq
                have hbel2 := below_drewN hbelA nq
                rw [← hwq] at hbx2 hown2 hbel2 ⊢
                clear hwq hbx hownA hbelA
                have e0 := hbx2.cell 0
                have e2 := hbx2.cell 2
                simp at e0 e2
                have hlq := hbel2.size
                go_wp2_with (first | (with_reducible show wpList _ _ _ (⟨some 62, _, _, _, _, _⟩ :: _) _ _; go_must (refine wpList_newg (.tmp 55) (.tmp 61) el_pane rfl rfl hown2 rfl rfl (by simp) rfl rfl (by first | omega | (simp; omega)) (by first | omega | (simp; omega)) ?_); intro v2 w4 ho4 hb4 hg4 ha4; have hbx4 := Blk.app_ hbx2 hg4 hne; have hbel4 := hbel2.trans hb4; have x0 := hbx4.cell 0; have x1 := hbx4.cell 1; have x2 := hbx4.cell 2; simp at x0 x1 x2; obtain ⟨go, c4, p0, rfl, HP, hpm, HAT⟩ := new_facts (a := ((m + 1) * 6)) r ho4 (by have := HLEN.out; have e6 : p.cells.length = 6 := rfl; rw [List.length_append, ← this, e6]; omega); have hgo : go ≠ gr := row_ne ha4 hne (by have := hbx2.lt; omega) go rfl; obtain ⟨f2, f3, f4, i2, i3, i4⟩ := HAT.out.facts; skip))
                have hl4' : w3.heap.size ≤ w4.heap.size := hbel4.size
                have hgo' : gr ≠ go := hgo.symm
                go_region_law
                (fail)
                all_goals go_wp2
                all_goals
                  go_roundw
                  case rel =>
                    obtain ⟨t1, t2⟩ := HAT.out.done gap r (Nat.le_refl _) hl4'
                    refine ⟨k + 1, ((Pane.new r).ext gap r :: p :: ps), by omega, by go_num, by first | (have := HM.out; simp; omega) | simp, Lib.hid ?_, ?_, hbel4.trans ?_⟩
                    · rw [HX.out]; (rw [stepR, if_neg (fun h => by have := (joins_iff.1 h).2; omega)])
                    · simp only [IntWalk.i64_left, List.length_cons, List.reverse_cons, paneCells_snoc] at t1 ⊢; (rw [← HM.out, ← HP.out]; exact t1)
                    · simp only [IntWalk.i64_left] at t2; exact t2.drew
                  case measure => simp [intOf]; omega
            · go_quiet (fail)
              obtain ⟨wq, hwq⟩ : ∃ wq, wq = wa.drewN nq := ⟨_, rfl⟩
              have hbx2 := hbx.drewN nq
              have hown2 := own_drewN hownA nq
              have hbel2 := below_drewN hbelA nq
              rw [← hwq] at hbx2 hown2 hbel2 ⊢
              clear hwq hbx hownA hbelA
              have e0 := hbx2.cell 0
              have e2 := hbx2.cell 2
              simp at e0 e2
              have hlq := hbel2.size
              go_wp2_with (first | (with_reducible show wpList _ _ _ (⟨some 62, _, _, _, _, _⟩ :: _) _ _; go_must (refine wpList_newg (.tmp 55) (.tmp 61) el_pane rfl rfl hown2 rfl rfl (by simp) rfl rfl (by first | omega | (simp; omega)) (by first | omega | (simp; omega)) ?_); intro v2 w4 ho4 hb4 hg4 ha4; have hbx4 := Blk.app_ hbx2 hg4 hne; have hbel4 := hbel2.trans hb4; have x0 := hbx4.cell 0; have x1 := hbx4.cell 1; have x2 := hbx4.cell 2; simp at x0 x1 x2; obtain ⟨go, c4, p0, rfl, HP, hpm, HAT⟩ := new_facts (a := ((m + 1) * 6)) r ho4 (by have := HLEN.out; have e6 : p.cells.length = 6 := rfl; rw [List.length_append, ← this, e6]; omega); have hgo : go ≠ gr := row_ne ha4 hne (by have := hbx2.lt; omega) go rfl; obtain ⟨f2, f3, f4, i2, i3, i4⟩ := HAT.out.facts; skip))
              have hl4' : w3.heap.size ≤ w4.heap.size := hbel4.size
              have hgo' : gr ≠ go := hgo.symm
              go_region_law
              (fail)
              all_goals go_wp2
              all_goals
                go_roundw
                case rel =>
                  obtain ⟨t1, t2⟩ := HAT.out.done gap r (Nat.le_refl _) hl4'
                  refine ⟨k + 1, ((Pane.new r).ext gap r :: p :: ps), by omega, by go_num, by first | (have := HM.out; simp; omega) | simp, Lib.hid ?_, ?_, hbel4.trans ?_⟩
                  · rw [HX.out]; (rw [stepR, if_neg (fun h => hkk (by simpa using (joins_iff.1 h).1))])
                  · simp only [IntWalk.i64_left, List.length_cons, List.reverse_cons, paneCells_snoc] at t1 ⊢; (rw [← HM.out, ← HP.out]; exact t1)
                  · simp only [IntWalk.i64_left] at t2; exact t2.drew
                case measure => simp [intOf]; omega
        · go_wp2_with fail
          go_ret2
          refine ⟨_, by rw [HE.out]; rfl, o.reverse, ?_, ?_, hbS.trans (hbel.mono hbS.size)⟩
          · rw [if_pos HE.out]
            exact ⟨s, HS.out.1, HS.out.2, by rw [sess, HO.out, List.take_of_length_le (by rw [HS.out.1.length_eq]; have := HN.out; omega)]⟩
          · rw [List.length_reverse]; exact own_base hown hbS.size
    · have HE : Hid (sessE l gap = 1) := Lib.hid (by rw [sessE, if_neg (by simp [hE]), if_neg hgap])
      rw [hE] at hchk
      have HCHK : Hid (Calls Try.prog 24 #[.slice A l.length c] w fun e w' => e = .returned .nilIface ∧ Below w.heap.size w w') := Lib.hid hchk
      have HT : Hid (∀ W, Calls Try.prog 25 #[.int .i64 gap] W fun e w' => e = .returned (.bool false) ∧ W = w') := Lib.hid (fun W => by
        have := time_any gap W
        rwa [show (decide (1 ≤ gap) && decide (gap ≤ 1000000)) = false from by rw [← Bool.not_eq_true]; simpa using hgap] at this)
      clear hchk hE hr hgap
      go_enter Try.func8, Try.ntmps8
      go_wp2_with (first
        | (go_at_call 24; go_must (refine HCHK.out.mono ?_); rintro e w1 ⟨rfl, hb1⟩)
        | (go_at_call 25; go_must (refine (HT.out _).mono ?_); rintro e w1' ⟨rfl, rfl⟩))
      go_ret2
      exact ⟨_, by rw [HE.out]; rfl, [], (by rw [if_neg (by have := HE.out; omega)]), World.ownsRow_nil _ _ _ _, hb1⟩
  · have HE : Hid (sessE l gap = recsE l ∧ recsE l ≠ 0) := Lib.hid ⟨by rw [sessE, if_pos hE], hE⟩
    obtain ⟨q, hq⟩ : ∃ q : Int, errV (recsE l) = .iface 63 (.int .i64 q) := by
      unfold recsE at hE ⊢
      split
      · exact ⟨4, rfl⟩
      · rename_i h1
        rw [if_neg h1] at hE
        split
        · rename_i h2; exact absurd (if_pos h2) hE
        · exact ⟨1, rfl⟩
    rw [hq] at hchk
    have HQ := Lib.hid hq
    have HCHK : Hid (Calls Try.prog 24 #[.slice A l.length c] w fun e w' => e = .returned (.iface 63 (.int .i64 q)) ∧ Below w.heap.size w w') := Lib.hid hchk
    clear hchk hE hr hq
    go_enter Try.func8, Try.ntmps8
    go_wp2_with (first
      | (go_at_call 24; go_must (refine HCHK.out.mono ?_); rintro e w1 ⟨rfl, hb1⟩))
    go_ret2
    exact ⟨_, by rw [HE.out.1, HQ.out]; rfl, [], (by rw [if_neg (by rw [HE.out.1]; exact HE.out.2)]), World.ownsRow_nil _ _ _ _, hb1⟩
end Go.Proofs.Ytelailhghhjleaa
