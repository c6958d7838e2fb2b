/- The walk of weirref2.Slide. -/
import Derived.Test.YtelailhghhjleaaDoorWalkSSess
import Derived.Test.YtelailhghhjleaaDoorWalkSlide
import Derived.Test.YtelailhghhjleaaDoorPlainSlide3
namespace Go.Proofs.YtelailhghhjleaaDoor
open Go.RowKit Go.Sort Go.Shelf Go.Lib

theorem cells_set : ∀ (N : List Pane) (t j : Nat) (p p' : Pane) (u : Value), N[t]? = some p → j < 6 → p.cells.set j u = p'.cells → (paneCells N).set (t * 6 + j) u = paneCells (N.set t p') := by
  intro N
  induction N with
  | nil => intro t j p p' u h; simp at h
  | cons x N ih =>
    intro t j p p' u h hj he
    have hc : x.cells.length = 6 := rfl
    rcases t with _ | t
    · obtain rfl : x = p := by simpa using h
      rw [Nat.zero_mul, Nat.zero_add, List.set_cons_zero, paneCells, paneCells, List.flatMap_cons, List.flatMap_cons, List.set_append_left _ _ (by omega), he]
    · rw [List.set_cons_succ, paneCells, paneCells, List.flatMap_cons, List.flatMap_cons, List.set_append_right _ _ (by omega)]
      have := ih t j p p' u (by simpa using h) hj he
      rw [paneCells, paneCells] at this
      rw [← this]
      congr 2
      rw [hc]; omega
theorem cells_at {N : List Pane} {t j : Nat} {p : Pane} (h : N[t]? = some p) (hj : j < 6) : (paneCells N)[t * 6 + j]? = p.cells[j]? := by
  have e := flat_at Pane.cells 6 (fun _ => rfl) N t j hj
  rw [h] at e
  exact e
/-- The panes of a row of the call's own, one of them looked at. -/
theorem own_pane {w : World} {base g n c t : Nat} {N : List Pane} {p : Pane} (h : w.ownsRow base 86 6 (.slice (some ⟨g, 0, none⟩) n c) n (paneCells N)) (hl : N.length = n) (hp : N[t]? = some p) :
    w.cell? ⟨g, t * 6 + 3, none⟩ = some (.int .i64 p.many) ∧ w.cell? ⟨g, t * 6 + 4, none⟩ = some (.int .i64 p.sum) ∧ w.cell? ⟨g, t * 6 + 5, none⟩ = some (.int .i64 p.late) ∧
    w.frozen? ⟨g, t * 6 + 3, none⟩ = false ∧ w.frozen? ⟨g, t * 6 + 4, none⟩ = false ∧ w.frozen? ⟨g, t * 6 + 5, none⟩ = false := by
  have ht := (List.getElem?_eq_some_iff.1 hp).1
  have hlen := paneCells_len N
  refine ⟨?_, ?_, ?_, h.frozenAt _, h.frozenAt _, h.frozenAt _⟩
  · rw [h.cellAt _ (by omega), cells_at hp (by omega)]; rfl
  · rw [h.cellAt _ (by omega), cells_at hp (by omega)]; rfl
  · rw [h.cellAt _ (by omega), cells_at hp (by omega)]; rfl
theorem refTo_len (r : Rec) (size b mark : Int) (N : List Pane) : ∀ j, (refTo r size b mark N j).length ≤ N.length + j := by
  have hu : ∀ (N : List Pane) (k : ByteArray) (f size mark num : Int), (refUpd N k f size mark num).length ≤ N.length + 1 := by
    intro N k f size mark num
    rw [refUpd]
    split
    · rw [List.length_set]; omega
    · rw [List.length_set, place_len]; omega
  intro j
  induction j with
  | zero => exact Nat.le_refl _
  | succ j ih =>
    rw [refTo]
    split
    · omega
    · have := hu (refTo r size b mark N j) r.key (r.time / b * b - 17 * b + b * j) size mark r.num
      omega

theorem refUpd_hi {N : List Pane} {k : ByteArray} {f size mark num : Int} (h : ∀ p ∈ N, p.hi = p.lo + size) : ∀ p ∈ refUpd N k f size mark num, p.hi = p.lo + size := by
  intro p hp
  have hb := bump_key mark num
  rw [refUpd] at hp
  split at hp
  · rcases List.mem_or_eq_of_mem_set hp with hp | rfl
    · exact h p hp
    · rw [(hb _).2.1, (hb _).2.2]
      rcases hq : N[spot (freshP k f size) N]? with _ | q
      · rfl
      · exact h q (List.mem_of_getElem? hq)
  · rcases List.mem_or_eq_of_mem_set hp with hp | rfl
    · rw [place_at] at hp
      rcases List.mem_append.1 hp with hp | hp
      · exact h p (List.mem_of_mem_take hp)
      · rcases List.mem_cons.1 hp with rfl | hp
        · rfl
        · exact h p (List.mem_of_mem_drop hp)
    · rw [(hb _).2.1, (hb _).2.2]; rfl
theorem refTo_hi {r : Rec} {size b mark : Int} {N : List Pane} (h : ∀ p ∈ N, p.hi = p.lo + size) : ∀ j, ∀ p ∈ refTo r size b mark N j, p.hi = p.lo + size := by
  intro j
  induction j with
  | zero => exact h
  | succ j ih =>
    rw [refTo]
    split
    · exact ih
    · exact refUpd_hi ih
theorem refSlide_hi {size b slack : Int} {l : List Rec} : ∀ i, ∀ p ∈ refSlide size b slack l i, p.hi = p.lo + size := by
  intro i
  induction i with
  | zero => intro p hp; cases hp
  | succ i ih => rw [refSlide]; exact refTo_hi ih 18

theorem row_ge2 {v u : Value} {B h : Nat} (ha : v.ownBlock = u.ownBlock ∨ v.ownBlock = some h) (hu : ∀ g, u.ownBlock = some g → B ≤ g) (hB : B ≤ h) : ∀ g, v.ownBlock = some g → B ≤ g := by
  intro g hg
  rcases ha with e | e
  · rw [e] at hg; exact hu g hg
  · rw [e] at hg; injection hg with hg; omega

set_option maxRecDepth 100000 in
set_option maxHeartbeats 16000000 in
theorem rslide_good (A : Option Addr) (c B : Nat) (l : List Rec) (size by_ slack : Int) (w : World) (hr : Rd w B 3 A l.length (recCells l)) (hB : B ≤ w.heap.size) (hok : ∀ r ∈ l, r.Ok) (hl : l.length ≤ 400)
    (hE : recsE l = 0) (s0 : 1 ≤ size) (s1 : size ≤ 1000000) (b0 : 1 ≤ by_) (b1 : by_ ≤ 1000000) (k0 : 0 ≤ slack) (k1 : slack ≤ 1000000) (hsb : size ≤ 16 * by_) :
    Calls Tryd.prog 23 #[.slice A l.length c, .int .i64 size, .int .i64 by_, .int .i64 slack] w fun e w' => ∃ v, e = .returned (.tuple #[v, .int .i64 0]) ∧ w'.ownsRow w.heap.size 86 6 v (refSlide size by_ slack l l.length).length (paneCells (refSlide size by_ slack l l.length)) ∧ Below w.heap.size w w' := by
  obtain ⟨n, hn⟩ : ∃ n, n = l.length := ⟨_, rfl⟩
  have Hn := Lib.hid hn
  rw [← hn] at hr hl ⊢
  clear hn
  have HA := Lib.hid (recsE_all hE)
  have HOK := Lib.hid hok
  clear hE hok
  go_enter Tryd.func23, Tryd.ntmps23
  go_wp2_with fail
  go_loopw [10] (fun i wr => ∃ k : Nat, k ≤ n ∧ i = .int .i64 k ∧ Below w.heap.size w wr) (fun i _ => n - (intOf i).toNat)
  case atStart => exact ⟨0, Nat.zero_le _, rfl, Below.refl _ _⟩
  obtain ⟨k, hk, rfl, hbel⟩ := hrel
  by_cases hlt : k < n
  · obtain ⟨ad, r, rfl, hx, d0, d1, d2⟩ := hr.rec_ hlt (Hn.out).symm hbel hB
    have hro := HOK.out r (List.mem_of_getElem? hx)
    have HC := Lib.hid (fun W => srecord_is r W hro.1 (HA.out r (List.mem_of_getElem? hx)))
    have hk0 : (0 : Int) ≤ (k : Int) := by omega
    have hk1 : (k : Int) < (n : Int) := by omega
    clear hx hro
    go_wp2_with (first | (go_at_call 35; refine (HC.out _).mono ?_; rintro e w2 ⟨rfl, hb2⟩))
    go_roundw
    case rel => exact ⟨k + 1, by omega, by go_num, below_up hbel hb2⟩
    case measure => simp [intOf]; omega
  · have q1 : decide (slack < 0) = false := by simp; omega
    have q2 : decide (1000000 < slack) = false := by simp; omega
    have q3 : decide (16 * by_ < size) = false := by simp; omega
    have q4 : decide (size < 1) = false := by simp; omega
    have q5 : decide (1000000 < size) = false := by simp; omega
    have q6 : decide (by_ < 1) = false := by simp; omega
    have q7 : decide (1000000 < by_) = false := by simp; omega
    go_wp2_with fail
    clear q1 q2 q3 q4 q5 q6 q7 hlt hk
    go_loopw [12, 13, 14] (fun o m i wr => ∃ (k : Nat) (P : List Pane), k ≤ n ∧ i = .int .i64 k ∧ m = .int .i64 (markTo slack (l.take k)) ∧ P.length ≤ 18 * k ∧ Hid (P = refSlide size by_ slack l k) ∧ wr.ownsRow w.heap.size 86 6 o P.length (paneCells P) ∧ Below w.heap.size w wr) (fun _ _ i _ => n - (intOf i).toNat)
    case atStart => exact ⟨0, [], Nat.zero_le _, rfl, rfl, Nat.le_refl _, Lib.hid rfl, World.ownsRow_nil _ _ _ _, hbel⟩
    clear hbel
    obtain ⟨k, P, hk, rfl, rfl, hPk, HP, hown, hbel⟩ := hrel
    have hws := hbel.size
    by_cases hlt : k < n
    · obtain ⟨ad, r, rfl, hx, d0, d1, d2⟩ := hr.rec_ hlt (Hn.out).symm hbel hB
      obtain ⟨r1, r2, r3⟩ := recOk_parts (HA.out _ (List.mem_of_getElem? hx))
      have HX := Lib.hid hx
      have HM : Hid (markTo slack (l.take (k + 1)) = max (markTo slack (l.take k)) (r.time - slack)) := Lib.hid (markTo_succ hx)
      have HS : Hid (refSlide size by_ slack l (k + 1) = refTo r size by_ (markTo slack (l.take k)) P 18) := Lib.hid (by rw [refSlide, recAt_of hx, ← HP.out])
      have HHP : Hid (∀ p ∈ P, p.hi = p.lo + size) := Lib.hid (by rw [HP.out]; exact refSlide_hi k)
      obtain ⟨mk, hmk⟩ : ∃ mk, mk = markTo slack (l.take k) := ⟨_, rfl⟩
      have hmkb := markTo_bounds k0 (l := l.take k) (slack := slack) (fun x hx => (recOk_parts (HA.out x (List.mem_of_mem_take hx))).2.2)
      rw [← hmk] at HS HM hmkb ⊢
      clear hx hmk
      have hk0 : (0 : Int) ≤ (k : Int) := by omega
      have hk1 : (k : Int) < (n : Int) := by omega
      obtain ⟨F0, hF0⟩ : ∃ F0, F0 = r.time / by_ * by_ := ⟨_, rfl⟩
      obtain ⟨f0, f1⟩ := last_at r2 b0 hF0
      have hF0u : r.time < F0 + by_ := by
        have h1 := Int.lt_ediv_add_one_mul_self r.time (by omega : 0 < by_)
        rw [Int.add_mul, Int.one_mul, ← hF0] at h1
        exact h1
      have f2 : wrap64 (wrap64 (r.time / by_ * by_) - 17 * by_) = F0 - 17 * by_ := by rw [← hF0]; unfold wrap64; omega
      have HF2 := Lib.hid f2
      have HF0 := Lib.hid hF0
      clear f2 hF0
      go_upto_region 19 with fail
      rw [HF2.out]
      have hbel3 := hbel.alloc hws (.cells #[.string r.key, .int .i64 r.num, .int .i64 r.time] 74)
      have hrb := Blk.new wr 74 #[.string r.key, .int .i64 r.num, .int .i64 r.time]
      have hown3 := hown.alloc (.cells #[.string r.key, .int .i64 r.num, .int .i64 r.time] 74)
      have hne0 : ∀ g, u12.ownBlock = some g → g ≠ wr.heap.size := fun g hg => by have := (hown.lt g hg).2; omega
      obtain ⟨rb, hrbe⟩ : ∃ rb, rb = wr.heap.size := ⟨_, rfl⟩
      rw [← hrbe] at hrb hne0 ⊢
      have hrw : w.heap.size ≤ rb := by omega
      generalize wr.alloc (.cells #[.string r.key, .int .i64 r.num, .int .i64 r.time] 74) = w3 at *
      clear hrbe hown hbel d0 d1 d2 HF2
      go_loopw [12, 17] (fun o f wz => ∃ (j : Nat) (F : Int) (N : List Pane), f = .int .i64 F ∧ Hid (F = F0 - 17 * by_ + by_ * (j : Nat)) ∧ j ≤ 18 ∧ -17000000 ≤ F ∧ F ≤ 2000000 ∧ Hid (N = refTo r size by_ mk P j) ∧ N.length ≤ P.length + j ∧ wz.ownsRow w.heap.size 86 6 o N.length (paneCells N) ∧ (∀ g, o.ownBlock = some g → g ≠ rb) ∧ Blk wz rb 74 #[.string r.key, .int .i64 r.num, .int .i64 r.time] ∧ Below w.heap.size w wz) (fun _ f _ => (2000001 - intOf f).toNat)
      case atStart => exact ⟨0, F0 - 17 * by_, P, rfl, Lib.hid (by simp), by omega, by omega, by omega, Lib.hid rfl, Nat.le_refl _, hown3, hne0, hrb, hbel3⟩
      clear hown3 hne0 hrb hbel3 hws
      obtain ⟨j, F, N, rfl, HF, hj, hFl, hFu, HRT, hNl, hown, hne, hrb, hbel⟩ := hrel
      have hws := hbel.size
      obtain ⟨x0, x1, x2⟩ := cells3s hrb
      by_cases hFT : F ≤ r.time
      · have hj18 : j < 18 := by
          rcases Nat.lt_or_ge j 18 with h | h
          · exact h
          · have e : j = 18 := by omega
            have := HF.out
            rw [e] at this
            omega
        have HFN : Hid (F + by_ = F0 - 17 * by_ + by_ * ((j + 1 : Nat) : Int)) := Lib.hid (by rw [HF.out, Int.natCast_add, Int.mul_add]; omega)
        have HFF : Hid (F = r.time / by_ * by_ - 17 * by_ + by_ * (j : Nat)) := Lib.hid (by rw [HF.out, HF0.out])
        by_cases hF0n : F < 0
        · have HRS : Hid (N = refTo r size by_ mk P (j + 1)) := Lib.hid (by rw [refTo, if_pos (by rw [← HFF.out]; exact .inl hF0n)]; exact HRT.out)
          go_wp2_with fail
          go_roundw
          case rel => exact ⟨j + 1, F + by_, N, by go_num, HFN, by omega, by omega, by omega, HRS, by omega, hown, hne, hrb, hbel⟩
          case measure => simp [intOf]; omega
        by_cases hFs : F + size ≤ r.time
        · have HRS : Hid (N = refTo r size by_ mk P (j + 1)) := Lib.hid (by rw [refTo, if_pos (by rw [← HFF.out]; exact .inr hFs)]; exact HRT.out)
          have hF0q : decide (F < 0) = false := by simpa using hF0n
          go_wp2_with fail
          go_roundw
          case rel => exact ⟨j + 1, F + by_, N, by go_num, HFN, by omega, by omega, by omega, HRS, by omega, hown, hne, hrb, hbel⟩
          case measure => simp [intOf]; omega
        · have HRS : Hid (refTo r size by_ mk P (j + 1) = refUpd N r.key F size mk r.num) := Lib.hid (by rw [refTo, if_neg (by rw [← HFF.out]; omega), ← HFF.out, ← HRT.out])
          have hF0q : decide (F < 0) = false := by simpa using hF0n
          have hFsq : decide (F + size ≤ r.time) = false := by simpa using hFs
          have HHI0 := Lib.hid (refTo_hi (r := r) (size := size) (b := by_) (mark := mk) HHP.out j)
          obtain ⟨nn, hnn⟩ : ∃ nn, nn = N.length := ⟨_, rfl⟩
          have HN := Lib.hid hnn
          rw [← hnn] at hown hNl
          clear hnn
          obtain ⟨AN, cN, rfl, hnc, hcN, hAN, _⟩ := own_form hown
          go_wp2_with fail
          go_loopw [18] (fun x wz => ∃ t : Nat, t ≤ nn ∧ x = .int .i64 t ∧ Hid (∀ (u : Nat) (q : Pane), u < t → N[u]? = some q → before (freshP r.key F size) q = true) ∧ Blk wz rb 74 #[.string r.key, .int .i64 r.num, .int .i64 r.time] ∧ wz.ownsRow w.heap.size 86 6 (.slice AN nn cN) nn (paneCells N) ∧ Below w.heap.size w wz) (fun x _ => nn - (intOf x).toNat)
          case atStart => exact ⟨0, Nat.zero_le _, rfl, Lib.hid (fun u q hu _ => absurd hu (by omega)), hrb, hown, hbel⟩
          clear hown hrb hbel hws x0 x1 x2 hAN
          obtain ⟨t, ht, rfl, HB, hrb, hown, hbel⟩ := hrel
          have hws := hbel.size
          obtain ⟨x0, x1, x2⟩ := cells3s hrb
          have hrN := own_rd hown
          have ht0 : (0 : Int) ≤ (t : Int) := by omega
          by_cases htn : t < nn
          · obtain ⟨ad2, q, hAd, _, hq, e0, e1, e2, e3, e4, e5⟩ := hrN.pane_ htn HN.out.symm
            subst hAd
            have Hq := Lib.hid hq
            clear hq e2 e3 e4 e5
            have ht1 : (t : Int) < (nn : Int) := by omega
            have htq : ((t : Int) == (nn : Int)) = false := by simp; omega
            by_cases hk1 : q.key.toList < r.key.toList
            · have hb1 : Op.bytesLess q.key.toList r.key.toList = true := by rw [bytesLess_is]; simpa using hk1
              have HB2 := Lib.hid (spot_more Hq.out (before_iff.2 (.inl hk1)) HB.out)
              clear hk1
              go_wp2_with fail
              go_quiet (fail)
              go_wp2_with fail
              go_roundw
              case rel => exact ⟨t + 1, by omega, by go_num, HB2, hrb.drewN _, own_drewN hown _, below_drewN hbel _⟩
              case measure => simp [intOf]; omega
            · have hb1 : Op.bytesLess q.key.toList r.key.toList = false := by rw [bytesLess_is]; simpa using hk1
              by_cases hk2 : q.key.toList = r.key.toList
              · have hb2 : (q.key.toList == r.key.toList) = true := by simpa using hk2
                by_cases hk3 : q.lo < F
                · have HB2 := Lib.hid (spot_more Hq.out (before_iff.2 (.inr ⟨hk2, hk3⟩)) HB.out)
                  clear hk1 hk2
                  go_wp2_with fail
                  go_quiet (fail)
                  go_wp2_with fail
                  go_roundw
                  case rel => exact ⟨t + 1, by omega, by go_num, HB2, hrb.drewN _, own_drewN hown _, below_drewN hbel _⟩
                  case measure => simp [intOf]; omega
                · have HSP := Lib.hid (spot_stop (p := freshP r.key F size) Hq.out (before_not hk1 (fun h => hk3 h.2)) HB.out)
                  have hk3q : decide (q.lo < F) = false := by simpa using hk3
                  by_cases hk4 : q.lo = F
                  · have HK2 := Lib.hid hk2
                    have HK4 := Lib.hid hk4
                    have hk5 : (q.lo == F) = true := by simpa using hk4
                    have hk6 : (q.lo != F) = false := by simpa using hk4
                    clear hk1 hk2 hk4
                    clear HB
                    go_wp2_with fail
                    go_quiet (fail)
                    have ec : wr.cell? = (wr.drewN nq).cell? := rfl
                    rw [ec] at e0 e1 x0
                    replace hrb := hrb.drewN nq
                    replace hown := own_drewN hown nq
                    replace hbel := below_drewN hbel nq
                    clear ec hrN hws
                    generalize wr.drewN nq = wq at *
                    go_wp2_with fail
                    go_quiet (fail)
                    replace hrb := hrb.drewN nq
                    replace hown := own_drewN hown nq
                    replace hbel := below_drewN hbel nq
                    clear e0 e1 x0
                    generalize wq.drewN nq = wp at *
                    have HPT : Hid (N[t]? = some q) := Lib.hid Hq.out
                    have HHI : Hid (q.hi = F + size) := Lib.hid (by rw [HHI0.out q (by rw [← HRT.out]; exact List.mem_of_getElem? Hq.out), HK4.out])
                    have HRU : Hid (refUpd N r.key F size mk r.num = N.set t (bump mk r.num q)) := Lib.hid (by
                      rw [refUpd, HSP.out, Hq.out, if_pos (by simp [isAt_iff, HK4.out, bytes_same HK2.out])]; rfl)
                    have hown9 := hown
                    have hrb9 := hrb
                    have hbel9 := hbel
                    have hne9 := hne
                    have HN9 := HN
                    have hn9l : nn ≤ nn + 1 := by omega
                    clear hown hrb hbel
                    have hws9 := hbel9.size
                    obtain ⟨x0, x1, x2⟩ := cells3s hrb9
                    have htl : t < nn := by have := (List.getElem?_eq_some_iff.1 HPT.out).1; have := HN9.out; omega
                    obtain ⟨g9, c9, hv9⟩ := own_some hown9 (by omega)
                    cases hv9
                    obtain ⟨v3, v4, v5, z3, z4, z5⟩ := own_pane hown9 HN9.out.symm HPT.out
                    have hgr9 : g9 ≠ rb := hne9 g9 rfl
                    have hgb9 := (hown9.lt g9 rfl).1
                    have hgl9 := (hown9.lt g9 rfl).2
                    have ht8 : (0 : Int) ≤ (t : Int) := by omega
                    have ht9 : (t : Int) < (nn : Int) := by omega
                    have HRL : Hid (N.set t (bump mk r.num q) = refTo r size by_ mk P (j + 1)) := Lib.hid (by rw [HRS.out, HRU.out])
                    by_cases hlate : F + size ≤ mk
                    · have HB : Hid (bump mk r.num q = ⟨q.key, q.lo, q.hi, q.many, q.sum, wrap64 (q.late + 1)⟩) := Lib.hid (by rw [bump, if_pos (by rw [HHI.out]; exact hlate)])
                      have s1 := (hown9.stored (t * 6 + 5) (.int .i64 (wrap64 (q.late + 1)))).1
                      rw [cells_set N t 5 q (bump mk r.num q) _ HPT.out (by omega) (by rw [HB.out]; rfl)] at s1
                      have hrb10 := hrb9.far (p := ⟨g9, t * 6 + 5, none⟩) (by simpa using fun e => hgr9 e.symm) (.int .i64 (wrap64 (q.late + 1)))
                      go_wp2_with fail
                      go_roundw
                      case rel => exact ⟨j + 1, F + by_, N.set t (bump mk r.num q), by go_num, HFN, by omega, by omega, by omega, HRL, by rw [List.length_set, ← HN9.out]; omega, by rw [List.length_set, ← HN9.out]; exact s1, (fun g hg => by cases hg; exact hgr9), hrb10, hbel9.setCell hgb9 _⟩
                      case measure => simp [intOf]; omega
                    · have HB : Hid (bump mk r.num q = ⟨q.key, q.lo, q.hi, wrap64 (q.many + 1), wrap64 (q.sum + r.num), q.late⟩) := Lib.hid (by rw [bump, if_neg (by rw [HHI.out]; exact hlate)])
                      go_upto_region 33 with fail
                      have s1 := (hown9.stored (t * 6 + 3) (.int .i64 (wrap64 (q.many + 1)))).1
                      rw [cells_set N t 3 q ⟨q.key, q.lo, q.hi, wrap64 (q.many + 1), q.sum, q.late⟩ _ HPT.out (by omega) rfl] at s1
                      have hrb10 := hrb9.far (p := ⟨g9, t * 6 + 3, none⟩) (by simpa using fun e => hgr9 e.symm) (.int .i64 (wrap64 (q.many + 1)))
                      have hbel10 : Below w.heap.size w (wp.setCell ⟨g9, t * 6 + 3, none⟩ (.int .i64 (wrap64 (q.many + 1)))) := hbel9.setCell hgb9 _
                      generalize wp.setCell ⟨g9, t * 6 + 3, none⟩ (.int .i64 (wrap64 (q.many + 1))) = w8 at *
                      clear v3 v4 v5 z3 z4 z5 x0 x1 x2
                      have hlt9 : t < N.length := by have := HN9.out; omega
                      have HPT2 : Hid ((N.set t ⟨q.key, q.lo, q.hi, wrap64 (q.many + 1), q.sum, q.late⟩)[t]? = some ⟨q.key, q.lo, q.hi, wrap64 (q.many + 1), q.sum, q.late⟩) := Lib.hid (by rw [List.getElem?_set_self hlt9])
                      obtain ⟨v3, v4, v5, z3, z4, z5⟩ := own_pane s1 (by rw [List.length_set]; exact HN9.out.symm) HPT2.out
                      dsimp only at v3 v4 v5
                      obtain ⟨x0, x1, x2⟩ := cells3s hrb10
                      go_region
                      go_wp2_with fail
                      go_roundw
                      case rel =>
                        have s2 := (s1.stored (t * 6 + 4) (.int .i64 (wrap64 (q.sum + r.num)))).1
                        rw [cells_set _ t 4 _ (bump mk r.num q) _ HPT2.out (by omega) (by rw [HB.out]; rfl), List.set_set] at s2
                        exact ⟨j + 1, F + by_, N.set t (bump mk r.num q), by go_num, HFN, by omega, by omega, by omega, HRL, by rw [List.length_set, ← HN9.out]; omega, by rw [List.length_set, ← HN9.out]; exact s2, (fun g hg => by cases hg; exact hgr9), (hrb10.far (p := ⟨g9, t * 6 + 4, none⟩) (by simpa using fun e => hgr9 e.symm) _).drew, (hbel10.setCell hgb9 _).drew⟩
                      case measure => simp [intOf]; omega
                  · have HNO : Hid ((N[t]?).any (isAt r.key F) = false) := Lib.hid (by
                      rw [Hq.out]
                      simp only [Option.any_some]
                      rcases hh : isAt r.key F q with _ | _
                      · rfl
                      · exact absurd (isAt_iff.1 hh).2 hk4)
                    have hk5 : (q.lo == F) = false := by simpa using hk4
                    have hk6 : (q.lo != F) = true := by simpa using hk4
                    clear hk1 hk2 hk4
                    clear HB
                    go_wp2_with fail
                    go_quiet (fail)
                    have ec : wr.cell? = (wr.drewN nq).cell? := rfl
                    rw [ec] at e0 e1 x0
                    replace hrb := hrb.drewN nq
                    replace hown := own_drewN hown nq
                    replace hbel := below_drewN hbel nq
                    clear ec hrN hws
                    generalize wr.drewN nq = wq at *
                    go_wp2_with fail
                    go_quiet (fail)
                    replace hrb := hrb.drewN nq
                    replace hown := own_drewN hown nq
                    replace hbel := below_drewN hbel nq
                    clear e0 e1 x0
                    generalize wq.drewN nq = wp at *
                    have hrN4 := own_rd hown
                    obtain ⟨B4, hB4e⟩ : ∃ b, b = wp.heap.size := ⟨_, rfl⟩
                    have hB4 : B4 ≤ wp.heap.size := by omega
                    have hrbl := hrb.lt
                    rw [← hB4e] at hrN4 hrbl
                    clear hB4e
                    obtain ⟨x0, x1, x2⟩ := cells3s hrb
                    generalize some ad2 = AN at hrN4 ⊢
                    have hs1 : (t : Int) ≤ (cN : Int) := by omega
                    have hs2 : (t : Int) ≤ (nn : Int) := by omega
                    go_upto_region 30 with (first
                      | (with_reducible show wpList _ _ _ (⟨some 163, _, _, _, _, _⟩ :: _) _ _; go_must (refine wpList_rd (.tmp 159) (.tmp 162) el_pane rfl rfl (World.ownsRow_nil _ w.heap.size _ _) rfl (hrN4.take ht) rfl (fun u hu => paneCells_one N u (List.mem_of_mem_take hu)) (by omega) hbel.size ?_); intro v5 w5 ho5 hb5 hg5 ha5; go_must (have hrb5 := hrb.grown hg5 (none_row _); have hrN5 := hrN4.grown hg5 hB4 (none_ge _); obtain ⟨x0, x1, x2⟩ := cells3s hrb5; have hB6 : B4 ≤ w5.heap.size := Nat.le_trans hB4 hg5.size; have hz5 : w.heap.size ≤ w5.heap.size := Nat.le_trans hbel.size hb5.size; have hge5 := row_ge ha5 hB4))
                      | (with_reducible show wpList _ _ _ (⟨some 173, _, _, _, _, _⟩ :: _) _ _; go_must (refine wpList_newg (.tmp 164) (.tmp 172) el_pane rfl rfl ho5 rfl rfl (by first | rfl | simp) rfl rfl (by omega) hz5 ?_); intro v6 w6 ho6 hb6 hg6 ha6; go_must (have hrb6 := hrb5.grown hg6 (fun e => by have := hge5 _ e.symm; omega); have hrN6 := hrN5.grown hg6 hB6 hge5; have hz6 : w.heap.size ≤ w6.heap.size := Nat.le_trans hz5 hb6.size; have hge6 := row_ge2 ha6 hge5 (by omega : B4 ≤ w5.heap.size + 1)))
                      | (with_reducible show wpList _ _ _ (⟨some 178, _, _, _, _, _⟩ :: _) _ _; go_must (refine wpList_rd (.tmp 174) (.tmp 177) el_pane rfl rfl ho6 rfl (hrN6.cut_lt htn hnc) rfl (fun u hu => paneCells_one N u (List.mem_of_mem_drop hu)) (by omega) hz6 ?_); intro v7 w7 ho7 hb7 hg7 ha7; go_must (have hrb7 := hrb6.grown hg7 (fun e => by have := hge6 _ e.symm; omega))))
                    have hpl : place (freshP r.key F size) N = N.take t ++ freshP r.key F size :: N.drop t := by rw [place_at, HSP.out]
                    have hpn : (place (freshP r.key F size) N).length = 0 + t + 1 + (nn - t) := by rw [place_len]; have := HN.out; omega
                    obtain ⟨N9, hN9⟩ : ∃ N9, N9 = place (freshP r.key F size) N := ⟨_, rfl⟩
                    obtain ⟨p0, hp0⟩ : ∃ p0, p0 = freshP r.key F size := ⟨_, rfl⟩
                    obtain ⟨n9, hn9⟩ : ∃ n9, n9 = N9.length := ⟨_, rfl⟩
                    have HN9 := Lib.hid hn9
                    have hown9 : w7.ownsRow w.heap.size 86 6 v7 n9 (paneCells N9) := by rw [hn9, hN9, hpn, hpl, ← paneCells_mid]; exact ho7
                    have HPT : Hid (N9[t]? = some p0) := Lib.hid (by rw [hN9, hp0, hpl, List.getElem?_append_right (by rw [List.length_take]; omega), List.length_take, show t - min t N.length = 0 by have := HN.out; omega]; rfl)
                    have HHI : Hid (p0.hi = F + size) := Lib.hid (by rw [hp0]; rfl)
                    have HRU : Hid (refUpd N r.key F size mk r.num = N9.set t (bump mk r.num p0)) := Lib.hid (by rw [refUpd, HSP.out, HNO.out, if_neg (by simp), hN9, hp0])
                    have hn9l : n9 ≤ nn + 1 := by have := HN9.out; rw [hN9, hpn] at this; omega
                    have hne9 : ∀ g, v7.ownBlock = some g → g ≠ rb := fun g hg => by
                      rcases ha7 with e | e
                      · rw [e] at hg; have := hge6 g hg; omega
                      · rw [e] at hg; injection hg with hg; have := hb5.size; have := hb6.size; omega
                    have hrb9 := hrb7
                    have hbel9 := hbel.trans (hb5.trans (hb6.trans hb7))
                    clear hpl hpn hN9 hp0 hn9 ho5 ho6 ho7 hown
                    have hws9 := hbel9.size
                    obtain ⟨x0, x1, x2⟩ := cells3s hrb9
                    have htl : t < n9 := by have := (List.getElem?_eq_some_iff.1 HPT.out).1; have := HN9.out; omega
                    obtain ⟨g9, c9, hv9⟩ := own_some hown9 (by omega)
                    cases hv9
                    obtain ⟨v3, v4, v5, z3, z4, z5⟩ := own_pane hown9 HN9.out.symm HPT.out
                    have hgr9 : g9 ≠ rb := hne9 g9 rfl
                    have hgb9 := (hown9.lt g9 rfl).1
                    have hgl9 := (hown9.lt g9 rfl).2
                    have ht8 : (0 : Int) ≤ (t : Int) := by omega
                    have ht9 : (t : Int) < (n9 : Int) := by omega
                    have HRL : Hid (N9.set t (bump mk r.num p0) = refTo r size by_ mk P (j + 1)) := Lib.hid (by rw [HRS.out, HRU.out])
                    by_cases hlate : F + size ≤ mk
                    · have HB : Hid (bump mk r.num p0 = ⟨p0.key, p0.lo, p0.hi, p0.many, p0.sum, wrap64 (p0.late + 1)⟩) := Lib.hid (by rw [bump, if_pos (by rw [HHI.out]; exact hlate)])
                      have s1 := (hown9.stored (t * 6 + 5) (.int .i64 (wrap64 (p0.late + 1)))).1
                      rw [cells_set N9 t 5 p0 (bump mk r.num p0) _ HPT.out (by omega) (by rw [HB.out]; rfl)] at s1
                      have hrb10 := hrb9.far (p := ⟨g9, t * 6 + 5, none⟩) (by simpa using fun e => hgr9 e.symm) (.int .i64 (wrap64 (p0.late + 1)))
                      go_wp2_with fail
                      go_roundw
                      case rel => exact ⟨j + 1, F + by_, N9.set t (bump mk r.num p0), by go_num, HFN, by omega, by omega, by omega, HRL, by rw [List.length_set, ← HN9.out]; omega, by rw [List.length_set, ← HN9.out]; exact s1, (fun g hg => by cases hg; exact hgr9), hrb10, hbel9.setCell hgb9 _⟩
                      case measure => simp [intOf]; omega
                    · have HB : Hid (bump mk r.num p0 = ⟨p0.key, p0.lo, p0.hi, wrap64 (p0.many + 1), wrap64 (p0.sum + r.num), p0.late⟩) := Lib.hid (by rw [bump, if_neg (by rw [HHI.out]; exact hlate)])
                      go_upto_region 33 with fail
                      have s1 := (hown9.stored (t * 6 + 3) (.int .i64 (wrap64 (p0.many + 1)))).1
                      rw [cells_set N9 t 3 p0 ⟨p0.key, p0.lo, p0.hi, wrap64 (p0.many + 1), p0.sum, p0.late⟩ _ HPT.out (by omega) rfl] at s1
                      have hrb10 := hrb9.far (p := ⟨g9, t * 6 + 3, none⟩) (by simpa using fun e => hgr9 e.symm) (.int .i64 (wrap64 (p0.many + 1)))
                      have hbel10 : Below w.heap.size w (w7.setCell ⟨g9, t * 6 + 3, none⟩ (.int .i64 (wrap64 (p0.many + 1)))) := hbel9.setCell hgb9 _
                      generalize w7.setCell ⟨g9, t * 6 + 3, none⟩ (.int .i64 (wrap64 (p0.many + 1))) = w8 at *
                      clear v3 v4 v5 z3 z4 z5 x0 x1 x2
                      have hlt9 : t < N9.length := by have := HN9.out; omega
                      have HPT2 : Hid ((N9.set t ⟨p0.key, p0.lo, p0.hi, wrap64 (p0.many + 1), p0.sum, p0.late⟩)[t]? = some ⟨p0.key, p0.lo, p0.hi, wrap64 (p0.many + 1), p0.sum, p0.late⟩) := Lib.hid (by rw [List.getElem?_set_self hlt9])
                      obtain ⟨v3, v4, v5, z3, z4, z5⟩ := own_pane s1 (by rw [List.length_set]; exact HN9.out.symm) HPT2.out
                      dsimp only at v3 v4 v5
                      obtain ⟨x0, x1, x2⟩ := cells3s hrb10
                      go_region
                      go_wp2_with fail
                      go_roundw
                      case rel =>
                        have s2 := (s1.stored (t * 6 + 4) (.int .i64 (wrap64 (p0.sum + r.num)))).1
                        rw [cells_set _ t 4 _ (bump mk r.num p0) _ HPT2.out (by omega) (by rw [HB.out]; rfl), List.set_set] at s2
                        exact ⟨j + 1, F + by_, N9.set t (bump mk r.num p0), by go_num, HFN, by omega, by omega, by omega, HRL, by rw [List.length_set, ← HN9.out]; omega, by rw [List.length_set, ← HN9.out]; exact s2, (fun g hg => by cases hg; exact hgr9), (hrb10.far (p := ⟨g9, t * 6 + 4, none⟩) (by simpa using fun e => hgr9 e.symm) _).drew, (hbel10.setCell hgb9 _).drew⟩
                      case measure => simp [intOf]; omega
              · have hb2 : (q.key.toList == r.key.toList) = false := by simpa using hk2
                have HSP := Lib.hid (spot_stop (p := freshP r.key F size) Hq.out (before_not hk1 (fun h => hk2 h.1)) HB.out)
                have HNO : Hid ((N[t]?).any (isAt r.key F) = false) := Lib.hid (by
                  rw [Hq.out]
                  simp only [Option.any_some]
                  rcases hh : isAt r.key F q with _ | _
                  · rfl
                  · exact absurd (by rw [(isAt_iff.1 hh).1]) hk2)
                clear hk1 hk2
                clear HB
                go_wp2_with fail
                go_quiet (fail)
                have ec : wr.cell? = (wr.drewN nq).cell? := rfl
                rw [ec] at e0 e1 x0
                replace hrb := hrb.drewN nq
                replace hown := own_drewN hown nq
                replace hbel := below_drewN hbel nq
                clear ec hrN hws
                generalize wr.drewN nq = wq at *
                go_wp2_with fail
                go_quiet (fail)
                replace hrb := hrb.drewN nq
                replace hown := own_drewN hown nq
                replace hbel := below_drewN hbel nq
                clear e0 e1 x0
                generalize wq.drewN nq = wp at *
                have hrN4 := own_rd hown
                obtain ⟨B4, hB4e⟩ : ∃ b, b = wp.heap.size := ⟨_, rfl⟩
                have hB4 : B4 ≤ wp.heap.size := by omega
                have hrbl := hrb.lt
                rw [← hB4e] at hrN4 hrbl
                clear hB4e
                obtain ⟨x0, x1, x2⟩ := cells3s hrb
                generalize some ad2 = AN at hrN4 ⊢
                have hs1 : (t : Int) ≤ (cN : Int) := by omega
                have hs2 : (t : Int) ≤ (nn : Int) := by omega
                go_upto_region 30 with (first
                  | (with_reducible show wpList _ _ _ (⟨some 163, _, _, _, _, _⟩ :: _) _ _; go_must (refine wpList_rd (.tmp 159) (.tmp 162) el_pane rfl rfl (World.ownsRow_nil _ w.heap.size _ _) rfl (hrN4.take ht) rfl (fun u hu => paneCells_one N u (List.mem_of_mem_take hu)) (by omega) hbel.size ?_); intro v5 w5 ho5 hb5 hg5 ha5; go_must (have hrb5 := hrb.grown hg5 (none_row _); have hrN5 := hrN4.grown hg5 hB4 (none_ge _); obtain ⟨x0, x1, x2⟩ := cells3s hrb5; have hB6 : B4 ≤ w5.heap.size := Nat.le_trans hB4 hg5.size; have hz5 : w.heap.size ≤ w5.heap.size := Nat.le_trans hbel.size hb5.size; have hge5 := row_ge ha5 hB4))
                  | (with_reducible show wpList _ _ _ (⟨some 173, _, _, _, _, _⟩ :: _) _ _; go_must (refine wpList_newg (.tmp 164) (.tmp 172) el_pane rfl rfl ho5 rfl rfl (by first | rfl | simp) rfl rfl (by omega) hz5 ?_); intro v6 w6 ho6 hb6 hg6 ha6; go_must (have hrb6 := hrb5.grown hg6 (fun e => by have := hge5 _ e.symm; omega); have hrN6 := hrN5.grown hg6 hB6 hge5; have hz6 : w.heap.size ≤ w6.heap.size := Nat.le_trans hz5 hb6.size; have hge6 := row_ge2 ha6 hge5 (by omega : B4 ≤ w5.heap.size + 1)))
                  | (with_reducible show wpList _ _ _ (⟨some 178, _, _, _, _, _⟩ :: _) _ _; go_must (refine wpList_rd (.tmp 174) (.tmp 177) el_pane rfl rfl ho6 rfl (hrN6.cut_lt htn hnc) rfl (fun u hu => paneCells_one N u (List.mem_of_mem_drop hu)) (by omega) hz6 ?_); intro v7 w7 ho7 hb7 hg7 ha7; go_must (have hrb7 := hrb6.grown hg7 (fun e => by have := hge6 _ e.symm; omega))))
                have hpl : place (freshP r.key F size) N = N.take t ++ freshP r.key F size :: N.drop t := by rw [place_at, HSP.out]
                have hpn : (place (freshP r.key F size) N).length = 0 + t + 1 + (nn - t) := by rw [place_len]; have := HN.out; omega
                obtain ⟨N9, hN9⟩ : ∃ N9, N9 = place (freshP r.key F size) N := ⟨_, rfl⟩
                obtain ⟨p0, hp0⟩ : ∃ p0, p0 = freshP r.key F size := ⟨_, rfl⟩
                obtain ⟨n9, hn9⟩ : ∃ n9, n9 = N9.length := ⟨_, rfl⟩
                have HN9 := Lib.hid hn9
                have hown9 : w7.ownsRow w.heap.size 86 6 v7 n9 (paneCells N9) := by rw [hn9, hN9, hpn, hpl, ← paneCells_mid]; exact ho7
                have HPT : Hid (N9[t]? = some p0) := Lib.hid (by rw [hN9, hp0, hpl, List.getElem?_append_right (by rw [List.length_take]; omega), List.length_take, show t - min t N.length = 0 by have := HN.out; omega]; rfl)
                have HHI : Hid (p0.hi = F + size) := Lib.hid (by rw [hp0]; rfl)
                have HRU : Hid (refUpd N r.key F size mk r.num = N9.set t (bump mk r.num p0)) := Lib.hid (by rw [refUpd, HSP.out, HNO.out, if_neg (by simp), hN9, hp0])
                have hn9l : n9 ≤ nn + 1 := by have := HN9.out; rw [hN9, hpn] at this; omega
                have hne9 : ∀ g, v7.ownBlock = some g → g ≠ rb := fun g hg => by
                  rcases ha7 with e | e
                  · rw [e] at hg; have := hge6 g hg; omega
                  · rw [e] at hg; injection hg with hg; have := hb5.size; have := hb6.size; omega
                have hrb9 := hrb7
                have hbel9 := hbel.trans (hb5.trans (hb6.trans hb7))
                clear hpl hpn hN9 hp0 hn9 ho5 ho6 ho7 hown
                have hws9 := hbel9.size
                obtain ⟨x0, x1, x2⟩ := cells3s hrb9
                have htl : t < n9 := by have := (List.getElem?_eq_some_iff.1 HPT.out).1; have := HN9.out; omega
                obtain ⟨g9, c9, hv9⟩ := own_some hown9 (by omega)
                cases hv9
                obtain ⟨v3, v4, v5, z3, z4, z5⟩ := own_pane hown9 HN9.out.symm HPT.out
                have hgr9 : g9 ≠ rb := hne9 g9 rfl
                have hgb9 := (hown9.lt g9 rfl).1
                have hgl9 := (hown9.lt g9 rfl).2
                have ht8 : (0 : Int) ≤ (t : Int) := by omega
                have ht9 : (t : Int) < (n9 : Int) := by omega
                have HRL : Hid (N9.set t (bump mk r.num p0) = refTo r size by_ mk P (j + 1)) := Lib.hid (by rw [HRS.out, HRU.out])
                by_cases hlate : F + size ≤ mk
                · have HB : Hid (bump mk r.num p0 = ⟨p0.key, p0.lo, p0.hi, p0.many, p0.sum, wrap64 (p0.late + 1)⟩) := Lib.hid (by rw [bump, if_pos (by rw [HHI.out]; exact hlate)])
                  have s1 := (hown9.stored (t * 6 + 5) (.int .i64 (wrap64 (p0.late + 1)))).1
                  rw [cells_set N9 t 5 p0 (bump mk r.num p0) _ HPT.out (by omega) (by rw [HB.out]; rfl)] at s1
                  have hrb10 := hrb9.far (p := ⟨g9, t * 6 + 5, none⟩) (by simpa using fun e => hgr9 e.symm) (.int .i64 (wrap64 (p0.late + 1)))
                  go_wp2_with fail
                  go_roundw
                  case rel => exact ⟨j + 1, F + by_, N9.set t (bump mk r.num p0), by go_num, HFN, by omega, by omega, by omega, HRL, by rw [List.length_set, ← HN9.out]; omega, by rw [List.length_set, ← HN9.out]; exact s1, (fun g hg => by cases hg; exact hgr9), hrb10, hbel9.setCell hgb9 _⟩
                  case measure => simp [intOf]; omega
                · have HB : Hid (bump mk r.num p0 = ⟨p0.key, p0.lo, p0.hi, wrap64 (p0.many + 1), wrap64 (p0.sum + r.num), p0.late⟩) := Lib.hid (by rw [bump, if_neg (by rw [HHI.out]; exact hlate)])
                  go_upto_region 33 with fail
                  have s1 := (hown9.stored (t * 6 + 3) (.int .i64 (wrap64 (p0.many + 1)))).1
                  rw [cells_set N9 t 3 p0 ⟨p0.key, p0.lo, p0.hi, wrap64 (p0.many + 1), p0.sum, p0.late⟩ _ HPT.out (by omega) rfl] at s1
                  have hrb10 := hrb9.far (p := ⟨g9, t * 6 + 3, none⟩) (by simpa using fun e => hgr9 e.symm) (.int .i64 (wrap64 (p0.many + 1)))
                  have hbel10 : Below w.heap.size w (w7.setCell ⟨g9, t * 6 + 3, none⟩ (.int .i64 (wrap64 (p0.many + 1)))) := hbel9.setCell hgb9 _
                  generalize w7.setCell ⟨g9, t * 6 + 3, none⟩ (.int .i64 (wrap64 (p0.many + 1))) = w8 at *
                  clear v3 v4 v5 z3 z4 z5 x0 x1 x2
                  have hlt9 : t < N9.length := by have := HN9.out; omega
                  have HPT2 : Hid ((N9.set t ⟨p0.key, p0.lo, p0.hi, wrap64 (p0.many + 1), p0.sum, p0.late⟩)[t]? = some ⟨p0.key, p0.lo, p0.hi, wrap64 (p0.many + 1), p0.sum, p0.late⟩) := Lib.hid (by rw [List.getElem?_set_self hlt9])
                  obtain ⟨v3, v4, v5, z3, z4, z5⟩ := own_pane s1 (by rw [List.length_set]; exact HN9.out.symm) HPT2.out
                  dsimp only at v3 v4 v5
                  obtain ⟨x0, x1, x2⟩ := cells3s hrb10
                  go_region
                  go_wp2_with fail
                  go_roundw
                  case rel =>
                    have s2 := (s1.stored (t * 6 + 4) (.int .i64 (wrap64 (p0.sum + r.num)))).1
                    rw [cells_set _ t 4 _ (bump mk r.num p0) _ HPT2.out (by omega) (by rw [HB.out]; rfl), List.set_set] at s2
                    exact ⟨j + 1, F + by_, N9.set t (bump mk r.num p0), by go_num, HFN, by omega, by omega, by omega, HRL, by rw [List.length_set, ← HN9.out]; omega, by rw [List.length_set, ← HN9.out]; exact s2, (fun g hg => by cases hg; exact hgr9), (hrb10.far (p := ⟨g9, t * 6 + 4, none⟩) (by simpa using fun e => hgr9 e.symm) _).drew, (hbel10.setCell hgb9 _).drew⟩
                  case measure => simp [intOf]; omega
          · have htnn : t = nn := by omega
            have HSP : Hid (spot (freshP r.key F size) N = t) := Lib.hid (by
              have := HN.out
              rw [show t = N.length from by omega]
              exact spot_end fun u x hu hx => HB.out u x (by omega) hx)
            have HNO : Hid ((N[t]?).any (isAt r.key F) = false) := Lib.hid (by rw [List.getElem?_eq_none (by have := HN.out; omega)]; rfl)
            have htq : ((t : Int) == (nn : Int)) = true := by simp; omega
            have htq2 : decide (t < nn) = false := by simpa using htn
            clear htnn
            clear HB
            go_wp2_with fail
            go_quiet (fail)
            have ec : wr.cell? = (wr.drewN nq).cell? := rfl
            rw [ec] at x0
            replace hrb := hrb.drewN nq
            replace hown := own_drewN hown nq
            replace hbel := below_drewN hbel nq
            clear ec hrN hws
            generalize wr.drewN nq = wq at *
            go_wp2_with fail
            go_quiet (fail)
            replace hrb := hrb.drewN nq
            replace hown := own_drewN hown nq
            replace hbel := below_drewN hbel nq
            clear x0
            generalize wq.drewN nq = wp at *
            have hrN4 := own_rd hown
            obtain ⟨B4, hB4e⟩ : ∃ b, b = wp.heap.size := ⟨_, rfl⟩
            have hB4 : B4 ≤ wp.heap.size := by omega
            have hrbl := hrb.lt
            rw [← hB4e] at hrN4 hrbl
            clear hB4e
            obtain ⟨x0, x1, x2⟩ := cells3s hrb
            skip
            have hs1 : (t : Int) ≤ (cN : Int) := by omega
            have hs2 : (t : Int) ≤ (nn : Int) := by omega
            go_upto_region 30 with (first
              | (with_reducible show wpList _ _ _ (⟨some 163, _, _, _, _, _⟩ :: _) _ _; go_must (refine wpList_rd (.tmp 159) (.tmp 162) el_pane rfl rfl (World.ownsRow_nil _ w.heap.size _ _) rfl (hrN4.take ht) rfl (fun u hu => paneCells_one N u (List.mem_of_mem_take hu)) (by omega) hbel.size ?_); intro v5 w5 ho5 hb5 hg5 ha5; go_must (have hrb5 := hrb.grown hg5 (none_row _); have hrN5 := hrN4.grown hg5 hB4 (none_ge _); obtain ⟨x0, x1, x2⟩ := cells3s hrb5; have hB6 : B4 ≤ w5.heap.size := Nat.le_trans hB4 hg5.size; have hz5 : w.heap.size ≤ w5.heap.size := Nat.le_trans hbel.size hb5.size; have hge5 := row_ge ha5 hB4))
              | (with_reducible show wpList _ _ _ (⟨some 173, _, _, _, _, _⟩ :: _) _ _; go_must (refine wpList_newg (.tmp 164) (.tmp 172) el_pane rfl rfl ho5 rfl rfl (by first | rfl | simp) rfl rfl (by omega) hz5 ?_); intro v6 w6 ho6 hb6 hg6 ha6; go_must (have hrb6 := hrb5.grown hg6 (fun e => by have := hge5 _ e.symm; omega); have hrN6 := hrN5.grown hg6 hB6 hge5; have hz6 : w.heap.size ≤ w6.heap.size := Nat.le_trans hz5 hb6.size; have hge6 := row_ge2 ha6 hge5 (by omega : B4 ≤ w5.heap.size + 1)))
              | (with_reducible show wpList _ _ _ (⟨some 178, _, _, _, _, _⟩ :: _) _ _; go_must (refine wpList_rd (.tmp 174) (.tmp 177) el_pane rfl rfl ho6 rfl (hrN6.cut ht hnc) rfl (fun u hu => paneCells_one N u (List.mem_of_mem_drop hu)) (by omega) hz6 ?_); intro v7 w7 ho7 hb7 hg7 ha7; go_must (have hrb7 := hrb6.grown hg7 (fun e => by have := hge6 _ e.symm; omega))))
            have hpl : place (freshP r.key F size) N = N.take t ++ freshP r.key F size :: N.drop t := by rw [place_at, HSP.out]
            have hpn : (place (freshP r.key F size) N).length = 0 + t + 1 + (nn - t) := by rw [place_len]; have := HN.out; omega
            obtain ⟨N9, hN9⟩ : ∃ N9, N9 = place (freshP r.key F size) N := ⟨_, rfl⟩
            obtain ⟨p0, hp0⟩ : ∃ p0, p0 = freshP r.key F size := ⟨_, rfl⟩
            obtain ⟨n9, hn9⟩ : ∃ n9, n9 = N9.length := ⟨_, rfl⟩
            have HN9 := Lib.hid hn9
            have hown9 : w7.ownsRow w.heap.size 86 6 v7 n9 (paneCells N9) := by rw [hn9, hN9, hpn, hpl, ← paneCells_mid]; exact ho7
            have HPT : Hid (N9[t]? = some p0) := Lib.hid (by rw [hN9, hp0, hpl, List.getElem?_append_right (by rw [List.length_take]; omega), List.length_take, show t - min t N.length = 0 by have := HN.out; omega]; rfl)
            have HHI : Hid (p0.hi = F + size) := Lib.hid (by rw [hp0]; rfl)
            have HRU : Hid (refUpd N r.key F size mk r.num = N9.set t (bump mk r.num p0)) := Lib.hid (by rw [refUpd, HSP.out, HNO.out, if_neg (by simp), hN9, hp0])
            have hn9l : n9 ≤ nn + 1 := by have := HN9.out; rw [hN9, hpn] at this; omega
            have hne9 : ∀ g, v7.ownBlock = some g → g ≠ rb := fun g hg => by
              rcases ha7 with e | e
              · rw [e] at hg; have := hge6 g hg; omega
              · rw [e] at hg; injection hg with hg; have := hb5.size; have := hb6.size; omega
            have hrb9 := hrb7
            have hbel9 := hbel.trans (hb5.trans (hb6.trans hb7))
            clear hpl hpn hN9 hp0 hn9 ho5 ho6 ho7 hown
            have hws9 := hbel9.size
            obtain ⟨x0, x1, x2⟩ := cells3s hrb9
            have htl : t < n9 := by have := (List.getElem?_eq_some_iff.1 HPT.out).1; have := HN9.out; omega
            obtain ⟨g9, c9, hv9⟩ := own_some hown9 (by omega)
            cases hv9
            obtain ⟨v3, v4, v5, z3, z4, z5⟩ := own_pane hown9 HN9.out.symm HPT.out
            have hgr9 : g9 ≠ rb := hne9 g9 rfl
            have hgb9 := (hown9.lt g9 rfl).1
            have hgl9 := (hown9.lt g9 rfl).2
            have ht8 : (0 : Int) ≤ (t : Int) := by omega
            have ht9 : (t : Int) < (n9 : Int) := by omega
            have HRL : Hid (N9.set t (bump mk r.num p0) = refTo r size by_ mk P (j + 1)) := Lib.hid (by rw [HRS.out, HRU.out])
            by_cases hlate : F + size ≤ mk
            · have HB : Hid (bump mk r.num p0 = ⟨p0.key, p0.lo, p0.hi, p0.many, p0.sum, wrap64 (p0.late + 1)⟩) := Lib.hid (by rw [bump, if_pos (by rw [HHI.out]; exact hlate)])
              have s1 := (hown9.stored (t * 6 + 5) (.int .i64 (wrap64 (p0.late + 1)))).1
              rw [cells_set N9 t 5 p0 (bump mk r.num p0) _ HPT.out (by omega) (by rw [HB.out]; rfl)] at s1
              have hrb10 := hrb9.far (p := ⟨g9, t * 6 + 5, none⟩) (by simpa using fun e => hgr9 e.symm) (.int .i64 (wrap64 (p0.late + 1)))
              go_wp2_with fail
              go_roundw
              case rel => exact ⟨j + 1, F + by_, N9.set t (bump mk r.num p0), by go_num, HFN, by omega, by omega, by omega, HRL, by rw [List.length_set, ← HN9.out]; omega, by rw [List.length_set, ← HN9.out]; exact s1, (fun g hg => by cases hg; exact hgr9), hrb10, hbel9.setCell hgb9 _⟩
              case measure => simp [intOf]; omega
            · have HB : Hid (bump mk r.num p0 = ⟨p0.key, p0.lo, p0.hi, wrap64 (p0.many + 1), wrap64 (p0.sum + r.num), p0.late⟩) := Lib.hid (by rw [bump, if_neg (by rw [HHI.out]; exact hlate)])
              go_upto_region 33 with fail
              have s1 := (hown9.stored (t * 6 + 3) (.int .i64 (wrap64 (p0.many + 1)))).1
              rw [cells_set N9 t 3 p0 ⟨p0.key, p0.lo, p0.hi, wrap64 (p0.many + 1), p0.sum, p0.late⟩ _ HPT.out (by omega) rfl] at s1
              have hrb10 := hrb9.far (p := ⟨g9, t * 6 + 3, none⟩) (by simpa using fun e => hgr9 e.symm) (.int .i64 (wrap64 (p0.many + 1)))
              have hbel10 : Below w.heap.size w (w7.setCell ⟨g9, t * 6 + 3, none⟩ (.int .i64 (wrap64 (p0.many + 1)))) := hbel9.setCell hgb9 _
              generalize w7.setCell ⟨g9, t * 6 + 3, none⟩ (.int .i64 (wrap64 (p0.many + 1))) = w8 at *
              clear v3 v4 v5 z3 z4 z5 x0 x1 x2
              have hlt9 : t < N9.length := by have := HN9.out; omega
              have HPT2 : Hid ((N9.set t ⟨p0.key, p0.lo, p0.hi, wrap64 (p0.many + 1), p0.sum, p0.late⟩)[t]? = some ⟨p0.key, p0.lo, p0.hi, wrap64 (p0.many + 1), p0.sum, p0.late⟩) := Lib.hid (by rw [List.getElem?_set_self hlt9])
              obtain ⟨v3, v4, v5, z3, z4, z5⟩ := own_pane s1 (by rw [List.length_set]; exact HN9.out.symm) HPT2.out
              dsimp only at v3 v4 v5
              obtain ⟨x0, x1, x2⟩ := cells3s hrb10
              go_region
              go_wp2_with fail
              go_roundw
              case rel =>
                have s2 := (s1.stored (t * 6 + 4) (.int .i64 (wrap64 (p0.sum + r.num)))).1
                rw [cells_set _ t 4 _ (bump mk r.num p0) _ HPT2.out (by omega) (by rw [HB.out]; rfl), List.set_set] at s2
                exact ⟨j + 1, F + by_, N9.set t (bump mk r.num p0), by go_num, HFN, by omega, by omega, by omega, HRL, by rw [List.length_set, ← HN9.out]; omega, by rw [List.length_set, ← HN9.out]; exact s2, (fun g hg => by cases hg; exact hgr9), (hrb10.far (p := ⟨g9, t * 6 + 4, none⟩) (by simpa using fun e => hgr9 e.symm) _).drew, (hbel10.setCell hgb9 _).drew⟩
              case measure => simp [intOf]; omega
      · have hj18 : j = 18 := by
          rcases Nat.lt_or_ge j 18 with h | h
          · have h1 : by_ * (j : Int) ≤ by_ * 17 := Int.mul_le_mul_of_nonneg_left (by omega) (by omega)
            have h2 := HF.out
            exact absurd (show F ≤ r.time by omega) hFT
          · omega
        subst hj18
        have HPN : Hid (N = refSlide size by_ slack l (k + 1)) := Lib.hid (by rw [HS.out]; exact HRT.out)
        by_cases hmx : mk < r.time - slack
        · go_wp2_with fail
          go_roundw
          case rel => exact ⟨k + 1, N, by omega, by go_num, by rw [HM.out]; congr 1; omega, by omega, HPN, hown, hbel⟩
          case measure => simp [intOf]; omega
        · go_wp2_with fail
          go_roundw
          case rel => exact ⟨k + 1, N, by omega, by go_num, by rw [HM.out]; congr 1; omega, by omega, HPN, hown, hbel⟩
          case measure => simp [intOf]; omega
    · have e : k = n := by omega
      subst e
      go_wp2_with fail
      go_ret2
      exact ⟨_, rfl, by rw [← HP.out]; exact hown, hbel⟩
end Go.Proofs.YtelailhghhjleaaDoor
