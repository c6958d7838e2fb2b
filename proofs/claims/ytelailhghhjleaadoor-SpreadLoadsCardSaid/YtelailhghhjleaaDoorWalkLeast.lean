/- The walk of spread.Least. -/
import Derived.Test.YtelailhghhjleaaDoorWalkLeast1
import Derived.StillTailTactics
import Derived.Test.YtelailhghhjleaaDoorPlainLeast2
namespace Go.Proofs.YtelailhghhjleaaDoor
open Go.RowKit

def loadsOk (l : List Int) : Bool := l.all fun x => decide (0 ≤ x) && decide (x ≤ 1000000)
def leastE (l : List Int) (p : Int) : Nat := if spreadE l.length p = 0 then (if loadsOk l = true then 0 else 1) else spreadE l.length p
/-- What spread.Least hands back. -/
def LeastPost (w : World) (l : List Int) (p : Int) (v : Value) (w' : World) : Prop :=
  ∃ out : List Int, (if leastE l p = 0 then ∃ ord, OrdOf l ord ∧ out = (gives l p.toNat ord).2 else out = []) ∧ w'.ownsRow w.heap.size 3 1 v out.length (out.map iv) ∧ Below w.heap.size w w'
theorem LeastPost.bad {w w' : World} {l : List Int} {p : Int} (hE : leastE l p ≠ 0) (hb : Below w.heap.size w w') : LeastPost w l p (.slice none 0 0) w' :=
  ⟨[], by rw [if_neg hE], World.ownsRow_nil _ _ _ _, hb⟩
theorem loadsOk_of {l : List Int} (h : ∀ j, j < l.length → 0 ≤ atD l j ∧ atD l j ≤ 1000000) : loadsOk l = true := by
  rw [loadsOk, List.all_eq_true]
  intro x hx
  obtain ⟨j, hj⟩ := List.mem_iff_getElem?.1 hx
  have := h j (List.getElem?_eq_some_iff.1 hj).1
  rw [atD, hj] at this
  simpa using this
theorem loadsOk_all {l : List Int} (h : loadsOk l = true) : ∀ x ∈ l, 0 ≤ x ∧ x ≤ 1000000 := by
  rw [loadsOk, List.all_eq_true] at h
  intro x hx
  simpa using h x hx
theorem loadsOk_not {l : List Int} {j : Nat} (hj : j < l.length) (h : ¬ (0 ≤ atD l j ∧ atD l j ≤ 1000000)) : loadsOk l = false := by
  rw [← Bool.not_eq_true]
  intro ho
  have := loadsOk_all ho l[j] (List.getElem_mem hj)
  rw [atD, List.getElem?_eq_getElem hj] at h
  exact h this
theorem leastE_bad {l : List Int} {p : Int} (h : spreadE l.length p ≠ 0) : leastE l p = spreadE l.length p := by rw [leastE, if_neg h]
theorem leastE_one {l : List Int} {p : Int} (h : spreadE l.length p = 0) (ho : loadsOk l = false) : leastE l p = 1 := by rw [leastE, if_pos h, ho]; rfl
theorem leastE_good {l : List Int} {p : Int} (h : spreadE l.length p = 0) (ho : loadsOk l = true) : leastE l p = 0 := by rw [leastE, if_pos h, ho]; rfl

set_option maxRecDepth 100000 in
set_option maxHeartbeats 2000000 in
theorem least_bad (A : Option Addr) (c : Nat) (l : List Int) (p : Int) (w : World) (hl : l.length ≤ 140737488355328) (h0 : -9223372036854775808 ≤ p) (h1 : p ≤ 9223372036854775807) (hE : spreadE l.length p ≠ 0) :
    Calls Tryd.prog 19 #[.slice A l.length c, .int .i64 p] w fun e w' => ∃ v, e = .returned (.tuple #[v, errV (leastE l p)]) ∧ LeastPost w l p v w' := by
  have hEE : Hid (leastE l p ≠ 0) := Lib.hid (by rw [leastE_bad hE]; exact hE)
  rw [leastE_bad hE]
  obtain ⟨E, hE1⟩ : ∃ E, E = spreadE l.length p := ⟨_, rfl⟩
  have hc := fun W => spcheck_any l.length p W hl h0 h1
  rw [← hE1] at hc hE ⊢
  have hV : errV E = .iface 75 (.int .i64 E) := by rw [errV, if_neg hE]
  rw [hV] at hc ⊢
  have HC := Lib.hid hc
  have hbx := (Below.refl w.heap.size w).alloc (Nat.le_refl _) (.cells #[.slice A l.length c] 23)
  clear hc hE1 hV hE
  go_enter Tryd.func19, Tryd.ntmps19
  go_wp2_with (first | (go_at_call 38; refine (HC.out _).mono ?_; rintro e w1 ⟨rfl, rfl⟩))
  go_ret2
  exact ⟨_, rfl, LeastPost.bad hEE.out hbx⟩

set_option maxRecDepth 100000 in
set_option maxHeartbeats 8000000 in
theorem least_good (A : Option Addr) (c B : Nat) (l : List Int) (p : Nat) (w : World) (hr : Rd w B 1 A l.length (l.map iv)) (hB : B ≤ w.heap.size) (hE : spreadE l.length p = 0) :
    Calls Tryd.prog 19 #[.slice A l.length c, .int .i64 p] w fun e w' => ∃ v, e = .returned (.tuple #[v, errV (leastE l p)]) ∧ LeastPost w l p v w' := by
  have hp : 1 ≤ p ∧ p ≤ 16 ∧ l.length ≤ 400 := by
    unfold spreadE at hE
    split at hE
    · cases hE
    · split at hE
      · cases hE
      · omega
  obtain ⟨hp1, hp16, hn4⟩ := hp
  have hc := fun W => spcheck_any l.length p W (by omega) (by omega) (by omega)
  rw [hE] at hc
  rw [show errV 0 = .nilIface from rfl] at hc
  have HE := Lib.hid hE
  obtain ⟨n, hn⟩ : ∃ n, n = l.length := ⟨_, rfl⟩
  rw [← hn] at hr hn4 hc ⊢
  have HC := Lib.hid hc
  have Hn := Lib.hid hn
  clear hn hc hE
  have hbx := (Below.refl w.heap.size w).alloc (Nat.le_refl _) (.cells #[.slice A n c] 23)
  have hG := Blk.new w 23 #[.slice A n c]
  have hsz : (w.alloc (.cells #[.slice A n c] 23)).heap.size = w.heap.size + 1 := by simp
  go_enter Tryd.func19, Tryd.ntmps19
  go_wp2_with (first | (go_at_call 38; refine (HC.out _).mono ?_; rintro e w1 ⟨rfl, rfl⟩))
  generalize w.alloc (.cells #[.slice A n c] 23) = w1 at *
  obtain ⟨G, hGe⟩ : ∃ G, G = w.heap.size := ⟨_, rfl⟩
  rw [← hGe] at hbx hG hsz hB ⊢
  have HG := Lib.hid hGe
  clear hGe
  replace hr := hr.below hbx hB
  have cG := hG.cell 0
  simp at cG
  go_loopw [7, 24] (fun o i wr => ∃ k : Nat, k ≤ n ∧ i = .int .i64 k ∧ Hid (∀ j, j < k → 0 ≤ atD l j ∧ atD l j ≤ 1000000) ∧ wr.ownsRow (G + 1) 3 1 o k ((List.range k).map nv) ∧ Below (G + 1) w1 wr) (fun _ i _ => n - (intOf i).toNat)
  case atStart => exact ⟨0, Nat.zero_le _, rfl, Lib.hid (fun j hj => by omega), World.ownsRow_nil _ _ _ _, by rw [← hsz]; exact Below.refl _ _⟩
  case round =>
    obtain ⟨k, hk, rfl, HA, hown, hbel⟩ := hrel
    have hcG := (hbel.cell (p := ⟨G, 0, none⟩) (by simp)).trans cG
    by_cases hlt : k < n
    · obtain ⟨ad, rfl, _, g0⟩ := (hr.below hbel (by omega)).int_ hlt
      have hi1 : (0 : Int) ≤ (k : Int) := by omega
      have hi2 : (k : Int) < (n : Int) := by omega
      obtain ⟨y, hy⟩ : ∃ y, y = atD l k := ⟨_, rfl⟩
      have HY := Lib.hid hy
      rw [← hy] at g0
      clear hy
      by_cases hlo : y < 0
      · have ho : loadsOk l = false := loadsOk_not (j := k) (by have := Hn.out; omega) (by rw [← HY.out]; omega)
        have HX : Hid (leastE l p = 1) := Lib.hid (leastE_one HE.out ho)
        clear ho
        go_wp2_with fail
        go_ret2
        exact ⟨_, by rw [HX.out]; rfl, LeastPost.bad (by rw [HX.out]; decide) (by rw [← HG.out]; exact hbx.trans (hbel.mono (by omega)))⟩
      by_cases hhi : 1000000 < y
      · have ho : loadsOk l = false := loadsOk_not (j := k) (by have := Hn.out; omega) (by rw [← HY.out]; omega)
        have HX : Hid (leastE l p = 1) := Lib.hid (leastE_one HE.out ho)
        clear ho
        go_wp2_with fail
        go_ret2
        exact ⟨_, by rw [HX.out]; rfl, LeastPost.bad (by rw [HX.out]; decide) (by rw [← HG.out]; exact hbx.trans (hbel.mono (by omega)))⟩
      have HA2 : Hid (∀ j, j < k + 1 → 0 ≤ atD l j ∧ atD l j ≤ 1000000) := Lib.hid (fun j hj => by
        by_cases hjk : j = k
        · subst hjk; rw [← HY.out]; omega
        · exact HA.out j (by omega))
      obtain ⟨Ao, co, rfl, hqo, hco, hbo, hro⟩ := own_form hown
      clear hbo hro
      have hws := hbel.size
      go_wp2_with (first
        | (with_reducible show wpList _ _ _ (⟨some 39, _, _, _, _, _⟩ :: _) _ _; go_must (refine wpList_new (.tmp 36) (.tmp 38) el_intS rfl rfl hown rfl (m := 1) rfl rfl rfl (by omega) (by omega) ?_); intro v4 w4 hown4 hb4 hg4 ha4))
      go_roundw
      case rel => exact ⟨k + 1, by omega, by go_num, HA2, by rw [List.range_succ, List.map_append]; exact hown4, hbel.trans hb4⟩
      case measure => simp [intOf]; omega
    · have hkn : k = n := by omega
      rw [hkn] at hown HA
      clear hkn hk
      have hok : loadsOk l = true := loadsOk_of (by rw [← Hn.out]; exact HA.out)
      have HX : Hid (leastE l p = 0) := Lib.hid (leastE_good HE.out hok)
      have hall := loadsOk_all hok
      have HO := Lib.hid hall
      have hwr := hbel.size
      obtain ⟨Ao, co, rfl, hso⟩ := lsort_any (G := G) (B := B) (c := c) Hn.out (by omega) (hr.below hbel (by omega)) (by omega) (by omega) (by omega) hcG hown
      have HSO := Lib.hid hso
      clear hso hok hall hown HA
      have hr1 := hr
      replace hr := hr.below hbel (by omega)
      go_wp2_with (first | (go_at_call 41; refine HSO.out.mono ?_; rintro e w5 ⟨rfl, ord, hord, hown5, hb5⟩))
      have HORD := Lib.hid hord
      clear hord
      have hbel5 := hbel.trans hb5
      have hw5 : G + 1 ≤ w5.heap.size := by have := hbel5.size; omega
      obtain ⟨_, _, e5, _, _, hbo5, hro5⟩ := own_form hown5
      injection e5 with e5 _ _
      subst e5
      clear hown5
      have hmk1 := run_make_row' (P := Tryd.prog) 23 3 (.int .i64 0) 8 Tryd.underlying23 (by kernel_rfl) rfl .i64 .i64 p (by omega) (by omega) w5
      have hmk2 := run_make_row' (P := Tryd.prog) 23 3 (.int .i64 0) 8 Tryd.underlying23 (by kernel_rfl) rfl .i64 .i64 n (by omega) (by omega) (w5.alloc (.cells (madeCells #[.int .i64 0] p) 3))
      have hS0 := (Blk.new w5 3 (madeCells #[.int .i64 0] p)).alloc (.cells (madeCells #[.int .i64 0] n) 3)
      have hO0 := Blk.new (w5.alloc (.cells (madeCells #[.int .i64 0] p) 3)) 3 (madeCells #[.int .i64 0] n)
      have hb6 := ((Below.refl w5.heap.size w5).alloc (Nat.le_refl _) (.cells (madeCells #[.int .i64 0] p) 3)).alloc (by simp) (.cells (madeCells #[.int .i64 0] n) 3)
      have hcG5 := (hb5.cell (p := ⟨G, 0, none⟩) (by simp)).trans hcG
      rw [show (w5.alloc (.cells (madeCells #[.int .i64 0] p) 3)).heap.size = w5.heap.size + 1 from by simp] at hO0
      have hcG6 : (w5.alloc (.cells (madeCells #[.int .i64 0] p) 3)).cell? ⟨G, 0, none⟩ = some (.slice A n c) := (World.cell?_alloc_lt w5 _ _ (by simp; omega)).trans hcG5
      clear hcG hr hbel hb5
      go_wp2_with fail
      generalize (w5.alloc (.cells (madeCells #[.int .i64 0] p) 3)).alloc (.cells (madeCells #[.int .i64 0] n) 3) = w6 at *
      obtain ⟨gs, hgs⟩ : ∃ gs, gs = w5.heap.size := ⟨_, rfl⟩
      rw [← hgs] at hS0 hO0 hb6 hw5 hro5 ⊢
      have HGS := Lib.hid hgs
      clear hgs hmk1 hmk2 hcG6
      rw [← ivs_made] at hS0 hO0
      go_loopw [51] (fun i wr => ∃ r : Nat, r ≤ n ∧ i = .int .i64 r ∧ Blk wr gs 3 (ivs (gives l p (ord.take r)).1) ∧ Blk wr (gs + 1) 3 (ivs (gives l p (ord.take r)).2) ∧ Below gs w5 wr) (fun i _ => n - (intOf i).toNat)
      case atStart =>
        refine ⟨0, Nat.zero_le _, rfl, ?_, ?_, hb6⟩
        · simpa [gives] using hS0
        · simpa [gives, ← Hn.out] using hO0
      case round =>
        clear hS0 hO0 hb6
        obtain ⟨r, hrn, rfl, hS, hO, hb6⟩ := hrel
        obtain ⟨hl1, hl2⟩ := gives_len l p (ord.take r)
        rw [← Hn.out] at hl2
        have hrd := rd_ivs hS (B := gs + 1) (by omega)
        have hmin := min_any (some ⟨gs, 0, none⟩) p (gs + 1) _ wr hrd (by rw [hl1]; omega) (by rw [hl1]; omega)
        have hidx := index_any (some ⟨gs, 0, none⟩) p (gs + 1) _ wr hrd (by rw [hl1]; omega) (by rw [hl1]; omega)
        have hqp := (leastAt_is (s := (gives l p (ord.take r)).1) (by rw [hl1]; omega)).lt
        have hgb := gives_bd (l := l) (m := p) (by omega) HO.out (ord.take r) (leastAt (gives l p (ord.take r)).1)
        have hsc := hS.cell (leastAt (gives l p (ord.take r)).1)
        rw [ivs_get hqp] at hsc
        rw [hl1] at hmin hidx hqp
        by_cases hlt : r < n
        · obtain ⟨ad, i, rfl, hadb, hoi, go0⟩ := (hro5.below hb6 (Nat.le_refl _)).nat_ hlt
          have hin : i < n := by have := HORD.out.lt i (List.mem_of_getElem? hoi); have := Hn.out; omega
          have hgt := gives_take (l := l) (m := p) hoi
          rw [give] at hgt
          have HGT := Lib.hid hgt
          have hyb := atD_bd HO.out i
          have hcg := (hb6.cell (p := ⟨G, 0, none⟩) (by simp; omega)).trans hcG5
          obtain ⟨ad2, rfl, _, g1⟩ := (hr1.below (hbel5.trans (hb6.mono hw5)) (by omega)).int_ hin
          have hrl : ((ord.take r).length : Int) ≤ 400 := by rw [List.length_take]; omega
          have hS2 := (hS.set_ (leastAt (gives l p (ord.take r)).1) (.int .i64 (atD (gives l p (ord.take r)).1 (leastAt (gives l p (ord.take r)).1) + atD l i))).far (p := ⟨gs + 1, i, none⟩) (by simp) (.int .i64 (leastAt (gives l p (ord.take r)).1 : Nat))
          have hO2 := (hO.far (p := ⟨gs, leastAt (gives l p (ord.take r)).1, none⟩) (by simp) (.int .i64 (atD (gives l p (ord.take r)).1 (leastAt (gives l p (ord.take r)).1) + atD l i))).set_ i (.int .i64 (leastAt (gives l p (ord.take r)).1 : Nat))
          have hsf := hS.frozen (leastAt (gives l p (ord.take r)).1)
          have hof := (hO.far (p := ⟨gs, leastAt (gives l p (ord.take r)).1, none⟩) (by simp) (.int .i64 (atD (gives l p (ord.take r)).1 (leastAt (gives l p (ord.take r)).1) + atD l i))).frozen i
          have hb7 := (hb6.setCell (p := ⟨gs, leastAt (gives l p (ord.take r)).1, none⟩) (Nat.le_refl _) (.int .i64 (atD (gives l p (ord.take r)).1 (leastAt (gives l p (ord.take r)).1) + atD l i))).setCell (p := ⟨gs + 1, i, none⟩) (by simp) (.int .i64 (leastAt (gives l p (ord.take r)).1 : Nat))
          rw [ivs_set] at hS2 hO2
          have hoc := (hO.far (p := ⟨gs, leastAt (gives l p (ord.take r)).1, none⟩) (by simp) (.int .i64 (atD (gives l p (ord.take r)).1 (leastAt (gives l p (ord.take r)).1) + atD l i))).cell i
          rw [ivs_get (by rw [hl2]; exact hin)] at hoc
          generalize atD (gives l p (ord.take r)).2 i = zo at hoc
          have HSS := Lib.hid (show (gives l p (ord.take r)).1.set (leastAt (gives l p (ord.take r)).1) (atD (gives l p (ord.take r)).1 (leastAt (gives l p (ord.take r)).1) + atD l i) = (gives l p (ord.take (r + 1))).1 from by rw [HGT.out])
          have HOO := Lib.hid (show (gives l p (ord.take r)).2.set i (leastAt (gives l p (ord.take r)).1 : Nat) = (gives l p (ord.take (r + 1))).2 from by rw [HGT.out])
          rw [HSS.out] at hS2
          rw [HOO.out] at hO2
          clear hgt HGT HSS HOO hS hO hrd hl1 hl2
          generalize leastAt (gives l p (ord.take r)).1 = q at *
          generalize atD (gives l p (ord.take r)).1 q = x at *
          generalize atD l i = y at *
          have hwt : IntKind.i64.wrap (x + y) = x + y := IntWalk.i64_in _ (by omega)
          have HMIN := Lib.hid hmin
          have HIDX := Lib.hid hidx
          have hq0 : (0 : Int) ≤ (q : Int) := by omega
          have hq1 : (q : Int) < (p : Int) := by omega
          have hi0 : (0 : Int) ≤ (i : Int) := by omega
          have hi1 : (i : Int) < (n : Int) := by omega
          have hr0 : (0 : Int) ≤ (r : Int) := by omega
          have hr2 : (r : Int) < (n : Int) := by omega
          clear hmin hidx
          go_wp2_with (first
            | (go_at_call 45; refine HMIN.out.mono ?_; rintro e w' ⟨rfl, rfl⟩)
            | (go_at_call 44; refine HIDX.out.mono ?_; rintro e w' ⟨rfl, rfl⟩))
          go_still_tail 10, (by kernel_rfl)
          change wpList _ _ _ _ _ wr.drew
          go_wp2_with fail
          go_roundw
          case rel => exact ⟨r + 1, by omega, by go_num, hS2.drew, hO2.drew, hb7.drew⟩
          case measure => simp [intOf]; omega
        · have hrn' : r = n := by omega
          have hto : ord.take r = ord := List.take_of_length_le (by rw [HORD.out.len, hrn', Hn.out]; exact Nat.le_refl _)
          rw [hto] at hO hl2
          clear hto hrd hmin hidx hgb hsc hqp hl1 hrn'
          go_wp2_with fail
          go_ret2
          refine ⟨_, by rw [HX.out]; rfl, (gives l p ord).2, by rw [if_pos HX.out]; exact ⟨ord, HORD.out, rfl⟩, ?_, by rw [← HG.out]; exact hbx.trans ((hbel5.mono (by omega)).trans (hb6.mono (by omega)))⟩
          rw [hl2]
          exact own_ivs hO hl2.symm (by rw [← HG.out]; omega) (by unfold maxLen; omega)
end Go.Proofs.YtelailhghhjleaaDoor
