/- The walk of weirlaw4.SpreadLoads. -/
import Derived.Test.YtelailhghhjleaaDoorWalkLeast
import Derived.Test.YtelailhghhjleaaDoorPlainSpread2
import Derived.Test.YtelailhghhjleaaDoorWalkAs
import Derived.Deep.QuietTactic
import Derived.BigQuiet
namespace Go.Proofs.YtelailhghhjleaaDoor
open Go.RowKit

theorem least_any (A : Option Addr) (c B : Nat) (l : List Int) (p : Int) (w : World) (hr : Rd w B 1 A l.length (l.map iv)) (hB : B ≤ w.heap.size) (hl : l.length ≤ 140737488355328) (h0 : -9223372036854775808 ≤ p) (h1 : p ≤ 9223372036854775807) :
    Calls Tryd.prog 19 #[.slice A l.length c, .int .i64 p] w fun e w' => ∃ v, e = .returned (.tuple #[v, errV (leastE l p)]) ∧ LeastPost w l p v w' := by
  by_cases hE : spreadE l.length p = 0
  · have hp : 1 ≤ p := by
      unfold spreadE at hE
      split at hE
      · cases hE
      · omega
    obtain ⟨q, rfl⟩ : ∃ q : Nat, p = q := ⟨p.toNat, by omega⟩
    exact least_good A c B l q w hr hB hE
  · exact least_bad A c l p w hl h0 h1 hE
/-- Who is done, as cells. -/
def dCells (d : List Nat) (n : Nat) : Array Value := ((List.range n).map fun j => Value.bool (decide (j ∈ d))).toArray
theorem dCells_nil (n : Nat) : dCells [] n = madeCells #[.bool false] n := by
  rw [← Array.toArray_toList (xs := madeCells #[.bool false] n), toList_madeCells_one, dCells]
  congr 1
  apply List.ext_getElem?
  intro j
  by_cases h : j < n <;> simp [h]
theorem dCells_at {d : List Nat} {n j : Nat} (h : j < n) : (dCells d n)[j]? = some (.bool (decide (j ∈ d))) := by simp [dCells, h]
theorem dCells_set {d : List Nat} {n a : Nat} : (dCells d n).setIfInBounds a (.bool true) = dCells (d ++ [a]) n := by
  rw [dCells, dCells, List.setIfInBounds_toArray]
  congr 1
  apply List.ext_getElem?
  intro j
  rw [List.getElem?_set]
  by_cases e : a = j
  · subst e
    by_cases h : a < n <;> simp [h]
  · rw [if_neg e]
    by_cases h : j < n
    · have e2 : j ≠ a := fun x => e x.symm
      simp [h, e2]
    · simp [h]

set_option maxRecDepth 100000 in
set_option maxHeartbeats 2000000 in
theorem lawloads_bad (A : Option Addr) (c : Nat) (l : List Int) (p : Int) (w : World) (hg : HasErr w) (hr : Rd w w.heap.size 1 A l.length (l.map iv)) (hl : l.length ≤ 140737488355328)
    (hp0 : -9223372036854775808 ≤ p) (hp1 : p ≤ 9223372036854775807) (hE : spreadE l.length p ≠ 0) :
    Calls Tryd.prog 5 #[.slice A l.length c, .int .i64 p] w fun e w' => e = .returned (.bool true) ∧ Below w.heap.size w w' := by
  by_cases h1 : p < 1
  · have HE : Hid (leastE l p = 1) := Lib.hid (by rw [leastE_bad hE, spreadE, if_pos (.inl h1)])
    clear hE
    go_enter Tryd.func5, Tryd.ntmps5
    go_wp2_with fail
    go_loopw [5, 6] (fun e i wr => e = .int .i64 1 ∧ i = .int .i64 0 ∧ w = wr) (fun _ _ _ => 0)
    case atStart => exact ⟨rfl, rfl, rfl⟩
    obtain ⟨rfl, rfl, rfl⟩ := hrel
    by_cases hn0 : 0 < l.length
    · go_wp2_with fail
      refine (least_any A c w.heap.size l p w hr (Nat.le_refl _) hl hp0 hp1).mono ?_
      rintro e w2 ⟨v2, rfl, out, hout, hown, hb2⟩
      rw [HE.out] at hout ⊢
      rw [if_neg (by decide)] at hout
      subst hout
      obtain ⟨A2, c2, rfl, _, _, _, _⟩ := own_form hown
      clear hown
      go_wp2_with fail
      refine (same_err 1 1 _ (hg.up hb2)).mono ?_
      rintro e w3 ⟨rfl, hb3⟩
      have hb := below_up hb2 hb3
      go_wp2_with fail
      go_ret
      exact ⟨rfl, hb⟩
    · go_wp2_with fail
      refine (least_any A c w.heap.size l p w hr (Nat.le_refl _) hl hp0 hp1).mono ?_
      rintro e w2 ⟨v2, rfl, out, hout, hown, hb2⟩
      rw [HE.out] at hout ⊢
      rw [if_neg (by decide)] at hout
      subst hout
      obtain ⟨A2, c2, rfl, _, _, _, _⟩ := own_form hown
      clear hown
      go_wp2_with fail
      refine (same_err 1 1 _ (hg.up hb2)).mono ?_
      rintro e w3 ⟨rfl, hb3⟩
      have hb := below_up hb2 hb3
      go_wp2_with fail
      go_ret
      exact ⟨rfl, hb⟩
  by_cases h2 : 16 < p
  · have HE : Hid (leastE l p = 1) := Lib.hid (by rw [leastE_bad hE, spreadE, if_pos (.inr h2)])
    clear hE
    go_enter Tryd.func5, Tryd.ntmps5
    go_wp2_with fail
    go_loopw [5, 6] (fun e i wr => e = .int .i64 1 ∧ i = .int .i64 0 ∧ w = wr) (fun _ _ _ => 0)
    case atStart => exact ⟨rfl, rfl, rfl⟩
    obtain ⟨rfl, rfl, rfl⟩ := hrel
    by_cases hn0 : 0 < l.length
    · go_wp2_with fail
      refine (least_any A c w.heap.size l p w hr (Nat.le_refl _) hl hp0 hp1).mono ?_
      rintro e w2 ⟨v2, rfl, out, hout, hown, hb2⟩
      rw [HE.out] at hout ⊢
      rw [if_neg (by decide)] at hout
      subst hout
      obtain ⟨A2, c2, rfl, _, _, _, _⟩ := own_form hown
      clear hown
      go_wp2_with fail
      refine (same_err 1 1 _ (hg.up hb2)).mono ?_
      rintro e w3 ⟨rfl, hb3⟩
      have hb := below_up hb2 hb3
      go_wp2_with fail
      go_ret
      exact ⟨rfl, hb⟩
    · go_wp2_with fail
      refine (least_any A c w.heap.size l p w hr (Nat.le_refl _) hl hp0 hp1).mono ?_
      rintro e w2 ⟨v2, rfl, out, hout, hown, hb2⟩
      rw [HE.out] at hout ⊢
      rw [if_neg (by decide)] at hout
      subst hout
      obtain ⟨A2, c2, rfl, _, _, _, _⟩ := own_form hown
      clear hown
      go_wp2_with fail
      refine (same_err 1 1 _ (hg.up hb2)).mono ?_
      rintro e w3 ⟨rfl, hb3⟩
      have hb := below_up hb2 hb3
      go_wp2_with fail
      go_ret
      exact ⟨rfl, hb⟩
  · have h4 : 400 < l.length := by
      unfold spreadE at hE
      rw [if_neg (by omega)] at hE
      split at hE
      · assumption
      · exact absurd rfl hE
    have HE : Hid (leastE l p = 4) := Lib.hid (by rw [leastE_bad hE, spreadE, if_neg (by omega), if_pos h4])
    clear hE
    have hn0 : 0 < l.length := by omega
    go_enter Tryd.func5, Tryd.ntmps5
    go_wp2_with fail
    go_loopw [5, 6] (fun e i wr => e = .int .i64 4 ∧ i = .int .i64 0 ∧ w = wr) (fun _ _ _ => 0)
    case atStart => exact ⟨rfl, rfl, rfl⟩
    obtain ⟨rfl, rfl, rfl⟩ := hrel
    go_wp2_with fail
    refine (least_any A c w.heap.size l p w hr (Nat.le_refl _) hl hp0 hp1).mono ?_
    rintro e w2 ⟨v2, rfl, out, hout, hown, hb2⟩
    rw [HE.out] at hout ⊢
    rw [if_neg (by decide)] at hout
    subst hout
    obtain ⟨A2, c2, rfl, _, _, _, _⟩ := own_form hown
    clear hown
    go_wp2_with fail
    refine (same_err 4 4 _ (hg.up hb2)).mono ?_
    rintro e w3 ⟨rfl, hb3⟩
    have hb := below_up hb2 hb3
    go_wp2_with fail
    go_ret
    exact ⟨rfl, hb⟩

set_option maxRecDepth 100000 in
set_option maxHeartbeats 8000000 in
theorem lawloads_good (A : Option Addr) (c : Nat) (l : List Int) (p : Nat) (w : World) (hg : HasErr w) (hr : Rd w w.heap.size 1 A l.length (l.map iv)) (hl : l.length ≤ 140737488355328)
    (hE : spreadE l.length p = 0) :
    Calls Tryd.prog 5 #[.slice A l.length c, .int .i64 p] w fun e w' => e = .returned (.bool true) ∧ Below w.heap.size w w' := by
  have hp : 1 ≤ p ∧ p ≤ 16 ∧ l.length ≤ 400 := by
    unfold spreadE at hE
    split at hE
    · cases hE
    · split at hE
      · cases hE
      · omega
  obtain ⟨hp1', hp16, hn4⟩ := hp
  have hp0 : -9223372036854775808 ≤ (p : Int) := by omega
  have hp1 : (p : Int) ≤ 9223372036854775807 := by omega
  have HSE := Lib.hid hE
  have hle := fun W (hb : Below w.heap.size w W) => least_any A c w.heap.size l p W (hr.below hb (Nat.le_refl _)) hb.size hl hp0 hp1
  obtain ⟨n, hn⟩ : ∃ n, n = l.length := ⟨_, rfl⟩
  rw [← hn] at hr hl hn4 hle ⊢
  have Hn := Lib.hid hn
  have HLE := Lib.hid hle
  clear hn hE hle
  go_enter Tryd.func5, Tryd.ntmps5
  go_wp2_with fail
  go_loopw [5, 6] (fun e i wr => ∃ k E : Nat, k ≤ n ∧ i = .int .i64 k ∧ e = .int .i64 E ∧ Hid ((E = 0 ∧ ∀ j, j < k → 0 ≤ atD l j ∧ atD l j ≤ 1000000) ∨ (E = 1 ∧ loadsOk l = false)) ∧ w = wr) (fun e i _ => n - (intOf i).toNat + (1 - (intOf e).toNat))
  case atStart => exact ⟨0, 0, Nat.zero_le _, rfl, rfl, Lib.hid (.inl ⟨rfl, fun j hj => by omega⟩), rfl⟩
  obtain ⟨k, E, hk, rfl, rfl, HR, rfl⟩ := hrel
  rcases HR.out with ⟨e0, hall⟩ | ⟨e1, hbad⟩
  · subst e0
    have HA := Lib.hid hall
    clear hall HR
    by_cases hlt : k < n
    · obtain ⟨ad, rfl, _, g0⟩ := hr.int_ hlt
      obtain ⟨y, hy⟩ : ∃ y, y = atD l k := ⟨_, rfl⟩
      rw [← hy] at g0
      have HY := Lib.hid hy
      clear hy
      have hk0 : (0 : Int) ≤ (k : Int) := by omega
      have hk1 : (k : Int) < (n : Int) := by omega
      by_cases hlo : y < 0
      · have ho : loadsOk l = false := loadsOk_not (j := k) (by have := Hn.out; omega) (by rw [← HY.out]; omega)
        have HO := Lib.hid ho
        clear ho
        go_wp2_with fail
        go_roundw
        case rel => exact ⟨k + 1, 1, by omega, by go_num, rfl, Lib.hid (.inr ⟨rfl, HO.out⟩), trivial⟩
        case measure => simp [intOf]; omega
      by_cases hhi : 1000000 < y
      · have ho : loadsOk l = false := loadsOk_not (j := k) (by have := Hn.out; omega) (by rw [← HY.out]; omega)
        have HO := Lib.hid ho
        clear ho
        go_wp2_with fail
        go_roundw
        case rel => exact ⟨k + 1, 1, by omega, by go_num, rfl, Lib.hid (.inr ⟨rfl, HO.out⟩), trivial⟩
        case measure => simp [intOf]; omega
      go_wp2_with fail
      go_roundw
      case rel =>
        refine ⟨k + 1, 0, by omega, by go_num, rfl, Lib.hid (.inl ⟨rfl, fun j hj => ?_⟩), trivial⟩
        by_cases hjk : j = k
        · subst hjk; rw [← HY.out]; omega
        · exact HA.out j (by omega)
      case measure => simp [intOf]; omega
    · have hok : loadsOk l = true := loadsOk_of (by rw [← Hn.out]; exact fun j hj => HA.out j (by omega))
      have HE : Hid (leastE l p = 0) := Lib.hid (leastE_good HSE.out hok)
      have HALL := Lib.hid (loadsOk_all hok)
      clear hok HA
      go_wp2_with fail
      refine (HLE.out w (Below.refl _ _)).mono ?_
      rintro e w2 ⟨v2, rfl, out, hout, hown, hb2⟩
      rw [HE.out]
      rw [if_pos HE.out] at hout
      obtain ⟨ord, hord, hout⟩ := hout
      have HO := Lib.hid hord
      have HOUT := Lib.hid (show out = (gives l p ord).2 by rw [hout]; simp)
      have hol : out.length = n := by rw [hout, Hn.out]; exact (gives_len l _ ord).2
      rw [hol] at hown
      obtain ⟨Ao, co, rfl, _, _, _, hro⟩ := own_form hown
      clear hown hout hord hol
      go_wp2_with fail
      refine (same_err 0 0 _ (hg.up hb2)).mono ?_
      rintro e w3 ⟨rfl, hb3⟩
      have hbb3 := below_up hb2 hb3
      have hro3 := (hro.below hb3 (Nat.le_refl _)).more hb3.size
      have hmk1 := run_make_row' (P := Tryd.prog) 42 4 (.bool false) 1 Tryd.underlying42 (by kernel_rfl) rfl .i64 .i64 n (by omega) (by omega) w3
      have hmk2 := run_make_row' (P := Tryd.prog) 23 3 (.int .i64 0) 8 Tryd.underlying23 (by kernel_rfl) rfl .i64 .i64 p (by omega) (by omega) (w3.alloc (.cells (madeCells #[.bool false] n) 4))
      have hD0 := (Blk.new w3 4 (madeCells #[.bool false] n)).alloc (.cells (madeCells #[.int .i64 0] p) 3)
      have hS0 := Blk.new (w3.alloc (.cells (madeCells #[.bool false] n) 4)) 3 (madeCells #[.int .i64 0] p)
      have hb4 := ((Below.refl w3.heap.size w3).alloc (Nat.le_refl _) (.cells (madeCells #[.bool false] n) 4)).alloc (by simp) (.cells (madeCells #[.int .i64 0] p) 3)
      rw [show (w3.alloc (.cells (madeCells #[.bool false] n) 4)).heap.size = w3.heap.size + 1 from by simp] at hS0
      go_wp2_with fail
      generalize (w3.alloc (.cells (madeCells #[.bool false] n) 4)).alloc (.cells (madeCells #[.int .i64 0] p) 3) = w4 at *
      obtain ⟨gd, hgd⟩ : ∃ gd, gd = w3.heap.size := ⟨_, rfl⟩
      rw [← hgd] at hD0 hS0 hb4 ⊢
      have HGD := Lib.hid hgd
      clear hgd hmk1 hmk2 hro hb2 hb3
      rw [← ivs_made] at hS0
      rw [← dCells_nil] at hD0
      go_loopw [80] (fun i wr => ∃ r : Nat, r ≤ n ∧ i = .int .i64 r ∧ Blk wr gd 4 (dCells (ord.take r) n) ∧ Blk wr (gd + 1) 3 (ivs (gives l p (ord.take r)).1) ∧ Below gd w3 wr) (fun i _ => n - (intOf i).toNat)
      case atStart =>
        refine ⟨0, Nat.zero_le _, rfl, by simpa using hD0, ?_, hb4⟩
        simpa [gives] using hS0
      clear hD0 hS0 hb4
      obtain ⟨r, hrn, rfl, hD, hS, hb4⟩ := hrel
      have hsz3 : w.heap.size ≤ gd := by rw [HGD.out]; exact hbb3.size
      by_cases hlt2 : r < n
      · obtain ⟨i, hoi⟩ : ∃ i, ord[r]? = some i := ⟨_, List.getElem?_eq_getElem (by rw [HO.out.len, ← Hn.out]; exact hlt2)⟩
        have hin : i < n := by have := HO.out.lt i (List.mem_of_getElem? hoi); have := Hn.out; omega
        have hbest := HO.out.bestTo hoi
        rw [← Hn.out] at hbest
        have HB := Lib.hid hbest
        have HOI := Lib.hid hoi
        clear hbest hoi
        go_wp2_with fail
        go_loopw [12, 13] (fun a j wx => ∃ k : Nat, ∃ z : Int, k ≤ n ∧ j = .int .i64 k ∧ a = .int .i64 z ∧ Hid (z = bestTo (ord.take r) l k) ∧ Blk wx gd 4 (dCells (ord.take r) n) ∧ Blk wx (gd + 1) 3 (ivs (gives l p (ord.take r)).1) ∧ Below gd w3 wx) (fun _ j _ => n - (intOf j).toNat)
        case atStart => exact ⟨0, -1, Nat.zero_le _, rfl, rfl, Lib.hid rfl, hD, hS, hb4⟩
        clear hD hS hb4
        obtain ⟨k, z, hk, rfl, rfl, HZ, hD, hS, hb4⟩ := hrel
        by_cases hlt3 : k < n
        · obtain ⟨ad, rfl, _, g0⟩ := (hr.below (hbb3.trans (hb4.mono hsz3)) (Nat.le_refl _)).int_ hlt3
          have hdc := (hD.cell k).trans (dCells_at hlt3)
          have hbs : bestTo (ord.take r) l (k + 1) = if k ∉ ord.take r ∧ (z < 0 ∨ atD l z.toNat < atD l k) then (k : Int) else z := by rw [bestTo, ← HZ.out]
          have hzl := bestTo_lt (ord.take r) l k
          rw [← HZ.out] at hzl
          obtain ⟨hz0, hz1⟩ := hzl
          have HBS := Lib.hid hbs
          have hk0 : (0 : Int) ≤ (k : Int) := by omega
          have hk1 : (k : Int) < (n : Int) := by omega
          clear hbs
          by_cases hkd : k ∈ ord.take r
          · rw [decide_eq_true hkd] at hdc
            go_wp2_with fail
            go_quiet (fail)
            have hbq := below_drewN hb4 nq
            have hDq := hD.drewN nq
            have hSq := hS.drewN nq
            generalize wr.drewN nq = wq at *
            go_wp2_with fail
            go_roundw
            case rel => exact ⟨k + 1, z, by omega, by go_num, rfl, Lib.hid (by rw [HBS.out, if_neg (by simp [hkd])]), hDq, hSq, hbq⟩
            case measure => simp [intOf]; omega
          · rw [decide_eq_false hkd] at hdc
            by_cases hzn : z < 0
            · have t0 : decide (z < 0) = true := by simpa using hzn
              go_wp2_with fail
              go_quiet (fail)
              have hbq := below_drewN hb4 nq
              have hDq := hD.drewN nq
              have hSq := hS.drewN nq
              generalize wr.drewN nq = wq at *
              go_wp2_with fail
              go_roundw
              case rel => exact ⟨k + 1, k, by omega, by go_num, rfl, Lib.hid (by rw [HBS.out, if_pos ⟨hkd, .inl hzn⟩]), hDq, hSq, hbq⟩
              case measure => simp [intOf]; omega
            · obtain ⟨a, ha⟩ : ∃ a : Nat, z = a := ⟨z.toNat, by omega⟩
              subst ha
              have han : a < n := by omega
              obtain ⟨ad2, e2, _, g2⟩ := (hr.below (hbb3.trans (hb4.mono hsz3)) (Nat.le_refl _)).int_ han
              injection e2 with e2
              subst e2
              have ha0 : (0 : Int) ≤ (a : Int) := by omega
              have ha1 : (a : Int) < (n : Int) := by omega
              have t0 : decide ((a : Int) < 0) = false := by simp
              rw [Int.toNat_natCast] at HBS
              obtain ⟨x, hx⟩ : ∃ x, x = atD l a := ⟨_, rfl⟩
              obtain ⟨y, hy⟩ : ∃ y, y = atD l k := ⟨_, rfl⟩
              rw [← hx] at g2 HBS
              rw [← hy] at g0 HBS
              clear hx hy
              by_cases hxy : x < y
              · have t1 : decide (x < y) = true := by simpa using hxy
                go_wp2_with fail
                go_quiet (fail)
                have hbq := below_drewN hb4 nq
                have hDq := hD.drewN nq
                have hSq := hS.drewN nq
                generalize wr.drewN nq = wq at *
                go_wp2_with fail
                go_roundw
                case rel => exact ⟨k + 1, k, by omega, by go_num, rfl, Lib.hid (by rw [HBS.out, if_pos ⟨hkd, .inr hxy⟩]), hDq, hSq, hbq⟩
                case measure => simp [intOf]; omega
              · have t1 : decide (x < y) = false := by simpa using hxy
                go_wp2_with fail
                go_quiet (fail)
                have hbq := below_drewN hb4 nq
                have hDq := hD.drewN nq
                have hSq := hS.drewN nq
                generalize wr.drewN nq = wq at *
                go_wp2_with fail
                go_roundw
                case rel => exact ⟨k + 1, a, by omega, by go_num, rfl, Lib.hid (by rw [HBS.out, if_neg (by simp; omega)]), hDq, hSq, hbq⟩
                case measure => simp [intOf]; omega
        · have hkn : k = n := by omega
          have hzi : z = (i : Int) := by rw [HZ.out, hkn]; exact HB.out
          subst hzi
          clear hkn hk HZ HB
          obtain ⟨hl1, hl2⟩ := gives_len l p (ord.take r)
          have hls : Hid (leastTo (gives l p (ord.take r)).1 p = leastAt (gives l p (ord.take r)).1) := Lib.hid (by rw [leastAt, hl1])
          have hl0 : Hid (leastTo (gives l p (ord.take r)).1 1 = 0) := Lib.hid (leastTo_one _)
          go_wp2_with fail
          obtain ⟨s, hs⟩ : ∃ s, s = (gives l p (ord.take r)).1 := ⟨_, rfl⟩
          rw [← hs] at hS hls hl0 hl1
          have HS0 := Lib.hid hs
          have HL1 := Lib.hid hl1
          clear hs hl1
          have hsb : ∀ q, 0 ≤ atD s q ∧ atD s q ≤ 400000000 := fun q => by
            have h1 := gives_bd (l := l) (m := p) (by omega) HALL.out (ord.take r) q
            have h2 : ((ord.take r).length : Int) ≤ 400 := by rw [List.length_take]; omega
            rw [← HS0.out] at h1
            exact ⟨h1.1, by omega⟩
          have HSB := Lib.hid hsb
          clear hsb
          go_loopw [14, 15] (fun a j wx => ∃ k m : Nat, 1 ≤ k ∧ k ≤ p ∧ m < p ∧ j = .int .i64 k ∧ a = .int .i64 m ∧ Hid (m = leastTo s k) ∧ Blk wx gd 4 (dCells (ord.take r) n) ∧ Blk wx (gd + 1) 3 (ivs s) ∧ Below gd w3 wx) (fun _ j _ => p - (intOf j).toNat)
          case atStart => exact ⟨1, 0, Nat.le_refl _, hp1', by omega, rfl, rfl, Lib.hid hl0.out.symm, hD, hS, hb4⟩
          clear hD hS hb4
          obtain ⟨k, m, hk1, hk, hm, rfl, rfl, HM, hD, hS, hb4⟩ := hrel
          by_cases hlt4 : k < p
          · have hck := (hS.cell k).trans (ivs_get (by rw [HL1.out]; exact hlt4))
            have hcm := (hS.cell m).trans (ivs_get (by rw [HL1.out]; exact hm))
            have hle : leastTo s (k + 1) = if atD s k < atD s m then k else m := by rw [leastTo, ← HM.out]
            obtain ⟨y, hy⟩ : ∃ y, y = atD s k := ⟨_, rfl⟩
            obtain ⟨x, hx⟩ : ∃ x, x = atD s m := ⟨_, rfl⟩
            rw [← hy] at hck hle
            rw [← hx] at hcm hle
            have HLE2 := Lib.hid hle
            clear hle hx hy
            have hk0 : (0 : Int) ≤ (k : Int) := by omega
            have hk1' : (k : Int) < (p : Int) := by omega
            have hm0 : (0 : Int) ≤ (m : Int) := by omega
            have hm1 : (m : Int) < (p : Int) := by omega
            by_cases hyx : y < x
            · have t0 : decide (y < x) = true := by simpa using hyx
              go_wp2_with fail
              go_quiet (fail)
              have hbq := below_drewN hb4 nq
              have hDq := hD.drewN nq
              have hSq := hS.drewN nq
              generalize wr.drewN nq = wq at *
              go_wp2_with fail
              go_roundw
              case rel => exact ⟨k + 1, k, by omega, by omega, hlt4, by go_num, rfl, Lib.hid (by rw [HLE2.out, if_pos hyx]), hDq, hSq, hbq⟩
              case measure => simp [intOf]; omega
            · have t0 : decide (y < x) = false := by simpa using hyx
              go_wp2_with fail
              go_quiet (fail)
              have hbq := below_drewN hb4 nq
              have hDq := hD.drewN nq
              have hSq := hS.drewN nq
              generalize wr.drewN nq = wq at *
              go_wp2_with fail
              go_roundw
              case rel => exact ⟨k + 1, m, by omega, by omega, hm, by go_num, rfl, Lib.hid (by rw [HLE2.out, if_neg (by omega)]), hDq, hSq, hbq⟩
              case measure => simp [intOf]; omega
          · have hkp : k = p := by omega
            have hmm : m = leastAt s := by rw [HM.out, hkp]; exact hls.out
            have hgt := gives_take (l := l) (m := p) HOI.out
            rw [give, ← HS0.out, ← hmm] at hgt
            have hga := gives_at (l := l) (m := p) ord r i HO.out.nodup HO.out.lt HOI.out
            rw [← HOUT.out, ← HS0.out, ← hmm] at hga
            have hdt : dCells (ord.take r ++ [i]) n = dCells (ord.take (r + 1)) n := by rw [List.take_add_one, HOI.out]; rfl
            have HDT := Lib.hid hdt
            have HGT := Lib.hid hgt
            have hmp : m < s.length := by rw [HL1.out]; exact hm
            obtain ⟨sx0, sx1⟩ := HSB.out m
            obtain ⟨y0, y1⟩ := atD_bd HALL.out i
            have hdf := hD.frozen i
            have hdc := (hD.cell i).trans (dCells_at hin)
            have hD2 := hD.set_ i (.bool true)
            rw [dCells_set, HDT.out] at hD2
            have hS2 := hS.far (p := ⟨gd, i, none⟩) (by simp) (.bool true)
            have hb5 := hb4.setCell (p := ⟨gd, i, none⟩) (Nat.le_refl _) (.bool true)
            have hi0 : (0 : Int) ≤ (i : Int) := by omega
            have hi1 : (i : Int) < (n : Int) := by omega
            have hm0 : (0 : Int) ≤ (m : Int) := by omega
            have hm1 : (m : Int) < (p : Int) := by omega
            clear hdt hgt hD hS hkp hmm
            go_wp2_with fail
            generalize wr.setCell ⟨gd, i, none⟩ (.bool true) = wq at *
            obtain ⟨adl, rfl, _, gl⟩ := (hr.below (hbb3.trans (hb5.mono hsz3)) (Nat.le_refl _)).int_ hin
            have hsc := (hS2.cell m).trans (ivs_get hmp)
            have hsf := hS2.frozen m
            have hS3 := hS2.set_ m (.int .i64 (atD s m + atD l i))
            rw [ivs_set] at hS3
            have hD3 := hD2.far (p := ⟨gd + 1, m, none⟩) (by simp) (.int .i64 (atD s m + atD l i))
            have hb6 := hb5.setCell (p := ⟨gd + 1, m, none⟩) (by simp) (.int .i64 (atD s m + atD l i))
            obtain ⟨ado, rfl, _, gout⟩ := (hro3.below hb6 (by rw [HGD.out]; exact Nat.le_refl _)).int_ hin
            rw [hga] at gout
            have HSS := Lib.hid (show s.set m (atD s m + atD l i) = (gives l p (ord.take (r + 1))).1 from by rw [HGT.out])
            rw [HSS.out] at hS3
            clear HSS HGT hga hS2 hD2 hmp
            generalize atD s m = x at *
            generalize atD l i = y at *
            have hwt : IntKind.i64.wrap (x + y) = x + y := IntWalk.i64_in _ (by omega)
            go_still_tail 12, (by kernel_rfl)
            change wpList _ _ _ _ _ wq.drew
            go_wp2_with fail
            go_roundw
            case rel => exact ⟨r + 1, by omega, by go_num, hD3.drew, hS3.drew, hb6.drew⟩
            case measure => simp [intOf]; omega
      · go_wp2_with fail
        go_ret
        exact ⟨rfl, hbb3.trans (hb4.mono hsz3)⟩
  · subst e1
    have HE : Hid (leastE l p = 1) := Lib.hid (leastE_one HSE.out hbad)
    clear hbad HR
    by_cases hlt : k < n
    · go_wp2_with fail
      refine (HLE.out w (Below.refl _ _)).mono ?_
      rintro e w2 ⟨v2, rfl, out, hout, hown, hb2⟩
      rw [HE.out] at hout ⊢
      rw [if_neg (by decide)] at hout
      subst hout
      obtain ⟨A2, c2, rfl, _, _, _, _⟩ := own_form hown
      clear hown
      go_wp2_with fail
      refine (same_err 1 1 _ (hg.up hb2)).mono ?_
      rintro e w3 ⟨rfl, hb3⟩
      have hb := below_up hb2 hb3
      go_wp2_with fail
      go_ret
      exact ⟨rfl, hb⟩
    · go_wp2_with fail
      refine (HLE.out w (Below.refl _ _)).mono ?_
      rintro e w2 ⟨v2, rfl, out, hout, hown, hb2⟩
      rw [HE.out] at hout ⊢
      rw [if_neg (by decide)] at hout
      subst hout
      obtain ⟨A2, c2, rfl, _, _, _, _⟩ := own_form hown
      clear hown
      go_wp2_with fail
      refine (same_err 1 1 _ (hg.up hb2)).mono ?_
      rintro e w3 ⟨rfl, hb3⟩
      have hb := below_up hb2 hb3
      go_wp2_with fail
      go_ret
      exact ⟨rfl, hb⟩
theorem lawloads_any (A : Option Addr) (c : Nat) (l : List Int) (p : Int) (w : World) (hg : HasErr w) (hr : Rd w w.heap.size 1 A l.length (l.map iv)) (hl : l.length ≤ 140737488355328)
    (hp0 : -9223372036854775808 ≤ p) (hp1 : p ≤ 9223372036854775807) :
    Calls Tryd.prog 5 #[.slice A l.length c, .int .i64 p] w fun e w' => e = .returned (.bool true) ∧ Below w.heap.size w w' := by
  by_cases hE : spreadE l.length p = 0
  · have hp : 1 ≤ p := by
      unfold spreadE at hE
      split at hE
      · cases hE
      · omega
    obtain ⟨q, rfl⟩ : ∃ q : Nat, p = q := ⟨p.toNat, by omega⟩
    exact lawloads_good A c l q w hg hr hl hE
  · exact lawloads_bad A c l p w hg hr hl hp0 hp1 hE
end Go.Proofs.YtelailhghhjleaaDoor
