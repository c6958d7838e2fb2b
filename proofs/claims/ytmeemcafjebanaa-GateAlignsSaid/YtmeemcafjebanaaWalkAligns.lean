/- The walk of weirlaw2.GateAligns. -/
import Derived.Test.YtmeemcafjebanaaWalkFill
namespace Go.Proofs.Ytmeemcafjebanaa
open Go.RowKit

def natAt (l : List Int) (j : Nat) : Nat := (l.getD j 0).toNat
/-- The first i numbers of both lists are from 0 to 20. -/
def Small (l l' : List Int) (i : Nat) : Prop := ∀ j, j < i → 0 ≤ l.getD j 0 ∧ l.getD j 0 ≤ 20 ∧ 0 ≤ l'.getD j 0 ∧ l'.getD j 0 ≤ 20
def lastZ (a k : Nat) : Int := if k ≤ a then 0 else 3
theorem Rd.int_ {w : World} {B n k : Nat} {A : Option Addr} {l : List Int} (h : Rd w B 1 A n (l.map iv)) (hk : k < n) : ∃ ad, A = some ad ∧ ad.block < B ∧ w.cell? (ad.add k) = some (.int .i64 (l.getD k 0)) := by
  obtain ⟨ad, u, rfl, hb, hu, hc⟩ := h.at_ hk
  refine ⟨ad, rfl, hb, hc.trans ?_⟩
  have hl : k < l.length := by have := h.1; simp at this; omega
  rw [← hu, List.getElem?_map, List.getD_eq_getElem?_getD, List.getElem?_eq_getElem hl]
  rfl

theorem FillAt.next {w : World} {Z : Nat → Prop} {G n i : Nat} {a b : Nat → Nat} {z : Int} (h : FillAt w Z G a b n i (full (a i) (b i)) z) : FillAt w Z G a b n (i + 1) [] 0 := by
  obtain ⟨s, h1, h2⟩ := h
  exact ⟨s, h1, h2.next⟩
theorem sumN_20 {f : Nat → Nat} : ∀ {k : Nat}, (∀ j, j < k → f j ≤ 20) → sumN f k ≤ 20 * k := by
  intro k
  induction k with
  | zero => intro _; simp [sumN]
  | succ k ih => intro h; rw [sumN_succ]; have := ih fun j hj => h j (by omega); have := h k (by omega); omega
theorem Small.nat {l l' : List Int} {k : Nat} (h : Small l l' k) (j : Nat) (hj : j < k) : natAt l j ≤ 20 ∧ natAt l' j ≤ 20 := by
  have := h j hj
  unfold natAt; omega
theorem lastZ_step {a j : Nat} (h : j ≠ a) : lastZ a (j + 1) = lastZ a j := by
  unfold lastZ
  by_cases h1 : j < a
  · rw [if_pos (by omega), if_pos (by omega)]
  · rw [if_neg (by omega), if_neg (by omega)]
def seenCells (t : Nat → Nat) (n : Nat) : Array Value := ((List.range n).map fun j => Value.int .i64 (t j : Int)).toArray
theorem sumN_zero : ∀ n : Nat, sumN (fun _ => 0) n = 0 := by
  intro n
  induction n with
  | zero => rfl
  | succ n ih => rw [sumN_succ, ih]
theorem seenCells_zero (n : Nat) : seenCells (fun _ => 0) n = madeCells #[.int .i64 0] n := by
  rw [made_one, seenCells]
  congr 1
  apply List.ext_getElem?
  intro j
  by_cases h : j < n <;> simp [h]
theorem seenCells_at {t : Nat → Nat} {n i : Nat} (h : i < n) : (seenCells t n)[i]? = some (.int .i64 (t i : Int)) := by simp [seenCells, h]
theorem seenCells_upd {t : Nat → Nat} {n i : Nat} : (seenCells t n).setIfInBounds i (.int .i64 ((t i : Int) + 1)) = seenCells (upd t i) n := by
  apply Array.ext_getElem?
  intro j
  simp only [seenCells, List.setIfInBounds_toArray, List.getElem?_toArray, List.getElem?_set, List.getElem?_map]
  by_cases hj : i = j
  · subst hj
    by_cases h : i < n
    · simp [h, upd]
    · simp [h]
  · simp only [if_neg hj]
    by_cases h : j < n
    · simp [h, upd, Ne.symm hj]
    · simp [h]
theorem seenCells_eq {t u : Nat → Nat} {n : Nat} (h : ∀ j, j < n → t j = u j) : seenCells t n = seenCells u n := by
  rw [seenCells, seenCells]
  congr 1
  exact List.map_congr_left fun j hj => by rw [h j (List.mem_range.1 hj)]
theorem Go1At.full {w : World} {Z : Nat → Prop} {G n : Nat} {a b t : Nat → Nat} (h : Go1At w Z G a b n t) (hs : sumN a n ≤ sumN t n) : ∀ j, j < n → t j = a j := by
  obtain ⟨s, _, h2⟩ := h
  exact fun j hj => (h2.bar hs j hj).1
/-- What the row of what was seen sums up to. -/
def seenSum (w : World) (gs n : Nat) : Nat := sumN (fun j => match w.cell? ⟨gs, j, none⟩ with | some v => (intOf v).toNat | none => 0) n
theorem sumN_congr {f g : Nat → Nat} : ∀ {n : Nat}, (∀ j, j < n → f j = g j) → sumN f n = sumN g n := by
  intro n
  induction n with
  | zero => intro _; rfl
  | succ n ih => intro h; rw [sumN_succ, sumN_succ, ih fun j hj => h j (by omega), h n (by omega)]
theorem seenSum_of {w : World} {gs n : Nat} {ty : TypeId} {t : Nat → Nat} (h : Blk w gs ty (seenCells t n)) : seenSum w gs n = sumN t n := by
  refine sumN_congr fun j hj => ?_
  rw [h.cell j, seenCells_at hj]
  simp [intOf]
theorem Go2At.le {w : World} {Z : Nat → Prop} {G n : Nat} {a b t : Nat → Nat} (h : Go2At w Z G a b n t) : ∀ j, j < n → t j ≤ a j + b j := by
  obtain ⟨s, _, h2⟩ := h
  exact h2.le
def Bare (w : World) (Z : Nat → Prop) (G : Nat) : Prop := ∃ s, GateAt w Z G s ∧ waitingG s = 0
theorem Bare.drewN {w : World} {Z : Nat → Prop} {G : Nat} (h : Bare w Z G) (n : Nat) : Bare (w.drewN n) Z G := by obtain ⟨s, h1, h2⟩ := h; exact ⟨s, h1.drewN n, h2⟩
theorem Bare.alloc {w : World} {Z : Nat → Prop} {G : Nat} (h : Bare w Z G) (o : Obj) : Bare (w.alloc o) Z G := by obtain ⟨s, h1, h2⟩ := h; exact ⟨s, h1.alloc o, h2⟩
theorem Go1At.start {w : World} {Z : Nat → Prop} {G n : Nat} {a b : Nat → Nat} (h : FillAt w Z G a b n n [] 0) (o : Obj) : Go1At (w.alloc o) (fun j => Z j ∨ j = w.heap.size) G a b n (fun _ => 0) := by
  obtain ⟨s, h1, h2⟩ := h
  exact ⟨s, (h1.more (fun j hj => by omega)).alloc o, Go1.start h2⟩
set_option maxRecDepth 100000 in
set_option maxHeartbeats 8000000 in
theorem aligns_walk (A A' : Option Addr) (c c' : Nat) (l l' : List Int) (w : World) (hr : Rd w w.heap.size 1 A l.length (l.map iv)) (hr' : Rd w w.heap.size 1 A' l'.length (l'.map iv))
    (hl : l.length ≤ 140737488355328) (hl' : l'.length ≤ 140737488355328) :
    Calls Try.prog 3 #[.slice A l.length c, .slice A' l'.length c'] w fun e w' => e = .returned (.bool true) ∧ Below w.heap.size w w' := by
  obtain ⟨n, hn⟩ : ∃ n, n = l.length := ⟨_, rfl⟩
  obtain ⟨n', hn'⟩ : ∃ n', n' = l'.length := ⟨_, rfl⟩
  rw [← hn] at hr hl ⊢
  rw [← hn'] at hr' hl' ⊢
  clear hn hn'
  have hz0 : ∀ k, k < w.heap.size → k < w.heap.size := fun _ h => h
  have e7 : ∀ W : World, Keeps (· < w.heap.size) w W → ∀ k, k < w.heap.size → k < W.heap.size := fun W h k hk => by have := h.size; omega
  by_cases hn1 : n < 1
  ·
    go_enter Try.func3, Try.ntmps3
    go_wp2_with (first
      | (go_at_call_of 4 (Value.int .i64 1); refine (new_good 1 w (· < w.heap.size) (by omega) (by omega) hz0).mono ?_; rintro e w1 ⟨G0, rfl, hG0, hK1⟩)
      | (go_at_call 5; refine (one_bar hG0 (e7 _ hK1)).mono ?_; rintro e w2 ⟨rfl, hG1, hK2⟩; replace hK2 := hK1.trans hK2)
      | (go_at_call 6; refine (one_bound hG1 (e7 _ hK2)).mono ?_; rintro e w3 ⟨rfl, hK3⟩; replace hK3 := hK2.trans hK3)
      | (go_at_call_of 4 (Value.int .i64 (n : Int)); refine (newG_fill w3 (· < w3.heap.size) (natAt l) (natAt l') n (by omega) (by omega) (fun _ h => h)).mono ?_; rintro e w4 ⟨G, rfl, hF, hK4⟩))
    go_ret
    exact ⟨rfl, hK3.below fun _ h => h⟩
  by_cases hn20 : 20 < n
  ·
    go_enter Try.func3, Try.ntmps3
    go_wp2_with (first
      | (go_at_call_of 4 (Value.int .i64 1); refine (new_good 1 w (· < w.heap.size) (by omega) (by omega) hz0).mono ?_; rintro e w1 ⟨G0, rfl, hG0, hK1⟩)
      | (go_at_call 5; refine (one_bar hG0 (e7 _ hK1)).mono ?_; rintro e w2 ⟨rfl, hG1, hK2⟩; replace hK2 := hK1.trans hK2)
      | (go_at_call 6; refine (one_bound hG1 (e7 _ hK2)).mono ?_; rintro e w3 ⟨rfl, hK3⟩; replace hK3 := hK2.trans hK3)
      | (go_at_call_of 4 (Value.int .i64 (n : Int)); refine (newG_fill w3 (· < w3.heap.size) (natAt l) (natAt l') n (by omega) (by omega) (fun _ h => h)).mono ?_; rintro e w4 ⟨G, rfl, hF, hK4⟩))
    go_ret
    exact ⟨rfl, hK3.below fun _ h => h⟩
  by_cases hnn : n' = n
  · have hnn2 := hnn.symm
    subst hnn2
    clear hnn
    go_enter Try.func3, Try.ntmps3
    go_wp2_with (first
      | (go_at_call_of 4 (Value.int .i64 1); refine (new_good 1 w (· < w.heap.size) (by omega) (by omega) hz0).mono ?_; rintro e w1 ⟨G0, rfl, hG0, hK1⟩)
      | (go_at_call 5; refine (one_bar hG0 (e7 _ hK1)).mono ?_; rintro e w2 ⟨rfl, hG1, hK2⟩; replace hK2 := hK1.trans hK2)
      | (go_at_call 6; refine (one_bound hG1 (e7 _ hK2)).mono ?_; rintro e w3 ⟨rfl, hK3⟩; replace hK3 := hK2.trans hK3)
      | (go_at_call_of 4 (Value.int .i64 (n : Int)); refine (newG_fill w3 (· < w3.heap.size) (natAt l) (natAt l') n (by omega) (by omega) (fun _ h => h)).mono ?_; rintro e w4 ⟨G, rfl, hF, hK4⟩))
    have hF := hF
    clear hG0 hK1 hG1 hK2
    go_loopw [12, 13] (fun x i wr => ∃ k : Nat, k ≤ n ∧ i = .int .i64 k ∧ x = .int .i64 (sumN (natAt l) k) ∧ Hid (Small l l' k) ∧ FillAt wr (· < w3.heap.size) G (natAt l) (natAt l') n k [] 0 ∧ Keeps (· < w3.heap.size) w3 wr) (fun _ i _ => n - (intOf i).toNat)
    case atStart => exact ⟨0, Nat.zero_le _, rfl, rfl, Lib.hid (fun j hj => by omega), hF, hK4⟩
    case round =>
      obtain ⟨k, hk, rfl, rfl, HS, hF, hK4⟩ := hrel
      have hbw : Below w.heap.size w wr := (hK3.trans (hK4.mono fun j hj => by have := hK3.size; omega)).below fun _ h => h
      by_cases hlt : k < n
      · obtain ⟨ad, rfl, hbA, cA0⟩ := hr.int_ hlt
        obtain ⟨ad', rfl, hbB, cB0⟩ := hr'.int_ hlt
        obtain ⟨x, hx⟩ : ∃ x, x = l.getD k 0 := ⟨_, rfl⟩
        obtain ⟨y, hy⟩ : ∃ y, y = l'.getD k 0 := ⟨_, rfl⟩
        rw [← hx] at cA0
        rw [← hy] at cB0
        have HX := Lib.hid hx
        have HY := Lib.hid hy
        clear hx hy
        have CA := Lib.hid (fun (W : World) (h : Below w.heap.size w W) => (h.cell (p := ad.add k) (by rw [block_add]; exact hbA)).trans cA0)
        have CB := Lib.hid (fun (W : World) (h : Below w.heap.size w W) => (h.cell (p := ad'.add k) (by rw [block_add]; exact hbB)).trans cB0)
        have cA := CA.out _ hbw
        have cB := CB.out _ hbw
        clear cA0 cB0
        by_cases hx0 : x < 0
        · go_wp2
          go_ret
          exact ⟨rfl, hbw⟩
        by_cases hx1 : 20 < x
        · go_wp2
          go_ret
          exact ⟨rfl, hbw⟩
        by_cases hy0 : y < 0
        · go_wp2
          go_ret
          exact ⟨rfl, hbw⟩
        by_cases hy1 : 20 < y
        · go_wp2
          go_ret
          exact ⟨rfl, hbw⟩
        obtain ⟨a, rfl⟩ : ∃ a : Nat, x = a := ⟨x.toNat, by omega⟩
        obtain ⟨b, rfl⟩ : ∃ b : Nat, y = b := ⟨y.toNat, by omega⟩
        have HS2 : Hid (Small l l' (k + 1)) := Lib.hid (fun j hj => by
          by_cases hjk : j = k
          · subst hjk; rw [← HX.out, ← HY.out]; omega
          · exact HS.out j (by omega))
        have ha : Hid (natAt l k = a) := Lib.hid (by rw [natAt, ← HX.out]; omega)
        have hb : Hid (natAt l' k = b) := Lib.hid (by rw [natAt, ← HY.out]; omega)
        go_wp2_with fail
        clear cA cB
        go_loopw [14] (fun v wr => ∃ j : Nat, j ≤ a + b ∧ v = .int .i64 j ∧ FillAt wr (· < w3.heap.size) G (natAt l) (natAt l') n k (part a j) (lastZ a j) ∧ Keeps (· < w3.heap.size) w3 wr) (fun v _ => a + b - (intOf v).toNat)
        case atStart => exact ⟨0, Nat.zero_le _, rfl, by rw [part_zero, show lastZ a 0 = 0 from if_pos (Nat.zero_le _)]; exact hF, hK4⟩
        case round =>
          clear hF hK4 hbw
          obtain ⟨j, hj, rfl, hF, hK4⟩ := hrel
          have hbw : Below w.heap.size w wr := (hK3.trans (hK4.mono fun j hj => by have := hK3.size; omega)).below fun _ h => h
          have cA := CA.out _ hbw
          have cB := CB.out _ hbw
          have hwab : IntKind.i64.wrap ((a : Int) + (b : Int)) = (a : Int) + (b : Int) := IntWalk.i64_in _ (by omega)
          by_cases hjl : j < a + b
          · go_wp2_with fail
            go_quiet (fail)
            have hF := hF.drewN nq
            have hK4 := hK4.drewN nq
            have hbw := below_drewN hbw nq
            have cA : (wr.drewN nq).cell? (ad.add k) = some (.int .i64 (a : Int)) := cA
            have cB : (wr.drewN nq).cell? (ad'.add k) = some (.int .i64 (b : Int)) := cB
            generalize wr.drewN nq = wq at *
            have hpl := part_len a j
            have hzq : ∀ i, i < w3.heap.size → i < wq.heap.size := fun i hi => by have := hK4.size; omega
            by_cases hja : j = a
            · subst hja
              go_wp2_with (first
                | (go_at_call 5; refine (bar_fill hF hlt (by omega) (by omega) (by rw [lastZ, if_pos (Nat.le_refl _)]; omega) hzq).mono ?_; rintro e w5 ⟨rfl, hF5, hK5⟩; replace hK5 := hK4.trans hK5)
                | (go_at_call 7; refine (push_fill j hF5 hlt (by omega) (by simp; omega) (fun i hi => by have := hK5.size; omega)).mono ?_; rintro e w6 ⟨rfl, hF6, hK6⟩; replace hK6 := hK5.trans hK6))
              go_roundw
              case rel => exact ⟨j + 1, by omega, by go_num, by rw [part_bar] at hF6; rw [show lastZ j (j + 1) = 3 from if_neg (by omega)]; exact hF6, hK6⟩
              case measure => simp [intOf]; omega
            · go_wp2_with (first
                | (go_at_call 7; refine (push_fill j hF hlt (by omega) (by omega) hzq).mono ?_; rintro e w6 ⟨rfl, hF6, hK6⟩; replace hK6 := hK4.trans hK6))
              go_roundw
              case rel => exact ⟨j + 1, by omega, by go_num, by rw [part_step hja] at hF6; rw [lastZ_step hja]; exact hF6, hK6⟩
              case measure => simp [intOf]; omega
          · go_wp2_with fail
            go_quiet (fail)
            have hF := hF.drewN nq
            have hK4 := hK4.drewN nq
            have hbw := below_drewN hbw nq
            have cA : (wr.drewN nq).cell? (ad.add k) = some (.int .i64 (a : Int)) := cA
            have cB : (wr.drewN nq).cell? (ad'.add k) = some (.int .i64 (b : Int)) := cB
            generalize wr.drewN nq = wq at *
            have hje : j = a + b := by omega
            subst hje
            have hs20 : sumN (natAt l) k ≤ 20 * k := sumN_20 fun j hj => (HS.out.nat j hj).1
            have hsa : Hid (sumN (natAt l) (k + 1) = sumN (natAt l) k + a) := Lib.hid (by rw [sumN_succ, ha.out])
            have hzq : ∀ i, i < w3.heap.size → i < wq.heap.size := fun i hi => by have := hK4.size; omega
            obtain ⟨S, hS⟩ : ∃ S, S = sumN (natAt l) k := ⟨_, rfl⟩
            rw [← hS] at hs20 hsa ⊢
            clear hS
            by_cases hb0 : b = 0
            · subst hb0
              have hpl := part_len a a
              go_wp2_with (first
                | (go_at_call 5; refine (bar_fill hF hlt (by omega) (by simp; omega) (by rw [lastZ, if_pos (by omega)]; omega) hzq).mono ?_; rintro e w5 ⟨rfl, hF5, hK5⟩; replace hK5 := hK4.trans hK5; have hbw5 : Below w.heap.size w w5 := (hK3.trans (hK5.mono fun j hj => by have := hK3.size; omega)).below fun _ h => h; have cA5 := CA.out _ hbw5))
              go_roundw
              case rel => exact ⟨k + 1, by omega, by go_num, by rw [hsa.out]; go_num, HS2, by rw [Nat.add_zero, part_full0] at hF5; exact FillAt.next (z := 3) (by rw [ha.out, hb.out]; exact hF5), hK5⟩
              case measure => simp [intOf]; omega
            · go_wp2_with fail
              go_roundw
              case rel => exact ⟨k + 1, by omega, by go_num, by rw [hsa.out]; go_num, HS2, by rw [part_full (by omega)] at hF; exact FillAt.next (z := lastZ a (a + b)) (by rw [ha.out, hb.out]; exact hF), hK4⟩
              case measure => simp [intOf]; omega
      · have hke : k = n := by omega
        subst hke
        have hmk := run_make_row' (P := Try.prog) 22 3 (.int .i64 0) 8 Try.underlying22 (by kernel_rfl) rfl .i64 .i64 k (by omega) (by omega) wr
        have hG := Go1At.start hF (.cells (madeCells #[.int .i64 0] k) 3)
        have hB := Blk.new wr 3 (madeCells #[.int .i64 0] k)
        rw [← seenCells_zero] at hmk hG hB
        have hbx := hbw.alloc (by have := hbw.size; omega) (.cells (seenCells (fun _ => 0) k) 3)
        have hws := hbw.size
        have hZ4 : ∀ j, (j < w3.heap.size ∨ j = wr.heap.size) → j < (wr.alloc (.cells (seenCells (fun _ => 0) k) 3)).heap.size := fun j hj => by
          have := hK4.size
          simp only [World.size_alloc]; omega
        obtain ⟨gs, hgs⟩ : ∃ gs, gs = wr.heap.size := ⟨_, rfl⟩
        have hgw : w.heap.size ≤ gs := by omega
        rw [← hgs] at hmk hG hB hZ4
        clear hgs hws hbw hF
        have hT : sumN (natAt l) k ≤ 20 * k := sumN_20 fun j hj => (HS.out.nat j hj).1
        obtain ⟨T, hTe⟩ : ∃ T, T = sumN (natAt l) k := ⟨_, rfl⟩
        rw [← hTe] at hT ⊢
        have HT := Lib.hid hTe
        clear hTe
        go_wp2_with fail
        generalize wr.alloc (.cells (seenCells (fun _ => 0) k) 3) = wm at *
        go_loopw [19] (fun v wr => ∃ q : Nat, ∃ t : Nat → Nat, q ≤ T ∧ v = .int .i64 q ∧ Hid (sumN t k = q) ∧ Go1At wr (fun j => j < w3.heap.size ∨ j = gs) G (natAt l) (natAt l') k t ∧ Blk wr gs 3 (seenCells t k) ∧ Below w.heap.size w wr ∧ wm.heap.size ≤ wr.heap.size) (fun v _ => T - (intOf v).toNat)
        case atStart => exact ⟨0, _, Nat.zero_le _, rfl, Lib.hid (sumN_zero k), hG, hB, hbx, Nat.le_refl _⟩
        case round =>
          clear hG hB hbx
          obtain ⟨q, t, hq, rfl, HQ, hG, hB, hbx, hsz⟩ := hrel
          have hZr : ∀ j, (j < w3.heap.size ∨ j = gs) → j < wr.heap.size := fun j hj => by have := hZ4 j hj; omega
          by_cases hqT : q < T
          · have hlt : sumN t k < sumN (natAt l) k := by have := HQ.out; have := HT.out; omega
            go_wp2_with (first
              | (go_at_call 6; refine (bound_go1 hG hlt hZr).mono ?_; rintro e w5 ⟨rfl, hG5, hK5⟩)
              | (go_at_call 8; refine (next_go1 hG5 hlt (fun j hj => by have := hZr j hj; have := hK5.size; omega)).mono ?_; rintro e w6 ⟨i, hi, hti, rfl, hG6, hK6⟩))
            have hbx6 := hbx.trans ((hK5.trans hK6).below (B := w.heap.size) fun j hj => .inl (by have := hK3.size; omega))
            have hB6 := hK6.blk (hK5.blk hB (.inr rfl)) (.inr rfl)
            have hG7 := hG6.alloc (.cells #[.string ⟨#[]⟩, .int .i64 (t i), .int .i64 0] 33)
            have hB7 := hB6.alloc (.cells #[.string ⟨#[]⟩, .int .i64 (t i), .int .i64 0] 33)
            have hbx7 := hbx6.alloc hbx6.size (.cells #[.string ⟨#[]⟩, .int .i64 (t i), .int .i64 0] 33)
            have hx7 := (Blk.new w6 33 #[.string ⟨#[]⟩, .int .i64 (t i), .int .i64 0]).cell 1
            simp only [List.getElem?_toArray, List.getElem?_cons_zero, List.getElem?_cons_succ] at hx7
            have hs7 : wm.heap.size ≤ (w6.alloc (.cells #[.string ⟨#[]⟩, .int .i64 (t i), .int .i64 0] 33)).heap.size := by have := hK5.size; have := hK6.size; simp; omega
            have hZ6 : w6.heap.size ≠ gs := by have := hZr gs (.inr rfl); have := hK5.size; have := hK6.size; omega
            obtain ⟨ad, rfl, hbA, cA0⟩ := hr.int_ hi
            have cA7 := (hbx7.cell (p := ad.add i) (by rw [block_add]; exact hbA)).trans cA0
            rw [show l.getD i 0 = ((natAt l i : Nat) : Int) from by have := HS.out i hi; unfold natAt; omega] at cA7
            have sc7 := (hB7.cell i).trans (seenCells_at hi)
            have sf7 := hB7.frozen i
            obtain ⟨p, hp⟩ : ∃ p, p = natAt l i := ⟨_, rfl⟩
            obtain ⟨x, hx⟩ : ∃ x, x = t i := ⟨_, rfl⟩
            have hp20 : p ≤ 20 := by rw [hp]; exact (HS.out.nat i hi).1
            rw [← hp] at cA7 hti
            rw [← hx] at hti hG7 hB7 hbx7 hx7 hs7 cA7 sc7 sf7 ⊢
            have HX := Lib.hid hx
            clear hp hx cA0 hG hG5 hG6 hB hB6 hbx hbx6
            have tn : decide (k ≤ i) = false := by simpa using hi
            have tp : decide (p ≤ x) = false := by simpa using hti
            have ti : decide ((i : Int) < 0) = false := by simp
            have hi0 : (0 : Int) ≤ (i : Int) := by omega
            have hi1 : (i : Int) < (k : Int) := by omega
            generalize w6.alloc (.cells #[.string ⟨#[]⟩, .int .i64 x, .int .i64 0] 33) = w7 at *
            go_quiet (fail)
            have hG8 := hG7.drewN nq
            have hB8 := hB7.drewN nq
            have hbx8 := below_drewN hbx7 nq
            have sc8 : (w7.drewN nq).cell? ⟨gs, i, none⟩ = some (.int .i64 x) := sc7
            have sf8 : (w7.drewN nq).frozen? ⟨gs, i, none⟩ = false := sf7
            have hs8 : wm.heap.size ≤ (w7.drewN nq).heap.size := hs7
            generalize w7.drewN nq = w8 at *
            go_wp2_with fail
            go_roundw
            case rel =>
              have hB9 := hB8.set_ i (.int .i64 ((x : Int) + 1))
              rw [HX.out, seenCells_upd] at hB9
              exact ⟨q + 1, upd t i, by omega, by go_num, Lib.hid (by rw [sumN_upd hi, HQ.out]), hG8.set_ (.inr rfl) _, by rw [HX.out]; exact hB9, hbx8.setCell hgw _, by simpa [World.setCell] using hs8⟩
            case measure => simp [intOf]; omega
          · have hge : sumN (natAt l) k ≤ sumN t k := by have := HQ.out; have := HT.out; omega
            have hfull := Lib.hid (hG.full hge)
            have HGE := Lib.hid hge
            clear hge
            go_wp2_with (first
              | (go_at_call 8; refine (next_go1_none hG HGE.out hZr).mono ?_; rintro e w5 ⟨rfl, hG5, hK5⟩)
              | (go_at_call 6; refine (bound_go1_done (hG5.alloc (.cells #[.string ⟨#[]⟩, .int .i64 0, .int .i64 0] 33)) HGE.out (fun j hj => by have := hZr j hj; have := hK5.size; simp only [World.size_alloc]; omega)).mono ?_; rintro e w6 ⟨rfl, hG6, hK6⟩))
            have hK7 := (hK5.alloc (fun j hj => by have := hZr j hj; have := hK5.size; omega) (.cells #[.string ⟨#[]⟩, .int .i64 0, .int .i64 0] 33)).trans hK6
            have hbx6 := hbx.trans (hK7.below (B := w.heap.size) fun j hj => .inl (by have := hK3.size; omega))
            have hB6 := hK7.blk hB (.inr rfl)
            have hZ6 : ∀ j, (j < w3.heap.size ∨ j = gs) → j < w6.heap.size := fun j hj => by have := hZr j hj; have := hK7.size; omega
            rw [seenCells_eq hfull.out] at hB6
            clear hG hG5 hK5 hK6 hB hbx HGE hK7
            obtain ⟨M, hM⟩ : ∃ M, M = sumN (fun j => natAt l j + natAt l' j) k := ⟨_, rfl⟩
            have HM := Lib.hid hM
            clear hM
            go_loopw [] (fun wr => ∃ t : Nat → Nat, Go2At wr (fun j => j < w3.heap.size ∨ j = gs) G (natAt l) (natAt l') k t ∧ Blk wr gs 3 (seenCells t k) ∧ Below w.heap.size w wr ∧ w6.heap.size ≤ wr.heap.size) (fun wr => M - seenSum wr gs k)
            case atStart => exact ⟨_, hG6, hB6, hbx6, Nat.le_refl _⟩
            case round =>
              clear hG6 hB6 hbx6
              obtain ⟨t, hG, hB, hbx, hsz⟩ := hrel
              have hZr : ∀ j, (j < w3.heap.size ∨ j = gs) → j < wr.heap.size := fun j hj => by have := hZ6 j hj; omega
              go_wp2_with fail
              refine (next_go2 hG hZr).mono ?_
              rintro e w5 (⟨i, hi, hti, rfl, hG5, hK5⟩ | ⟨hfin, rfl, hG5, hK5⟩)
              · have hbx5 := hbx.trans (hK5.below (B := w.heap.size) fun j hj => .inl (by have := hK3.size; omega))
                have hB5 := hK5.blk hB (.inr rfl)
                have hdec : Hid (M - seenSum wr gs k = M - sumN t k ∧ sumN (upd t i) k ≤ M ∧ sumN (upd t i) k = sumN t k + 1) := Lib.hid ⟨by rw [seenSum_of hB], by rw [HM.out]; exact sumN_le hG5.le, sumN_upd hi⟩
                have hG7 := hG5.alloc (.cells #[.string ⟨#[]⟩, .int .i64 (t i), .int .i64 0] 33)
                have hB7 := hB5.alloc (.cells #[.string ⟨#[]⟩, .int .i64 (t i), .int .i64 0] 33)
                have hbx7 := hbx5.alloc hbx5.size (.cells #[.string ⟨#[]⟩, .int .i64 (t i), .int .i64 0] 33)
                have hx7 := (Blk.new w5 33 #[.string ⟨#[]⟩, .int .i64 (t i), .int .i64 0]).cell 1
                simp only [List.getElem?_toArray, List.getElem?_cons_zero, List.getElem?_cons_succ] at hx7
                have hs7 : w6.heap.size ≤ (w5.alloc (.cells #[.string ⟨#[]⟩, .int .i64 (t i), .int .i64 0] 33)).heap.size := by have := hK5.size; simp; omega
                have sc7 := (hB7.cell i).trans (seenCells_at hi)
                have sf7 := hB7.frozen i
                have ht41 : t i ≤ 40 := by have := (HS.out.nat i hi); omega
                obtain ⟨x, hx⟩ : ∃ x, x = t i := ⟨_, rfl⟩
                rw [← hx] at hG7 hB7 hbx7 hx7 hs7 sc7 sf7 ht41 ⊢
                have HX := Lib.hid hx
                clear hx hG hG5 hB hB5 hbx hbx5 hti
                have hi0 : (0 : Int) ≤ (i : Int) := by omega
                have hi1 : (i : Int) < (k : Int) := by omega
                go_wp2_with fail
                generalize w5.alloc (.cells #[.string ⟨#[]⟩, .int .i64 x, .int .i64 0] 33) = w7 at *
                go_quiet (fail)
                have hG8 := hG7.drewN nq
                have hB8 := hB7.drewN nq
                have hbx8 := below_drewN hbx7 nq
                have sc8 : (w7.drewN nq).cell? ⟨gs, i, none⟩ = some (.int .i64 x) := sc7
                have sf8 : (w7.drewN nq).frozen? ⟨gs, i, none⟩ = false := sf7
                have hs8 : w6.heap.size ≤ (w7.drewN nq).heap.size := hs7
                generalize w7.drewN nq = w8 at *
                go_wp2_with fail
                have hB9 := hB8.set_ i (.int .i64 ((x : Int) + 1))
                rw [HX.out, seenCells_upd, ← HX.out] at hB9
                go_roundw
                case rel => exact ⟨upd t i, hG8.set_ (.inr rfl) _, hB9, hbx8.setCell hgw _, by simpa [World.setCell] using hs8⟩
                case measure => rw [hdec.out.1, seenSum_of hB9]; have := hdec.out.2; omega
              · have hbx5 := hbx.trans (hK5.below (B := w.heap.size) fun j hj => .inl (by have := hK3.size; omega))
                have hB5 := hK5.blk hB (.inr rfl)
                have hG7 := Bare.alloc hG5 (.cells #[.string ⟨#[]⟩, .int .i64 0, .int .i64 0] 33)
                have hB7 := hB5.alloc (.cells #[.string ⟨#[]⟩, .int .i64 0, .int .i64 0] 33)
                have hbx7 := hbx5.alloc hbx5.size (.cells #[.string ⟨#[]⟩, .int .i64 0, .int .i64 0] 33)
                have HF := Lib.hid hfin
                clear hG hB hbx hG5 hB5 hbx5 hfin
                go_wp2_with fail
                generalize w5.alloc (.cells #[.string ⟨#[]⟩, .int .i64 0, .int .i64 0] 33) = w7 at *
                go_loopw [33] (fun v wr => ∃ j : Nat, j ≤ k ∧ v = .int .i64 j ∧ Bare wr (fun j => j < w3.heap.size ∨ j = gs) G ∧ Blk wr gs 3 (seenCells t k) ∧ Below w.heap.size w wr) (fun v _ => k - (intOf v).toNat)
                case atStart => exact ⟨0, Nat.zero_le _, rfl, hG7, hB7, hbx7⟩
                case round =>
                  clear hG7 hB7 hbx7
                  obtain ⟨j, hj, rfl, hG, hB, hbx⟩ := hrel
                  by_cases hjk : j < k
                  · obtain ⟨ad, rfl, hbA, cA0⟩ := hr.int_ hjk
                    obtain ⟨ad', rfl, hbB, cB0⟩ := hr'.int_ hjk
                    have cA7 := (hbx.cell (p := ad.add j) (by rw [block_add]; exact hbA)).trans cA0
                    have cB7 := (hbx.cell (p := ad'.add j) (by rw [block_add]; exact hbB)).trans cB0
                    rw [show l.getD j 0 = ((natAt l j : Nat) : Int) from by have := HS.out j hjk; unfold natAt; omega] at cA7
                    rw [show l'.getD j 0 = ((natAt l' j : Nat) : Int) from by have := HS.out j hjk; unfold natAt; omega] at cB7
                    have sc7 := (hB.cell j).trans (seenCells_at hjk)
                    rw [HF.out j hjk] at sc7
                    have h20 := HS.out.nat j hjk
                    obtain ⟨p, hp⟩ : ∃ p, p = natAt l j := ⟨_, rfl⟩
                    obtain ⟨p', hp'⟩ : ∃ p', p' = natAt l' j := ⟨_, rfl⟩
                    rw [← hp] at cA7 sc7 h20
                    rw [← hp'] at cB7 sc7 h20
                    clear hp hp' cA0 cB0
                    have hj0 : (0 : Int) ≤ (j : Int) := by omega
                    have hj1 : (j : Int) < (k : Int) := by omega
                    have hwp : IntKind.i64.wrap ((p : Int) + (p' : Int)) = (p : Int) + (p' : Int) := IntWalk.i64_in _ (by omega)
                    rw [Int.natCast_add] at sc7
                    go_wp2_with fail
                    go_quiet (fail)
                    have hG := hG.drewN nq
                    have hB := hB.drewN nq
                    have hbx := below_drewN hbx nq
                    generalize wr.drewN nq = w8 at *
                    go_wp2_with fail
                    go_roundw
                    case rel => exact ⟨j + 1, by omega, by go_num, hG, hB, hbx⟩
                    case measure => simp [intOf]; omega
                  · have HW := Lib.hid (waiting_zero hG)
                    go_wp2_with (first | (go_at_call 9; refine HW.out.mono ?_; rintro e w9 ⟨rfl, rfl⟩))
                    go_ret
                    exact ⟨rfl, hbx⟩
  · have hne : ((n' : Int) != (n : Int)) = true := by simp; omega
    go_enter Try.func3, Try.ntmps3
    go_wp2_with (first
      | (go_at_call_of 4 (Value.int .i64 1); refine (new_good 1 w (· < w.heap.size) (by omega) (by omega) hz0).mono ?_; rintro e w1 ⟨G0, rfl, hG0, hK1⟩)
      | (go_at_call 5; refine (one_bar hG0 (e7 _ hK1)).mono ?_; rintro e w2 ⟨rfl, hG1, hK2⟩; replace hK2 := hK1.trans hK2)
      | (go_at_call 6; refine (one_bound hG1 (e7 _ hK2)).mono ?_; rintro e w3 ⟨rfl, hK3⟩; replace hK3 := hK2.trans hK3)
      | (go_at_call_of 4 (Value.int .i64 (n : Int)); refine (newG_fill w3 (· < w3.heap.size) (natAt l) (natAt l') n (by omega) (by omega) (fun _ h => h)).mono ?_; rintro e w4 ⟨G, rfl, hF, hK4⟩))
    go_ret
    exact ⟨rfl, hK3.below fun _ h => h⟩
end Go.Proofs.Ytmeemcafjebanaa
