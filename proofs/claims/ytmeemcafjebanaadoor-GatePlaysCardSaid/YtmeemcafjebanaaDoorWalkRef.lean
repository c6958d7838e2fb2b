/- The walks of the reference's gate: Blocked, Push. -/
import Derived.Test.YtmeemcafjebanaaDoorMemRef
import Derived.Test.YtmeemcafjebanaaDoorWalkBar
namespace Go.Proofs.YtmeemcafjebanaaDoor
open Go.RowKit

theorem el_ritm : Elt Tryd.prog 46 40 (.agg #[.string ByteArray.empty, .int .i64 0, .int .i64 0, .int .i64 0]) 4 40 := ⟨Tryd.underlying46, by kernel_rfl, by kernel_rfl, by omega, by omega⟩

set_option maxRecDepth 100000 in
set_option maxHeartbeats 1000000 in
theorem rblocked_any (w : World) (Z : Nat → Prop) (G : Nat) (s : Gat) (k : Nat) (h : RefAt w Z G s) (hk : k < s.n) :
    Calls Tryd.prog 14 #[.pointer (some ⟨G, 0, none⟩), .int .i64 k] w fun e w' => e = .returned (.bool (barred (s.at_ k))) ∧ w = w' := by
  obtain ⟨gw, gl, sl, h⟩ := h
  have c0 := h.c0
  have h64 := h.ok.most
  obtain ⟨A, c, hs, cw, hlc, hcm, hr⟩ := h.wait (i := k) hk
  obtain ⟨n, hn⟩ : ∃ n, n = s.n := ⟨_, rfl⟩
  rw [← hn] at c0 h64 hk
  clear hn
  have hlen := h.ok.len k
  clear h
  obtain ⟨l, hl⟩ : ∃ l, l = s.at_ k := ⟨_, rfl⟩
  rw [← hl] at cw hlen hr ⊢
  clear hs hl
  rcases l with _ | ⟨x, r⟩
  · go_enter Tryd.func14, Tryd.ntmps14
    simp only [List.length_nil] at cw
    go_wp2
    go_ret
    exact ⟨rfl, rfl⟩
  · obtain ⟨ad, x', r', rfl, e, g0, g1, g2, g3⟩ := hr.itm0 rfl (by simp)
    injection e with e1 e2
    subst e1 e2
    obtain ⟨m, hm⟩ : ∃ m, m = (x :: r).length := ⟨_, rfl⟩
    have hm0 : 0 < m := by rw [hm]; simp
    rw [← hm] at cw hlen
    clear hm hlc hcm hr g0 g1 g2
    show Calls _ _ _ _ fun e w' => e = .returned (.bool (decide (0 < x.bar))) ∧ w = w'
    by_cases hb : 0 < x.bar
    · rw [decide_eq_true hb]
      go_enter Tryd.func14, Tryd.ntmps14
      go_wp2
      go_ret
      exact ⟨rfl, rfl⟩
    · rw [decide_eq_false hb]
      go_enter Tryd.func14, Tryd.ntmps14
      go_wp2
      go_ret
      exact ⟨rfl, rfl⟩

/-- A fresh slice at i. -/
theorem RefIn.fresh {w w4 : World} {Z : Nat → Prop} {G gw gl : Nat} {sl : List Value} {s : Gat} (h : RefIn w Z G gw gl sl s) {k : Nat} (hk : k < s.n) (hZ : ∀ k, Z k → k < w.heap.size) {v : Value} {l : List Itm} (hl : l.length ≤ 400)
    (hb : Below w.heap.size w w4) (ho : w4.ownsRow 0 40 4 v l.length (itmCells l)) (hf : ∀ g, v.ownBlock = some g → w.heap.size ≤ g) : RefIn (w4.setCell ⟨gw, k, none⟩ v) Z G gw gl (sl.set k v) (s.put k l) ∧ Keeps Z w (w4.setCell ⟨gw, k, none⟩ v) := by
  have h4 := h.up hb
  obtain ⟨A, c, e, h1, h2, _, h3⟩ := own_form ho
  obtain ⟨r1, r2⟩ := h4.replace hk hl (v' := v) ⟨A, c, e, h1, h2, h3⟩ (fun g hg => ⟨⟨fun hz => by have := hZ g hz; have := hf g hg; omega, by have := hf g hg; have := h.obj.lt; omega, by have := hf g hg; have := h.ws.lt; omega, by have := hf g hg; have := h.ls.lt; omega⟩, (ho.lt g hg).2⟩)
  exact ⟨r1, (keeps_below hb hZ).trans r2⟩

set_option maxRecDepth 100000 in
set_option maxHeartbeats 4000000 in
theorem rpush_rec (w : World) (Z : Nat → Prop) (G : Nat) (s : Gat) (i : Int) (key : ByteArray) (num time : Int) (h : RefAt w Z G s) (hi0 : -9223372036854775808 ≤ i) (hi1 : i ≤ 9223372036854775807) (hZ : ∀ k, Z k → k < w.heap.size) :
    Calls Tryd.prog 8 #[.pointer (some ⟨G, 0, none⟩), .int .i64 i, .agg #[.string key, .int .i64 num, .int .i64 time, .int .i64 0], .bool false] w fun e w' => e = .returned (.int .i64 (mayE s i)) ∧ RefAt w' Z G (pushG s i ⟨key, num, time, 0⟩) ∧ Keeps Z w w' := by
  obtain ⟨gw, gl, sl, h⟩ := h
  have h1 := h.alloc (.cells #[.string key, .int .i64 num, .int .i64 time, .int .i64 0] 40)
  have hk1 := (Keeps.refl Z w).alloc hZ (.cells #[.string key, .int .i64 num, .int .i64 time, .int .i64 0] 40)
  have c0 := h1.c0
  have h64 := h.ok.most
  have hbx := Blk.new w 40 #[.string key, .int .i64 num, .int .i64 time, .int .i64 0]
  obtain ⟨n, hn⟩ : ∃ n, n = s.n := ⟨_, rfl⟩
  rw [← hn] at c0 h64
  have Hn := Lib.hid hn
  clear hn
  by_cases h0 : i < 0
  · have HE : Hid (mayE s i = 1) := Lib.hid (by rw [mayE, if_pos (.inl h0)])
    have HP : Hid (pushG s i ⟨key, num, time, 0⟩ = s) := Lib.hid (by rw [pushG, if_neg (by have := HE.out; omega)])
    rw [HE.out, HP.out]
    go_enter Tryd.func8, Tryd.ntmps8
    go_wp2
    go_ret
    exact ⟨rfl, ⟨gw, gl, sl, h1⟩, hk1⟩
  by_cases h2 : (n : Int) ≤ i
  · have HE : Hid (mayE s i = 1) := Lib.hid (by rw [mayE, if_pos (.inr (by have := Hn.out; omega))])
    have HP : Hid (pushG s i ⟨key, num, time, 0⟩ = s) := Lib.hid (by rw [pushG, if_neg (by have := HE.out; omega)])
    rw [HE.out, HP.out]
    go_enter Tryd.func8, Tryd.ntmps8
    go_wp2
    go_ret
    exact ⟨rfl, ⟨gw, gl, sl, h1⟩, hk1⟩
  obtain ⟨k, rfl⟩ : ∃ k : Nat, i = k := ⟨i.toNat, by omega⟩
  have hkn : k < s.n := by have := Hn.out; omega
  obtain ⟨A, c, hs, cw, hlc, hcm, hr⟩ := h1.wait hkn
  obtain ⟨l, hl⟩ : ∃ l, l = s.at_ k := ⟨_, rfl⟩
  rw [← hl] at cw hlc hr hs
  have Hl := Lib.hid hl
  clear hl
  obtain ⟨m, hm⟩ : ∃ m, m = l.length := ⟨_, rfl⟩
  rw [← hm] at cw hlc hr hs
  have Hm := Lib.hid hm
  have hlen : m ≤ 400 := by rw [hm, Hl.out]; exact h.ok.len k
  clear hm
  by_cases h4 : 400 ≤ m
  · have HE : Hid (mayE s k = 4) := Lib.hid (by rw [mayE, if_neg (by have := Hn.out; omega), if_pos (by rw [Int.toNat_natCast, ← Hl.out, ← Hm.out]; exact h4)])
    have HP : Hid (pushG s k ⟨key, num, time, 0⟩ = s) := Lib.hid (by rw [pushG, if_neg (by have := HE.out; omega)])
    rw [HE.out, HP.out]
    go_enter Tryd.func8, Tryd.ntmps8
    go_wp2
    go_ret
    exact ⟨rfl, ⟨gw, gl, sl, h1⟩, hk1⟩
  · have HE : Hid (mayE s k = 0) := Lib.hid (by rw [mayE, if_neg (by have := Hn.out; omega), if_neg (by rw [Int.toNat_natCast, ← Hl.out, ← Hm.out]; exact h4)])
    have HP : Hid (pushG s k ⟨key, num, time, 0⟩ = s.put k (l ++ [⟨key, num, time, 0⟩])) := Lib.hid (by rw [pushG, if_pos HE.out, Int.toNat_natCast, ← Hl.out])
    rw [HE.out, HP.out]
    go_enter Tryd.func8, Tryd.ntmps8
    go_wp2_with (first
      | (with_reducible show wpList _ _ _ (⟨some 65, _, _, _, _, _⟩ :: _) _ _; go_must (refine wpList_rd (.tmp 57) (.tmp 64) el_ritm rfl rfl (World.ownsRow_nil _ 0 40 4) rfl hr rfl (itmCells_one _) (by omega) (Nat.zero_le _) ?_); intro v1 w1 hown1 hb1 hg1 ha1))
    have x0 := hbx.cell 0
    have x1 := hbx.cell 1
    have x2 := hbx.cell 2
    have x3 := hbx.cell 3
    simp only [List.getElem?_toArray, List.getElem?_cons_zero, List.getElem?_cons_succ] at x0 x1 x2 x3
    generalize w.alloc (.cells #[.string key, .int .i64 num, .int .i64 time, .int .i64 0] 40) = wa at *
    have hgG : gw ≠ G := Ne.symm h1.d1
    have hxl := hbx.lt
    have hgx : gw ≠ w.heap.size := by have := h.ws.lt; omega
    have hbw : Below wa.heap.size wa w1 := ⟨hg1.os, hg1.tape, hg1.output, hg1.size, fun j hj => hg1.block j hj (by simp [Value.ownBlock])⟩
    have b0 := hg1.cell c0 (by simp [Value.ownBlock])
    have y0 := hg1.cell x0 (by simp [Value.ownBlock])
    have y1 := hg1.cell x1 (by simp [Value.ownBlock])
    have y2 := hg1.cell x2 (by simp [Value.ownBlock])
    have y3 := hg1.cell x3 (by simp [Value.ownBlock])
    have hfr : ∀ g, v1.ownBlock = some g → wa.heap.size ≤ g := fun g hg => by
      rcases ha1 with e | e
      · have e2 := e.symm.trans hg; cases e2
      · have e2 := e.symm.trans hg; injection e2 with e2; omega
    have hvG : some G ≠ v1.ownBlock := fun e => by have := hfr G e.symm; have := h1.obj.lt; omega
    have hvw : some gw ≠ v1.ownBlock := fun e => by have := hfr gw e.symm; have := h1.ws.lt; omega
    have hvx : some w.heap.size ≠ v1.ownBlock := fun e => by have := hfr w.heap.size e.symm; omega
    have hone : ∀ u ∈ (#[.string key, .int .i64 num, .int .i64 time, .int .i64 0] : Array Value).toList, u.oneCell' = true := by simp [Value.oneCell']
    have hws1 : Blk w1 gw 46 sl.toArray := hbw.block gw h1.ws.lt |>.trans h1.ws
    have lG : G < w1.heap.size := Nat.lt_of_lt_of_le h1.obj.lt hbw.size
    have lw : gw < w1.heap.size := Nat.lt_of_lt_of_le h1.ws.lt hbw.size
    have lx : w.heap.size < w1.heap.size := Nat.lt_of_lt_of_le hxl hbw.size
    have hsz1 := hbw.size
    clear c0 x0 x1 x2 x3 cw hr
    have keep : ∀ o : Obj, (w1.alloc o).cell? ⟨G, 0, none⟩ = some (.slice (some ⟨gw, 0, none⟩) n n) ∧ (w1.alloc o).cell? ⟨w.heap.size, 0, none⟩ = some (.string key) ∧ (w1.alloc o).cell? ⟨w.heap.size, 1, none⟩ = some (.int .i64 num) ∧ (w1.alloc o).cell? ⟨w.heap.size, 2, none⟩ = some (.int .i64 time) ∧ (w1.alloc o).cell? ⟨w.heap.size, 3, none⟩ = some (.int .i64 0) := fun o =>
      ⟨(World.cell?_alloc_lt w1 o ⟨G, 0, none⟩ lG).trans b0, (World.cell?_alloc_lt w1 o ⟨w.heap.size, 0, none⟩ lx).trans y0, (World.cell?_alloc_lt w1 o ⟨w.heap.size, 1, none⟩ lx).trans y1, (World.cell?_alloc_lt w1 o ⟨w.heap.size, 2, none⟩ lx).trans y2, (World.cell?_alloc_lt w1 o ⟨w.heap.size, 3, none⟩ lx).trans y3⟩
    obtain ⟨kn0, kn1, kn2, kn3, kn4⟩ := keep (.cells #[.string key, .int .i64 num, .int .i64 time, .int .i64 0] 40)
    have hwn := hws1.alloc (.cells #[.string key, .int .i64 num, .int .i64 time, .int .i64 0] 40)
    have cwn : ∃ u, (w1.alloc (.cells #[.string key, .int .i64 num, .int .i64 time, .int .i64 0] 40)).cell? ⟨gw, k, none⟩ = some u := ⟨_, (hwn.cell k).trans (by rw [List.getElem?_toArray]; exact hs)⟩
    obtain ⟨cu, hcu⟩ := cwn
    go_region_held3 (fun w' => w'.cell? ⟨G, 0, none⟩ = some (.slice (some ⟨gw, 0, none⟩) n n) ∧ w'.cell? ⟨w.heap.size, 0, none⟩ = some (.string key) ∧ w'.cell? ⟨w.heap.size, 1, none⟩ = some (.int .i64 num) ∧ w'.cell? ⟨w.heap.size, 2, none⟩ = some (.int .i64 time) ∧ w'.cell? ⟨w.heap.size, 3, none⟩ = some (.int .i64 0)) (first | exact ⟨b0, y0, y1, y2, y3⟩ | exact ⟨kn0, kn1, kn2, kn3, kn4⟩ | exact ⟨p0, p1, p2, p3, p4⟩ | exact ⟨(World.cell?_setCell_far _ _ _ _ hgG).trans p0, (World.cell?_setCell_far _ _ _ _ hgx).trans p1, (World.cell?_setCell_far _ _ _ _ hgx).trans p2, (World.cell?_setCell_far _ _ _ _ hgx).trans p3, (World.cell?_setCell_far _ _ _ _ hgx).trans p4⟩)
      ((first
        | (with_reducible show (if Region.wanted (⟨some 74, _, _, _, _, _⟩ : Oper) _ = true then _ else _); go_must (refine step_rd (.tmp 71) (.tmp 73) el_ritm rfl rfl (own_drew (hown1.alloc _)) rfl (rd_new w1 #[.string key, .int .i64 num, .int .i64 time, .int .i64 0] 40 (size := 4) (m := 1) rfl).drew rfl hone (by omega) (Nat.zero_le _) ?_); intro v4 w4 hown4 hb4 hg4d ha4; have hg4 := grown_undrew hg4d; have hc4 := hg4.cell hcu hvw; have p0 := hg4.cell kn0 hvG; have p1 := hg4.cell kn1 hvx; have p2 := hg4.cell kn2 hvx; have p3 := hg4.cell kn3 hvx; have p4 := hg4.cell kn4 hvx; have hf4 : w4.frozen? ⟨gw, k, none⟩ = false := Blk.frozen (Blk.grown hwn hg4 hvw) k; obtain ⟨A4, c4, rfl, hn4, hc5, hl4, r4⟩ := own_form hown4)))
    go_wp2
    go_ret
    have hb14 : Below wa.heap.size wa w4 := hbw.trans ⟨hg4.os, hg4.tape, hg4.output, Nat.le_trans (by simp) hg4.size, fun j hj => (hg4.block j (by simp; omega) (fun e => by have := hfr j e.symm; omega)).trans (Below.heap_alloc w1 _ j (by omega))⟩
    obtain ⟨r1, r2⟩ := h1.fresh (k := k) (by have := Hn.out; first | omega | (show k < s.n; omega)) (fun j hj => by have := hZ j hj; omega) (l := l ++ [⟨key, num, time, 0⟩]) (by have := Hm.out; simp; omega) hb14
      (by have e1 : m + 1 = (l ++ [(⟨key, num, time, 0⟩ : Itm)]).length := by have := Hm.out; simp; omega
          have e2 : itmCells (l ++ [(⟨key, num, time, 0⟩ : Itm)]) = itmCells l ++ #[.string key, .int .i64 num, .int .i64 time, .int .i64 0].toList := by simp [itmCells, Itm.cells]
          rw [← e1, e2]; simpa using hown4)
      (fun g hg => by
        rcases ha4 with e | e <;> (try simp only [Nat.zero_add] at e)
        · exact hfr g (e.symm.trans hg)
        · have e2 := e.symm.trans hg; injection e2 with e2; subst e2; simp; omega)
    exact ⟨rfl, ⟨gw, gl, _, r1⟩, hk1.trans r2⟩

set_option maxRecDepth 100000 in
set_option maxHeartbeats 4000000 in
theorem rpush_bar (w : World) (Z : Nat → Prop) (G : Nat) (s : Gat) (i bar : Int) (h : RefAt w Z G s) (hi0 : -9223372036854775808 ≤ i) (hi1 : i ≤ 9223372036854775807) (hZ : ∀ k, Z k → k < w.heap.size) :
    Calls Tryd.prog 8 #[.pointer (some ⟨G, 0, none⟩), .int .i64 i, .agg #[.string ⟨#[]⟩, .int .i64 0, .int .i64 0, .int .i64 bar], .bool true] w fun e w' => e = .returned (.int .i64 (barE s i bar)) ∧ RefAt w' Z G (barG s i bar) ∧ Keeps Z w w' := by
  obtain ⟨key, hkey⟩ : ∃ key : ByteArray, key = ByteArray.mk #[] := ⟨_, rfl⟩
  obtain ⟨num, hnum⟩ : ∃ num : Int, num = 0 := ⟨_, rfl⟩
  obtain ⟨time, htime⟩ : ∃ time : Int, time = 0 := ⟨_, rfl⟩
  have HI : Hid (barItm bar = ⟨key, num, time, bar⟩) := Lib.hid (by rw [barItm, hkey, hnum, htime])
  rw [show Value.agg #[.string (ByteArray.mk #[]), .int .i64 0, .int .i64 0, .int .i64 bar] = .agg #[.string key, .int .i64 num, .int .i64 time, .int .i64 bar] from by rw [hkey, hnum, htime]]
  clear hkey hnum htime
  obtain ⟨gw, gl, sl, h⟩ := h
  have h0a := h.alloc (.cells #[.string key, .int .i64 num, .int .i64 time, .int .i64 bar] 40)
  have hk0 := (Keeps.refl Z w).alloc hZ (.cells #[.string key, .int .i64 num, .int .i64 time, .int .i64 bar] 40)
  have c0 := h0a.c0
  have c1 := h0a.c1
  have h64 := h.ok.most
  have hbx := Blk.new w 40 #[.string key, .int .i64 num, .int .i64 time, .int .i64 bar]
  obtain ⟨n, hn⟩ : ∃ n, n = s.n := ⟨_, rfl⟩
  rw [← hn] at c0 c1 h64
  have Hn := Lib.hid hn
  clear hn
  by_cases h0 : i < 0
  · have HE : Hid (barE s i bar = 1) := Lib.hid (by
      have e : mayE s i = 1 := by rw [mayE, if_pos (.inl h0)]
      rw [barE]; split
      · rfl
      · rw [if_pos (by omega), e])
    have HP : Hid (barG s i bar = s) := Lib.hid (by rw [barG, if_neg (by have := HE.out; omega)])
    rw [HE.out, HP.out]
    go_enter Tryd.func8, Tryd.ntmps8
    go_wp2
    go_ret
    exact ⟨rfl, ⟨gw, gl, sl, h0a⟩, hk0⟩
  by_cases h2 : (n : Int) ≤ i
  · have HE : Hid (barE s i bar = 1) := Lib.hid (by
      have e : mayE s i = 1 := by rw [mayE, if_pos (.inr (by have := Hn.out; omega))]
      rw [barE]; split
      · rfl
      · rw [if_pos (by omega), e])
    have HP : Hid (barG s i bar = s) := Lib.hid (by rw [barG, if_neg (by have := HE.out; omega)])
    rw [HE.out, HP.out]
    go_enter Tryd.func8, Tryd.ntmps8
    go_wp2
    go_ret
    exact ⟨rfl, ⟨gw, gl, sl, h0a⟩, hk0⟩
  obtain ⟨k, rfl⟩ : ∃ k : Nat, i = k := ⟨i.toNat, by omega⟩
  have hkn : k < s.n := by have := Hn.out; omega
  have x3b := hbx.cell 3
  simp only [List.getElem?_toArray, List.getElem?_cons_zero, List.getElem?_cons_succ] at x3b
  by_cases hbar : bar < 1
  · have HE : Hid (barE s k bar = 1) := Lib.hid (by rw [barE, if_pos hbar])
    have HP : Hid (barG s k bar = s) := Lib.hid (by rw [barG, if_neg (by have := HE.out; omega)])
    rw [HE.out, HP.out]
    go_enter Tryd.func8, Tryd.ntmps8
    go_wp2
    go_ret
    exact ⟨rfl, ⟨gw, gl, sl, h0a⟩, hk0⟩
  obtain ⟨A0, c00, hs0, cw0, hlc0, hcm0, hr0⟩ := h0a.wait hkn
  obtain ⟨m0, hm0⟩ : ∃ m0, m0 = (s.at_ k).length := ⟨_, rfl⟩
  rw [← hm0] at cw0
  have hlen0 : m0 ≤ 400 := by rw [hm0]; exact h.ok.len k
  have hcl := h0a.lastc hkn
  obtain ⟨z, hz⟩ : ∃ z, z = s.last.getD k 0 := ⟨_, rfl⟩
  rw [← hz] at hcl
  by_cases h4 : 400 ≤ m0
  · have HE : Hid (barE s k bar = 4) := Lib.hid (by
      have e : mayE s k = 4 := by rw [mayE, if_neg (by have := Hn.out; omega), if_pos (by rw [Int.toNat_natCast]; omega)]
      rw [barE, if_neg hbar, if_pos (by omega), e])
    have HP : Hid (barG s k bar = s) := Lib.hid (by rw [barG, if_neg (by have := HE.out; omega)])
    rw [HE.out, HP.out]
    clear hs0 hlc0 hr0 hm0 hz
    go_enter Tryd.func8, Tryd.ntmps8
    go_wp2
    go_ret
    exact ⟨rfl, ⟨gw, gl, sl, h0a⟩, hk0⟩
  have hmay : mayE s k = 0 := by rw [mayE, if_neg (by have := Hn.out; omega), if_neg (by rw [Int.toNat_natCast]; omega)]
  by_cases hle : bar ≤ z
  · have HE : Hid (barE s k bar = 5) := Lib.hid (by rw [barE, if_neg hbar, if_neg (by omega), if_pos (by rw [Int.toNat_natCast, ← hz]; exact hle)])
    have HP : Hid (barG s k bar = s) := Lib.hid (by rw [barG, if_neg (by have := HE.out; omega)])
    rw [HE.out, HP.out]
    clear hs0 hlc0 hr0 hm0 hz hmay
    go_enter Tryd.func8, Tryd.ntmps8
    go_wp2_with fail
    go_quiet (fail)
    go_wp2
    go_ret
    exact ⟨rfl, ⟨gw, gl, sl, h0a.drewN _⟩, hk0.drewN _⟩
  · have HE : Hid (barE s k bar = 0) := Lib.hid (by rw [barE, if_neg hbar, if_neg (by omega), if_neg (by rw [Int.toNat_natCast, ← hz]; exact hle)])
    have HP : Hid (barG s k bar = { s with last := s.last.set k bar }.put k (s.at_ k ++ ([⟨key, num, time, bar⟩] : List Itm))) := Lib.hid (by rw [barG, if_pos HE.out, ← HI.out]; rfl)
    have H4 : Hid (¬ 400 ≤ (s.at_ k).length) := Lib.hid (by omega)
    rw [HE.out, HP.out]
    obtain ⟨l, hl⟩ : ∃ l, l = s.at_ k := ⟨_, rfl⟩
    rw [← hl]
    have Hl := Lib.hid hl
    clear hl
    clear hs0 hlc0 hr0 hm0 hz hmay
    go_enter Tryd.func8, Tryd.ntmps8
    go_wp2_with fail
    go_quiet (fail)
    go_wp2_with fail
    have h0b := h0a.drewN nq
    have hkb := hk0.drewN nq
    have hbxb := hbx.drewN nq
    have b0 : ((w.alloc (.cells #[.string key, .int .i64 num, .int .i64 time, .int .i64 bar] 40)).drewN nq).cell? ⟨G, 0, none⟩ = some (.slice (some ⟨gw, 0, none⟩) n n) := c0
    have b1 : ((w.alloc (.cells #[.string key, .int .i64 num, .int .i64 time, .int .i64 bar] 40)).drewN nq).cell? ⟨G, 1, none⟩ = some (.slice (some ⟨gl, 0, none⟩) n n) := c1
    have x3c : ((w.alloc (.cells #[.string key, .int .i64 num, .int .i64 time, .int .i64 bar] 40)).drewN nq).cell? ⟨w.heap.size, 3, none⟩ = some (.int .i64 bar) := x3b
    have fl := h0b.ls.frozen k
    have hclb : ((w.alloc (.cells #[.string key, .int .i64 num, .int .i64 time, .int .i64 bar] 40)).drewN nq).cell? ⟨gl, k, none⟩ = some (.int .i64 z) := hcl
    have hszb : w.heap.size < ((w.alloc (.cells #[.string key, .int .i64 num, .int .i64 time, .int .i64 bar] 40)).drewN nq).heap.size := hbx.lt
    generalize (w.alloc (.cells #[.string key, .int .i64 num, .int .i64 time, .int .i64 bar] 40)).drewN nq = wb at *
    clear c0 c1 x3b cw0 hcl hbx
    have hgGl : gl ≠ G := Ne.symm h.d2
    have hgxl : gl ≠ w.heap.size := by have := h.ls.lt; omega
    go_region_held3 (fun w' => w'.cell? ⟨G, 1, none⟩ = some (.slice (some ⟨gl, 0, none⟩) n n) ∧ w'.cell? ⟨w.heap.size, 3, none⟩ = some (.int .i64 bar)) (first | exact ⟨b1, x3c⟩ | exact ⟨(World.cell?_setCell_far _ _ _ _ hgGl).trans b1, (World.cell?_setCell_far _ _ _ _ hgxl).trans x3c⟩) (fail)
    obtain ⟨h1, hk1⟩ := h0b.last_ k bar
    replace h1 := h1.drew
    replace hk1 := hkb.trans hk1.drew
    have hbx : Blk ((wb.setCell ⟨gl, k, none⟩ (.int .i64 bar)).drew) w.heap.size 40 #[.string key, .int .i64 num, .int .i64 time, .int .i64 bar] := (Blk.far hbxb (Ne.symm hgxl) _).drew
    have c0 : ((wb.setCell ⟨gl, k, none⟩ (.int .i64 bar)).drew).cell? ⟨G, 0, none⟩ = some (.slice (some ⟨gw, 0, none⟩) n n) := (World.cell?_setCell_far _ _ _ _ hgGl).trans b0
    obtain ⟨A, c, hs, cw, hlc, hcm, hr⟩ := h1.wait (i := k) hkn
    have hlen1 := h1.ok.len k
    have e9 : Gat.at_ { s with last := s.last.set k bar } k = l := Hl.out.symm
    rw [e9] at cw hlc hr hs hlen1
    have hm3 : ¬ 400 ≤ l.length := by rw [Hl.out]; exact H4.out
    clear e9
    generalize (wb.setCell ⟨gl, k, none⟩ (.int .i64 bar)).drew = wa at *
    obtain ⟨m, hm⟩ : ∃ m, m = l.length := ⟨_, rfl⟩
    rw [← hm] at cw hlc hr hs hm3 hlen1
    have Hm := Lib.hid hm
    have hlen : m ≤ 400 := hlen1
    clear hm
    clear b0 b1 x3c fl hclb h0b hkb hbxb
    go_wp2_with (first
      | (with_reducible show wpList _ _ _ (⟨some 65, _, _, _, _, _⟩ :: _) _ _; go_must (refine wpList_rd (.tmp 57) (.tmp 64) el_ritm rfl rfl (World.ownsRow_nil _ 0 40 4) rfl hr rfl (itmCells_one _) (by omega) (Nat.zero_le _) ?_); intro v1 w1 hown1 hb1 hg1 ha1))
    have x0 := hbx.cell 0
    have x1 := hbx.cell 1
    have x2 := hbx.cell 2
    have x3 := hbx.cell 3
    simp only [List.getElem?_toArray, List.getElem?_cons_zero, List.getElem?_cons_succ] at x0 x1 x2 x3
    have hgG : gw ≠ G := Ne.symm h1.d1
    have hxl := hbx.lt
    have hgx : gw ≠ w.heap.size := by have := h.ws.lt; omega
    have hbw : Below wa.heap.size wa w1 := ⟨hg1.os, hg1.tape, hg1.output, hg1.size, fun j hj => hg1.block j hj (by simp [Value.ownBlock])⟩
    have b0 := hg1.cell c0 (by simp [Value.ownBlock])
    have y0 := hg1.cell x0 (by simp [Value.ownBlock])
    have y1 := hg1.cell x1 (by simp [Value.ownBlock])
    have y2 := hg1.cell x2 (by simp [Value.ownBlock])
    have y3 := hg1.cell x3 (by simp [Value.ownBlock])
    have hfr : ∀ g, v1.ownBlock = some g → wa.heap.size ≤ g := fun g hg => by
      rcases ha1 with e | e
      · have e2 := e.symm.trans hg; cases e2
      · have e2 := e.symm.trans hg; injection e2 with e2; omega
    have hvG : some G ≠ v1.ownBlock := fun e => by have := hfr G e.symm; have := h1.obj.lt; omega
    have hvw : some gw ≠ v1.ownBlock := fun e => by have := hfr gw e.symm; have := h1.ws.lt; omega
    have hvx : some w.heap.size ≠ v1.ownBlock := fun e => by have := hfr w.heap.size e.symm; omega
    have hone : ∀ u ∈ (#[.string key, .int .i64 num, .int .i64 time, .int .i64 bar] : Array Value).toList, u.oneCell' = true := by simp [Value.oneCell']
    have hws1 : Blk w1 gw 46 sl.toArray := hbw.block gw h1.ws.lt |>.trans h1.ws
    have lG : G < w1.heap.size := Nat.lt_of_lt_of_le h1.obj.lt hbw.size
    have lw : gw < w1.heap.size := Nat.lt_of_lt_of_le h1.ws.lt hbw.size
    have lx : w.heap.size < w1.heap.size := Nat.lt_of_lt_of_le hxl hbw.size
    have hsz1 := hbw.size
    clear c0 x0 x1 x2 x3 cw hr
    have keep : ∀ o : Obj, (w1.alloc o).cell? ⟨G, 0, none⟩ = some (.slice (some ⟨gw, 0, none⟩) n n) ∧ (w1.alloc o).cell? ⟨w.heap.size, 0, none⟩ = some (.string key) ∧ (w1.alloc o).cell? ⟨w.heap.size, 1, none⟩ = some (.int .i64 num) ∧ (w1.alloc o).cell? ⟨w.heap.size, 2, none⟩ = some (.int .i64 time) ∧ (w1.alloc o).cell? ⟨w.heap.size, 3, none⟩ = some (.int .i64 bar) := fun o =>
      ⟨(World.cell?_alloc_lt w1 o ⟨G, 0, none⟩ lG).trans b0, (World.cell?_alloc_lt w1 o ⟨w.heap.size, 0, none⟩ lx).trans y0, (World.cell?_alloc_lt w1 o ⟨w.heap.size, 1, none⟩ lx).trans y1, (World.cell?_alloc_lt w1 o ⟨w.heap.size, 2, none⟩ lx).trans y2, (World.cell?_alloc_lt w1 o ⟨w.heap.size, 3, none⟩ lx).trans y3⟩
    obtain ⟨kn0, kn1, kn2, kn3, kn4⟩ := keep (.cells #[.string key, .int .i64 num, .int .i64 time, .int .i64 bar] 40)
    have hwn := hws1.alloc (.cells #[.string key, .int .i64 num, .int .i64 time, .int .i64 bar] 40)
    have cwn : ∃ u, (w1.alloc (.cells #[.string key, .int .i64 num, .int .i64 time, .int .i64 bar] 40)).cell? ⟨gw, k, none⟩ = some u := ⟨_, (hwn.cell k).trans (by rw [List.getElem?_toArray]; exact hs)⟩
    obtain ⟨cu, hcu⟩ := cwn
    go_region_held3 (fun w' => w'.cell? ⟨G, 0, none⟩ = some (.slice (some ⟨gw, 0, none⟩) n n) ∧ w'.cell? ⟨w.heap.size, 0, none⟩ = some (.string key) ∧ w'.cell? ⟨w.heap.size, 1, none⟩ = some (.int .i64 num) ∧ w'.cell? ⟨w.heap.size, 2, none⟩ = some (.int .i64 time) ∧ w'.cell? ⟨w.heap.size, 3, none⟩ = some (.int .i64 bar)) (first | exact ⟨b0, y0, y1, y2, y3⟩ | exact ⟨kn0, kn1, kn2, kn3, kn4⟩ | exact ⟨p0, p1, p2, p3, p4⟩ | exact ⟨(World.cell?_setCell_far _ _ _ _ hgG).trans p0, (World.cell?_setCell_far _ _ _ _ hgx).trans p1, (World.cell?_setCell_far _ _ _ _ hgx).trans p2, (World.cell?_setCell_far _ _ _ _ hgx).trans p3, (World.cell?_setCell_far _ _ _ _ hgx).trans p4⟩)
      ((first
        | (with_reducible show (if Region.wanted (⟨some 74, _, _, _, _, _⟩ : Oper) _ = true then _ else _); go_must (refine step_rd (.tmp 71) (.tmp 73) el_ritm rfl rfl (own_drew (hown1.alloc _)) rfl (rd_new w1 #[.string key, .int .i64 num, .int .i64 time, .int .i64 bar] 40 (size := 4) (m := 1) rfl).drew rfl hone (by omega) (Nat.zero_le _) ?_); intro v4 w4 hown4 hb4 hg4d ha4; have hg4 := grown_undrew hg4d; have hc4 := hg4.cell hcu hvw; have p0 := hg4.cell kn0 hvG; have p1 := hg4.cell kn1 hvx; have p2 := hg4.cell kn2 hvx; have p3 := hg4.cell kn3 hvx; have p4 := hg4.cell kn4 hvx; have hf4 : w4.frozen? ⟨gw, k, none⟩ = false := Blk.frozen (Blk.grown hwn hg4 hvw) k; obtain ⟨A4, c4, rfl, hn4, hc5, hl4, r4⟩ := own_form hown4)))
    go_wp2
    go_ret
    have hb14 : Below wa.heap.size wa w4 := hbw.trans ⟨hg4.os, hg4.tape, hg4.output, Nat.le_trans (by simp) hg4.size, fun j hj => (hg4.block j (by simp; omega) (fun e => by have := hfr j e.symm; omega)).trans (Below.heap_alloc w1 _ j (by omega))⟩
    obtain ⟨r1, r2⟩ := h1.fresh (k := k) (by have := Hn.out; first | omega | (show k < s.n; omega)) (fun j hj => by have := hZ j hj; omega) (l := l ++ [⟨key, num, time, bar⟩]) (by have := Hm.out; simp; omega) hb14
      (by have e1 : m + 1 = (l ++ [(⟨key, num, time, bar⟩ : Itm)]).length := by have := Hm.out; simp; omega
          have e2 : itmCells (l ++ [(⟨key, num, time, bar⟩ : Itm)]) = itmCells l ++ #[.string key, .int .i64 num, .int .i64 time, .int .i64 bar].toList := by simp [itmCells, Itm.cells]
          rw [← e1, e2]; simpa using hown4)
      (fun g hg => by
        rcases ha4 with e | e <;> (try simp only [Nat.zero_add] at e)
        · exact hfr g (e.symm.trans hg)
        · have e2 := e.symm.trans hg; injection e2 with e2; subst e2; simp; omega)
    exact ⟨rfl, ⟨gw, gl, _, r1⟩, hk1.trans r2⟩
end Go.Proofs.YtmeemcafjebanaaDoor
