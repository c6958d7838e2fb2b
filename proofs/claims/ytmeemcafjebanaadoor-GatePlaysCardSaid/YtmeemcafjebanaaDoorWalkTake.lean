/- The walk of gate: take. -/
import Derived.Test.YtmeemcafjebanaaDoorWalkBar
import Derived.Deep.RegionLaw
namespace Go.Proofs.YtmeemcafjebanaaDoor
open Go.RowKit

def Itm.val (x : Itm) : Value := .agg #[.string x.key, .int .i64 x.num, .int .i64 x.time, .int .i64 x.bar]

set_option maxRecDepth 100000 in
set_option maxHeartbeats 4000000 in
theorem take_any (w : World) (Z : Nat → Prop) (G : Nat) (s : Gat) (k : Nat) (x : Itm) (r : List Itm) (h : GateAt w Z G s) (hk : k < s.n) (hx : s.at_ k = x :: r) (hZ : ∀ k, Z k → k < w.heap.size) :
    Calls Tryd.prog 29 #[.pointer (some ⟨G, 0, none⟩), .int .i64 k] w fun e w' => e = .returned x.val ∧ GateAt w' Z G (takeG s k) ∧ Keeps Z w w' := by
  obtain ⟨gw, gl, sl, h⟩ := h
  have htk : takeG s k = s.put k r := by rw [takeG, hx]; rfl
  rw [htk]
  clear htk
  have h0 := h.alloc (.cells #[.string ⟨#[]⟩, .int .i64 0, .int .i64 0, .int .i64 0] 74)
  have h1 := h0.alloc (.cells #[.string x.key, .int .i64 x.num, .int .i64 x.time, .int .i64 x.bar] 74)
  have hk1 := ((Keeps.refl Z w).alloc hZ (.cells #[.string ⟨#[]⟩, .int .i64 0, .int .i64 0, .int .i64 0] 74)).alloc (fun j hj => by have := hZ j hj; simp; omega) (.cells #[.string x.key, .int .i64 x.num, .int .i64 x.time, .int .i64 x.bar] 74)
  obtain ⟨A, c, hs, cw, hlc, hcm, hown0, hr⟩ := h0.wait (i := k) hk
  have c0 := h0.c0
  have h64 := h.ok.most
  obtain ⟨n, hn⟩ : ∃ n, n = s.n := ⟨_, rfl⟩
  rw [← hn] at c0 h64 hk
  clear hn
  have hlen := h.ok.len k
  rw [hx] at cw hlc hown0 hr hlen hs
  have Hx := Lib.hid hx
  clear hx
  obtain ⟨ad, x', r', rfl, e, g0, g1, g2, g3⟩ := hr.itm0 rfl (by simp)
  injection e with e1 e2
  subst e1 e2
  obtain ⟨q, hq⟩ : ∃ q, q = r.length := ⟨_, rfl⟩
  rw [List.length_cons, ← hq] at cw hlen hlc hown0 hr hs
  have Hq := Lib.hid hq
  clear hq
  have d0 := (World.cell?_alloc_lt _ (.cells #[.string x.key, .int .i64 x.num, .int .i64 x.time, .int .i64 x.bar] 74) ⟨G, 0, none⟩ h0.obj.lt).trans c0
  have dw := (World.cell?_alloc_lt _ (.cells #[.string x.key, .int .i64 x.num, .int .i64 x.time, .int .i64 x.bar] 74) ⟨gw, k, none⟩ h0.ws.lt).trans cw
  have hr1 := hr.alloc (Nat.le_refl _) (.cells #[.string x.key, .int .i64 x.num, .int .i64 x.time, .int .i64 x.bar] 74)
  clear hr
  go_enter Tryd.func29, Tryd.ntmps29
  go_wp2_with fail
  have hx0 := Blk.new (w.alloc (.cells #[.string ⟨#[]⟩, .int .i64 0, .int .i64 0, .int .i64 0] 74)) 74 #[.string x.key, .int .i64 x.num, .int .i64 x.time, .int .i64 x.bar]
  have hx1 := (Blk.new w 74 #[.string ⟨#[]⟩, .int .i64 0, .int .i64 0, .int .i64 0]).alloc (.cells #[.string x.key, .int .i64 x.num, .int .i64 x.time, .int .i64 x.bar] 74)
  rw [show (w.alloc (.cells #[.string ⟨#[]⟩, .int .i64 0, .int .i64 0, .int .i64 0] 74)).heap.size = w.heap.size + 1 from by simp] at hx0
  have h1z := ((h.more (Y := fun j => j = w.heap.size ∨ j = w.heap.size + 1) (fun j hj => by omega)).alloc (.cells #[.string ⟨#[]⟩, .int .i64 0, .int .i64 0, .int .i64 0] 74)).alloc (.cells #[.string x.key, .int .i64 x.num, .int .i64 x.time, .int .i64 x.bar] 74)
  have hsz : w.heap.size + 1 < ((w.alloc (.cells #[.string ⟨#[]⟩, .int .i64 0, .int .i64 0, .int .i64 0] 74)).alloc (.cells #[.string x.key, .int .i64 x.num, .int .i64 x.time, .int .i64 x.bar] 74)).heap.size := by simp
  generalize (w.alloc (.cells #[.string ⟨#[]⟩, .int .i64 0, .int .i64 0, .int .i64 0] 74)).alloc (.cells #[.string x.key, .int .i64 x.num, .int .i64 x.time, .int .i64 x.bar] 74) = wa at *
  have hcut := hr1.cut (k := 1) (cap := c) (by omega) hlc
  rw [show (itmCells (x :: r)).drop (1 * 4) = itmCells r from rfl, Nat.add_sub_cancel] at hcut
  have hzn : ¬ Z w.heap.size := fun h => by have := hZ _ h; omega
  have hgG : gw ≠ G := Ne.symm h.d1
  have hZa : ∀ j, (Z j ∨ j = w.heap.size ∨ j = w.heap.size + 1) → j < wa.heap.size := fun j hj => by
    rcases hj with hj | hj
    · have := hZ j hj; omega
    · omega
  by_cases hc1 : c = 1
  · have hq0 : q = 0 := by omega
    rw [if_pos hc1] at hcut
    subst hq0 hc1
    have hcd := hcut.drew
    go_region_law
      ((first
        | (with_reducible show (if Region.wanted (⟨some 28, _, _, _, _, _⟩ : Oper) _ = true then _ else _); go_must (refine step_rd (.const (.slice none 0 0)) (.tmp 27) el_itm rfl rfl (World.ownsRow_nil wa.drew 0 74 4) rfl hcd rfl (itmCells_one _) (by omega) (Nat.zero_le _) ?_); intro v4 w4 hown4 hb4 hg4d ha4; have hg4 := grown_undrew hg4d; have hc4 := hg4.cell dw (by simp [Value.ownBlock]); have p0 := hg4.cell d0 (by simp [Value.ownBlock]); have hf4 : w4.frozen? ⟨gw, k, none⟩ = false := Blk.frozen (Blk.grown h1.ws hg4 (by simp [Value.ownBlock])) k; obtain ⟨A4, c4, rfl, hn4, hc5, hl4, r4⟩ := own_form hown4)))
    all_goals
      have hg5 : ∀ row, wa.grownBy w4 row := fun row => ⟨hg4.os, hg4.tape, hg4.output, hg4.size, fun j hj _ => hg4.block j hj (by simp [Value.ownBlock])⟩
      obtain ⟨r1, r2⟩ := h1z.replace (i := k) (l := r) hs (by have := Hq.out; omega) hZa (hg5 _)
        (by rw [← Hq.out]; simpa using hown4)
        (fun g hg => by
          rcases ha4 with e | e <;> (try simp only [Nat.zero_add] at e)
          · have e2 := e.symm.trans hg; cases e2
          · have e2 := e.symm.trans hg; injection e2 with e2; subst e2; exact .inr (Nat.le_refl _))
      have y0 := r2.blk hx0 (.inr (.inr rfl))
      have y1 := r2.blk hx1 (.inr (.inl rfl))
      obtain ⟨z0, z1, z2, z3⟩ : _ ∧ _ ∧ _ ∧ _ := ⟨y0.cell 0, y0.cell 1, y0.cell 2, y0.cell 3⟩
      obtain ⟨o0, o1, o2, o3⟩ : _ ∧ _ ∧ _ ∧ _ := ⟨y1.cell 0, y1.cell 1, y1.cell 2, y1.cell 3⟩
      simp only [List.getElem?_toArray, List.getElem?_cons_zero, List.getElem?_cons_succ] at z0 z1 z2 z3 o0 o1 o2 o3
      obtain ⟨f0, f1, f2, f3⟩ : _ ∧ _ ∧ _ ∧ _ := ⟨y1.frozen 0, y1.frozen 1, y1.frozen 2, y1.frozen 3⟩
      generalize w4.setCell ⟨gw, k, none⟩ _ = w5 at *
      go_wp2
      have yb := (((y1.set_ 0 (.string x.key)).set_ 1 (.int .i64 x.num)).set_ 2 (.int .i64 x.time)).set_ 3 (.int .i64 x.bar)
      have r3 := (((r1.set_ (p := ⟨w.heap.size, 0, none⟩) (.inr (.inl rfl)) (.string x.key)).set_ (p := ⟨w.heap.size, 1, none⟩) (.inr (.inl rfl)) (.int .i64 x.num)).set_ (p := ⟨w.heap.size, 2, none⟩) (.inr (.inl rfl)) (.int .i64 x.time)).set_ (p := ⟨w.heap.size, 3, none⟩) (.inr (.inl rfl)) (.int .i64 x.bar)
      have r4 := ((((r2.mono (Y := Z) fun _ h => .inl h).set_ (p := ⟨w.heap.size, 0, none⟩) hzn (.string x.key)).set_ (p := ⟨w.heap.size, 1, none⟩) hzn (.int .i64 x.num)).set_ (p := ⟨w.heap.size, 2, none⟩) hzn (.int .i64 x.time)).set_ (p := ⟨w.heap.size, 3, none⟩) hzn (.int .i64 x.bar)
      (try simp only [Exit.inBlock, Exit.then])
      refine bodyPost_ret (results_cell_row rfl _ _ w.heap.size 74 _ (0, 0) _ rfl yb Tryd.underlying74 rfl (by kernel_rfl)) rfl ?_
      exact ⟨rfl, ⟨gw, gl, _, r3.less fun _ h => .inl h⟩, hk1.trans r4⟩
  · rw [if_neg hc1] at hcut
    have hq1 : (1 : Int) ≤ (q : Int) + 1 := by omega
    have hcd := hcut.drew
    go_region_law
      ((first
        | (with_reducible show (if Region.wanted (⟨some 28, _, _, _, _, _⟩ : Oper) _ = true then _ else _); go_must (refine step_rd (.const (.slice none 0 0)) (.tmp 27) el_itm rfl rfl (World.ownsRow_nil wa.drew 0 74 4) rfl hcd rfl (itmCells_one _) (by omega) (Nat.zero_le _) ?_); intro v4 w4 hown4 hb4 hg4d ha4; have hg4 := grown_undrew hg4d; have hc4 := hg4.cell dw (by simp [Value.ownBlock]); have p0 := hg4.cell d0 (by simp [Value.ownBlock]); have hf4 : w4.frozen? ⟨gw, k, none⟩ = false := Blk.frozen (Blk.grown h1.ws hg4 (by simp [Value.ownBlock])) k; obtain ⟨A4, c4, rfl, hn4, hc5, hl4, r4⟩ := own_form hown4)))
    all_goals
      have hg5 : ∀ row, wa.grownBy w4 row := fun row => ⟨hg4.os, hg4.tape, hg4.output, hg4.size, fun j hj _ => hg4.block j hj (by simp [Value.ownBlock])⟩
      obtain ⟨r1, r2⟩ := h1z.replace (i := k) (l := r) hs (by have := Hq.out; omega) hZa (hg5 _)
        (by rw [← Hq.out]; simpa using hown4)
        (fun g hg => by
          rcases ha4 with e | e <;> (try simp only [Nat.zero_add] at e)
          · have e2 := e.symm.trans hg; cases e2
          · have e2 := e.symm.trans hg; injection e2 with e2; subst e2; exact .inr (Nat.le_refl _))
      have y0 := r2.blk hx0 (.inr (.inr rfl))
      have y1 := r2.blk hx1 (.inr (.inl rfl))
      obtain ⟨z0, z1, z2, z3⟩ : _ ∧ _ ∧ _ ∧ _ := ⟨y0.cell 0, y0.cell 1, y0.cell 2, y0.cell 3⟩
      obtain ⟨o0, o1, o2, o3⟩ : _ ∧ _ ∧ _ ∧ _ := ⟨y1.cell 0, y1.cell 1, y1.cell 2, y1.cell 3⟩
      simp only [List.getElem?_toArray, List.getElem?_cons_zero, List.getElem?_cons_succ] at z0 z1 z2 z3 o0 o1 o2 o3
      obtain ⟨f0, f1, f2, f3⟩ : _ ∧ _ ∧ _ ∧ _ := ⟨y1.frozen 0, y1.frozen 1, y1.frozen 2, y1.frozen 3⟩
      generalize w4.setCell ⟨gw, k, none⟩ _ = w5 at *
      go_wp2
      have yb := (((y1.set_ 0 (.string x.key)).set_ 1 (.int .i64 x.num)).set_ 2 (.int .i64 x.time)).set_ 3 (.int .i64 x.bar)
      have r3 := (((r1.set_ (p := ⟨w.heap.size, 0, none⟩) (.inr (.inl rfl)) (.string x.key)).set_ (p := ⟨w.heap.size, 1, none⟩) (.inr (.inl rfl)) (.int .i64 x.num)).set_ (p := ⟨w.heap.size, 2, none⟩) (.inr (.inl rfl)) (.int .i64 x.time)).set_ (p := ⟨w.heap.size, 3, none⟩) (.inr (.inl rfl)) (.int .i64 x.bar)
      have r4 := ((((r2.mono (Y := Z) fun _ h => .inl h).set_ (p := ⟨w.heap.size, 0, none⟩) hzn (.string x.key)).set_ (p := ⟨w.heap.size, 1, none⟩) hzn (.int .i64 x.num)).set_ (p := ⟨w.heap.size, 2, none⟩) hzn (.int .i64 x.time)).set_ (p := ⟨w.heap.size, 3, none⟩) hzn (.int .i64 x.bar)
      (try simp only [Exit.inBlock, Exit.then])
      refine bodyPost_ret (results_cell_row rfl _ _ w.heap.size 74 _ (0, 0) _ rfl yb Tryd.underlying74 rfl (by kernel_rfl)) rfl ?_
      exact ⟨rfl, ⟨gw, gl, _, r3.less fun _ h => .inl h⟩, hk1.trans r4⟩
end Go.Proofs.YtmeemcafjebanaaDoor
