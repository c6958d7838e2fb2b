/- slices.Insert of one at the head of a slice of slices (bytes; entries). -/
import Derived.Test.YtcfijljagohmlaaMemLsm
import Derived.Lib.AppendZerosOnto
import Derived.Lib.Overlaps
import Derived.Laws.IdiomCopy
import Derived.Deep.RegionLaw
namespace Go.Proofs.Ytcfijljagohmlaa
open Go.RowKit

theorem wpList_copyI {P : Program} (w : World) {ops : Array Oper} {rest : List Oper} {o : Oper} {a : Act} {Q : Exit → Act → World → Prop} (hgd : o.guard = none) (d s : Operand) (t t' : TypeId)
    (ho : o.op = .call { callee := .builtin .copy, args := #[d, s], argTypes := #[t, t'] }) (v u : Value) (hd : a.eval d = v) (hs : a.eval s = u) {v' : Value} {w' : World}
    (hr : (Builtin.copy_ #[t, t'] o.type #[v, u]).run P w = .ok v' w') (h : wpList P ops Q rest (a.put o.dst v') w') : wpList P ops Q (o :: rest) a w :=
  wpList_plain hgd fun _ hK => by
    unfold Oper.wp execOp
    simp only [ho, resolve, invoke, builtin, Sem.run_bind, Sem.run_pure, Result.andThen_ok, List.map_toArray, List.map_cons, List.map_nil, hd, hs, hr]
    exact hK _ _ h
theorem step_copyI {P : Program} {ops : Array Oper} {o : Oper} {a : Act} {w : World} {K : Act → World → Prop} {Q : Exit → Act → World → Prop} {E : Prop}
    (hg : o.guard = none) (d x : Operand) (dT sT : TypeId) (hop : o.op = Op.call { callee := Callee.builtin Builtin.copy, args := #[d, x], argTypes := #[dT, sT] })
    (v u : Value) (hd : a.eval d = v) (hx : a.eval x = u) {v' : Value} {w' : World} (hr : (Builtin.copy_ #[dT, sT] o.type #[v, u]).run P w = .ok v' w') (hK : K (a.put o.dst v') w') :
    if Region.wanted o (yielded ops a.tmps) = true then Oper.wp P o a w K Q else E := by
  have hw : Region.wanted o (yielded ops a.tmps) = true := by simp [Region.wanted, hg]
  rw [if_pos hw]
  unfold Oper.wp
  simp [execOp, hop, resolve, invoke, builtin, hd, hx, hr, Result.andThen]
  exact hK
theorem one_all {u : Value} (h : u.oneCell' = true) : ∀ v ∈ [u], v.oneCell' = true := fun v hv => by rw [List.mem_singleton.1 hv]; exact h
set_option maxRecDepth 100000 in
set_option maxHeartbeats 4000000 in
theorem ins_bytes (base n vb : Nat) (v0 x : Value) (xs : List Value) (w : World) (ho : w.ownsRow base 22 1 v0 n xs) (hb : Blk w vb 22 #[x]) (hne : v0.ownBlock ≠ some vb) (h1 : x.oneCell' = true) (h1s : ∀ u ∈ xs, u.oneCell' = true) (hn : n ≤ 1000000) (hbw : base ≤ w.heap.size) :
    Calls Try.prog 67 #[v0, .int .i64 0, .slice (some ⟨vb, 0, none⟩) 1 1] w fun e w' => ∃ v, e = .returned v ∧ w'.ownsRow base 22 1 v (n + 1) (x :: xs) ∧ w.grownBy w' v0.ownBlock := by
  have hrx : Rd w w.heap.size 1 (some ⟨vb, 0, none⟩) 1 [x] := ⟨rfl, fun _ => ⟨_, rfl, hb.lt, fun j u hj => by
    rcases j with _ | j
    · have := hb.cell 0
      simp at this hj
      rw [← hj]; exact this
    · simp at hj⟩⟩
  have hxl := ho.1
  rcases Nat.eq_zero_or_pos n with hn0 | hn0
  · subst hn0
    have hxs : xs = [] := List.eq_nil_of_length_eq_zero (by simpa using hxl)
    subst hxs
    have hown := ho
    obtain ⟨A, c, rfl, _, hcm, _, _⟩ := own_form ho
    clear ho
    rcases A with _ | ad
    · go_enter Try.func67, Try.ntmps67
      go_wp2_with (first
        | (with_reducible show wpList _ _ _ (⟨some 25, _, _, _, _, _⟩ :: _) _ _; go_must (refine wpList_rd (.tmp 23) (.tmp 24) el_slB rfl rfl hown rfl hrx rfl (one_all h1) (by omega) hbw ?_); intro v1 w1 hown1 hb1 hg1 ha1))
      go_ret
      exact ⟨v1, rfl, hown1, hg1⟩
    · go_enter Try.func67, Try.ntmps67
      go_wp2_with (first
        | (with_reducible show wpList _ _ _ (⟨some 25, _, _, _, _, _⟩ :: _) _ _; go_must (refine wpList_rd (.tmp 23) (.tmp 24) el_slB rfl rfl hown rfl hrx rfl (one_all h1) (by omega) hbw ?_); intro v1 w1 hown1 hb1 hg1 ha1))
      go_ret
      exact ⟨v1, rfl, hown1, hg1⟩
  · have hown := ho
    rcases ho.2 with ⟨_, e1⟩ | ⟨g, c, cur, rfl, _⟩
    · omega
    obtain ⟨hsh, hbg, hnc, hcm⟩ := shape_own ho
    rw [Nat.mul_one] at hsh
    obtain ⟨A', c', e', _, _, _, hr⟩ := own_form ho
    injection e' with e1 _ e2
    subst e1 e2
    obtain ⟨adr, he, hab, hcl0⟩ := hr.2 hn0
    injection he with he
    subst he
    have hadd : ∀ j, (Addr.add ⟨g, 0, none⟩ j : Addr) = ⟨g, j, none⟩ := fun j => by
      unfold Addr.add
      split
      · rename_i h0; rw [h0]
      · simp
    have hcl : ∀ j u, xs[j]? = some u → w.cell? ⟨g, j, none⟩ = some u := fun j u hj => by
      have := hcl0 j u hj
      rwa [hadd] at this
    have hvg : vb ≠ g := fun e => hne (by rw [e]; rfl)
    rw [Nat.mul_one] at hxl
    have hsz1 : (Try.prog.info? 22).map (·.size) = some 1 := by kernel_rfl
    have hc63 : c ≤ 9223372036854775807 := by unfold maxLen at hcm; omega
    have hz2 : ((0 : Int) == (n : Int)) = false := by rw [beq_eq_false_iff_ne]; omega
    have hbx0 : w.cell? ⟨vb, 0, none⟩ = some x := by have := hb.cell 0; simpa using this
    have hfin : ∀ (W : World) (G h : Nat), ShapeR W h 22 G → base ≤ h → n + 1 ≤ G → G ≤ maxLen → W.cell? ⟨h, 0, none⟩ = some x → (∀ j u, xs[j]? = some u → W.cell? ⟨h, 1 + j, none⟩ = some u) → W.ownsRow base 22 1 (.slice (some ⟨h, 0, none⟩) (n + 1) G) (n + 1) (x :: xs) := fun W G h q1 q2 q3 q4 q5 q6 =>
      own_shape (by rw [Nat.mul_one]; exact q1) q2 q3 q4 (by rw [List.length_cons, hxl]; omega) (fun j u hj => by
        rcases j with _ | j
        · obtain rfl : x = u := by simpa using hj
          exact q5
        · have := q6 j u (by simpa using hj)
          rwa [Nat.add_comm] at this)
    by_cases hroom : n + 1 ≤ c
    · have hov : ∀ lb cb, (callFunc 86 #[.slice (some ⟨vb, 0, none⟩) 1 1, .slice (some ⟨g, 1, none⟩) lb cb]).run Try.prog w = .ok (.value (.bool false)) w := fun lb cb => by
        obtain ⟨cur2, hcur, hcs⟩ := hsh
        rw [run_callFunc_extern Try.func86 (by kernel_rfl) (by kernel_rfl) (by kernel_rfl) (e := Extern.SlicesOverlaps.overlaps #[50, 50] #[4]) (by kernel_rfl),
          Lib.run_overlaps_apart w 50 4 22 Try.underlying50 1 (fun _ => by kernel_rfl) ⟨vb, 0, none⟩ ⟨g, 1, none⟩ 1 1 lb cb hvg 22 22 1 c (by unfold Blk at hb; simp [World.shape?, hb]) (by simp [World.shape?, hcur, hcs]) (by omega) (hb.frozen 0) (hb.frozen 1)]
        rfl
      have hcp1 : ∀ ty dc sc, (Builtin.copy_ #[50, 50] ty #[.slice (some ⟨g, 1, none⟩) (n + 1 - 1) dc, .slice (some ⟨g, 0, none⟩) (n + 1) sc]).run Try.prog w.drew = .ok (goInt xs.length) (w.drew.setCells g 1 xs) := fun ty dc sc =>
        run_copy_cells w.drew _ _ ty 22 g 1 (n + 1 - 1) dc ⟨g, 0, none⟩ (n + 1) sc xs Try.underlying50 hsz1 (by rw [hxl]; simp only [Nat.min_def]; split <;> omega)
          (fun j v hj => by rw [hadd]; exact hcl j v hj) (fun j hj => hsh.some_ (by omega)) (fun j hj => hsh.frozen _) h1s
      have hsh1 : ShapeR (w.drew.setCells g 1 xs) g 22 c := ShapeR.setMany _ _ _ (hsh.same rfl)
      have hx1 : (w.drew.setCells g 1 xs).cell? ⟨vb, 0, none⟩ = some x := by
        rw [World.cell?_of_block (heap_setCells g xs 1 w.drew vb hvg)]
        exact hbx0
      obtain ⟨W1, hW1⟩ : ∃ W1, W1 = w.drew.setCells g 1 xs := ⟨_, rfl⟩
      rw [← hW1] at hcp1 hsh1 hx1
      have hcp2 : ∀ ty dc, (Builtin.copy_ #[50, 50] ty #[.slice (some ⟨g, 0, none⟩) (n + 1) dc, .slice (some ⟨vb, 0, none⟩) 1 1]).run Try.prog W1 = .ok (goInt [x].length) (W1.setCells g 0 [x]) := fun ty dc =>
        run_copy_cells W1 _ _ ty 22 g 0 (n + 1) dc ⟨vb, 0, none⟩ 1 1 [x] Try.underlying50 hsz1 (by simp only [Nat.min_def, List.length_singleton]; split <;> omega)
          (fun j v hj => by
            rcases j with _ | j
            · obtain rfl : x = v := by simpa using hj
              exact hx1
            · simp at hj) (fun j hj => hsh1.some_ (by simp at hj; omega)) (fun j hj => hsh1.frozen _) (one_all h1)
      have HW1 := Lib.hid hW1
      have hb1 : ¬ (c < n + 1) := by omega
      have hb2 : ¬ ((c : Int) < (n : Int) + 1) := by omega
      have hb3 : ¬ (c = 1) := by omega
      have hb4 : ((n : Int) + 1).toNat = n + 1 := by omega
      have hb5 : (0 : Int) ≤ (n : Int) + 1 := by omega
      have hb6 : (n : Int) + 1 ≤ (c : Int) := by omega
      have hb7 : (1 : Int) ≤ (n : Int) + 1 := by omega
      have hw1 : IntKind.i64.wrap (1 : Int) = 1 := by rw [IntKind.wrap_i64]; rfl
      clear hr hcl0 hab hcl hadd hown ho hW1
      go_enter Try.func67, Try.ntmps67
      go_wp2_with (simp only [hov])
      go_region_law (refine step_copyI rfl (.tmp 73) (.tmp 76) 50 50 rfl (.slice (some ⟨g, 1, none⟩) (n + 1 - 1) (c - 1)) (.slice (some ⟨g, 0, none⟩) (n + 1) c) (by simp [Act.eval, Act.put]) (by simp [Act.eval, Act.put]) (hcp1 _ _ _) ?_)
      go_wp2_with (first
        | (with_reducible show wpList _ _ _ (⟨some 82, _, _, _, _, _⟩ :: _) _ _; go_must (refine wpList_copyI _ rfl (.tmp 80) (.tmp 81) 50 50 rfl _ _ rfl rfl (hcp2 _ _) ?_)))
      go_ret
      refine ⟨_, rfl, hfin _ c g (hsh1.set_ _ _ _) hbg hroom hcm ?_ ?_, ?_⟩
      · have := World.cell?_setCells_in g [x] 0 W1 (fun j hj => hsh1.some_ (by simp at hj; omega)) 0 (by simp)
        exact this
      · intro j u hj
        have hjl := (List.getElem?_eq_some_iff.1 hj).1
        have e1 := World.cell?_setCells_out g [x] 0 W1 ⟨g, 1 + j, none⟩ (fun _ _ => by right; show 0 + 1 ≤ 1 + j; omega)
        have e2 := World.cell?_setCells_in g xs 1 w.drew (fun k hk => hsh.some_ (by omega)) j hjl
        rw [e1, HW1.out, e2, ← hj, List.getElem?_eq_getElem hjl]
      · rw [HW1.out]
        exact only_set (only_trans (only_drew (only_refl w (some g))) (setCells_grown g xs 1 w.drew)) 0 x
    · obtain rfl : c = n := by omega
      obtain ⟨i0, hi0⟩ := Option.isSome_iff_exists.1 (show (Try.prog.info? 22).isSome = true by kernel_rfl)
      have hz0 : i0.zero = some (.slice none 0 0) := by
        have := (show (Try.prog.info? 22).bind (·.zero) = some (.slice none 0 0) by kernel_rfl)
        rwa [hi0] at this
      have hzs : i0.size = 1 := by
        have := (show (Try.prog.info? 22).map (·.size) = some 1 by kernel_rfl)
        rw [hi0] at this
        simpa using this
      have hzb : i0.bytes = 24 := by
        have := (show (Try.prog.info? 22).map (·.bytes) = some 24 by kernel_rfl)
        rw [hi0] at this
        simpa using this
      have hold : (Builtin.firstCells i0.size 0 (.slice (some ⟨g, 0, none⟩) 0 c)).run Try.prog w.drew = .ok ([] : List Value).toArray w.drew := by
        rw [hzs]
        exact run_firstCells_some w.drew 1 0 ⟨g, 0, none⟩ 0 c [] (by simp) (fun j v hj => by simp at hj)
      have hrz : ∀ ty, (Builtin.append_ #[50, 3] ty #[.slice (some ⟨g, 0, none⟩) 0 c, .int .i64 ((c : Int) + 1)]).run Try.prog w =
          .ok (.slice (some ⟨w.heap.size, 0, none⟩) (c + 1) (grownCap w (c + 1) c 22)) (w.drew.alloc (.cells (([] : List Value).toArray ++ Builtin.zeroCells (Value.slice none 0 0).cells (c + 1) ++ Builtin.zeroCells (Value.slice none 0 0).cells (grownCap w (c + 1) c 22 - (c + 1))) 22)) := fun ty => by
        have h := Lib.run_append_grow_zeros w 50 3 ty 22 i0 _ .i64 .i64 Try.underlying50 Try.underlying3 hi0 hz0 (some ⟨g, 0, none⟩) 0 c [] hold (c + 1) (by omega) (by omega) (by omega) (by omega) (by rw [hzb]; omega) (by rw [hzb, Nat.zero_add]; exact growslice_fits (by omega) (by omega))
        rw [Nat.zero_add] at h
        exact h
      have hGn : c + 1 ≤ grownCap w (c + 1) c 22 := grownCap_ge w _ _ _
      have hGm : grownCap w (c + 1) c 22 ≤ maxLen := grownCap_le_maxLen w (c + 1) c 22 (by unfold maxLen; omega)
      obtain ⟨G, hG⟩ : ∃ G, G = grownCap w (c + 1) c 22 := ⟨_, rfl⟩
      obtain ⟨ROW, hROW⟩ : ∃ ROW : Array Value, ROW = ([] : List Value).toArray ++ Builtin.zeroCells (Value.slice none 0 0).cells (c + 1) ++ Builtin.zeroCells (Value.slice none 0 0).cells (G - (c + 1)) := ⟨_, rfl⟩
      rw [← hG] at hrz hGn hGm
      rw [← hROW] at hrz
      have hRl : ROW.size = G := by
        rw [hROW]
        simp [Builtin.zeroCells, Value.cells]
        omega
      have hshR : ShapeR (w.drew.alloc (.cells ROW 22)) w.heap.size 22 G := ⟨ROW, heap_alloc_new w.drew _, hRl⟩
      obtain ⟨h, hh⟩ : ∃ h, h = w.heap.size := ⟨_, rfl⟩
      rw [← hh] at hrz hshR
      obtain ⟨W1, hW1⟩ : ∃ W1, W1 = w.drew.alloc (.cells ROW 22) := ⟨_, rfl⟩
      rw [← hW1] at hrz hshR
      have hb1 : Below w.heap.size w W1 := by rw [hW1]; exact (Below.refl _ _).drew.alloc (Nat.le_refl _) _
      have hcpA : ∀ W : World, (∀ z, W.cell? z = W1.cell? z) → (∀ z, W.frozen? z = W1.frozen? z) → ∀ ty dc, (Builtin.copy_ #[50, 50] ty #[.slice (some ⟨h, 0, none⟩) (c + 1) dc, .slice (some ⟨vb, 0, none⟩) 1 1]).run Try.prog W = .ok (goInt [x].length) (W.setCells h 0 [x]) := fun W hWc hWf ty dc =>
        run_copy_cells W _ _ ty 22 h 0 (c + 1) dc ⟨vb, 0, none⟩ 1 1 [x] Try.underlying50 hsz1 (by simp only [Nat.min_def, List.length_singleton]; split <;> omega)
          (fun j v hj => by
            rcases j with _ | j
            · obtain rfl : x = v := by simpa using hj
              rw [hWc]
              exact (hb1.cell (p := ⟨vb, 0, none⟩) hb.lt).trans hbx0
            · simp at hj) (fun j hj => by rw [hWc]; exact hshR.some_ (by simp at hj; omega)) (fun j hj => by rw [hWf]; exact hshR.frozen _) (one_all h1)
      have hgh : g ≠ h := by
        have := hsh.lt
        omega
      have hshS : ShapeR (W1.setCells h 0 [x]) h 22 G := hshR.setMany _ _ _
      have hclS : ∀ j u, xs[j]? = some u → (W1.setCells h 0 [x]).cell? ⟨g, j, none⟩ = some u := fun j u hj => by
        rw [World.cell?_of_block (heap_setCells h [x] 0 W1 g hgh)]
        exact (hb1.cell (p := ⟨g, j, none⟩) hsh.lt).trans (hcl j u hj)
      have hcpB : ∀ W : World, (∀ z, W.cell? z = (W1.setCells h 0 [x]).cell? z) → (∀ z, W.frozen? z = (W1.setCells h 0 [x]).frozen? z) → ∀ ty dc sc, (Builtin.copy_ #[50, 50] ty #[.slice (some ⟨h, 1, none⟩) (c + 1 - 1) dc, .slice (some ⟨g, 0, none⟩) c sc]).run Try.prog W = .ok (goInt xs.length) (W.setCells h 1 xs) := fun W hWc hWf ty dc sc =>
        run_copy_cells W _ _ ty 22 h 1 (c + 1 - 1) dc ⟨g, 0, none⟩ c sc xs Try.underlying50 hsz1 (by rw [hxl]; simp only [Nat.min_def]; split <;> omega)
          (fun j v hj => by rw [hadd, hWc]; exact hclS j v hj) (fun j hj => by rw [hWc]; exact hshS.some_ (by omega)) (fun j hj => by rw [hWf]; exact hshS.frozen _) h1s
      have hGc := hcpB ((W1.setCells h 0 [x]).drew) (fun _ => rfl) (fun _ => rfl)
      have hAc := hcpA W1 (fun _ => rfl) (fun _ => rfl)
      have HHH := Lib.hid hh
      have hz3 : (c : Int) < (c : Int) + 1 := by omega
      have hb4 : ((c : Int) + 1).toNat = c + 1 := by omega
      have hb7 : (1 : Int) ≤ (c : Int) + 1 := by omega
      have hw1 : IntKind.i64.wrap (1 : Int) = 1 := by rw [IntKind.wrap_i64]; rfl
      have hG1 : ¬ (G = 1) := by omega
      have hG0 : ¬ (G = 0) := by omega
      have hc0 : ¬ (c = 0) := by omega
      have HWW := Lib.hid hW1
      clear hr hcl0 hab hcl hadd hown ho hW1 hROW hRl hG hold hi0 hz0 hzs hzb hclS hcpA hcpB hh
      go_enter Try.func67, Try.ntmps67
      go_wp2_with (first
        | (with_reducible show wpList _ _ _ (⟨some 40, _, _, _, _, _⟩ :: _) _ _; go_must (refine Lib.wpList_append_run _ rfl _ _ _ _ rfl _ _ rfl rfl _ _ (hrz _) ?_))
        | (with_reducible show wpList _ _ _ (⟨some 45, _, _, _, _, _⟩ :: _) _ _; go_must (refine wpList_copyI _ rfl (.tmp 43) (.tmp 44) 50 50 rfl _ _ rfl rfl (hAc _ _) ?_)))
      go_region_law (refine step_copyI rfl (.tmp 50) (.tmp 53) 50 50 rfl (.slice (some ⟨h, 1, none⟩) (c + 1 - 1) (G - 1)) (.slice (some ⟨g, 0, none⟩) c c) (by simp [Act.eval, Act.put]) (by simp [Act.eval, Act.put]) (hGc _ _ _) ?_)
      go_wp2_with fail
      go_ret
      have hshD : ShapeR ((W1.setCells h 0 [x]).drew) h 22 G := hshS.same rfl
      refine ⟨_, rfl, hfin _ G h (hshD.setMany _ _ _) (by rw [HHH.out]; exact hbw) hGn hGm ?_ ?_, ?_⟩
      · rw [World.cell?_setCells_out h xs 1 ((W1.setCells h 0 [x]).drew) ⟨h, 0, none⟩ (fun _ _ => by left; show 0 < 1; omega)]
        exact World.cell?_setCells_in h [x] 0 W1 (fun j hj => hshR.some_ (by simp at hj; omega)) 0 (by simp)
      · intro j u hj
        have hjl := (List.getElem?_eq_some_iff.1 hj).1
        have e2 := World.cell?_setCells_in h xs 1 ((W1.setCells h 0 [x]).drew) (fun k hk => hshD.some_ (by omega)) j hjl
        rw [e2, ← hj, List.getElem?_eq_getElem hjl]
      · have hbz : Below w.heap.size w (((W1.setCells h 0 [x]).drew).setCells h 1 xs) := by
          refine ⟨?_, ?_, ?_, ?_, fun k hk => ?_⟩
          · exact (setCells_grown h xs 1 _).os.trans ((setCells_grown h [x] 0 W1).os.trans hb1.os)
          · exact (setCells_grown h xs 1 _).tape.trans ((setCells_grown h [x] 0 W1).tape.trans hb1.tape)
          · exact (setCells_grown h xs 1 _).output.trans ((setCells_grown h [x] 0 W1).output.trans hb1.output)
          · exact Nat.le_trans hb1.size (Nat.le_trans (setCells_grown h [x] 0 W1).size (setCells_grown h xs 1 ((W1.setCells h 0 [x]).drew)).size)
          · have hkh : k ≠ h := by rw [HHH.out]; omega
            rw [heap_setCells h xs 1 _ k hkh]
            exact (heap_setCells h [x] 0 W1 k hkh).trans (hb1.block k hk)
        exact only_of_below hbz _
set_option maxRecDepth 100000 in
set_option maxHeartbeats 4000000 in
theorem ins_ents (base n vb : Nat) (v0 x : Value) (xs : List Value) (w : World) (ho : w.ownsRow base 72 1 v0 n xs) (hb : Blk w vb 72 #[x]) (hne : v0.ownBlock ≠ some vb) (h1 : x.oneCell' = true) (h1s : ∀ u ∈ xs, u.oneCell' = true) (hn : n ≤ 1000000) (hbw : base ≤ w.heap.size) :
    Calls Try.prog 68 #[v0, .int .i64 0, .slice (some ⟨vb, 0, none⟩) 1 1] w fun e w' => ∃ v, e = .returned v ∧ w'.ownsRow base 72 1 v (n + 1) (x :: xs) ∧ w.grownBy w' v0.ownBlock := by
  have hrx : Rd w w.heap.size 1 (some ⟨vb, 0, none⟩) 1 [x] := ⟨rfl, fun _ => ⟨_, rfl, hb.lt, fun j u hj => by
    rcases j with _ | j
    · have := hb.cell 0
      simp at this hj
      rw [← hj]; exact this
    · simp at hj⟩⟩
  have hxl := ho.1
  rcases Nat.eq_zero_or_pos n with hn0 | hn0
  · subst hn0
    have hxs : xs = [] := List.eq_nil_of_length_eq_zero (by simpa using hxl)
    subst hxs
    have hown := ho
    obtain ⟨A, c, rfl, _, hcm, _, _⟩ := own_form ho
    clear ho
    rcases A with _ | ad
    · go_enter Try.func68, Try.ntmps68
      go_wp2_with (first
        | (with_reducible show wpList _ _ _ (⟨some 25, _, _, _, _, _⟩ :: _) _ _; go_must (refine wpList_rd (.tmp 23) (.tmp 24) el_slE rfl rfl hown rfl hrx rfl (one_all h1) (by omega) hbw ?_); intro v1 w1 hown1 hb1 hg1 ha1))
      go_ret
      exact ⟨v1, rfl, hown1, hg1⟩
    · go_enter Try.func68, Try.ntmps68
      go_wp2_with (first
        | (with_reducible show wpList _ _ _ (⟨some 25, _, _, _, _, _⟩ :: _) _ _; go_must (refine wpList_rd (.tmp 23) (.tmp 24) el_slE rfl rfl hown rfl hrx rfl (one_all h1) (by omega) hbw ?_); intro v1 w1 hown1 hb1 hg1 ha1))
      go_ret
      exact ⟨v1, rfl, hown1, hg1⟩
  · have hown := ho
    rcases ho.2 with ⟨_, e1⟩ | ⟨g, c, cur, rfl, _⟩
    · omega
    obtain ⟨hsh, hbg, hnc, hcm⟩ := shape_own ho
    rw [Nat.mul_one] at hsh
    obtain ⟨A', c', e', _, _, _, hr⟩ := own_form ho
    injection e' with e1 _ e2
    subst e1 e2
    obtain ⟨adr, he, hab, hcl0⟩ := hr.2 hn0
    injection he with he
    subst he
    have hadd : ∀ j, (Addr.add ⟨g, 0, none⟩ j : Addr) = ⟨g, j, none⟩ := fun j => by
      unfold Addr.add
      split
      · rename_i h0; rw [h0]
      · simp
    have hcl : ∀ j u, xs[j]? = some u → w.cell? ⟨g, j, none⟩ = some u := fun j u hj => by
      have := hcl0 j u hj
      rwa [hadd] at this
    have hvg : vb ≠ g := fun e => hne (by rw [e]; rfl)
    rw [Nat.mul_one] at hxl
    have hsz1 : (Try.prog.info? 72).map (·.size) = some 1 := by kernel_rfl
    have hc63 : c ≤ 9223372036854775807 := by unfold maxLen at hcm; omega
    have hz2 : ((0 : Int) == (n : Int)) = false := by rw [beq_eq_false_iff_ne]; omega
    have hbx0 : w.cell? ⟨vb, 0, none⟩ = some x := by have := hb.cell 0; simpa using this
    have hfin : ∀ (W : World) (G h : Nat), ShapeR W h 72 G → base ≤ h → n + 1 ≤ G → G ≤ maxLen → W.cell? ⟨h, 0, none⟩ = some x → (∀ j u, xs[j]? = some u → W.cell? ⟨h, 1 + j, none⟩ = some u) → W.ownsRow base 72 1 (.slice (some ⟨h, 0, none⟩) (n + 1) G) (n + 1) (x :: xs) := fun W G h q1 q2 q3 q4 q5 q6 =>
      own_shape (by rw [Nat.mul_one]; exact q1) q2 q3 q4 (by rw [List.length_cons, hxl]; omega) (fun j u hj => by
        rcases j with _ | j
        · obtain rfl : x = u := by simpa using hj
          exact q5
        · have := q6 j u (by simpa using hj)
          rwa [Nat.add_comm] at this)
    by_cases hroom : n + 1 ≤ c
    · have hov : ∀ lb cb, (callFunc 88 #[.slice (some ⟨vb, 0, none⟩) 1 1, .slice (some ⟨g, 1, none⟩) lb cb]).run Try.prog w = .ok (.value (.bool false)) w := fun lb cb => by
        obtain ⟨cur2, hcur, hcs⟩ := hsh
        rw [run_callFunc_extern Try.func88 (by kernel_rfl) (by kernel_rfl) (by kernel_rfl) (e := Extern.SlicesOverlaps.overlaps #[118, 118] #[4]) (by kernel_rfl),
          Lib.run_overlaps_apart w 118 4 72 Try.underlying118 1 (fun _ => by kernel_rfl) ⟨vb, 0, none⟩ ⟨g, 1, none⟩ 1 1 lb cb hvg 72 72 1 c (by unfold Blk at hb; simp [World.shape?, hb]) (by simp [World.shape?, hcur, hcs]) (by omega) (hb.frozen 0) (hb.frozen 1)]
        rfl
      have hcp1 : ∀ ty dc sc, (Builtin.copy_ #[118, 118] ty #[.slice (some ⟨g, 1, none⟩) (n + 1 - 1) dc, .slice (some ⟨g, 0, none⟩) (n + 1) sc]).run Try.prog w.drew = .ok (goInt xs.length) (w.drew.setCells g 1 xs) := fun ty dc sc =>
        run_copy_cells w.drew _ _ ty 72 g 1 (n + 1 - 1) dc ⟨g, 0, none⟩ (n + 1) sc xs Try.underlying118 hsz1 (by rw [hxl]; simp only [Nat.min_def]; split <;> omega)
          (fun j v hj => by rw [hadd]; exact hcl j v hj) (fun j hj => hsh.some_ (by omega)) (fun j hj => hsh.frozen _) h1s
      have hsh1 : ShapeR (w.drew.setCells g 1 xs) g 72 c := ShapeR.setMany _ _ _ (hsh.same rfl)
      have hx1 : (w.drew.setCells g 1 xs).cell? ⟨vb, 0, none⟩ = some x := by
        rw [World.cell?_of_block (heap_setCells g xs 1 w.drew vb hvg)]
        exact hbx0
      obtain ⟨W1, hW1⟩ : ∃ W1, W1 = w.drew.setCells g 1 xs := ⟨_, rfl⟩
      rw [← hW1] at hcp1 hsh1 hx1
      have hcp2 : ∀ ty dc, (Builtin.copy_ #[118, 118] ty #[.slice (some ⟨g, 0, none⟩) (n + 1) dc, .slice (some ⟨vb, 0, none⟩) 1 1]).run Try.prog W1 = .ok (goInt [x].length) (W1.setCells g 0 [x]) := fun ty dc =>
        run_copy_cells W1 _ _ ty 72 g 0 (n + 1) dc ⟨vb, 0, none⟩ 1 1 [x] Try.underlying118 hsz1 (by simp only [Nat.min_def, List.length_singleton]; split <;> omega)
          (fun j v hj => by
            rcases j with _ | j
            · obtain rfl : x = v := by simpa using hj
              exact hx1
            · simp at hj) (fun j hj => hsh1.some_ (by simp at hj; omega)) (fun j hj => hsh1.frozen _) (one_all h1)
      have HW1 := Lib.hid hW1
      have hb1 : ¬ (c < n + 1) := by omega
      have hb2 : ¬ ((c : Int) < (n : Int) + 1) := by omega
      have hb3 : ¬ (c = 1) := by omega
      have hb4 : ((n : Int) + 1).toNat = n + 1 := by omega
      have hb5 : (0 : Int) ≤ (n : Int) + 1 := by omega
      have hb6 : (n : Int) + 1 ≤ (c : Int) := by omega
      have hb7 : (1 : Int) ≤ (n : Int) + 1 := by omega
      have hw1 : IntKind.i64.wrap (1 : Int) = 1 := by rw [IntKind.wrap_i64]; rfl
      clear hr hcl0 hab hcl hadd hown ho hW1
      go_enter Try.func68, Try.ntmps68
      go_wp2_with (simp only [hov])
      go_region_law (refine step_copyI rfl (.tmp 73) (.tmp 76) 118 118 rfl (.slice (some ⟨g, 1, none⟩) (n + 1 - 1) (c - 1)) (.slice (some ⟨g, 0, none⟩) (n + 1) c) (by simp [Act.eval, Act.put]) (by simp [Act.eval, Act.put]) (hcp1 _ _ _) ?_)
      go_wp2_with (first
        | (with_reducible show wpList _ _ _ (⟨some 82, _, _, _, _, _⟩ :: _) _ _; go_must (refine wpList_copyI _ rfl (.tmp 80) (.tmp 81) 118 118 rfl _ _ rfl rfl (hcp2 _ _) ?_)))
      go_ret
      refine ⟨_, rfl, hfin _ c g (hsh1.set_ _ _ _) hbg hroom hcm ?_ ?_, ?_⟩
      · have := World.cell?_setCells_in g [x] 0 W1 (fun j hj => hsh1.some_ (by simp at hj; omega)) 0 (by simp)
        exact this
      · intro j u hj
        have hjl := (List.getElem?_eq_some_iff.1 hj).1
        have e1 := World.cell?_setCells_out g [x] 0 W1 ⟨g, 1 + j, none⟩ (fun _ _ => by right; show 0 + 1 ≤ 1 + j; omega)
        have e2 := World.cell?_setCells_in g xs 1 w.drew (fun k hk => hsh.some_ (by omega)) j hjl
        rw [e1, HW1.out, e2, ← hj, List.getElem?_eq_getElem hjl]
      · rw [HW1.out]
        exact only_set (only_trans (only_drew (only_refl w (some g))) (setCells_grown g xs 1 w.drew)) 0 x
    · obtain rfl : c = n := by omega
      obtain ⟨i0, hi0⟩ := Option.isSome_iff_exists.1 (show (Try.prog.info? 72).isSome = true by kernel_rfl)
      have hz0 : i0.zero = some (.slice none 0 0) := by
        have := (show (Try.prog.info? 72).bind (·.zero) = some (.slice none 0 0) by kernel_rfl)
        rwa [hi0] at this
      have hzs : i0.size = 1 := by
        have := (show (Try.prog.info? 72).map (·.size) = some 1 by kernel_rfl)
        rw [hi0] at this
        simpa using this
      have hzb : i0.bytes = 24 := by
        have := (show (Try.prog.info? 72).map (·.bytes) = some 24 by kernel_rfl)
        rw [hi0] at this
        simpa using this
      have hold : (Builtin.firstCells i0.size 0 (.slice (some ⟨g, 0, none⟩) 0 c)).run Try.prog w.drew = .ok ([] : List Value).toArray w.drew := by
        rw [hzs]
        exact run_firstCells_some w.drew 1 0 ⟨g, 0, none⟩ 0 c [] (by simp) (fun j v hj => by simp at hj)
      have hrz : ∀ ty, (Builtin.append_ #[118, 3] ty #[.slice (some ⟨g, 0, none⟩) 0 c, .int .i64 ((c : Int) + 1)]).run Try.prog w =
          .ok (.slice (some ⟨w.heap.size, 0, none⟩) (c + 1) (grownCap w (c + 1) c 72)) (w.drew.alloc (.cells (([] : List Value).toArray ++ Builtin.zeroCells (Value.slice none 0 0).cells (c + 1) ++ Builtin.zeroCells (Value.slice none 0 0).cells (grownCap w (c + 1) c 72 - (c + 1))) 72)) := fun ty => by
        have h := Lib.run_append_grow_zeros w 118 3 ty 72 i0 _ .i64 .i64 Try.underlying118 Try.underlying3 hi0 hz0 (some ⟨g, 0, none⟩) 0 c [] hold (c + 1) (by omega) (by omega) (by omega) (by omega) (by rw [hzb]; omega) (by rw [hzb, Nat.zero_add]; exact growslice_fits (by omega) (by omega))
        rw [Nat.zero_add] at h
        exact h
      have hGn : c + 1 ≤ grownCap w (c + 1) c 72 := grownCap_ge w _ _ _
      have hGm : grownCap w (c + 1) c 72 ≤ maxLen := grownCap_le_maxLen w (c + 1) c 72 (by unfold maxLen; omega)
      obtain ⟨G, hG⟩ : ∃ G, G = grownCap w (c + 1) c 72 := ⟨_, rfl⟩
      obtain ⟨ROW, hROW⟩ : ∃ ROW : Array Value, ROW = ([] : List Value).toArray ++ Builtin.zeroCells (Value.slice none 0 0).cells (c + 1) ++ Builtin.zeroCells (Value.slice none 0 0).cells (G - (c + 1)) := ⟨_, rfl⟩
      rw [← hG] at hrz hGn hGm
      rw [← hROW] at hrz
      have hRl : ROW.size = G := by
        rw [hROW]
        simp [Builtin.zeroCells, Value.cells]
        omega
      have hshR : ShapeR (w.drew.alloc (.cells ROW 72)) w.heap.size 72 G := ⟨ROW, heap_alloc_new w.drew _, hRl⟩
      obtain ⟨h, hh⟩ : ∃ h, h = w.heap.size := ⟨_, rfl⟩
      rw [← hh] at hrz hshR
      obtain ⟨W1, hW1⟩ : ∃ W1, W1 = w.drew.alloc (.cells ROW 72) := ⟨_, rfl⟩
      rw [← hW1] at hrz hshR
      have hb1 : Below w.heap.size w W1 := by rw [hW1]; exact (Below.refl _ _).drew.alloc (Nat.le_refl _) _
      have hcpA : ∀ W : World, (∀ z, W.cell? z = W1.cell? z) → (∀ z, W.frozen? z = W1.frozen? z) → ∀ ty dc, (Builtin.copy_ #[118, 118] ty #[.slice (some ⟨h, 0, none⟩) (c + 1) dc, .slice (some ⟨vb, 0, none⟩) 1 1]).run Try.prog W = .ok (goInt [x].length) (W.setCells h 0 [x]) := fun W hWc hWf ty dc =>
        run_copy_cells W _ _ ty 72 h 0 (c + 1) dc ⟨vb, 0, none⟩ 1 1 [x] Try.underlying118 hsz1 (by simp only [Nat.min_def, List.length_singleton]; split <;> omega)
          (fun j v hj => by
            rcases j with _ | j
            · obtain rfl : x = v := by simpa using hj
              rw [hWc]
              exact (hb1.cell (p := ⟨vb, 0, none⟩) hb.lt).trans hbx0
            · simp at hj) (fun j hj => by rw [hWc]; exact hshR.some_ (by simp at hj; omega)) (fun j hj => by rw [hWf]; exact hshR.frozen _) (one_all h1)
      have hgh : g ≠ h := by
        have := hsh.lt
        omega
      have hshS : ShapeR (W1.setCells h 0 [x]) h 72 G := hshR.setMany _ _ _
      have hclS : ∀ j u, xs[j]? = some u → (W1.setCells h 0 [x]).cell? ⟨g, j, none⟩ = some u := fun j u hj => by
        rw [World.cell?_of_block (heap_setCells h [x] 0 W1 g hgh)]
        exact (hb1.cell (p := ⟨g, j, none⟩) hsh.lt).trans (hcl j u hj)
      have hcpB : ∀ W : World, (∀ z, W.cell? z = (W1.setCells h 0 [x]).cell? z) → (∀ z, W.frozen? z = (W1.setCells h 0 [x]).frozen? z) → ∀ ty dc sc, (Builtin.copy_ #[118, 118] ty #[.slice (some ⟨h, 1, none⟩) (c + 1 - 1) dc, .slice (some ⟨g, 0, none⟩) c sc]).run Try.prog W = .ok (goInt xs.length) (W.setCells h 1 xs) := fun W hWc hWf ty dc sc =>
        run_copy_cells W _ _ ty 72 h 1 (c + 1 - 1) dc ⟨g, 0, none⟩ c sc xs Try.underlying118 hsz1 (by rw [hxl]; simp only [Nat.min_def]; split <;> omega)
          (fun j v hj => by rw [hadd, hWc]; exact hclS j v hj) (fun j hj => by rw [hWc]; exact hshS.some_ (by omega)) (fun j hj => by rw [hWf]; exact hshS.frozen _) h1s
      have hGc := hcpB ((W1.setCells h 0 [x]).drew) (fun _ => rfl) (fun _ => rfl)
      have hAc := hcpA W1 (fun _ => rfl) (fun _ => rfl)
      have HHH := Lib.hid hh
      have hz3 : (c : Int) < (c : Int) + 1 := by omega
      have hb4 : ((c : Int) + 1).toNat = c + 1 := by omega
      have hb7 : (1 : Int) ≤ (c : Int) + 1 := by omega
      have hw1 : IntKind.i64.wrap (1 : Int) = 1 := by rw [IntKind.wrap_i64]; rfl
      have hG1 : ¬ (G = 1) := by omega
      have hG0 : ¬ (G = 0) := by omega
      have hc0 : ¬ (c = 0) := by omega
      have HWW := Lib.hid hW1
      clear hr hcl0 hab hcl hadd hown ho hW1 hROW hRl hG hold hi0 hz0 hzs hzb hclS hcpA hcpB hh
      go_enter Try.func68, Try.ntmps68
      go_wp2_with (first
        | (with_reducible show wpList _ _ _ (⟨some 40, _, _, _, _, _⟩ :: _) _ _; go_must (refine Lib.wpList_append_run _ rfl _ _ _ _ rfl _ _ rfl rfl _ _ (hrz _) ?_))
        | (with_reducible show wpList _ _ _ (⟨some 45, _, _, _, _, _⟩ :: _) _ _; go_must (refine wpList_copyI _ rfl (.tmp 43) (.tmp 44) 118 118 rfl _ _ rfl rfl (hAc _ _) ?_)))
      go_region_law (refine step_copyI rfl (.tmp 50) (.tmp 53) 118 118 rfl (.slice (some ⟨h, 1, none⟩) (c + 1 - 1) (G - 1)) (.slice (some ⟨g, 0, none⟩) c c) (by simp [Act.eval, Act.put]) (by simp [Act.eval, Act.put]) (hGc _ _ _) ?_)
      go_wp2_with fail
      go_ret
      have hshD : ShapeR ((W1.setCells h 0 [x]).drew) h 72 G := hshS.same rfl
      refine ⟨_, rfl, hfin _ G h (hshD.setMany _ _ _) (by rw [HHH.out]; exact hbw) hGn hGm ?_ ?_, ?_⟩
      · rw [World.cell?_setCells_out h xs 1 ((W1.setCells h 0 [x]).drew) ⟨h, 0, none⟩ (fun _ _ => by left; show 0 < 1; omega)]
        exact World.cell?_setCells_in h [x] 0 W1 (fun j hj => hshR.some_ (by simp at hj; omega)) 0 (by simp)
      · intro j u hj
        have hjl := (List.getElem?_eq_some_iff.1 hj).1
        have e2 := World.cell?_setCells_in h xs 1 ((W1.setCells h 0 [x]).drew) (fun k hk => hshD.some_ (by omega)) j hjl
        rw [e2, ← hj, List.getElem?_eq_getElem hjl]
      · have hbz : Below w.heap.size w (((W1.setCells h 0 [x]).drew).setCells h 1 xs) := by
          refine ⟨?_, ?_, ?_, ?_, fun k hk => ?_⟩
          · exact (setCells_grown h xs 1 _).os.trans ((setCells_grown h [x] 0 W1).os.trans hb1.os)
          · exact (setCells_grown h xs 1 _).tape.trans ((setCells_grown h [x] 0 W1).tape.trans hb1.tape)
          · exact (setCells_grown h xs 1 _).output.trans ((setCells_grown h [x] 0 W1).output.trans hb1.output)
          · exact Nat.le_trans hb1.size (Nat.le_trans (setCells_grown h [x] 0 W1).size (setCells_grown h xs 1 ((W1.setCells h 0 [x]).drew)).size)
          · have hkh : k ≠ h := by rw [HHH.out]; omega
            rw [heap_setCells h xs 1 _ k hkh]
            exact (heap_setCells h [x] 0 W1 k hkh).trans (hb1.block k hk)
        exact only_of_below hbz _
end Go.Proofs.Ytcfijljagohmlaa
