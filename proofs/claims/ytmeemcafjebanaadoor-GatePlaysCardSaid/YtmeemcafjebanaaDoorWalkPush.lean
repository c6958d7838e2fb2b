/- The walks of gate: Push, Bar. -/
import Derived.Test.YtmeemcafjebanaaDoorWalkGate
import Derived.Deep.RegionLaw
namespace Go.Proofs.YtmeemcafjebanaaDoor
open Go.RowKit

set_option maxRecDepth 100000 in
set_option maxHeartbeats 2000000 in
theorem push_any (w : World) (Z : Nat → Prop) (G : Nat) (s : Gat) (i : Int) (key : ByteArray) (num time : Int) (h : GateAt w Z G s) (hi0 : -9223372036854775808 ≤ i) (hi1 : i ≤ 9223372036854775807) (hZ : ∀ k, Z k → k < w.heap.size) :
    Calls Tryd.prog 7 #[.pointer (some ⟨G, 0, none⟩), .int .i64 i, .agg #[.string key, .int .i64 num, .int .i64 time]] w fun e w' => e = .returned (errV (mayE s i)) ∧ GateAt w' Z G (pushG s i ⟨key, num, time, 0⟩) ∧ Keeps Z w w' := by
  obtain ⟨gw, gl, sl, h⟩ := h
  have h1 := h.alloc (.cells #[.string key, .int .i64 num, .int .i64 time] 36)
  have hk1 := (Keeps.refl Z w).alloc hZ (.cells #[.string key, .int .i64 num, .int .i64 time] 36)
  obtain ⟨e, he⟩ : ∃ e, e = mayE s i := ⟨_, rfl⟩
  by_cases h0 : e = 0
  · have HE : Hid (errV (mayE s i) = .nilIface) := Lib.hid (by rw [← he, h0]; rfl)
    have HP : Hid (pushG s i ⟨key, num, time, 0⟩ = s.put i.toNat (s.at_ i.toNat ++ [⟨key, num, time, 0⟩])) := Lib.hid (by rw [pushG, if_pos (by omega)])
    rw [HE.out, HP.out]
    have hmay : ¬ (i < 0 ∨ (s.n : Int) ≤ i) ∧ ¬ 400 ≤ (s.at_ i.toNat).length := by
      rw [h0, mayE] at he
      split at he
      · cases he
      · split at he
        · cases he
        · exact ⟨by assumption, by assumption⟩
    obtain ⟨hm1, hm2⟩ := hmay
    obtain ⟨k, rfl⟩ : ∃ k : Nat, i = k := ⟨i.toNat, by omega⟩
    rw [Int.toNat_natCast] at hm2 ⊢
    have hmc := may_any (w.alloc (.cells #[.string key, .int .i64 num, .int .i64 time] 36)) Z G s k ⟨gw, gl, sl, h1⟩ hi0 hi1
    rw [HE.out] at hmc
    have Hmc := Lib.hid hmc
    have hkn : k < s.n := by omega
    clear hmc HE HP he h0
    have hbx := Blk.new w 36 #[.string key, .int .i64 num, .int .i64 time]
    have c0 := h1.c0
    obtain ⟨A, c, hs, cw, hlc, hcm, hown, hr⟩ := h1.wait hkn
    obtain ⟨n, hn⟩ : ∃ n, n = s.n := ⟨_, rfl⟩
    have h64 := h.ok.most
    rw [← hn] at c0 h64 hkn
    have Hn := Lib.hid hn
    clear hn
    obtain ⟨l, hl⟩ : ∃ l, l = s.at_ k := ⟨_, rfl⟩
    rw [← hl] at cw hlc hown hr hm2 hs ⊢
    have Hl := Lib.hid hl
    clear hl
    obtain ⟨m, hm⟩ : ∃ m, m = l.length := ⟨_, rfl⟩
    rw [← hm] at cw hlc hown hr hm2 hs
    have Hm := Lib.hid hm
    clear hm hr
    obtain ⟨x0, x1, x2⟩ : _ ∧ _ ∧ _ := ⟨hbx.cell 0, hbx.cell 1, hbx.cell 2⟩
    simp only [List.getElem?_toArray, List.getElem?_cons_zero, List.getElem?_cons_succ] at x0 x1 x2
    have hbs : w.heap.size < (w.alloc (.cells #[.string key, .int .i64 num, .int .i64 time] 36)).heap.size := by simp
    have hdr := h1.dr _ (List.mem_of_getElem? hs)
    have hvG : some G ≠ (Value.slice A m c).ownBlock := fun e => (hdr G e.symm).1 rfl
    have hvw : some gw ≠ (Value.slice A m c).ownBlock := fun e => (hdr gw e.symm).2.1 rfl
    have hvx : some w.heap.size ≠ (Value.slice A m c).ownBlock := fun e => by
      have := (h.rows.row k _ ((s.waits.map itmCells)[k]'(by rw [h.rows.len, h.len]; have := Hn.out; omega)) hs (List.getElem?_eq_getElem _)).lt _ e.symm
      omega
    go_enter Tryd.func7, Tryd.ntmps7
    go_wp2_with (first | (go_at_call 27; refine Hmc.out.mono ?_; rintro e w1 ⟨rfl, rfl⟩))
    generalize w.alloc (.cells #[.string key, .int .i64 num, .int .i64 time] 36) = wa at *
    have hGa : G < wa.heap.size := h1.obj.lt
    have hwa : gw < wa.heap.size := h1.ws.lt
    have hone : ∀ u ∈ (#[.string key, .int .i64 num, .int .i64 time, .int .i64 0] : Array Value).toList, u.oneCell' = true := by simp [Value.oneCell']
    have keep : ∀ o : Obj, ((wa.alloc o).cell? ⟨G, 0, none⟩ = some (.slice (some ⟨gw, 0, none⟩) n n) ∧ (wa.alloc o).cell? ⟨gw, k, none⟩ = some (.slice A m c)) ∧ (wa.alloc o).cell? ⟨w.heap.size, 0, none⟩ = some (.string key) ∧ (wa.alloc o).cell? ⟨w.heap.size, 1, none⟩ = some (.int .i64 num) ∧ (wa.alloc o).cell? ⟨w.heap.size, 2, none⟩ = some (.int .i64 time) := fun o =>
      ⟨⟨(World.cell?_alloc_lt wa o ⟨G, 0, none⟩ hGa).trans c0, (World.cell?_alloc_lt wa o ⟨gw, k, none⟩ hwa).trans cw⟩, (World.cell?_alloc_lt wa o ⟨w.heap.size, 0, none⟩ hbs).trans x0, (World.cell?_alloc_lt wa o ⟨w.heap.size, 1, none⟩ hbs).trans x1, (World.cell?_alloc_lt wa o ⟨w.heap.size, 2, none⟩ hbs).trans x2⟩
    have keepn := keep (.cells #[.string key, .int .i64 num, .int .i64 time, .int .i64 0] 74)
    have hwn := (h1.ws.alloc (.cells #[.string key, .int .i64 num, .int .i64 time, .int .i64 0] 74))
    obtain ⟨⟨kn0, kn1⟩, kn2, kn3, kn4⟩ := keepn
    have hgG : gw ≠ G := Ne.symm h.d1
    have hgx : gw ≠ w.heap.size := by have := h.ws.lt; omega
    go_region_law
      ((first
        | (with_reducible show (if Region.wanted (⟨some 29, _, _, _, _, _⟩ : Oper) _ = true then _ else _); go_must (refine step_rd (.tmp 25) (.tmp 28) el_itm rfl rfl (own_drew (hown.alloc _)) rfl (rd_new wa #[.string key, .int .i64 num, .int .i64 time, .int .i64 0] 74 (size := 4) (m := 1) rfl).drew rfl hone (by omega) (Nat.zero_le _) ?_); intro v4 w4 hown4 hb4 hg4d ha4; have hg4 := grown_undrew hg4d; have hc4 := hg4.cell kn1 hvw; have p0 := hg4.cell kn0 hvG; have p1 := hg4.cell kn2 hvx; have p2 := hg4.cell kn3 hvx; have p3 := hg4.cell kn4 hvx; have hf4 : w4.frozen? ⟨gw, k, none⟩ = false := Blk.frozen (Blk.grown hwn hg4 hvw) k; obtain ⟨A4, c4, rfl, hn4, hc5, hl4, r4⟩ := own_form hown4)))
    all_goals go_wp2
    all_goals go_ret
    all_goals
      have hg5 : wa.grownBy w4 (Value.slice A m c).ownBlock := only_trans (only_alloc (only_refl _ _) _) hg4
      obtain ⟨r1, r2⟩ := h1.replace (i := k) (l := l ++ [⟨key, num, time, 0⟩]) hs (by have := Hm.out; simp; omega) (fun j hj => by have := hZ j hj; omega) hg5
        (by have e1 : m + 1 = (l ++ [(⟨key, num, time, 0⟩ : Itm)]).length := by have := Hm.out; simp; omega
            have e2 : itmCells (l ++ [(⟨key, num, time, 0⟩ : Itm)]) = itmCells l ++ #[.string key, .int .i64 num, .int .i64 time, .int .i64 0].toList := by simp [itmCells, Itm.cells]
            rw [← e1, e2]; exact hown4)
        (fun g hg => by
          rcases ha4 with e | e
          · exact .inl (e ▸ hg)
          · rw [hg] at e; injection e with e; subst e; exact .inr (by simp))
      exact ⟨rfl, ⟨gw, gl, _, r1⟩, hk1.trans r2⟩
  · have HP : Hid (pushG s i ⟨key, num, time, 0⟩ = s) := Lib.hid (by rw [pushG, if_neg (by omega)])
    rw [HP.out]
    have hmc := may_any (w.alloc (.cells #[.string key, .int .i64 num, .int .i64 time] 36)) Z G s i ⟨gw, gl, sl, h1⟩ hi0 hi1
    rw [← he] at hmc ⊢
    have hE : errV e = .iface 66 (.int .i64 e) := by rw [errV, if_neg h0]
    rw [hE] at hmc ⊢
    have Hmc := Lib.hid hmc
    clear hmc hE HP he
    go_enter Tryd.func7, Tryd.ntmps7
    go_wp2_with (first | (go_at_call 27; refine Hmc.out.mono ?_; rintro e w1 ⟨rfl, rfl⟩))
    go_ret
    exact ⟨rfl, ⟨gw, gl, sl, h1⟩, hk1⟩
end Go.Proofs.YtmeemcafjebanaaDoor
