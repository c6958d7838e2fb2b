/- The walk of gate: Bar. -/
import Derived.Test.YtmeemcafjebanaaDoorWalkPush
import Derived.Deep.RegionLaw
namespace Go.Proofs.YtmeemcafjebanaaDoor
open Go.RowKit

set_option maxRecDepth 100000 in
set_option maxHeartbeats 4000000 in
theorem bar_any (w : World) (Z : Nat → Prop) (G : Nat) (s : Gat) (i id : Int) (h : GateAt w Z G s) (hi0 : -9223372036854775808 ≤ i) (hi1 : i ≤ 9223372036854775807) (hZ : ∀ k, Z k → k < w.heap.size) :
    Calls Tryd.prog 9 #[.pointer (some ⟨G, 0, none⟩), .int .i64 i, .int .i64 id] w fun e w' => e = .returned (errV (barE s i id)) ∧ GateAt w' Z G (barG s i id) ∧ Keeps Z w w' := by
  obtain ⟨gw, gl, sl, h⟩ := h
  have hmc := may_any w Z G s i ⟨gw, gl, sl, h⟩ hi0 hi1
  by_cases hid : id < 1
  · have HE : Hid (barE s i id = 1) := Lib.hid (by rw [barE, if_pos hid])
    have HP : Hid (barG s i id = s) := Lib.hid (by rw [barG, if_neg (by have := HE.out; omega)])
    rw [HP.out, show errV (barE s i id) = .iface 66 (.int .i64 1) from by rw [HE.out]; rfl]
    clear HP HE hmc
    go_enter Tryd.func9, Tryd.ntmps9
    go_wp2
    go_ret
    exact ⟨rfl, ⟨gw, gl, sl, h⟩, Keeps.refl _ _⟩
  obtain ⟨e, he⟩ : ∃ e, e = mayE s i := ⟨_, rfl⟩
  by_cases h0 : e = 0
  · rw [show errV (mayE s i) = .nilIface from by rw [← he, h0]; rfl] at hmc
    have hmay : ¬ (i < 0 ∨ (s.n : Int) ≤ i) ∧ ¬ 400 ≤ (s.at_ i.toNat).length := by
      rw [h0, mayE] at he
      split at he
      · cases he
      · split at he
        · cases he
        · exact ⟨by assumption, by assumption⟩
    obtain ⟨hm1, hm2⟩ := hmay
    obtain ⟨k, rfl⟩ : ∃ k : Nat, i = k := ⟨i.toNat, by omega⟩
    rw [Int.toNat_natCast] at hm2
    have hkn : k < s.n := by omega
    have hcl := h.lastc hkn
    obtain ⟨z, hz⟩ : ∃ z, z = s.last.getD k 0 := ⟨_, rfl⟩
    rw [← hz] at hcl
    have Hmc := Lib.hid hmc
    clear hmc
    have c0 := h.c0
    have c1 := h.c1
    by_cases hle : id ≤ z
    · have HE : Hid (barE s k id = 5) := Lib.hid (by rw [barE, if_neg hid, if_neg (by omega), if_pos (by rw [Int.toNat_natCast, ← hz]; exact hle)])
      have HP : Hid (barG s k id = s) := Lib.hid (by rw [barG, if_neg (by have := HE.out; omega)])
      rw [HP.out, show errV (barE s k id) = .iface 66 (.int .i64 5) from by rw [HE.out]; rfl]
      obtain ⟨n, hn⟩ : ∃ n, n = s.n := ⟨_, rfl⟩
      have h64 := h.ok.most
      rw [← hn] at c0 c1 h64 hkn
      clear HP HE he hz hn
      go_enter Tryd.func9, Tryd.ntmps9
      go_wp2_with (first | (go_at_call 27; refine Hmc.out.mono ?_; rintro e w1 ⟨rfl, rfl⟩))
      go_ret
      exact ⟨rfl, ⟨gw, gl, sl, h⟩, Keeps.refl _ _⟩
    · have HE : Hid (barE s k id = 0) := Lib.hid (by rw [barE, if_neg hid, if_neg (by omega), if_neg (by rw [Int.toNat_natCast, ← hz]; exact hle)])
      have HP : Hid (barG s k id = { s with last := s.last.set k id }.put k (s.at_ k ++ [barItm id])) := Lib.hid (by rw [barG, if_pos HE.out]; rfl)
      rw [HP.out, show errV (barE s k id) = .nilIface from by rw [HE.out]; rfl]
      obtain ⟨h1, hk1⟩ := h.last_ k id
      have fl := h.ls.frozen k
      obtain ⟨A, c, hs, cw, hlc, hcm, hown, hr⟩ := h1.wait (i := k) hkn
      have b0 := h1.c0
      have hsz : w.heap.size ≤ (w.setCell ⟨gl, k, none⟩ (.int .i64 id)).heap.size := hk1.size
      have hm3 : ¬ 400 ≤ (Gat.at_ { s with last := s.last.set k id } k).length := hm2
      obtain ⟨n, hn⟩ : ∃ n, n = s.n := ⟨_, rfl⟩
      have h64 := h.ok.most
      have b1 : (w.setCell ⟨gl, k, none⟩ (.int .i64 id)).cell? ⟨G, 0, none⟩ = some (.slice (some ⟨gw, 0, none⟩) n n) := by rw [hn]; exact b0
      rw [← hn] at c0 c1 h64 hkn
      have Hn := Lib.hid hn
      clear HP HE he hz hn b0
      have e9 : s.at_ k = Gat.at_ { s with last := s.last.set k id } k := rfl
      rw [e9]
      clear e9
      obtain ⟨l, hl⟩ : ∃ l, l = Gat.at_ { s with last := s.last.set k id } k := ⟨_, rfl⟩
      rw [← hl] at cw hlc hown hr hm3 hs ⊢
      have Hl := Lib.hid hl
      clear hl
      obtain ⟨m, hm⟩ : ∃ m, m = l.length := ⟨_, rfl⟩
      rw [← hm] at cw hlc hown hr hm3 hs
      have Hm := Lib.hid hm
      clear hm hr hm2
      have hdr := h1.dr _ (List.mem_of_getElem? hs)
      have hvG : some G ≠ (Value.slice A m c).ownBlock := fun e => (hdr G e.symm).1 rfl
      have hvw : some gw ≠ (Value.slice A m c).ownBlock := fun e => (hdr gw e.symm).2.1 rfl
      have hone : ∀ u ∈ (#[.string ⟨#[]⟩, .int .i64 0, .int .i64 0, .int .i64 id] : Array Value).toList, u.oneCell' = true := by simp [Value.oneCell']
      have hgG : gw ≠ G := Ne.symm h.d1
      go_enter Tryd.func9, Tryd.ntmps9
      go_wp2_with (first | (go_at_call 27; refine Hmc.out.mono ?_; rintro e w1 ⟨rfl, rfl⟩))
      generalize w.setCell ⟨gl, k, none⟩ (.int .i64 id) = wa at *
      have hGa : G < wa.heap.size := h1.obj.lt
      have hwa : gw < wa.heap.size := h1.ws.lt
      have keep : ∀ o : Obj, (wa.alloc o).cell? ⟨G, 0, none⟩ = some (.slice (some ⟨gw, 0, none⟩) n n) ∧ (wa.alloc o).cell? ⟨gw, k, none⟩ = some (.slice A m c) := fun o =>
        ⟨(World.cell?_alloc_lt wa o ⟨G, 0, none⟩ hGa).trans b1, (World.cell?_alloc_lt wa o ⟨gw, k, none⟩ hwa).trans cw⟩
      obtain ⟨kn0, kn1⟩ := keep (.cells #[.string ⟨#[]⟩, .int .i64 0, .int .i64 0, .int .i64 id] 74)
      have hwn := (h1.ws.alloc (.cells #[.string ⟨#[]⟩, .int .i64 0, .int .i64 0, .int .i64 id] 74))
      go_region_law
      ((first
          | (with_reducible show (if Region.wanted (⟨some 49, _, _, _, _, _⟩ : Oper) _ = true then _ else _); go_must (refine step_rd (.tmp 45) (.tmp 48) el_itm rfl rfl (own_drew (hown.alloc _)) rfl (rd_new wa #[.string ⟨#[]⟩, .int .i64 0, .int .i64 0, .int .i64 id] 74 (size := 4) (m := 1) rfl).drew rfl hone (by omega) (Nat.zero_le _) ?_); intro v4 w4 hown4 hb4 hg4d ha4; have hg4 := grown_undrew hg4d; have hc4 := hg4.cell kn1 hvw; have p0 := hg4.cell kn0 hvG; have hf4 : w4.frozen? ⟨gw, k, none⟩ = false := Blk.frozen (Blk.grown hwn hg4 hvw) k; obtain ⟨A4, c4, rfl, hn4, hc5, hl4, r4⟩ := own_form hown4)))
      all_goals go_wp2
      all_goals go_ret
      all_goals
        have hg5 : wa.grownBy w4 (Value.slice A m c).ownBlock := only_trans (only_alloc (only_refl _ _) _) hg4
        obtain ⟨r1, r2⟩ := h1.replace (i := k) (l := l ++ [barItm id]) hs (by have := Hm.out; simp; omega) (fun j hj => by have := hZ j hj; omega) hg5
          (by have e1 : m + 1 = (l ++ [barItm id]).length := by have := Hm.out; simp; omega
              have e2 : itmCells (l ++ [barItm id]) = itmCells l ++ #[.string ⟨#[]⟩, .int .i64 0, .int .i64 0, .int .i64 id].toList := by simp [itmCells, Itm.cells, barItm]
              rw [← e1, e2]; exact hown4)
          (fun g hg => by
            rcases ha4 with e | e
            · exact .inl (e ▸ hg)
            · rw [hg] at e; injection e with e; subst e; exact .inr (by simp))
        exact ⟨rfl, ⟨gw, gl, _, r1⟩, hk1.trans r2⟩
  · have HE : Hid (barE s i id = e) := Lib.hid (by rw [barE, if_neg hid, if_pos (by omega), ← he])
    have HP : Hid (barG s i id = s) := Lib.hid (by rw [barG, if_neg (by have := HE.out; omega)])
    rw [HP.out, show errV (barE s i id) = errV e from by rw [HE.out]]
    rw [← he] at hmc
    have hE : errV e = .iface 66 (.int .i64 e) := by rw [errV, if_neg h0]
    rw [hE] at hmc ⊢
    have Hmc := Lib.hid hmc
    clear hmc hE HP HE he
    go_enter Tryd.func9, Tryd.ntmps9
    go_wp2_with (first | (go_at_call 27; refine Hmc.out.mono ?_; rintro e w1 ⟨rfl, rfl⟩))
    go_ret
    exact ⟨rfl, ⟨gw, gl, sl, h⟩, Keeps.refl _ _⟩
end Go.Proofs.YtmeemcafjebanaaDoor
