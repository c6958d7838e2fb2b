/- The walks of gate: Closed, Bound, Waiting. -/
import Derived.Test.YtmeemcafjebanaaDoorWalkNew
namespace Go.Proofs.YtmeemcafjebanaaDoor
open Go.RowKit

theorem closedG_true {s : Gat} (h : ∀ j, j < s.n → barred (s.at_ j) = true) : closedG s = true := by
  rw [closedG, List.all_eq_true]
  intro l hl
  obtain ⟨i, hi, rfl⟩ := mem_waits hl
  exact h i hi
theorem closedG_false {s : Gat} {j : Nat} (hj : j < s.n) (h : barred (s.at_ j) = false) : closedG s = false := by
  rw [closedG, List.all_eq_false]
  exact ⟨_, at_mem hj, by simp [h]⟩
theorem closedG_at {s : Gat} (h : closedG s = true) {j : Nat} (hj : j < s.n) : ∃ x r, s.at_ j = x :: r ∧ 0 < x.bar := by
  rw [closedG, List.all_eq_true] at h
  have := h _ (at_mem hj)
  rcases hl : s.at_ j with _ | ⟨x, r⟩
  · rw [hl] at this; cases this
  · rw [hl] at this; exact ⟨x, r, rfl, by simpa [barred] using this⟩

set_option maxRecDepth 100000 in
set_option maxHeartbeats 1000000 in
theorem closed_any (w : World) (Z : Nat → Prop) (G : Nat) (s : Gat) (h : GateAt w Z G s) :
    Calls Tryd.prog 30 #[.pointer (some ⟨G, 0, none⟩)] w fun e w' => e = .returned (.bool (closedG s)) ∧ w = w' := by
  have hb := fun (k : Nat) (hk : k < s.n) => blocked_any w Z G s k h hk
  have HB := Lib.hid hb
  clear hb
  obtain ⟨gw, gl, sl, h⟩ := h
  have c0 := h.c0
  have h64 := h.ok.most
  obtain ⟨n, hn⟩ : ∃ n, n = s.n := ⟨_, rfl⟩
  rw [← hn] at c0 h64
  have Hn := Lib.hid hn
  clear hn
  go_enter Tryd.func30, Tryd.ntmps30
  go_wp2
  go_loopw [9] (fun i wr => ∃ k : Nat, k ≤ n ∧ i = .int .i64 k ∧ Hid (∀ j, j < k → barred (s.at_ j) = true) ∧ w = wr) (fun i _ => n - (intOf i).toNat)
  case atStart => exact ⟨0, Nat.zero_le _, rfl, Lib.hid (fun j hj => by omega), rfl⟩
  case round =>
    obtain ⟨k, hk, rfl, HA, rfl⟩ := hrel
    by_cases hlt : k < n
    · have hbk := HB.out k (by have := Hn.out; omega)
      rcases hbb : barred (s.at_ k)
      · rw [hbb] at hbk
        have HBK := Lib.hid hbk
        have HBB := Lib.hid hbb
        clear hbk hbb
        go_wp2_with (first | (go_at_call 28; refine HBK.out.mono ?_; rintro e w1 ⟨rfl, rfl⟩))
        go_ret
        rw [closedG_false (by have := Hn.out; omega) HBB.out]
        exact ⟨rfl, rfl⟩
      · rw [hbb] at hbk
        have HBK := Lib.hid hbk
        have HBB := Lib.hid hbb
        clear hbk hbb
        go_wp2_with (first | (go_at_call 28; refine HBK.out.mono ?_; rintro e w1 ⟨rfl, rfl⟩))
        go_roundw
        case rel =>
          refine ⟨k + 1, by omega, by go_num, Lib.hid (fun j hj => ?_), trivial⟩
          by_cases hjk : j = k
          · subst hjk; exact HBB.out
          · exact HA.out j (by omega)
        case measure => simp [intOf]; omega
    · go_wp2
      go_ret
      rw [closedG_true (fun j hj => HA.out j (by have := Hn.out; omega))]
      exact ⟨rfl, rfl⟩

set_option maxRecDepth 100000 in
set_option maxHeartbeats 1000000 in
theorem waiting_any (w : World) (Z : Nat → Prop) (G : Nat) (s : Gat) (h : GateAt w Z G s) :
    Calls Tryd.prog 16 #[.pointer (some ⟨G, 0, none⟩)] w fun e w' => e = .returned (.int .i64 (waitingG s)) ∧ w = w' := by
  obtain ⟨gw, gl, sl, h⟩ := h
  have c0 := h.c0
  have h64 := h.ok.most
  obtain ⟨n, hn⟩ : ∃ n, n = s.n := ⟨_, rfl⟩
  rw [← hn] at c0 h64
  have Hn := Lib.hid hn
  clear hn
  go_enter Tryd.func16, Tryd.ntmps16
  go_wp2
  go_loopw [3, 11] (fun x i wr => ∃ k t : Nat, k ≤ n ∧ i = .int .i64 k ∧ x = .int .i64 t ∧ t ≤ 400 * k ∧ Hid (t + ((s.waits.drop k).map List.length).sum = waitingG s) ∧ w = wr) (fun _ i _ => n - (intOf i).toNat)
  case atStart => exact ⟨0, 0, Nat.zero_le _, rfl, rfl, by omega, Lib.hid (by simp [waitingG]), rfl⟩
  case round =>
    obtain ⟨k, t, hk, rfl, rfl, ht, HA, rfl⟩ := hrel
    by_cases hlt : k < n
    · obtain ⟨A, c, hs, cw, hlc, hcm, hown, hr⟩ := h.wait (i := k) (by have := Hn.out; omega)
      have hlen := h.ok.len k
      have hdr : s.waits.drop k = s.at_ k :: s.waits.drop (k + 1) := by
        have hx := at_get (s := s) (i := k) (by have := Hn.out; omega)
        obtain ⟨h1, h2⟩ := List.getElem?_eq_some_iff.1 hx
        rw [← h2]; exact List.drop_eq_getElem_cons h1
      have HA2 : Hid (t + (s.at_ k).length + ((s.waits.drop (k + 1)).map List.length).sum = waitingG s) := Lib.hid (by
        have := HA.out; rw [hdr, List.map_cons, List.sum_cons] at this; omega)
      obtain ⟨m, hm⟩ : ∃ m, m = (s.at_ k).length := ⟨_, rfl⟩
      rw [← hm] at cw hlen HA2
      clear hm hs hlc hcm hown hr hdr
      go_wp2
      go_roundw
      case rel => exact ⟨k + 1, t + m, by omega, by go_num, by go_num, by omega, HA2, trivial⟩
      case measure => simp [intOf]; omega
    · go_wp2
      go_ret
      have e := HA.out
      rw [List.drop_eq_nil_of_le (by have := Hn.out; unfold Gat.n at this; omega)] at e
      simp only [List.map_nil, List.sum_nil, Nat.add_zero] at e
      rw [e]
      exact ⟨rfl, rfl⟩

/-- The gate while barriers are taken: those ahead of k are taken. -/
def cutTo (s : Gat) (id : Int) (k : Nat) : Gat := { s with waits := (s.waits.take k).map (cutB id) ++ s.waits.drop k }
theorem cutTo_n (s : Gat) (id : Int) (k : Nat) : (cutTo s id k).n = s.n := by simp [cutTo, Gat.n]; omega
theorem cutTo_zero (s : Gat) (id : Int) : cutTo s id 0 = s := by simp [cutTo]
theorem cutTo_all (s : Gat) (id : Int) : cutTo s id s.n = { s with waits := s.waits.map (cutB id) } := by simp [cutTo, Gat.n]
theorem cutTo_at {s : Gat} {id : Int} {k : Nat} (hk : k < s.n) : (cutTo s id k).at_ k = s.at_ k := by
  have hk' : k < s.waits.length := hk
  simp only [Gat.at_, cutTo, List.getD_eq_getElem?_getD]
  rw [List.getElem?_append_right (by simp; omega)]
  simp only [List.length_map, List.length_take, Nat.min_eq_left (Nat.le_of_lt hk'), Nat.sub_self, List.getElem?_drop, Nat.add_zero]
theorem cutTo_succ {s : Gat} {id : Int} {k : Nat} (hk : k < s.n) : cutTo s id (k + 1) = if (headI (s.at_ k)).bar = id then takeG (cutTo s id k) k else cutTo s id k := by
  have hk' : k < s.waits.length := hk
  have hg := at_get hk
  have hd : s.waits.drop k = s.at_ k :: s.waits.drop (k + 1) := by
    obtain ⟨h1, h2⟩ := List.getElem?_eq_some_iff.1 hg
    rw [← h2]; exact List.drop_eq_getElem_cons h1
  have e1 : (cutTo s id (k + 1)).waits = (s.waits.take k).map (cutB id) ++ cutB id (s.at_ k) :: s.waits.drop (k + 1) := by
    simp only [cutTo]
    rw [List.take_add_one, hg]; simp
  have e2 : (cutTo s id k).waits = (s.waits.take k).map (cutB id) ++ s.at_ k :: s.waits.drop (k + 1) := by simp only [cutTo]; rw [hd]
  have ext : ∀ a b : Gat, a.waits = b.waits → a.last = b.last → a.next = b.next → a = b := by rintro ⟨a, b, c⟩ ⟨d, e, f⟩ h1 h2 h3; simp only at h1 h2 h3; rw [h1, h2, h3]
  split
  · rename_i hb
    refine ext _ _ ?_ rfl rfl
    rw [e1, takeG, Gat.put]
    simp only
    rw [e2, cutTo_at hk, cutB, if_pos hb, List.set_append_right _ _ (by simp; omega)]
    simp [Nat.min_eq_left (Nat.le_of_lt hk')]
  · rename_i hb
    refine ext _ _ ?_ rfl rfl
    rw [e1, e2, cutB, if_neg hb]
theorem leastB_step {s : Gat} {k : Nat} (hk : k < s.n) (id : Int) : leastB id (s.waits.drop k) = leastB (if id = 0 ∨ (headI (s.at_ k)).bar < id then (headI (s.at_ k)).bar else id) (s.waits.drop (k + 1)) := by
  have hg := at_get hk
  have hd : s.waits.drop k = s.at_ k :: s.waits.drop (k + 1) := by
    obtain ⟨h1, h2⟩ := List.getElem?_eq_some_iff.1 hg
    rw [← h2]; exact List.drop_eq_getElem_cons h1
  rw [hd, leastB]

set_option maxRecDepth 100000 in
set_option maxHeartbeats 4000000 in
theorem bound_any (w : World) (Z : Nat → Prop) (G : Nat) (s : Gat) (h : GateAt w Z G s) (hZ : ∀ k, Z k → k < w.heap.size) :
    Calls Tryd.prog 12 #[.pointer (some ⟨G, 0, none⟩)] w fun e w' => e = .returned (.tuple #[.int .i64 (boundId s), .bool (closedG s)]) ∧ GateAt w' Z G (boundG s) ∧ Keeps Z w w' := by
  have hc := closed_any w Z G s h
  rcases hcl : closedG s
  · have e1 : Hid (boundId s = 0) := Lib.hid (by simp [boundId, hcl])
    have e2 : Hid (boundG s = s) := Lib.hid (by simp [boundG, hcl])
    rw [e1.out, e2.out]
    rw [hcl] at hc
    have HC := Lib.hid hc
    clear hc hcl
    go_enter Tryd.func12, Tryd.ntmps12
    go_wp2_with (first | (go_at_call 30; refine HC.out.mono ?_; rintro e w1 ⟨rfl, rfl⟩))
    go_ret2
    exact ⟨rfl, h, Keeps.refl _ _⟩
  · have e1 : Hid (boundId s = leastB 0 s.waits) := Lib.hid (by simp [boundId, hcl])
    have e2 : Hid (boundG s = cutTo s (boundId s) s.n) := Lib.hid (by rw [cutTo_all, boundG, if_pos hcl])
    rw [e2.out]
    rw [hcl] at hc
    have HC := Lib.hid hc
    have HL := Lib.hid hcl
    clear hc hcl e2
    obtain ⟨gw, gl, sl, hI⟩ := h
    have c0 := hI.c0
    have h64 := hI.ok.most
    obtain ⟨n, hn⟩ : ∃ n, n = s.n := ⟨_, rfl⟩
    rw [← hn] at c0 h64 ⊢
    have Hn := Lib.hid hn
    clear hn
    obtain ⟨B, hB⟩ : ∃ B, B = boundId s := ⟨_, rfl⟩
    rw [← hB] at e1 ⊢
    clear hB
    go_enter Tryd.func12, Tryd.ntmps12
    go_wp2_with (first | (go_at_call 30; refine HC.out.mono ?_; rintro e w1 ⟨rfl, rfl⟩))
    go_loopw [2, 15] (fun x i wr => ∃ k : Nat, ∃ id : Int, k ≤ n ∧ i = .int .i64 k ∧ x = .int .i64 id ∧ Hid (leastB id (s.waits.drop k) = B) ∧ w = wr) (fun _ i _ => n - (intOf i).toNat)
    case atStart => exact ⟨0, 0, Nat.zero_le _, rfl, rfl, Lib.hid e1.out.symm, rfl⟩
    case round =>
      obtain ⟨k, id, hk, rfl, rfl, HA, rfl⟩ := hrel
      by_cases hlt : k < n
      · obtain ⟨x, r, hx, hpos⟩ := closedG_at HL.out (j := k) (by have := Hn.out; omega)
        obtain ⟨A, c, hs, cw, hlc, hcm, hown, hr⟩ := hI.wait (i := k) (by have := Hn.out; omega)
        have HA2 := HA.out.symm.trans (leastB_step (by have := Hn.out; omega) id)
        have hlen := hI.ok.len k
        rw [hx] at cw hr HA2 hlen
        obtain ⟨ad, x', r', rfl, e, g0, g1, g2, g3⟩ := hr.itm0 rfl (by simp)
        injection e with e3 e4
        subst e3 e4
        obtain ⟨m, hm⟩ : ∃ m, m = (x :: r).length := ⟨_, rfl⟩
        have hm0 : 0 < m := by rw [hm]; simp
        rw [← hm] at cw hlen
        clear hm hs hlc hcm hown hr g0 g1 g2 hx
        change B = leastB (if id = 0 ∨ x.bar < id then x.bar else id) _ at HA2
        by_cases hid0 : id = 0
        · rw [if_pos (.inl hid0)] at HA2
          have HA3 := Lib.hid HA2.symm
          clear HA2
          go_wp2
          go_roundw
          case rel => exact ⟨k + 1, x.bar, by omega, by go_num, rfl, HA3, trivial⟩
          case measure => simp [intOf]; omega
        · by_cases hlt2 : x.bar < id
          · rw [if_pos (.inr hlt2)] at HA2
            have HA3 := Lib.hid HA2.symm
            clear HA2
            go_wp2
            go_roundw
            case rel => exact ⟨k + 1, x.bar, by omega, by go_num, rfl, HA3, trivial⟩
            case measure => simp [intOf]; omega
          · rw [if_neg (by omega)] at HA2
            have HA3 := Lib.hid HA2.symm
            clear HA2
            go_wp2
            go_roundw
            case rel => exact ⟨k + 1, id, by omega, by go_num, rfl, HA3, trivial⟩
            case measure => simp [intOf]; omega
      · have hidB : id = B := by
          have e := HA.out
          rwa [List.drop_eq_nil_of_le (by have := Hn.out; unfold Gat.n at this; omega)] at e
        subst hidB
        clear e1 HA
        go_wp2
        have h0 : GateAt w Z G (cutTo s id 0) := by rw [cutTo_zero]; exact ⟨gw, gl, sl, hI⟩
        clear hI
        go_loopw [42] (fun i wr => ∃ k : Nat, k ≤ n ∧ i = .int .i64 k ∧ GateAt wr Z G (cutTo s id k) ∧ Keeps Z w wr) (fun i _ => n - (intOf i).toNat)
        case atStart => exact ⟨0, Nat.zero_le _, rfl, h0, Keeps.refl _ _⟩
        case round =>
          obtain ⟨k, hk, rfl, hG, hK⟩ := hrel
          by_cases hlt : k < n
          · have hks : k < s.n := by have := Hn.out; omega
            obtain ⟨x, r, hx, hpos⟩ := closedG_at HL.out hks
            have hxc : (cutTo s id k).at_ k = x :: r := (cutTo_at hks).trans hx
            have hnc : k < (cutTo s id k).n := by rw [cutTo_n]; exact hks
            have hst := cutTo_succ (id := id) hks
            rw [hx] at hst
            change cutTo s id (k + 1) = if x.bar = id then _ else _ at hst
            have ht := take_any wr Z G (cutTo s id k) k x r hG hnc hxc (fun j hj => by have := hZ j hj; have := hK.size; omega)
            have hG' := hG
            obtain ⟨gw, gl, sl, hI⟩ := hG'
            obtain ⟨A, c, hs, cw, hlc, hcm, hown, hr⟩ := hI.wait (i := k) hnc
            have c0 := hI.c0
            rw [cutTo_n, ← Hn.out] at c0
            have hlen := hI.ok.len k
            rw [hxc] at cw hr hlen
            obtain ⟨ad, x', r', rfl, e, g0, g1, g2, g3⟩ := hr.itm0 rfl (by simp)
            injection e with e3 e4
            subst e3 e4
            obtain ⟨m, hm⟩ : ∃ m, m = (x :: r).length := ⟨_, rfl⟩
            have hm0 : 0 < m := by rw [hm]; simp
            rw [← hm] at cw hlen
            have HT := Lib.hid ht
            clear hm hs hlc hcm hown hr g0 g1 g2 hx ht hxc hI
            by_cases hid0 : x.bar = id
            · rw [if_pos hid0] at hst
              have HS := Lib.hid hst
              have HI := Lib.hid hid0
              clear hst
              rw [hid0] at g3
              clear hid0
              go_wp2_with (first | (go_at_call 29; refine HT.out.mono ?_; rintro e w1 ⟨rfl, hG2, hK2⟩))
              go_roundw
              case rel => exact ⟨k + 1, by omega, by go_num, by rw [HS.out]; exact hG2, hK.trans hK2⟩
              case measure => simp [intOf]; omega
            · rw [if_neg hid0] at hst
              have HS := Lib.hid hst
              clear hst
              go_wp2
              go_roundw
              case rel => exact ⟨k + 1, by omega, by go_num, by rw [HS.out]; exact hG, hK⟩
              case measure => simp [intOf]; omega
          · go_wp2
            go_ret2
            have e : k = n := by omega
            subst e
            exact ⟨rfl, hG, hK⟩
end Go.Proofs.YtmeemcafjebanaaDoor
