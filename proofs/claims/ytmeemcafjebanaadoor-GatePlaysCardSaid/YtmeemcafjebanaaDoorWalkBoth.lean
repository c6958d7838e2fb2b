/- The calls of the gate and of the reference's, side by side. -/
import Derived.Test.YtmeemcafjebanaaDoorWalkRef3
namespace Go.Proofs.YtmeemcafjebanaaDoor
open Go.RowKit

section
variable {w : World} {Z : Nat → Prop} {G R : Nat} {s t : Gat}
theorem gpush_both (h : Both w Z G R s t) (hZ : ∀ k, Z k → k < w.heap.size) (i : Int) (key : ByteArray) (num time : Int) (hi0 : -9223372036854775808 ≤ i) (hi1 : i ≤ 9223372036854775807) :
    Calls Tryd.prog 7 #[.pointer (some ⟨G, 0, none⟩), .int .i64 i, .agg #[.string key, .int .i64 num, .int .i64 time]] w fun e w' => e = .returned (errV (mayE s i)) ∧ Both w' Z G R (pushG s i ⟨key, num, time, 0⟩) t ∧ Keeps Z w w' := by
  obtain ⟨Y, h1, h2, h3, h4⟩ := h.gate hZ
  exact (push_any w Y G s i key num time h3 hi0 hi1 h2).mono fun e w' ⟨e1, e2, e3⟩ => ⟨e1, h4 _ _ e2 e3, e3.mono h1⟩
theorem gbar_both (h : Both w Z G R s t) (hZ : ∀ k, Z k → k < w.heap.size) (i id : Int) (hi0 : -9223372036854775808 ≤ i) (hi1 : i ≤ 9223372036854775807) :
    Calls Tryd.prog 9 #[.pointer (some ⟨G, 0, none⟩), .int .i64 i, .int .i64 id] w fun e w' => e = .returned (errV (barE s i id)) ∧ Both w' Z G R (barG s i id) t ∧ Keeps Z w w' := by
  obtain ⟨Y, h1, h2, h3, h4⟩ := h.gate hZ
  exact (bar_any w Y G s i id h3 hi0 hi1 h2).mono fun e w' ⟨e1, e2, e3⟩ => ⟨e1, h4 _ _ e2 e3, e3.mono h1⟩
theorem gnext_both (h : Both w Z G R s t) (hZ : ∀ k, Z k → k < w.heap.size) :
    Calls Tryd.prog 10 #[.pointer (some ⟨G, 0, none⟩)] w fun e w' => e = .returned (.tuple #[(nextR s).1.rec_, .int .i64 (nextR s).2.1, .bool (nextR s).2.2]) ∧ Both w' Z G R (nextG s) t ∧ Keeps Z w w' := by
  obtain ⟨Y, h1, h2, h3, h4⟩ := h.gate hZ
  exact (next_any w Y G s h3 h2).mono fun e w' ⟨e1, e2, e3⟩ => ⟨e1, h4 _ _ e2 e3, e3.mono h1⟩
theorem gbound_both (h : Both w Z G R s t) (hZ : ∀ k, Z k → k < w.heap.size) :
    Calls Tryd.prog 12 #[.pointer (some ⟨G, 0, none⟩)] w fun e w' => e = .returned (.tuple #[.int .i64 (boundId s), .bool (closedG s)]) ∧ Both w' Z G R (boundG s) t ∧ Keeps Z w w' := by
  obtain ⟨Y, h1, h2, h3, h4⟩ := h.gate hZ
  exact (bound_any w Y G s h3 h2).mono fun e w' ⟨e1, e2, e3⟩ => ⟨e1, h4 _ _ e2 e3, e3.mono h1⟩
theorem rpush_both (h : Both w Z G R s t) (hZ : ∀ k, Z k → k < w.heap.size) (i : Int) (key : ByteArray) (num time : Int) (hi0 : -9223372036854775808 ≤ i) (hi1 : i ≤ 9223372036854775807) :
    Calls Tryd.prog 8 #[.pointer (some ⟨R, 0, none⟩), .int .i64 i, .agg #[.string key, .int .i64 num, .int .i64 time, .int .i64 0], .bool false] w fun e w' => e = .returned (.int .i64 (mayE t i)) ∧ Both w' Z G R s (pushG t i ⟨key, num, time, 0⟩) ∧ Keeps Z w w' := by
  obtain ⟨Y, h1, h2, h3, h4⟩ := h.ref hZ
  exact (rpush_rec w Y R t i key num time h3 hi0 hi1 h2).mono fun e w' ⟨e1, e2, e3⟩ => ⟨e1, h4 _ _ e2 e3, e3.mono h1⟩
theorem rbar_both (h : Both w Z G R s t) (hZ : ∀ k, Z k → k < w.heap.size) (i id : Int) (hi0 : -9223372036854775808 ≤ i) (hi1 : i ≤ 9223372036854775807) :
    Calls Tryd.prog 8 #[.pointer (some ⟨R, 0, none⟩), .int .i64 i, .agg #[.string ⟨#[]⟩, .int .i64 0, .int .i64 0, .int .i64 id], .bool true] w fun e w' => e = .returned (.int .i64 (barE t i id)) ∧ Both w' Z G R s (barG t i id) ∧ Keeps Z w w' := by
  obtain ⟨Y, h1, h2, h3, h4⟩ := h.ref hZ
  exact (rpush_bar w Y R t i id h3 hi0 hi1 h2).mono fun e w' ⟨e1, e2, e3⟩ => ⟨e1, h4 _ _ e2 e3, e3.mono h1⟩
theorem rtake_both (h : Both w Z G R s t) (hZ : ∀ k, Z k → k < w.heap.size) :
    Calls Tryd.prog 11 #[.pointer (some ⟨R, 0, none⟩)] w fun e w' => e = .returned (.tuple #[(nextR t).1.rec_, .int .i64 (nextR t).2.1, .bool (nextR t).2.2]) ∧ Both w' Z G R s (nextG t) ∧ Keeps Z w w' := by
  obtain ⟨Y, h1, h2, h3, h4⟩ := h.ref hZ
  exact (rtake_any w Y R t h3 h2).mono fun e w' ⟨e1, e2, e3⟩ => ⟨e1, h4 _ _ e2 e3, e3.mono h1⟩
theorem rbound_both (h : Both w Z G R s t) (hZ : ∀ k, Z k → k < w.heap.size) :
    Calls Tryd.prog 13 #[.pointer (some ⟨R, 0, none⟩)] w fun e w' => e = .returned (.tuple #[.int .i64 (boundId t), .bool (closedG t)]) ∧ Both w' Z G R s (boundG t) ∧ Keeps Z w w' := by
  obtain ⟨Y, h1, h2, h3, h4⟩ := h.ref hZ
  exact (rbound_any w Y R t h3).mono fun e w' ⟨e1, e2, e3⟩ => ⟨e1, h4 _ _ e2 e3, e3.mono h1⟩
theorem rblocked_both (h : Both w Z G R s t) {k : Nat} (hk : k < t.n) :
    Calls Tryd.prog 14 #[.pointer (some ⟨R, 0, none⟩), .int .i64 k] w fun e w' => e = .returned (.bool (barred (t.at_ k))) ∧ w = w' := by
  obtain ⟨gw, gl, sl, rw_, rl, rs, hg, hr, hd⟩ := h
  exact rblocked_any w _ R t k ⟨rw_, rl, rs, hr⟩ hk
theorem gwaiting_both (h : Both w Z G R s t) :
    Calls Tryd.prog 16 #[.pointer (some ⟨G, 0, none⟩)] w fun e w' => e = .returned (.int .i64 (waitingG s)) ∧ w = w' := by
  obtain ⟨gw, gl, sl, rw_, rl, rs, hg, hr, hd⟩ := h
  exact waiting_any w _ G s ⟨gw, gl, sl, hg⟩
end

set_option maxRecDepth 100000 in
set_option maxHeartbeats 1000000 in
theorem gblocked_in (w : World) (Z : Nat → Prop) (G : Nat) (s : Gat) (k : Nat) (h : GateAt w Z G s) (hk : k < s.n) :
    Calls Tryd.prog 15 #[.pointer (some ⟨G, 0, none⟩), .int .i64 k] w fun e w' => e = .returned (.tuple #[.bool (barred (s.at_ k)), .nilIface]) ∧ w = w' := by
  have HB := Lib.hid (blocked_any w Z G s k h hk)
  obtain ⟨gw, gl, sl, h⟩ := h
  have c0 := h.c0
  have h64 := h.ok.most
  obtain ⟨n, hn⟩ : ∃ n, n = s.n := ⟨_, rfl⟩
  rw [← hn] at c0 h64 hk
  clear hn
  go_enter Tryd.func15, Tryd.ntmps15
  go_wp2_with (first | (go_at_call 28; refine HB.out.mono ?_; rintro e w1 ⟨rfl, rfl⟩))
  go_ret2
  exact ⟨rfl, rfl⟩
set_option maxRecDepth 100000 in
set_option maxHeartbeats 1000000 in
theorem gblocked_out (w : World) (Z : Nat → Prop) (G : Nat) (s : Gat) (i : Int) (h : GateAt w Z G s) (hi : i < 0 ∨ (s.n : Int) ≤ i) :
    Calls Tryd.prog 15 #[.pointer (some ⟨G, 0, none⟩), .int .i64 i] w fun e w' => e = .returned (.tuple #[.bool false, errV 1]) ∧ w = w' := by
  rw [show errV 1 = .iface 66 (.int .i64 1) from rfl]
  obtain ⟨gw, gl, sl, h⟩ := h
  have c0 := h.c0
  have h64 := h.ok.most
  obtain ⟨n, hn⟩ : ∃ n, n = s.n := ⟨_, rfl⟩
  rw [← hn] at c0 h64 hi
  clear hn
  by_cases h0 : i < 0
  · go_enter Tryd.func15, Tryd.ntmps15
    go_wp2
    go_ret2
    exact ⟨rfl, rfl⟩
  · have h1 : (n : Int) ≤ i := by omega
    go_enter Tryd.func15, Tryd.ntmps15
    go_wp2
    go_ret2
    exact ⟨rfl, rfl⟩
theorem Both.at_ {w : World} {Z : Nat → Prop} {G R : Nat} {s t : Gat} (h : Both w Z G R s t) : ∃ Y, GateAt w Y G s := by
  obtain ⟨gw, gl, sl, rw_, rl, rs, hg, hr, hd⟩ := h
  exact ⟨_, gw, gl, sl, hg⟩
end Go.Proofs.YtmeemcafjebanaaDoor
