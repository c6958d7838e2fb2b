/- The walks of gate: may, blocked, take. -/
import Derived.Test.YtmeemcafjebanaaDoorMemGate
import Derived.Test.YtmeemcafjebanaaDoorErr
import Derived.Deep.RegionHeld3
import Derived.Deep.RegionWith
import Derived.Deep.DrawnRows
import Derived.BigQuiet
import Derived.WideLaws
import Derived.Deep.QuietTactic
namespace Go.Proofs.YtmeemcafjebanaaDoor
open Go.RowKit

theorem el_itm : Elt Tryd.prog 72 74 (.agg #[.string ByteArray.empty, .int .i64 0, .int .i64 0, .int .i64 0]) 4 40 := ⟨Tryd.underlying72, by kernel_rfl, by kernel_rfl, by omega, by omega⟩

set_option maxRecDepth 100000 in
set_option maxHeartbeats 1000000 in
theorem may_any (w : World) (Z : Nat → Prop) (G : Nat) (s : Gat) (i : Int) (h : GateAt w Z G s) (hi0 : -9223372036854775808 ≤ i) (hi1 : i ≤ 9223372036854775807) :
    Calls Tryd.prog 27 #[.pointer (some ⟨G, 0, none⟩), .int .i64 i] w fun e w' => e = .returned (errV (mayE s i)) ∧ w = w' := by
  obtain ⟨gw, gl, sl, h⟩ := h
  have c0 := h.c0
  obtain ⟨n, hn⟩ : ∃ n, n = s.n := ⟨_, rfl⟩
  have h64 := h.ok.most
  have hp := h.ok.pos
  rw [← hn] at c0 h64 hp
  have Hn := Lib.hid hn
  clear hn
  by_cases h0 : i < 0
  · have HE : Hid (errV (mayE s i) = .iface 66 (.int .i64 1)) := Lib.hid (by rw [mayE, if_pos (.inl h0)]; rfl)
    rw [HE.out]
    go_enter Tryd.func27, Tryd.ntmps27
    go_wp2
    go_ret
    exact ⟨rfl, rfl⟩
  · by_cases h1 : (n : Int) ≤ i
    · have HE : Hid (errV (mayE s i) = .iface 66 (.int .i64 1)) := Lib.hid (by rw [mayE, if_pos (.inr (by have := Hn.out; omega))]; rfl)
      rw [HE.out]
      go_enter Tryd.func27, Tryd.ntmps27
      go_wp2
      go_ret
      exact ⟨rfl, rfl⟩
    · obtain ⟨k, rfl⟩ : ∃ k : Nat, i = k := ⟨i.toNat, by omega⟩
      obtain ⟨A, c, hs, cw, hlc, hcm, ho, hr⟩ := h.wait (i := k) (by have := Hn.out; omega)
      have hlen := h.ok.len k
      obtain ⟨m, hm⟩ : ∃ m, m = (s.at_ k).length := ⟨_, rfl⟩
      rw [← hm] at cw hlen
      have Hm := Lib.hid hm
      clear hm hs ho hr hlc hcm
      by_cases h2 : 400 ≤ m
      · have HE : Hid (errV (mayE s k) = .iface 66 (.int .i64 4)) := Lib.hid (by rw [mayE, if_neg (by have := Hn.out; omega), if_pos (by have := Hm.out; rw [Int.toNat_natCast]; omega)]; rfl)
        rw [HE.out]
        go_enter Tryd.func27, Tryd.ntmps27
        go_wp2
        go_ret
        exact ⟨rfl, rfl⟩
      · have HE : Hid (errV (mayE s k) = .nilIface) := Lib.hid (by rw [mayE, if_neg (by have := Hn.out; omega), if_neg (by have := Hm.out; rw [Int.toNat_natCast]; omega)]; rfl)
        rw [HE.out]
        go_enter Tryd.func27, Tryd.ntmps27
        go_wp2
        go_ret
        exact ⟨rfl, rfl⟩

/-- The bar of the first that waits. -/
theorem Rd.itm0 {w : World} {B n : Nat} {A : Option Addr} {l : List Itm} (h : Rd w B 4 A n (itmCells l)) (hn : l.length = n) (h0 : 0 < n) :
    ∃ ad x r, A = some ad ∧ l = x :: r ∧ w.cell? ad = some (.string x.key) ∧ w.cell? ⟨ad.block, ad.off + 1, none⟩ = some (.int .i64 x.num) ∧ w.cell? ⟨ad.block, ad.off + 2, none⟩ = some (.int .i64 x.time) ∧ w.cell? ⟨ad.block, ad.off + 3, none⟩ = some (.int .i64 x.bar) := by
  obtain ⟨ad, rfl, _, hc⟩ := h.2 h0
  rcases l with _ | ⟨x, r⟩
  · simp at hn; omega
  · refine ⟨ad, x, r, rfl, rfl, ?_, ?_, ?_, ?_⟩
    · have := hc 0 (.string x.key) rfl
      simpa [Addr.add] using this
    · have := hc 1 (.int .i64 x.num) rfl
      simpa [Addr.add] using this
    · have := hc 2 (.int .i64 x.time) rfl
      simpa [Addr.add] using this
    · have := hc 3 (.int .i64 x.bar) rfl
      simpa [Addr.add] using this

set_option maxRecDepth 100000 in
set_option maxHeartbeats 1000000 in
theorem blocked_any (w : World) (Z : Nat → Prop) (G : Nat) (s : Gat) (k : Nat) (h : GateAt w Z G s) (hk : k < s.n) :
    Calls Tryd.prog 28 #[.pointer (some ⟨G, 0, none⟩), .int .i64 k] w fun e w' => e = .returned (.bool (barred (s.at_ k))) ∧ w = w' := by
  obtain ⟨gw, gl, sl, h⟩ := h
  have c0 := h.c0
  have h64 := h.ok.most
  obtain ⟨A, c, hs, cw, hlc, hcm, ho, hr⟩ := h.wait (i := k) hk
  obtain ⟨n, hn⟩ : ∃ n, n = s.n := ⟨_, rfl⟩
  rw [← hn] at c0 h64 hk
  clear hn
  have hlen := h.ok.len k
  clear h
  obtain ⟨l, hl⟩ : ∃ l, l = s.at_ k := ⟨_, rfl⟩
  rw [← hl] at cw hlen hr ⊢
  clear hs ho hl
  rcases l with _ | ⟨x, r⟩
  · go_enter Tryd.func28, Tryd.ntmps28
    simp only [List.length_nil] at cw
    go_wp2
    go_ret
    exact ⟨rfl, rfl⟩
  · obtain ⟨ad, x', r', rfl, e, g0, g1, g2, g3⟩ := hr.itm0 rfl (by simp)
    injection e with e1 e2
    subst e1 e2
    obtain ⟨m, hm⟩ : ∃ m, m = (x :: r).length := ⟨_, rfl⟩
    have hm0 : 0 < m := by rw [hm]; simp
    rw [← hm] at cw hlen
    clear hm hlc hcm hr g0 g1 g2
    show Calls _ _ _ _ fun e w' => e = .returned (.bool (decide (0 < x.bar))) ∧ w = w'
    by_cases hb : 0 < x.bar
    · rw [decide_eq_true hb]
      go_enter Tryd.func28, Tryd.ntmps28
      go_wp2
      go_ret
      exact ⟨rfl, rfl⟩
    · rw [decide_eq_false hb]
      go_enter Tryd.func28, Tryd.ntmps28
      go_wp2
      go_ret
      exact ⟨rfl, rfl⟩
end Go.Proofs.YtmeemcafjebanaaDoor
