/- The walk of weirsame.Texts at two equal lists (lines of WalkSpread). -/
import Derived.Test.YtmeemcafjebanaaDoorProg
import Derived.Test.YtmeemcafjebanaaDoorPlainSpread
import Derived.Test.YtmeemcafjebanaaDoorKeeps
import Derived.Test.YtmeemcafjebanaaDoorErr
import Derived.Deep.RegionLaw
import Derived.BigQuiet
import Derived.WideLaws
import Derived.Deep.QuietTactic
import Derived.Deep.OwnRows
namespace Go.Proofs.YtmeemcafjebanaaDoor
open Go.RowKit

theorem el_str : Elt Tryd.prog 60 9 (.string ByteArray.empty) 1 16 := ⟨Tryd.underlying60, by kernel_rfl, rfl, by omega, by omega⟩
theorem svs_one (l : List ByteArray) : ∀ u ∈ l.map sv, u.oneCell' = true := by
  intro u hu; obtain ⟨b, _, rfl⟩ := List.mem_map.1 hu; rfl
theorem Rd.str_ {w : World} {B n k : Nat} {A : Option Addr} {l : List ByteArray} (h : Rd w B 1 A n (l.map sv)) (hk : k < n) : ∃ ad, A = some ad ∧ ad.block < B ∧ w.cell? (ad.add k) = some (.string (strAt l k)) := by
  obtain ⟨ad, u, rfl, hb, hu, hc⟩ := h.at_ hk
  refine ⟨ad, rfl, hb, hc.trans ?_⟩
  have hl : k < l.length := by have := h.1; simp at this; omega
  rw [← hu, List.getElem?_map, strAt, List.getD_eq_getElem?_getD, List.getElem?_eq_getElem hl]
  rfl

set_option maxRecDepth 100000 in
set_option maxHeartbeats 1000000 in
theorem texts_quiet (A A' : Option Addr) (c c' B : Nat) (l : List ByteArray) (w : World) (hx : Rd w B 1 A l.length (l.map sv)) (hy : Rd w B 1 A' l.length (l.map sv)) (hl : l.length ≤ 140737488355328) :
    Calls Tryd.prog 25 #[.slice A l.length c, .slice A' l.length c'] w fun e w' => e = .returned (.bool true) ∧ ∃ q, w' = w.drewN q := by
  obtain ⟨n, hn⟩ : ∃ n, n = l.length := ⟨_, rfl⟩
  rw [← hn] at hx hy hl ⊢
  clear hn
  go_enter Tryd.func25, Tryd.ntmps25
  go_wp2_with fail
  go_loopw [5] (fun i wr => ∃ k q : Nat, k ≤ n ∧ i = .int .i64 k ∧ wr = w.drewN q) (fun i _ => n - (intOf i).toNat)
  case atStart => exact ⟨0, 0, Nat.zero_le _, rfl, rfl⟩
  case round =>
    obtain ⟨k, q, hk, rfl, hw⟩ := hrel
    have HW := Lib.hid hw
    by_cases hlt : k < n
    · obtain ⟨ad, rfl, _, g0⟩ := (show Rd wr B 1 A n (l.map sv) by rw [hw]; exact hx.drewN q).str_ hlt
      obtain ⟨ad', rfl, _, p0⟩ := (show Rd wr B 1 A' n (l.map sv) by rw [hw]; exact hy.drewN q).str_ hlt
      obtain ⟨z, hz⟩ : ∃ z, z = strAt l k := ⟨_, rfl⟩
      rw [← hz] at g0 p0
      clear hz hw
      have hi0 : (0 : Int) ≤ (k : Int) := by omega
      have hi1 : (k : Int) < (n : Int) := by omega
      go_wp2_with fail
      go_quiet (fail)
      go_wp2_with fail
      go_roundw
      case rel => exact ⟨k + 1, q + nq, by omega, by go_num, by rw [HW.out, World.drewN_drewN]⟩
      case measure => simp [intOf]; omega
    · clear hw
      go_wp2_with fail
      go_ret
      exact ⟨rfl, q, HW.out⟩
theorem texts_same (A A' : Option Addr) (c c' B : Nat) (l : List ByteArray) (w : World) (hx : Rd w B 1 A l.length (l.map sv)) (hy : Rd w B 1 A' l.length (l.map sv)) (_hB : B ≤ w.heap.size) (hl : l.length ≤ 140737488355328) :
    Calls Tryd.prog 25 #[.slice A l.length c, .slice A' l.length c'] w fun e w' => e = .returned (.bool true) ∧ Below w.heap.size w w' :=
  (texts_quiet A A' c c' B l w hx hy hl).mono fun _ _ ⟨he, q, hw⟩ => ⟨he, hw ▸ below_drewN (Below.refl _ _) q⟩

end Go.Proofs.YtmeemcafjebanaaDoor
