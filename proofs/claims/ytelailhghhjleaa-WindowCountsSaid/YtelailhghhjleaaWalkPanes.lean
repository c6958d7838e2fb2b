/- The walk of weirsame.Panes at two equal lists. -/
import Derived.Test.YtelailhghhjleaaProg
import Derived.Test.YtelailhghhjleaaPlainSess
import Derived.Test.YtelailhghhjleaaBase2
import Derived.Laws.StructEq
import Derived.BigQuiet
import Derived.Deep.QuietTactic
namespace Go.Proofs.Ytelailhghhjleaa
open Go.RowKit

theorem pane_eq (w : World) (x : Pane) : (binOp .neq 31 (.agg #[.string x.key, .int .i64 x.lo, .int .i64 x.hi, .int .i64 x.many, .int .i64 x.sum, .int .i64 x.late]) (.agg #[.string x.key, .int .i64 x.lo, .int .i64 x.hi, .int .i64 x.many, .int .i64 x.sum, .int .i64 x.late])).run Try.prog w = .ok (.bool false) w := by
  rw [run_neq_struct, run_equalIn_agg w _ _ _ _ (by kernel_rfl) (by kernel_rfl)]
  simp [Program.fieldsOf, Try.underlying31, go_sem]

/-- The cells of the pane at k. -/
theorem Rd.pane_ {w : World} {B n k : Nat} {A : Option Addr} {l : List Pane} (h : Rd w B 6 A n (paneCells l)) (hk : k < n) (hl : l.length = n) :
    ∃ ad, ∃ p : Pane, A = some ad ∧ ad.block < B ∧ l[k]? = some p ∧ w.cell? (ad.add (k * 6)) = some (.string p.key) ∧ w.cell? ⟨(ad.add (k * 6)).block, (ad.add (k * 6)).off + 1, none⟩ = some (.int .i64 p.lo) ∧
      w.cell? ⟨(ad.add (k * 6)).block, (ad.add (k * 6)).off + 2, none⟩ = some (.int .i64 p.hi) ∧ w.cell? ⟨(ad.add (k * 6)).block, (ad.add (k * 6)).off + 3, none⟩ = some (.int .i64 p.many) ∧
      w.cell? ⟨(ad.add (k * 6)).block, (ad.add (k * 6)).off + 4, none⟩ = some (.int .i64 p.sum) ∧ w.cell? ⟨(ad.add (k * 6)).block, (ad.add (k * 6)).off + 5, none⟩ = some (.int .i64 p.late) := by
  obtain ⟨ad, rfl, hbb, hc⟩ := h.2 (by omega)
  have hr : l[k]? = some l[k] := List.getElem?_eq_getElem (by omega)
  have hat : ∀ j, j < 6 → (paneCells l)[k * 6 + j]? = (l[k].cells)[j]? := fun j hj => by
    rw [paneCells, flat_at Pane.cells 6 (fun _ => rfl) l k j hj, hr]; rfl
  refine ⟨ad, l[k], rfl, hbb, hr, hc _ _ ((hat 0 (by omega)).trans rfl), ?_, ?_, ?_, ?_, ?_⟩
  · rw [← add_more]; exact hc _ _ ((hat 1 (by omega)).trans rfl)
  · rw [← add_more]; exact hc _ _ ((hat 2 (by omega)).trans rfl)
  · rw [← add_more]; exact hc _ _ ((hat 3 (by omega)).trans rfl)
  · rw [← add_more]; exact hc _ _ ((hat 4 (by omega)).trans rfl)
  · rw [← add_more]; exact hc _ _ ((hat 5 (by omega)).trans rfl)

set_option maxRecDepth 100000 in
set_option maxHeartbeats 4000000 in
theorem panes_same (A A' : Option Addr) (c c' B : Nat) (l : List Pane) (w : World) (hx : Rd w B 6 A l.length (paneCells l)) (hy : Rd w B 6 A' l.length (paneCells l)) (hl : l.length ≤ 140737488355328) :
    Calls Try.prog 9 #[.slice A l.length c, .slice A' l.length c'] w fun e w' => e = .returned (.bool true) ∧ ∃ q, w' = w.drewN q := by
  obtain ⟨n, hn⟩ : ∃ n, n = l.length := ⟨_, rfl⟩
  have Hn := Lib.hid hn
  rw [← hn] at hx hy hl ⊢
  clear hn
  go_enter Try.func9, Try.ntmps9
  go_wp2_with fail
  go_loopw [5] (fun i wr => ∃ k q : Nat, k ≤ n ∧ i = .int .i64 k ∧ wr = w.drewN q) (fun i _ => n - (intOf i).toNat)
  case atStart => exact ⟨0, 0, Nat.zero_le _, rfl, rfl⟩
  case round =>
    obtain ⟨k, q, hk, rfl, hw⟩ := hrel
    have HW := Lib.hid hw
    by_cases hlt : k < n
    · obtain ⟨ad, p, rfl, _, hp, g0, g1, g2, g3, g4, g5⟩ := (show Rd wr B 6 A n (paneCells l) by rw [hw]; exact hx.drewN q).pane_ hlt Hn.out.symm
      obtain ⟨ad', p', rfl, _, hp', p0, p1, p2, p3, p4, p5⟩ := (show Rd wr B 6 A' n (paneCells l) by rw [hw]; exact hy.drewN q).pane_ hlt Hn.out.symm
      have hpp : p' = p := by rw [hp] at hp'; injection hp' with e; exact e.symm
      subst hpp
      clear hp hp' hw
      have hi0 : (0 : Int) ≤ (k : Int) := by omega
      have hi1 : (k : Int) < (n : Int) := by omega
      have hq := fun W => pane_eq W p'
      go_wp2_with fail
      go_quiet (fail)
      go_wp2_with fail
      go_roundw
      case rel => exact ⟨k + 1, q + nq, by omega, by go_num, by rw [HW.out, World.drewN_drewN]⟩
      case measure => simp [intOf]; omega
    · clear hw
      go_wp2_with fail
      go_ret
      exact ⟨rfl, q, HW.out⟩
end Go.Proofs.Ytelailhghhjleaa
