/- The walks of frame.Record, window.check. -/
import Derived.Test.YtelailhghhjleaaDoorProg
import Derived.Test.YtelailhghhjleaaDoorPlainRec
import Derived.Test.YtelailhghhjleaaDoorBase2
import Derived.Test.YtelailhghhjleaaDoorErr
import Derived.Deep.RegionHeld3
import Derived.BigQuiet
import Derived.WideLaws
import Derived.Deep.QuietTactic
import Derived.Deep.OwnRows
namespace Go.Proofs.YtelailhghhjleaaDoor
open Go.RowKit

set_option maxRecDepth 100000 in
set_option maxHeartbeats 400000 in
theorem record_any (r : Rec) (w : World) (hr : r.key.size ≤ 9223372036854775807) :
    Calls Tryd.prog 65 #[r.val] w fun e w' => e = .returned (.bool (recOk r)) ∧ Below w.heap.size w w' := by
  go_enter Tryd.func65, Tryd.ntmps65
  unfold Rec.val
  go_wp2
  all_goals go_ret
  all_goals refine ⟨?_, (Below.refl _ _).alloc (Nat.le_refl _) _⟩
  all_goals (simp [recOk, *] <;> (intros; omega))
theorem record_is (r : Rec) (w : World) (hr : r.key.size ≤ 9223372036854775807) {b : Bool} (h : recOk r = b) :
    Calls Tryd.prog 65 #[.agg #[.string r.key, .int .i64 r.num, .int .i64 r.time]] w fun e w' => e = .returned (.bool b) ∧ Below w.heap.size w w' := by
  have := record_any r w hr; rw [h] at this; exact this
theorem recsE_bad {l : List Rec} {k : Nat} {r : Rec} (h4 : ¬ 400 < l.length) (h : l[k]? = some r) (hr : recOk r = false) : recsE l = 1 := by
  rw [recsE, if_neg h4, if_neg]
  intro ha
  have := List.all_eq_true.1 ha r (List.mem_of_getElem? h)
  rw [hr] at this; cases this
theorem recsE_good {l : List Rec} (h4 : ¬ 400 < l.length) (h : ∀ (k : Nat) (r : Rec), k < l.length → l[k]? = some r → recOk r = true) : recsE l = 0 := by
  rw [recsE, if_neg h4, if_pos]
  rw [List.all_eq_true]
  intro r hr
  obtain ⟨k, hk⟩ := List.mem_iff_getElem?.1 hr
  exact h k r (List.getElem?_eq_some_iff.1 hk).1 hk

set_option maxRecDepth 100000 in
set_option maxHeartbeats 1000000 in
theorem check_any (A : Option Addr) (c B : Nat) (l : List Rec) (w : World) (hr : Rd w B 3 A l.length (recCells l)) (hB : B ≤ w.heap.size) (hok : ∀ r ∈ l, r.Ok) (hl : l.length ≤ 140737488355328) :
    Calls Tryd.prog 36 #[.slice A l.length c] w fun e w' => e = .returned (errV (recsE l)) ∧ Below w.heap.size w w' := by
  obtain ⟨n, hn⟩ : ∃ n, n = l.length := ⟨_, rfl⟩
  have Hn := Lib.hid hn
  rw [← hn] at hr hl ⊢
  clear hn
  by_cases hbig : 400 < n
  · have HE : Hid (errV (recsE l) = .iface 75 (.int .i64 4)) := Lib.hid (by rw [recsE, if_pos (by have := Hn.out; omega)]; rfl)
    rw [HE.out]
    go_enter Tryd.func36, Tryd.ntmps36
    go_wp2
    go_ret
    exact ⟨rfl, Below.refl _ _⟩
  go_enter Tryd.func36, Tryd.ntmps36
  go_wp2_with fail
  go_loopw [11] (fun i wr => ∃ k : Nat, k ≤ n ∧ i = .int .i64 k ∧ Hid (∀ (j : Nat) (r : Rec), j < k → l[j]? = some r → recOk r = true) ∧ Below w.heap.size w wr) (fun i _ => n - (intOf i).toNat)
  case atStart => exact ⟨0, Nat.zero_le _, rfl, Lib.hid (fun j r hj _ => by omega), Below.refl _ _⟩
  case round =>
    obtain ⟨k, hk, rfl, HA, hbel⟩ := hrel
    by_cases hlt : k < n
    · obtain ⟨ad, r, rfl, hx, g0, g1, g2⟩ := hr.rec_ hlt (Hn.out).symm hbel hB
      have hro := hok r (List.mem_of_getElem? hx)
      have Hx := Lib.hid hx
      clear hx
      rcases hrk : recOk r
      · have HR := Lib.hid hrk
        have HC := Lib.hid (fun W => record_is r W hro.1 HR.out)
        clear hrk hro
        go_wp2_with (first | (go_at_call 65; refine (HC.out _).mono ?_; rintro e w2 ⟨rfl, hb2⟩))
        go_ret
        refine ⟨by rw [recsE_bad (by have := Hn.out; omega) Hx.out HR.out]; rfl, ?_⟩
        first | exact hbel.trans (hb2.mono hbel.size) | exact hbel.trans (((Below.refl _ _).alloc (Nat.le_refl _) _ |>.trans (hb2.mono (by simp))).mono hbel.size)
      · have HR := Lib.hid hrk
        have HC := Lib.hid (fun W => record_is r W hro.1 HR.out)
        clear hrk hro
        go_wp2_with (first | (go_at_call 65; refine (HC.out _).mono ?_; rintro e w2 ⟨rfl, hb2⟩))
        go_roundw
        case rel =>
          refine ⟨k + 1, by omega, by go_num, Lib.hid (fun j x hj hx => ?_), ?_⟩
          · by_cases hjk : j = k
            · subst hjk; rw [Hx.out] at hx; injection hx with hx; subst hx; exact HR.out
            · exact HA.out j x (by omega) hx
          · first | exact hbel.trans (hb2.mono hbel.size) | exact hbel.trans (((Below.refl _ _).alloc (Nat.le_refl _) _ |>.trans (hb2.mono (by simp))).mono hbel.size)
        case measure => simp [intOf]; omega
    · go_wp2_with fail
      go_ret
      exact ⟨by rw [recsE_good (by have := Hn.out; omega) (fun j r hj hx => HA.out j r (by have := Hn.out; omega) hx)]; rfl, hbel⟩
end Go.Proofs.YtelailhghhjleaaDoor
