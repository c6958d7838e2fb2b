/- The walk of weirref2.Slide at what is refused. -/
import Derived.Test.YtelailhghhjleaaDoorWalkSSess
import Derived.Test.YtelailhghhjleaaDoorWalkSlide
namespace Go.Proofs.YtelailhghhjleaaDoor
open Go.RowKit Go.Sort Go.Shelf Go.Lib

set_option maxRecDepth 100000 in
set_option maxHeartbeats 8000000 in
theorem rslide_bad (A : Option Addr) (c B : Nat) (l : List Rec) (size by_ slack : Int) (w : World) (hr : Rd w B 3 A l.length (recCells l)) (hB : B ≤ w.heap.size) (hok : ∀ r ∈ l, r.Ok) (hl : l.length ≤ 140737488355328)
    (hby0 : -9223372036854775808 ≤ by_) (hby1 : by_ ≤ 9223372036854775807) (hE : slideE l size by_ slack ≠ 0) :
    Calls Tryd.prog 23 #[.slice A l.length c, .int .i64 size, .int .i64 by_, .int .i64 slack] w fun e w' => e = .returned (.tuple #[.slice none 0 0, .int .i64 (slideE l size by_ slack : Nat)]) ∧ Below w.heap.size w w' := by
  obtain ⟨n, hn⟩ : ∃ n, n = l.length := ⟨_, rfl⟩
  have Hn := Lib.hid hn
  rw [← hn] at hr hl ⊢
  clear hn
  have HE := Lib.hid hE
  clear hE
  by_cases hbig : 400 < n
  · have HE4 : Hid (slideE l size by_ slack = 4) := Lib.hid (by
      have e : recsE l = 4 := by rw [recsE, if_pos (by have := Hn.out; omega)]
      unfold slideE
      rw [if_pos (by omega), e])
    go_enter Tryd.func23, Tryd.ntmps23
    go_wp2_with fail
    go_ret2
    exact ⟨by rw [HE4.out]; rfl, Below.refl _ _⟩
  go_enter Tryd.func23, Tryd.ntmps23
  go_wp2_with fail
  go_loopw [10] (fun i wr => ∃ k : Nat, k ≤ n ∧ i = .int .i64 k ∧ Hid (∀ (j : Nat) (r : Rec), j < k → l[j]? = some r → recOk r = true) ∧ Below w.heap.size w wr) (fun i _ => n - (intOf i).toNat)
  case atStart => exact ⟨0, Nat.zero_le _, rfl, Lib.hid (fun j r hj _ => by omega), Below.refl _ _⟩
  obtain ⟨k, hk, rfl, HA, hbel⟩ := hrel
  by_cases hlt : k < n
  · obtain ⟨ad, r, rfl, hx, d0, d1, d2⟩ := hr.rec_ hlt (Hn.out).symm hbel hB
    have hro := hok r (List.mem_of_getElem? hx)
    have Hx := Lib.hid hx
    have hk0 : (0 : Int) ≤ (k : Int) := by omega
    have hk1 : (k : Int) < (n : Int) := by omega
    clear hx
    rcases hrk : recOk r
    · have HC := Lib.hid (fun W => srecord_is r W hro.1 hrk)
      have HE1 : Hid (slideE l size by_ slack = 1) := Lib.hid (by
        have e := recsE_bad (by have := Hn.out; omega) Hx.out hrk
        unfold slideE
        rw [if_pos (by omega), e])
      clear hrk hro
      go_wp2_with (first | (go_at_call 35; refine (HC.out _).mono ?_; rintro e w2 ⟨rfl, hb2⟩))
      go_ret2
      exact ⟨by rw [HE1.out]; rfl, below_up hbel hb2⟩
    · have HR := Lib.hid hrk
      have HC := Lib.hid (fun W => srecord_is r W hro.1 HR.out)
      clear hrk hro
      go_wp2_with (first | (go_at_call 35; refine (HC.out _).mono ?_; rintro e w2 ⟨rfl, hb2⟩))
      go_roundw
      case rel => exact ⟨k + 1, by omega, by go_num, Lib.hid (fun u x hu hx => by
        by_cases huq : u = k
        · subst huq; rw [Hx.out] at hx; injection hx with hx; subst hx; exact HR.out
        · exact HA.out u x (by omega) hx), below_up hbel hb2⟩
      case measure => simp [intOf]; omega
  · have hall := recsE_good (l := l) (by have := Hn.out; omega) (fun j r hj hx => HA.out j r (by have := Hn.out; omega) hx)
    have hno : ¬ (1 ≤ size ∧ size ≤ 1000000 ∧ 1 ≤ by_ ∧ by_ ≤ 1000000 ∧ 0 ≤ slack ∧ slack ≤ 1000000 ∧ size ≤ 16 * by_) := by
      intro h
      refine HE.out ?_
      unfold slideE
      rw [if_neg (by simp [hall]), if_pos h]
    have HE1 : Hid (slideE l size by_ slack = 1) := Lib.hid (by
      unfold slideE
      rw [if_neg (by simp [hall]), if_neg hno])
    clear hall HA
    by_cases q4 : size < 1
    · go_wp2_with fail
      go_ret2
      exact ⟨by rw [HE1.out]; rfl, hbel⟩
    by_cases q5 : 1000000 < size
    · go_wp2_with fail
      go_ret2
      exact ⟨by rw [HE1.out]; rfl, hbel⟩
    by_cases q6 : by_ < 1
    · go_wp2_with fail
      go_ret2
      exact ⟨by rw [HE1.out]; rfl, hbel⟩
    by_cases q7 : 1000000 < by_
    · go_wp2_with fail
      go_ret2
      exact ⟨by rw [HE1.out]; rfl, hbel⟩
    by_cases q1 : slack < 0
    · go_wp2_with fail
      go_ret2
      exact ⟨by rw [HE1.out]; rfl, hbel⟩
    by_cases q2 : 1000000 < slack
    · go_wp2_with fail
      go_ret2
      exact ⟨by rw [HE1.out]; rfl, hbel⟩
    have q3 : 16 * by_ < size := by omega
    clear hno
    go_wp2_with fail
    go_ret2
    exact ⟨by rw [HE1.out]; rfl, hbel⟩
end Go.Proofs.YtelailhghhjleaaDoor
