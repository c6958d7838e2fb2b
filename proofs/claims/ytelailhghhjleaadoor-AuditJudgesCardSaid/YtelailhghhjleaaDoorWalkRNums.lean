/- The walks of weirref2.nums and weirref2.count. -/
import Derived.Test.YtelailhghhjleaaDoorWalkWithin
namespace Go.Proofs.YtelailhghhjleaaDoor
open Go.RowKit

/-- The numbers of a key, in memory. -/
def NumsAt (w : World) (B : Nat) (ps : List Pl) (t : ByteArray) (v : Value) : Prop :=
  ∃ A c, v = .slice A ((numsOf (lnsOf ps) t).getD []).length c ∧ ((numsOf (lnsOf ps) t).getD []).length ≤ c ∧ c ≤ maxLen ∧ Rd w B 1 A ((numsOf (lnsOf ps) t).getD []).length (((numsOf (lnsOf ps) t).getD []).map iv)
theorem find_first {l : List Ln} {k : Nat} {x : Ln} {t : ByteArray} (hx : l[k]? = some x) (hk : x.key = t) (h : ∀ j y, j < k → l[j]? = some y → y.key ≠ t) : numsOf l t = some x.nums := by
  induction l generalizing k with
  | nil => simp at hx
  | cons z zs ih =>
    rw [numsOf, List.find?_cons]
    rcases k with _ | k
    · obtain rfl : z = x := by simpa using hx
      simp [hk]
    · have hz := h 0 z (by omega) rfl
      have e : decide (z.key = t) = false := by simpa using hz
      rw [e]
      exact ih (by simpa using hx) fun j y hj hy => h (j + 1) y (by omega) (by simpa using hy)

set_option maxRecDepth 100000 in
set_option maxHeartbeats 2000000 in
theorem rnums_any (A : Option Addr) (c B n : Nat) (ps : List Pl) (t : ByteArray) (w : World) (hr : RdPs w B A n ps) (hl : n ≤ 140737488355328) :
    Calls Tryd.prog 59 #[.slice A n c, .string t] w fun e w' => ∃ v, e = .returned v ∧ NumsAt w B ps t v ∧ w = w' := by
  have Hn := Lib.hid hr.len.symm
  go_enter Tryd.func59, Tryd.ntmps59
  go_wp2_with fail
  go_loopw [5] (fun i wr => ∃ k : Nat, k ≤ n ∧ i = .int .i64 k ∧ Hid (∀ j y, j < k → (lnsOf ps)[j]? = some y → y.key ≠ t) ∧ w = wr) (fun i _ => n - (intOf i).toNat)
  case atStart => exact ⟨0, Nat.zero_le _, rfl, Lib.hid (fun j y hj => absurd hj (by omega)), rfl⟩
  obtain ⟨k, hk, rfl, HS, rfl⟩ := hrel
  by_cases hlt : k < n
  · obtain ⟨ad, p, rfl, _, hx0, g0, g1, hpo⟩ := hr.at_ hlt
    have Hx := Lib.hid (lnsOf_at hx0)
    have HP := Lib.hid hpo
    clear hx0 hpo
    have hk0 : (0 : Int) ≤ (k : Int) := by omega
    have hk1 : (k : Int) < (n : Int) := by omega
    unfold Pl.val at g1
    by_cases he : p.ln.key = t
    · have HF := Lib.hid (find_first Hx.out he HS.out)
      have t1 : (p.ln.key.toList == t.toList) = true := by rw [he]; simp
      clear he
      go_wp2_with fail
      go_ret
      refine ⟨_, rfl, ?_, rfl⟩
      rw [NumsAt, HF.out]
      exact ⟨p.A, p.c, rfl, HP.out.cap, HP.out.max, HP.out.rd⟩
    · have t1 : (p.ln.key.toList == t.toList) = false := by simpa using fun h => he (bytes_same h)
      have HS2 : Hid (∀ j y, j < k + 1 → (lnsOf ps)[j]? = some y → y.key ≠ t) := Lib.hid fun j y hj hy => by
        by_cases hjk : j < k
        · exact HS.out j y hjk hy
        · obtain rfl : j = k := by omega
          rw [Hx.out] at hy
          injection hy with hy
          rw [← hy]; exact he
      clear he
      go_wp2_with fail
      go_roundw
      case rel => exact ⟨k + 1, by omega, by go_num, HS2, trivial⟩
      case measure => simp [intOf]; omega
  · have hno : numsOf (lnsOf ps) t = none := by
      rw [numsOf_none]
      intro x hx
      obtain ⟨j, hj⟩ := List.mem_iff_getElem?.1 hx
      have hjl := (List.getElem?_eq_some_iff.1 hj).1
      rw [lnsOf_len, ← Hn.out] at hjl
      exact HS.out j x (by omega) hj
    have HNO := Lib.hid hno
    clear hno
    go_wp2_with fail
    go_ret
    refine ⟨_, rfl, ?_, rfl⟩
    rw [NumsAt, HNO.out]
    exact ⟨none, 0, rfl, Nat.le_refl _, Nat.zero_le _, Rd.nil_⟩

set_option maxRecDepth 100000 in
set_option maxHeartbeats 2000000 in
theorem rcount_any (A : Option Addr) (c B : Nat) (l : List Int) (z : Int) (w : World) (hr : Rd w B 1 A l.length (l.map iv)) (hl : l.length ≤ 400) :
    Calls Tryd.prog 60 #[.slice A l.length c, .int .i64 z] w fun e w' => e = .returned (.int .i64 (l.count z : Nat)) ∧ w = w' := by
  obtain ⟨n, hn⟩ : ∃ n, n = l.length := ⟨_, rfl⟩
  have Hn := Lib.hid hn
  rw [← hn] at hr hl ⊢
  clear hn
  go_enter Tryd.func60, Tryd.ntmps60
  go_wp2_with fail
  go_loopw [5, 6] (fun s i wr => ∃ k m : Nat, k ≤ n ∧ i = .int .i64 k ∧ s = .int .i64 m ∧ Hid (m = (l.take k).count z) ∧ w = wr) (fun _ i _ => n - (intOf i).toNat)
  case atStart => exact ⟨0, 0, Nat.zero_le _, rfl, rfl, Lib.hid (by simp), rfl⟩
  obtain ⟨k, m, hk, rfl, rfl, HS, rfl⟩ := hrel
  have hm4 : m ≤ 400 := by rw [HS.out]; exact Nat.le_trans (count_take_le l k z) (Nat.le_trans List.count_le_length (by have := Hn.out; omega))
  by_cases hlt : k < n
  · obtain ⟨ad, x, rfl, hx, _, g0⟩ := hr.intw hlt (Hn.out).symm (Below.refl B w) (Nat.le_refl _)
    have hst := count_take_succ hx z
    have HST := Lib.hid hst
    clear hst hx
    have hk0 : (0 : Int) ≤ (k : Int) := by omega
    have hk1 : (k : Int) < (n : Int) := by omega
    by_cases he : x = z
    · have HM : Hid (m + 1 = (l.take (k + 1)).count z) := Lib.hid (by rw [HST.out, HS.out, if_pos he.symm])
      subst he
      go_wp2_with fail
      go_roundw
      case rel => exact ⟨k + 1, m + 1, by omega, by go_num, by go_num, HM, trivial⟩
      case measure => simp [intOf]; omega
    · have HM : Hid (m = (l.take (k + 1)).count z) := Lib.hid (by rw [HST.out, HS.out, if_neg (fun h => he h.symm)]; rfl)
      go_wp2_with fail
      go_roundw
      case rel => exact ⟨k + 1, m, by omega, by go_num, by go_num, HM, trivial⟩
      case measure => simp [intOf]; omega
  · go_wp2_with fail
    go_ret
    exact ⟨by rw [HS.out, List.take_of_length_le (by have := Hn.out; omega)]; rfl, rfl⟩
end Go.Proofs.YtelailhghhjleaaDoor
