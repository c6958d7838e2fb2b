/- What the law's steps are read into: three numbers. -/
import Derived.Test.YtmeemcafjebanaaGreatDoorBase2
import Derived.Test.YtmeemcafjebanaaGreatDoorOpenII
namespace Go.Proofs.YtmeemcafjebanaaGreatDoor
open Go.RowKit

theorem Rd.intc {w : World} {B n k : Nat} {A : Option Addr} {l : List Int} (h : Rd w B 1 A n (l.map iv)) (hk : k < n) : ∃ ad, A = some ad ∧ ad.block < B ∧ w.cell? (ad.add k) = some (.int .i64 (l.getD k 0)) := by
  obtain ⟨ad, u, rfl, hb, hu, hc⟩ := h.at_ hk
  refine ⟨ad, rfl, hb, hc.trans ?_⟩
  have hl : k < l.length := by have := h.1; simp at this; omega
  rw [← hu, List.getElem?_map, List.getD_eq_getElem?_getD, List.getElem?_eq_getElem hl]
  rfl
/-- What the first j of a step's numbers are, three in all. -/
def cell3 (l : List Int) (j k : Nat) : Value := .int .i64 (if k < j then l.getD k 0 else 0)
def cells3_ (l : List Int) (j : Nat) : Array Value := #[cell3 l j 0, cell3 l j 1, cell3 l j 2]
theorem cells3_zero (l : List Int) : cells3_ l 0 = #[.int .i64 0, .int .i64 0, .int .i64 0] := rfl
theorem cells3_step (l : List Int) {j : Nat} (h : j < 3) : (cells3_ l j).setIfInBounds j (.int .i64 (l.getD j 0)) = cells3_ l (j + 1) := by
  rcases j with _ | _ | _ | j
  · simp [cells3_, cell3]
  · simp [cells3_, cell3]
  · simp [cells3_, cell3]
  · omega
theorem cells3_end (l : List Int) {j : Nat} (h : 3 ≤ j ∨ l.length ≤ j) : cells3_ l j = #[.int .i64 (l.getD 0 0), .int .i64 (l.getD 1 0), .int .i64 (l.getD 2 0)] := by
  have e : ∀ k, k < 3 → cell3 l j k = .int .i64 (l.getD k 0) := by
    intro k hk
    unfold cell3
    split
    · rfl
    · have : l.getD k 0 = 0 := by rw [List.getD_eq_getElem?_getD, List.getElem?_eq_none (by omega)]; rfl
      rw [this]
  rw [cells3_, e 0 (by omega), e 1 (by omega), e 2 (by omega)]
theorem getD_in {l : List Int} (hb : ∀ z ∈ l, -9223372036854775808 ≤ z ∧ z ≤ 9223372036854775807) (k : Nat) : -9223372036854775808 ≤ l.getD k 0 ∧ l.getD k 0 ≤ 9223372036854775807 := by
  rw [List.getD_eq_getElem?_getD]
  rcases h : l[k]? with _ | z
  · exact ⟨by decide, by decide⟩
  · exact hb z (List.mem_of_getElem? h)
end Go.Proofs.YtmeemcafjebanaaGreatDoor
