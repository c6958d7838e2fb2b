/- Arguments that are slices of ints, in the walks' words. -/
import Derived.Test.YtmeemcafjebanaaGreatDoorOpen
namespace Go.Proofs.YtmeemcafjebanaaGreatDoor
open Go.ChangeShapes Go.WideShapes Go.ChangeAt Go.RowKit
section
variable {H : Type} {enc : TypeId × Value → H} {P : Program} {W : World}
/-- A []int that came in. -/
theorem open_intl {t e : TypeId} (ht : P.underlying t = some (.slice e)) (he : P.underlying e = some (.int .i64)) (hc : P.cellsOf e = 1) {v : Value} {r : Reach} {base : Nat} {d : DataW H} {p : List MemPlace}
    (hv : Value.okWide P W r base t v) (h : DataW.Trod enc P W 0 (fun _ => true) true t v d p) :
    ∃ (A : Option Addr) (c : Nat) (l : List Int), v = .slice A l.length c ∧ l.length ≤ c ∧ c ≤ maxLen ∧ Rd W W.heap.size 1 A l.length (l.map iv) ∧ (∀ z ∈ l, -9223372036854775808 ≤ z ∧ z ≤ 9223372036854775807) ∧ ((d = .nil ∧ c = 0) ∨ ∃ elems spare, d = .slice elems spare ∧ elems.length = l.length ∧ elems.length + spare.length = c) := by
  obtain ⟨A, n, c, rfl⟩ := okWide_slice ht hv
  obtain ⟨fuel, hf⟩ := h
  rcases open_ints ht he hc hf with ⟨hcs, hx⟩ | ⟨x, l, c', zs, hcs, _, hl, hm, hz, hx, hcell, hwz⟩
  · simp [Value.cells] at hcs
    obtain ⟨rfl, rfl, rfl⟩ := hcs
    refine ⟨none, 0, [], rfl, Nat.le_refl _, Nat.zero_le _, Rd.nil_, fun _ h => absurd h List.not_mem_nil, .inl ⟨?_, rfl⟩⟩
    injection hx
  · simp [Value.cells] at hcs
    obtain ⟨rfl, rfl, rfl⟩ := hcs
    simp only [if_true] at hz
    have hlen : (zs.take n).length = n := by simp; omega
    refine ⟨some x, c, zs.take n, by rw [hlen], by rw [hlen]; exact hl, hm, ?_, fun z hz' => bounds_i64 (hwz z (List.mem_of_mem_take hz')), .inr ⟨lits .i64 (zs.take n), lits .i64 (zs.drop n), ?_, ?_, ?_⟩⟩
    · rw [hlen]
      refine ⟨by simp; omega, fun hn => ⟨x, rfl, ?_, ?_⟩⟩
      · have := World.block_lt_of_cell? _ _ (hcell 0 (by omega))
        simpa [block_add] using this
      · intro j u hu
        simp only [List.getElem?_map, List.getElem?_take] at hu
        split at hu
        · rename_i hj
          have hjz : j < zs.length := by omega
          rw [hcell j hjz]
          rw [List.getElem?_eq_getElem hjz] at hu
          simp only [Option.map_some, Option.some.injEq] at hu
          rw [← hu, List.getD_eq_getElem?_getD, List.getElem?_eq_getElem hjz, Option.getD_some, iv]
        · cases hu
    · injection hx
    · simp [lits]
    · simp [lits]; omega
theorem sized_intl {ts : List TypeId} {ds : List (DataW H)} (h : (DataW.weightsEach P ts ds).all (· ≤ reachBytes) = true) {j c : Nat} {t e : TypeId} {d : DataW H} (ht : ts[j]? = some t) (hdj : ds[j]? = some d) (hu : P.underlying t = some (.slice e)) (hb : P.bytesOf e = 8)
    {l : List Int} (hl : l.length ≤ c) (hd : (d = .nil ∧ c = 0) ∨ ∃ elems spare, d = .slice elems spare ∧ elems.length = l.length ∧ elems.length + spare.length = c) : l.length ≤ 17592186044160 := by
  rcases hd with ⟨_, rfl⟩ | ⟨elems, spare, rfl, h3, _⟩
  · omega
  · have h1 := sized_slice h ht hdj hu
    rw [hb] at h1
    simp only [reachBytes] at h1
    omega
end
end Go.Proofs.YtmeemcafjebanaaGreatDoor
