/- Arguments that are slices of lines, in the walks' words. -/
import Derived.Test.YtelailhghhjleaaDoorOpenR
import Derived.Test.YtelailhghhjleaaDoorWalkLines
namespace Go.Proofs.YtelailhghhjleaaDoor
open Go.ChangeShapes Go.WideShapes Go.ChangeAt Go.RowKit Go.Deep
section
variable {H : Type} {enc : TypeId × Value → H} {P : Program} {W : World}
/-- A line's numbers, wherever they lie. -/
theorem open_nums_cs {t e : TypeId} (ht : P.underlying t = some (.slice e)) (he : P.underlying e = some (.int .i64)) (hc : P.cellsOf e = 1) {cs : List Value} {fuel : Nat} {d : DataW H} {p : List MemPlace}
    (hf : DataW.trod enc P W 0 (fun _ => true) true fuel t cs = some (d, p)) :
    ∃ (A : Option Addr) (c : Nat) (l : List Int), cs = [.slice A l.length c] ∧ l.length ≤ c ∧ c ≤ maxLen ∧ Rd W W.heap.size 1 A l.length (l.map iv) ∧ (∀ z ∈ l, (Lit.int .i64 z).wf = true) := by
  rcases open_ints ht he hc hf with ⟨hcs, hx⟩ | ⟨x, n, c', zs, hcs, _, hl, hm, hz, hx, hcell, hwz⟩
  · exact ⟨none, 0, [], hcs, Nat.le_refl _, Nat.zero_le _, Rd.nil_, fun _ h => absurd h List.not_mem_nil⟩
  · simp only [if_true] at hz
    have hlen : (zs.take n).length = n := by simp; omega
    refine ⟨some x, c', zs.take n, by rw [hlen]; exact hcs, by rw [hlen]; exact hl, hm, ?_, fun z hz' => hwz z (List.mem_of_mem_take hz')⟩
    rw [hlen]
    refine ⟨by simp; omega, fun hn => ⟨x, rfl, ?_, ?_⟩⟩
    · have := World.block_lt_of_cell? _ _ (hcell 0 (by omega))
      simpa [block_add] using this
    · intro j u hu
      simp only [List.getElem?_map, List.getElem?_take] at hu
      split at hu
      · rename_i hj
        have hjz : j < zs.length := by omega
        rw [hcell j hjz]
        rw [List.getElem?_eq_getElem hjz] at hu
        simp only [Option.map_some, Option.some.injEq] at hu
        rw [← hu, List.getD_eq_getElem?_getD, List.getElem?_eq_getElem hjz, Option.getD_some, iv]
      · cases hu
/-- A []api.Line that came in. -/
theorem open_lines {t e s u b : TypeId} {f0 f1 : Field} (ht : P.underlying t = some (.slice e)) (he : P.underlying e = some (.struct #[f0, f1])) (hone : oneCellFields P #[f0, f1] = true) (hC : P.cellsOf e = 2)
    (hs : P.underlying s = some .string) (hu : P.underlying u = some (.slice b)) (hb : P.underlying b = some (.int .i64)) (hbc : P.cellsOf b = 1) (t0 : f0.type = s) (t1 : f1.type = u)
    {v : Value} {r : Reach} {base : Nat} {d : DataW H} {p : List MemPlace} (hv : Value.okWide P W r base t v) (h : DataW.Trod enc P W 0 (fun _ => true) true t v d p) :
    ∃ (A : Option Addr) (c : Nat) (ps : List Pl), v = .slice A ps.length c ∧ ps.length ≤ c ∧ c ≤ maxLen ∧ RdPs W W.heap.size A ps.length ps ∧ (∀ x ∈ ps, x.ln.key.size ≤ maxLen) ∧ ∃ l : List (Pl × DataW H), l.length = ps.length ∧ ((d = .nil ∧ l = []) ∨ ∃ spare, d = .slice (l.map Prod.snd) spare) := by
  obtain ⟨A, c, l, rfl, h1, h2, h3, h4, h5⟩ := open_rows ht he hone hC (by simp) hv h (fun x : Pl × DataW H => x.1.cells) Prod.snd (fun x => x.1.Ok W W.heap.size ∧ x.1.ln.key.size ≤ maxLen) (fun _ => rfl) (by
    intro vs ys ⟨hl, hy, hf⟩
    obtain ⟨v0, y0, q0, n0, a0, b0, c0⟩ := hf 0 f0 rfl
    obtain ⟨v1, y1, q1, n1, a1, b1, c1⟩ := hf 1 f1 rfl
    rw [t0] at c0; rw [t1] at c1
    obtain ⟨s0, e0, g0, k0⟩ := DataW.trod_string hs c0
    obtain ⟨A1, d1, l1, e1, k1, k2, k3, k4⟩ := open_nums_cs hu hb hbc c1
    simp only [List.cons.injEq, and_true] at e0 e1
    subst e0 e1
    refine ⟨(⟨⟨s0, l1⟩, A1, d1⟩, .agg ys), ?_, rfl, ⟨k1, k2, k3, k4⟩, k0⟩
    match vs, hl with
    | [_, _], _ => simp at a0 a1; simp [Pl.cells, Pl.val, a0, a1])
  have hlen : (l.map Prod.fst).length = l.length := List.length_map _
  refine ⟨A, c, l.map Prod.fst, by rw [hlen], by rw [hlen]; exact h1, h2, ⟨rfl, ?_, ?_⟩, ?_, ?_⟩
  · rw [hlen, plCells, List.flatMap_map]; exact h3
  · intro p hp
    obtain ⟨x, hx, rfl⟩ := List.mem_map.1 hp
    exact (h4 x hx).1
  · intro p hp
    obtain ⟨x, hx, rfl⟩ := List.mem_map.1 hp
    exact (h4 x hx).2
  · exact ⟨l, by rw [hlen], h5⟩
end
end Go.Proofs.YtelailhghhjleaaDoor
