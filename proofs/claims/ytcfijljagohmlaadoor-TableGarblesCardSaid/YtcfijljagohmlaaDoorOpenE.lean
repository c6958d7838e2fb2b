/- Arguments that are slices of entries, in the walks' words. -/
import Derived.Test.YtcfijljagohmlaaDoorOpenR
import Derived.Test.YtcfijljagohmlaaDoorPlainTab
namespace Go.Proofs.YtcfijljagohmlaaDoor
open Go.ChangeShapes Go.WideShapes Go.ChangeAt Go.RowKit Go.Deep
section
variable {H : Type} {enc : TypeId × Value → H} {P : Program} {W : World}
def Ent.data (r : Ent) : DataW H := .agg [.lit (.string r.key.data.toList), .lit (.string r.value.data.toList), .lit (.bool r.dead)]
/-- A []api.Entry that came in. -/
theorem open_ents {t e s b : TypeId} {f0 f1 f2 : Field} (ht : P.underlying t = some (.slice e)) (he : P.underlying e = some (.struct #[f0, f1, f2])) (hone : oneCellFields P #[f0, f1, f2] = true) (hC : P.cellsOf e = 3)
    (hs : P.underlying s = some .string) (hb : P.underlying b = some .bool) (t0 : f0.type = s) (t1 : f1.type = s) (t2 : f2.type = b)
    {v : Value} {r : Reach} {base : Nat} {d : DataW H} {p : List MemPlace} (hv : Value.okWide P W r base t v) (h : DataW.Trod enc P W 0 (fun _ => true) true t v d p) :
    ∃ (A : Option Addr) (c : Nat) (l : List Ent), v = .slice A l.length c ∧ l.length ≤ c ∧ c ≤ maxLen ∧ Rd W W.heap.size 3 A l.length (entCells l) ∧ (∀ x ∈ l, x.key.size ≤ maxLen ∧ x.value.size ≤ maxLen) ∧
      ((d = .nil ∧ l = []) ∨ ∃ spare, d = .slice (l.map Ent.data) spare) := by
  refine open_rows ht he hone hC (by simp) hv h Ent.cells Ent.data _ (fun _ => rfl) ?_
  intro vs ys ⟨hl, hy, hf⟩
  obtain ⟨v0, y0, q0, n0, a0, b0, c0⟩ := hf 0 f0 rfl
  obtain ⟨v1, y1, q1, n1, a1, b1, c1⟩ := hf 1 f1 rfl
  obtain ⟨v2, y2, q2, n2, a2, b2, c2⟩ := hf 2 f2 rfl
  rw [t0] at c0; rw [t1] at c1; rw [t2] at c2
  obtain ⟨s0, e0, g0, k0⟩ := DataW.trod_string hs c0
  obtain ⟨s1, e1, g1, k1⟩ := DataW.trod_string hs c1
  obtain ⟨z2, e2, g2⟩ := DataW.trod_bool hb c2
  simp only [List.cons.injEq, and_true, Prod.mk.injEq] at e0 e1 e2 g0 g1 g2
  obtain ⟨g0, -⟩ := g0; obtain ⟨g1, -⟩ := g1; obtain ⟨g2, -⟩ := g2
  subst e0 e1 e2 g0 g1 g2
  refine ⟨⟨s0, s1, z2⟩, ?_, ?_, k0, k1⟩
  · match vs, hl with
    | [_, _, _], _ => simp at a0 a1 a2; simp [Ent.cells, a0, a1, a2]
  · match ys, hy with
    | [_, _, _], _ => simp at b0 b1 b2; simp [Ent.data, b0, b1, b2]
end
end Go.Proofs.YtcfijljagohmlaaDoor
