/- Slices of byte slices: one that came in, one of the call's own. -/
import Derived.Test.YtcfijljagohmlaaGreatDoorProg
import Derived.Test.YtcfijljagohmlaaGreatDoorBase2
namespace Go.Proofs.YtcfijljagohmlaaGreatDoor
open Go.RowKit

theorem own_ne {w : World} {b1 b2 n1 n2 s1 s2 : Nat} {e1 e2 : TypeId} {v1 v2 : Value} {x1 x2 : List Value} (h1 : w.ownsRow b1 e1 s1 v1 n1 x1) (h2 : w.ownsRow b2 e2 s2 v2 n2 x2) (hne : e1 ≠ e2) : ∀ g, v1.ownBlock = some g → v2.ownBlock ≠ some g := by
  intro g hg1 hg2
  rcases h1.2 with ⟨rfl, _⟩ | ⟨g1, c1, u1, rfl, _, k1, _⟩
  · cases hg1
  · rcases h2.2 with ⟨rfl, _⟩ | ⟨g2, c2, u2, rfl, _, k2, _⟩
    · cases hg2
    · simp [Value.ownBlock] at hg1 hg2
      subst hg1
      subst hg2
      rw [k1] at k2
      injection k2 with k2
      injection k2 with _ k2
      exact hne k2
/-- A slice of byte slices. -/
def RdBB (w : World) (B : Nat) (A : Option Addr) (bs : List (List UInt8)) : Prop :=
  0 < bs.length → ∃ ad, A = some ad ∧ ad.block < B ∧ ∀ (i : Nat) (b : List UInt8), bs[i]? = some b → ∃ A' c, w.cell? (ad.add i) = some (.slice A' b.length c) ∧ b.length ≤ c ∧ c ≤ maxLen ∧ Rd w B 1 A' b.length (b.map bv)
theorem RdBB.below {w w' : World} {B D : Nat} {A : Option Addr} {bs : List (List UInt8)} (h : RdBB w B A bs) (hb : Below D w w') (hD : B ≤ D) : RdBB w' B A bs := by
  intro hn
  obtain ⟨ad, e, hlt, hc⟩ := h hn
  refine ⟨ad, e, hlt, fun i l hi => ?_⟩
  obtain ⟨A', c, h1, h2, h3, h4⟩ := hc i l hi
  exact ⟨A', c, (hb.cell (by rw [block_add]; omega)).trans h1, h2, h3, h4.below hb hD⟩
theorem RdBB.more {w : World} {B B' : Nat} {A : Option Addr} {bs : List (List UInt8)} (h : RdBB w B A bs) (hB : B ≤ B') : RdBB w B' A bs := by
  intro hn
  obtain ⟨ad, e, hlt, hc⟩ := h hn
  refine ⟨ad, e, by omega, fun i l hi => ?_⟩
  obtain ⟨A', c, h1, h2, h3, h4⟩ := hc i l hi
  exact ⟨A', c, h1, h2, h3, h4.more hB⟩
theorem el_slB : Elt Tryz.prog 24 23 (.slice none 0 0) 1 24 := ⟨Tryz.underlying24, by kernel_rfl, rfl, by omega, by omega⟩
/-- A table as it lies in memory. -/
structure Bl where
  b : List UInt8
  A : Option Addr
  c : Nat
def Bl.val (e : Bl) : Value := .slice e.A e.b.length e.c
structure OwnBB (w : World) (base : Nat) (v : Value) (es : List Bl) : Prop where
  row : w.ownsRow base 23 1 v es.length (es.map Bl.val)
  ok : ∀ e ∈ es, w.ownsRow base 5 1 e.val e.b.length (e.b.map bv)
theorem OwnBB.start (w : World) (base : Nat) : OwnBB w base (.slice none 0 0) [] := ⟨World.ownsRow_nil _ _ _ _, fun _ h => (List.not_mem_nil h).elim⟩
theorem OwnBB.up {w w' : World} {base : Nat} {v : Value} {es : List Bl} (h : OwnBB w base v es) (hb : Below w.heap.size w w') : OwnBB w' base v es :=
  ⟨own_up h.row hb, fun e he => own_up (h.ok e he) hb⟩
theorem OwnBB.push {w w' : World} {base : Nat} {v v' : Value} {es : List Bl} {x : Bl} (h : OwnBB w base v es) (hx : w.ownsRow base 5 1 x.val x.b.length (x.b.map bv)) (hrow : w'.ownsRow base 23 1 v' (es.length + 1) (es.map Bl.val ++ [x.val])) (hg : w.grownBy w' v.ownBlock) : OwnBB w' base v' (es ++ [x]) := by
  refine ⟨by rw [List.length_append, List.map_append]; exact hrow, fun e he => ?_⟩
  rcases List.mem_append.1 he with he | he
  · exact own_far (h.ok e he) hg (own_ne (h.ok e he) h.row (by decide))
  · rw [List.mem_singleton.1 he]
    exact own_far hx hg (own_ne hx h.row (by decide))
theorem OwnBB.rd {w : World} {base : Nat} {v : Value} {es : List Bl} (h : OwnBB w base v es) : ∃ A c, v = .slice A es.length c ∧ es.length ≤ c ∧ c ≤ maxLen ∧ RdBB w w.heap.size A (es.map Bl.b) := by
  obtain ⟨A, c, e, h1, h2, _, h3⟩ := own_form h.row
  refine ⟨A, c, e, h1, h2, fun hn => ?_⟩
  obtain ⟨ad, e2, hb, hc⟩ := h3.2 (by simpa using hn)
  refine ⟨ad, e2, hb, fun i l hl => ?_⟩
  rw [List.getElem?_map, Option.map_eq_some_iff] at hl
  obtain ⟨x, hx, rfl⟩ := hl
  obtain ⟨A', c', e', k1, k2, _, k3⟩ := own_form (h.ok x (List.mem_of_getElem? hx))
  unfold Bl.val at e'
  injection e' with e3 _ e5
  rw [← e3] at k3
  rw [← e5] at k1 k2
  exact ⟨x.A, x.c, hc i x.val (by rw [List.getElem?_map, hx]; rfl), k1, k2, k3⟩
end Go.Proofs.YtcfijljagohmlaaGreatDoor
