/- The walk of table.Merge. -/
import Derived.Test.YtcfijljagohmlaaGreatDoorWalkMix
import Derived.Test.YtcfijljagohmlaaGreatDoorWalkTabs
import Derived.Test.YtcfijljagohmlaaGreatDoorPlainTabOk
import Derived.Test.YtcfijljagohmlaaGreatDoorMemBB
namespace Go.Proofs.YtcfijljagohmlaaGreatDoor
open Go.RowKit

theorem el_slE : Elt Tryz.prog 115 57 (.slice none 0 0) 1 24 := ⟨Tryz.underlying115, by kernel_rfl, rfl, by omega, by omega⟩
/-- A list of entries as it lies in memory. -/
structure El where
  l : List Ent
  A : Option Addr
  c : Nat
def El.val (e : El) : Value := .slice e.A e.l.length e.c
structure OwnEE (w : World) (base : Nat) (v : Value) (es : List El) : Prop where
  row : w.ownsRow base 57 1 v es.length (es.map El.val)
  ok : ∀ e ∈ es, w.ownsRow base 67 3 e.val e.l.length (entCells e.l)
theorem OwnEE.up {w w' : World} {base : Nat} {v : Value} {es : List El} (h : OwnEE w base v es) (hb : Below w.heap.size w w') : OwnEE w' base v es :=
  ⟨own_up h.row hb, fun e he => own_up (h.ok e he) hb⟩
theorem OwnEE.push {w w' : World} {base : Nat} {v v' : Value} {es : List El} {x : El} (h : OwnEE w base v es) (hx : w.ownsRow base 67 3 x.val x.l.length (entCells x.l)) (hrow : w'.ownsRow base 57 1 v' (es.length + 1) (es.map El.val ++ [x.val])) (hg : w.grownBy w' v.ownBlock) : OwnEE w' base v' (es ++ [x]) := by
  refine ⟨by rw [List.length_append, List.map_append]; exact hrow, fun e he => ?_⟩
  rcases List.mem_append.1 he with he | he
  · exact own_far (h.ok e he) hg (own_ne (h.ok e he) h.row (by decide))
  · rw [List.mem_singleton.1 he]
    exact own_far hx hg (own_ne hx h.row (by decide))
theorem OwnEE.rd {w : World} {base : Nat} {v : Value} {es : List El} (h : OwnEE w base v es) : ∃ A c, v = .slice A es.length c ∧ es.length ≤ c ∧ c ≤ maxLen ∧ RdEE w w.heap.size A (es.map El.l) := by
  obtain ⟨A, c, e, h1, h2, _, h3⟩ := own_form h.row
  refine ⟨A, c, e, h1, h2, fun hn => ?_⟩
  obtain ⟨ad, e2, hb, hc⟩ := h3.2 (by simpa using hn)
  refine ⟨ad, e2, hb, fun i l hl => ?_⟩
  rw [List.getElem?_map, Option.map_eq_some_iff] at hl
  obtain ⟨x, hx, rfl⟩ := hl
  obtain ⟨A', c', e', k1, k2, _, k3⟩ := own_form (h.ok x (List.mem_of_getElem? hx))
  unfold El.val at e'
  injection e' with e3 _ e5
  rw [← e3] at k3
  rw [← e5] at k1 k2
  exact ⟨x.A, x.c, hc i x.val (by rw [List.getElem?_map, hx]; rfl), k1, k2, k3⟩
def readsL (bs : List (List UInt8)) : List (List Ent) := bs.map fun b => (readTab b).getD []
def tmE (bs : List (List UInt8)) (dead : Bool) : Nat := if bs.all (fun b => (readTab b).isSome) = true then entsE (mixO dead (readsL bs)) else 9
def tmB (bs : List (List UInt8)) (dead : Bool) : List UInt8 := if bs.all (fun b => (readTab b).isSome) = true then tabB (mixO dead (readsL bs)) else []
theorem mixO_mem {dead : Bool} {ls : List (List Ent)} {e : Ent} (h : e ∈ mixO dead ls) : ∃ l ∈ ls, e ∈ l := by
  have := mix_mem (List.mem_filter.1 h).1
  exact List.mem_flatten.1 this
theorem mixO_len {dead : Bool} {ls : List (List Ent)} : (mixO dead ls).length ≤ ls.flatten.length := Nat.le_trans (List.length_filter_le _ _) (mix_len _)
end Go.Proofs.YtcfijljagohmlaaGreatDoor
