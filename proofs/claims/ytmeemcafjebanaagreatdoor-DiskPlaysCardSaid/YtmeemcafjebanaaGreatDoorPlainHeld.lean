/- States as plain data. No program in sight. -/
import Derived.Test.YtmeemcafjebanaaGreatDoorPlainRead2
import Derived.Test.YtmeemcafjebanaaGreatDoorPlainCmp
namespace Go.Proofs.YtmeemcafjebanaaGreatDoor
open Go.RowKit

/-- A state: of a node, of a key. -/
structure Hld where
  node : Int
  key : ByteArray
  a : Int
  b : Int
def Hld.cells (h : Hld) : List Value := [.int .i64 h.node, .string h.key, .int .i64 h.a, .int .i64 h.b]
def Hld.val (h : Hld) : Value := .agg #[.int .i64 h.node, .string h.key, .int .i64 h.a, .int .i64 h.b]
def hldCells (l : List Hld) : List Value := l.flatMap Hld.cells
def Hld.Ok (h : Hld) : Prop := h.key.size ≤ 9223372036854775807 ∧ i64ok h.node ∧ i64ok h.a ∧ i64ok h.b

/-- Is it a state? -/
def hldOk (h : Hld) : Bool := decide (0 ≤ h.node) && decide (h.node < 12) && decide (h.key.size ≤ 40)
/-- How two states stand to each other. -/
def cmpH (x y : Hld) : Int := orI (cmpI x.node y.node) (cmpS x.key y.key)
theorem cmpH_bd (x y : Hld) : -1 ≤ cmpH x y ∧ cmpH x y ≤ 1 := by
  have h1 := cmpI_bd x.node y.node
  have h2 := cmpS_bd x.key y.key
  unfold cmpH orI; split <;> omega

/-- The cells of the state at k. -/
theorem Rd.hld_ {w w' : World} {B D n k : Nat} {A : Option Addr} {l : List Hld} (h : Rd w B 4 A n (hldCells l)) (hk : k < n) (hl : l.length = n) (hb : Below D w w') (hD : B ≤ D) :
    ∃ ad, ∃ r : Hld, A = some ad ∧ (ad.add (k * 4)).block < B ∧ l[k]? = some r ∧ w'.cell? (ad.add (k * 4)) = some (.int .i64 r.node) ∧ w'.cell? ⟨(ad.add (k * 4)).block, (ad.add (k * 4)).off + 1, none⟩ = some (.string r.key) ∧
      w'.cell? ⟨(ad.add (k * 4)).block, (ad.add (k * 4)).off + 2, none⟩ = some (.int .i64 r.a) ∧ w'.cell? ⟨(ad.add (k * 4)).block, (ad.add (k * 4)).off + 3, none⟩ = some (.int .i64 r.b) := by
  obtain ⟨ad, rfl, hbb, hc⟩ := (h.below hb hD).2 (by omega)
  have hr : l[k]? = some l[k] := List.getElem?_eq_getElem (by omega)
  have hat : ∀ j, j < 4 → (hldCells l)[k * 4 + j]? = (l[k].cells)[j]? := fun j hj => by
    rw [hldCells, flat_at Hld.cells 4 (fun _ => rfl) l k j hj, hr]; rfl
  refine ⟨ad, l[k], rfl, by rw [block_add]; exact hbb, hr, hc _ _ ((hat 0 (by omega)).trans rfl), ?_, ?_, ?_⟩
  · rw [← add_more]; exact hc _ _ ((hat 1 (by omega)).trans rfl)
  · rw [← add_more]; exact hc _ _ ((hat 2 (by omega)).trans rfl)
  · rw [← add_more]; exact hc _ _ ((hat 3 (by omega)).trans rfl)

/-- Four cells in a row behind a call. -/
theorem keep4 {w w' : World} {D : Nat} {p : Addr} {x y z u : Value} (hb : Below D w w') (hp : p.block < D) (h0 : w.cell? p = some x) (h1 : w.cell? ⟨p.block, p.off + 1, none⟩ = some y) (h2 : w.cell? ⟨p.block, p.off + 2, none⟩ = some z) (h3 : w.cell? ⟨p.block, p.off + 3, none⟩ = some u) :
    w'.cell? p = some x ∧ w'.cell? ⟨p.block, p.off + 1, none⟩ = some y ∧ w'.cell? ⟨p.block, p.off + 2, none⟩ = some z ∧ w'.cell? ⟨p.block, p.off + 3, none⟩ = some u :=
  ⟨(hb.cell hp).trans h0, (hb.cell (p := ⟨p.block, p.off + 1, none⟩) hp).trans h1, (hb.cell (p := ⟨p.block, p.off + 2, none⟩) hp).trans h2, (hb.cell (p := ⟨p.block, p.off + 3, none⟩) hp).trans h3⟩
end Go.Proofs.YtmeemcafjebanaaGreatDoor
