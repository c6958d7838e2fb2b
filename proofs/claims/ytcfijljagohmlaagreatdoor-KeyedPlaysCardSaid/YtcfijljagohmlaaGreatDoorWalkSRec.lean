/- The walks of the reference's Record, Records, ReadRecords. -/
import Derived.Test.YtcfijljagohmlaaGreatDoorWalkD2
import Derived.Test.YtcfijljagohmlaaGreatDoorWalkSeal
import Derived.Test.YtcfijljagohmlaaGreatDoorPlainRead2
namespace Go.Proofs.YtcfijljagohmlaaGreatDoor
open Go.RowKit

/-- The cells of the record at k, and where they lie. -/
theorem Rd.recb {w w' : World} {B D n k : Nat} {A : Option Addr} {l : List Rec} (h : Rd w B 3 A n (recCells l)) (hk : k < n) (hl : l.length = n) (hb : Below D w w') (hD : B ≤ D) :
    ∃ ad, ∃ r : Rec, A = some ad ∧ (ad.add (k * 3)).block < B ∧ l[k]? = some r ∧ w'.cell? (ad.add (k * 3)) = some (.string r.key) ∧ w'.cell? ⟨(ad.add (k * 3)).block, (ad.add (k * 3)).off + 1, none⟩ = some (.int .i64 r.num) ∧
      w'.cell? ⟨(ad.add (k * 3)).block, (ad.add (k * 3)).off + 2, none⟩ = some (.int .i64 r.time) := by
  obtain ⟨ad', e, hbb, _⟩ := h.2 (by omega)
  obtain ⟨ad, r, e2, h1, h2⟩ := h.rec_ hk hl hb hD
  rw [e] at e2; injection e2 with e2; subst e2
  exact ⟨ad', r, e, by rw [block_add]; exact hbb, h1, h2⟩
/-- A cell behind a call. -/
theorem cell_keep {w w' : World} {D : Nat} {p : Addr} {x : Value} (hb : Below D w w') (hp : p.block < D) (h : w.cell? p = some x) : w'.cell? p = some x := (hb.cell hp).trans h

end Go.Proofs.YtcfijljagohmlaaGreatDoor
