/- How much an argument holds. -/
import Derived.Test.YtelailhghhjleaaOpenR
import Derived.Test.YtelailhghhjleaaRows
import Derived.JoinedCond
namespace Go.Proofs.Ytelailhghhjleaa
open Go.RowKit
section
/-! ### How much -/
theorem bulk_one {H : Type} (d : DataW H) : 1 ≤ Rows.uptoBulk d := by
  cases d with
  | lit l => cases l <;> simp [Rows.uptoBulk]
  | nil => simp [Rows.uptoBulk]
  | ptr d => simp [Rows.uptoBulk]
  | slice elems spare => simp [Rows.uptoBulk]
  | agg parts => simp [Rows.uptoBulk]
  | iface t d => simp [Rows.uptoBulk]
  | map entries => simp [Rows.uptoBulk]
  | held h => simp [Rows.uptoBulk]
theorem bulk_part {H : Type} {d : DataW H} {l : List (DataW H)} (h : d ∈ l) : Rows.uptoBulk d ≤ Rows.uptoBulkAll l := by
  induction l with
  | nil => cases h
  | cons x r ih =>
    simp only [Rows.uptoBulkAll]
    rcases List.mem_cons.1 h with e | e
    · subst e; omega
    · have := ih e; omega
theorem bulk_len {H : Type} (l : List (DataW H)) : l.length ≤ Rows.uptoBulkAll l := by
  induction l with
  | nil => simp [Rows.uptoBulkAll]
  | cons x r ih => have := bulk_one x; simp only [Rows.uptoBulkAll, List.length_cons]; omega
theorem bulk_elems {H : Type} (elems spare : List (DataW H)) : Rows.uptoBulkAll elems ≤ Rows.uptoBulk (.slice elems spare) := by
  simp only [Rows.uptoBulk]; omega
theorem bulk_bound {H : Type} {l : List (DataW H)} (h : Rows.uptoSmall H l = true) : Rows.uptoBulkAll l ≤ 1048576 := of_decide_eq_true h
theorem bulk_rows {H : Type} {α : Type} {l : List α} {d : DataW H} {data : α → DataW H} {B : Nat} (hd : (d = .nil ∧ l = []) ∨ ∃ spare, d = .slice (l.map data) spare) (hB : Rows.uptoBulk d ≤ B) : l.length ≤ B ∧ ∀ x ∈ l, Rows.uptoBulk (data x) ≤ B := by
  rcases hd with ⟨_, rfl⟩ | ⟨spare, rfl⟩
  · exact ⟨Nat.zero_le _, fun _ h => absurd h List.not_mem_nil⟩
  · have h1 := bulk_elems (l.map data) spare
    have h2 := bulk_len (l.map data)
    simp only [List.length_map] at h2
    exact ⟨by omega, fun x hx => by have := bulk_part (List.mem_map_of_mem (f := data) hx); omega⟩
theorem bulk_bytes {H : Type} {l : List UInt8} {c : Nat} {d : DataW H} {B : Nat} (hd : (d = .nil ∧ c = 0) ∨ ∃ elems spare, d = .slice elems spare ∧ elems.length = l.length ∧ elems.length + spare.length = c) (hl : l.length ≤ c) (hB : Rows.uptoBulk d ≤ B) : l.length ≤ B := by
  rcases hd with ⟨_, rfl⟩ | ⟨elems, spare, rfl, h1, _⟩
  · omega
  · have h2 := bulk_elems elems spare
    have h3 := bulk_len elems
    omega
theorem bulk_rec {H : Type} {r : Rec} {B : Nat} (h : Rows.uptoBulk (Rec.data (H := H) r) ≤ B) : r.key.size ≤ B := by
  simp only [Rec.data, Rows.uptoBulk, Rows.uptoBulkAll, Array.length_toList] at h
  have : r.key.data.size = r.key.size := rfl
  omega
theorem bulk_hld {H : Type} {r : Hld} {B : Nat} (h : Rows.uptoBulk (Hld.data (H := H) r) ≤ B) : r.key.size ≤ B := by
  simp only [Hld.data, Rows.uptoBulk, Rows.uptoBulkAll, Array.length_toList] at h
  have : r.key.data.size = r.key.size := rfl
  omega
end
end Go.Proofs.Ytelailhghhjleaa
