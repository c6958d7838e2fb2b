/- Groups of numbers by keys in a map, as audit.Merge makes them and den.Lines takes them out again. -/
import Derived.Test.YtelailhghhjleaaDoorWalkLines
import Derived.Test.YtelailhghhjleaaDoorPlainMerge
import Derived.Maps.OwnRows
import Derived.Maps.GroupsBeside
import Derived.Maps.RangeWalk
namespace Go.Proofs.YtelailhghhjleaaDoor
open Go.RowKit Go.Maps Go.ChangeShapes Go.WideMaps

/-- A key as the map has it. -/
def klS (k : ByteArray) : Lit := .string k.data.toList
theorem klS_inj {a b : ByteArray} (h : klS a = klS b) : a = b := by
  injection h with h
  have : a.data = b.data := Array.toList_inj.1 h
  cases a; cases b; simp at this; rw [this]
theorem kstr : Keyed Tryd.prog 9 := string_keyed Tryd.underlying9
theorem klS_key {k : ByteArray} (h : k.size ≤ maxLen) : keyOf Tryd.prog 9 (.string k) = some (klS k) := keyOf_string_mk Tryd.underlying9 h
theorem keyOf_str_inv {key : Value} {kl : Lit} (h : keyOf Tryd.prog 9 key = some kl) : ∃ k : ByteArray, key = .string k := by
  rw [keyOf_string Tryd.underlying9] at h
  cases key with
  | string k => exact ⟨k, rfl⟩
  | _ => simp [mapKey, Tryd.underlying9] at h
theorem keyOf_str_kl {k : ByteArray} {kl : Lit} (h : keyOf Tryd.prog 9 (.string k) = some kl) : kl = klS k := by
  rw [keyOf_string Tryd.underlying9] at h
  simp only [mapKey, Tryd.underlying9] at h
  split at h
  · injection h with h; exact h.symm
  · cases h
def rowD : Option (List Int) → DataW Unit
  | none => .nil
  | some ns => .slice (lits .i64 ns) []
/-- The map's datum, and the lines that it stands for. -/
structure Grp (D : DataW Unit) (L : List Ln) : Prop where
  rise : riseL L
  at_ : ∀ k : ByteArray, k.size ≤ maxLen → D.atKey (klS k) .nil = rowD (numsOf L k)
  dom : ∀ kl, Maps.has D kl = true → ∃ x ∈ L, kl = klS x.key
  some_ : ∀ x ∈ L, x.nums ≠ [] ∧ x.key.size ≤ maxLen
  ismap : IsMap D
theorem Grp.start : Grp (.map []) [] :=
  ⟨.nil, (fun _ _ => rfl), (fun _ h => by cases h), (fun _ h => (List.not_mem_nil h).elim), isMap_empty⟩
theorem Grp.add {D : DataW Unit} {L : List Ln} (h : Grp D L) {k : ByteArray} {ns : List Int} (hk : k.size ≤ maxLen) (hn : ns ≠ []) : Grp (D.put (klS k) (.slice (lits .i64 ((numsOf L k).getD [] ++ ns)) [])) (lnAdd k ns L) where
  rise := lnAdd_rise h.rise
  at_ := fun k' hk' => by
    rw [lnAdd_nums h.rise]
    by_cases e : k' = k
    · rw [if_pos e, e]; exact atKey_put_same h.ismap (by trivial) _ _
    · rw [if_neg e, atKey_put_other (fun h2 => e (klS_inj h2)) _ _]; exact h.at_ k' hk'
  dom := fun kl hkl => by
    by_cases e : kl = klS k
    · have : numsOf (lnAdd k ns L) k ≠ none := by rw [lnAdd_nums h.rise, if_pos rfl]; simp
      have : ∃ x ∈ lnAdd k ns L, x.key = k := by
        apply Classical.byContradiction
        intro hn
        exact this (numsOf_none.2 fun x hx e => hn ⟨x, hx, e⟩)
      obtain ⟨x, hx, e2⟩ := this
      exact ⟨x, hx, by rw [e, e2]⟩
    · rw [has_put_other e _] at hkl
      obtain ⟨x, hx, e2⟩ := h.dom kl hkl
      have : numsOf (lnAdd k ns L) x.key ≠ none := by
        rw [lnAdd_nums h.rise, if_neg (fun e3 => e (by rw [e2, e3])), numsOf_mem h.rise hx]; simp
      have : ∃ y ∈ lnAdd k ns L, y.key = x.key := by
        apply Classical.byContradiction
        intro hn
        exact this (numsOf_none.2 fun y hy e => hn ⟨y, hy, e⟩)
      obtain ⟨y, hy, e3⟩ := this
      exact ⟨y, hy, by rw [e2, e3]⟩
  some_ := fun x hx => by
    have h1 := numsOf_mem (lnAdd_rise h.rise) hx
    rw [lnAdd_nums h.rise] at h1
    by_cases e : x.key = k
    · rw [if_pos e] at h1
      injection h1 with h1
      exact ⟨by rw [← h1]; intro h2; exact hn (List.append_eq_nil_iff.1 h2).2, by rw [e]; exact hk⟩
    · rcases lnAdd_mem hx with h2 | h2
      · exact absurd h2 e
      · exact h.some_ x h2
  ismap := by
    obtain ⟨es, rfl⟩ := h.ismap
    exact ⟨_, rfl⟩
section
variable {W W' : World} {base M n : Nat} {D : DataW Unit} {L : List Ln}
/-- The groups as they lie in memory. -/
abbrev GrpIn (W : World) (base M n : Nat) (D : DataW Unit) : Prop := W.ownsGroups Tryd.prog 9 base 3 .i64 M n D
theorem groups_mono (h : GrpIn W base M n D) {n' : Nat} (hn : n ≤ n') : GrpIn W base M n' D := by
  obtain ⟨es, clock, hb, F, hs, hD, hbb, hlen, hap⟩ := h
  exact ⟨es, clock, hb, F, by omega, hD, hbb, fun x hx zs ho => Nat.le_trans (hlen x hx zs ho) hn, hap⟩
theorem groups_map (h : GrpIn W base M n D) : W.ownsMap Tryd.prog 9 (rowElem W base 3 .i64) M n D := by
  obtain ⟨es, clock, hb, F, hs, hD, _⟩ := h
  exact ⟨es, clock, hb, F, hs, hD⟩
end
theorem lits_inj {a b : List Int} (h : (lits (H := Unit) .i64 a) = lits .i64 b) : a = b := by
  induction a generalizing b with
  | nil => cases b with
    | nil => rfl
    | cons y ys => cases h
  | cons x xs ih =>
    cases b with
    | nil => cases h
    | cons y ys =>
      simp [lits] at h
      rw [h.1, ih (by simpa [lits] using h.2)]
end Go.Proofs.YtelailhghhjleaaDoor
