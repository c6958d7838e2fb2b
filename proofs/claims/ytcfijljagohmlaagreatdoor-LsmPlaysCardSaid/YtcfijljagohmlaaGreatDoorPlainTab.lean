/- Tables as plain data. No program in sight. -/
import Derived.Test.YtcfijljagohmlaaGreatDoorPlainBacks
namespace Go.Proofs.YtcfijljagohmlaaGreatDoor
open Go.RowKit

/-- An entry: a key, a value, or that there is none any more. -/
structure Ent where
  key : ByteArray
  value : ByteArray
  dead : Bool
def Ent.cells (e : Ent) : List Value := [.string e.key, .string e.value, .bool e.dead]
def Ent.val (e : Ent) : Value := .agg #[.string e.key, .string e.value, .bool e.dead]
def entCells (l : List Ent) : List Value := l.flatMap Ent.cells
def Ent.Ok (e : Ent) : Prop := e.key.size ≤ 9223372036854775807 ∧ e.value.size ≤ 9223372036854775807

/-- Is one key below another one? -/
def keyLt (a b : ByteArray) : Bool := Op.bytesLess a.toList b.toList
/-- The fault of an entry. -/
def entE (e : Ent) : Nat := if 120 < e.key.size ∨ 120 < e.value.size then 1 else if e.dead = true ∧ e.value.toList ≠ [] then 3 else 0
/-- Does an entry not rise behind another one? -/
def stuck (p : Option Ent) (e : Ent) : Bool := match p with | none => false | some q => !keyLt q.key e.key
/-- The first fault of entries behind one. -/
def entsGo : Option Ent → List Ent → Nat
  | _, [] => 0
  | p, e :: r => if entE e ≠ 0 then entE e else if stuck p e = true then 5 else entsGo (some e) r
def entsE (l : List Ent) : Nat := if 400 < l.length then 4 else entsGo none l
def deadB (d : Bool) : UInt8 := if d then 1 else 0
def entB (e : Ent) : List UInt8 := textB e.key.data.toList ++ [deadB e.dead] ++ textB e.value.data.toList
def tabIn (l : List Ent) : List UInt8 := numB l.length ++ l.flatMap entB
def tabB (l : List Ent) : List UInt8 := if entsE l = 0 then sealB (tabIn l) else []
def prevE (l : List Ent) (k : Nat) : Option Ent := if k = 0 then none else l[k - 1]?

theorem entsE_of {l : List Ent} {e : Nat} (h : l.length ≤ 400) (hg : entsGo none l = e) : entsE l = e := by rw [entsE, if_neg (by omega), hg]
theorem tabB_bad {l : List Ent} {e : Nat} (h : entsE l = e) (he : e ≠ 0) : tabB l = [] := by rw [tabB, if_neg (by omega)]
theorem tabB_good {l : List Ent} (h : entsE l = 0) : tabB l = sealB (tabIn l) := by rw [tabB, if_pos h]
theorem entsE_long {l : List Ent} (h : 400 < l.length) : entsE l = 4 := by rw [entsE, if_pos h]
theorem drop_ent {l : List Ent} {k : Nat} {r : Ent} (h : l[k]? = some r) : l.drop k = r :: l.drop (k + 1) := by
  obtain ⟨hk, rfl⟩ := List.getElem?_eq_some_iff.1 h
  exact List.drop_eq_getElem_cons hk
theorem prevE_at {l : List Ent} {j : Nat} {q : Ent} (hq : l[j]? = some q) : prevE l (j + 1) = some q := by
  rw [prevE, if_neg (by omega), show j + 1 - 1 = j from rfl, hq]
theorem ego_bad {l : List Ent} {k : Nat} {r : Ent} (h : l[k]? = some r) (hr : entE r ≠ 0) : entsGo (prevE l k) (l.drop k) = entE r := by
  rw [drop_ent h, entsGo, if_pos hr]
theorem ego_order {l : List Ent} {j : Nat} {q r : Ent} (hq : l[j]? = some q) (h : l[j + 1]? = some r) (hr : entE r = 0) (hc : keyLt q.key r.key = false) : entsGo (prevE l (j + 1)) (l.drop (j + 1)) = 5 := by
  rw [drop_ent h, entsGo, if_neg (by simp [hr]), prevE_at hq, if_pos (by simp [stuck, hc])]
theorem ego_next0 {l : List Ent} {r : Ent} (h : l[0]? = some r) (hr : entE r = 0) : entsGo (prevE l 0) (l.drop 0) = entsGo (prevE l 1) (l.drop 1) := by
  rw [drop_ent h, entsGo, if_neg (by simp [hr]), if_neg (by simp [prevE, stuck])]
  simp [prevE, h]
theorem ego_next {l : List Ent} {j : Nat} {q r : Ent} (hq : l[j]? = some q) (h : l[j + 1]? = some r) (hr : entE r = 0) (hc : keyLt q.key r.key = true) : entsGo (prevE l (j + 1)) (l.drop (j + 1)) = entsGo (prevE l (j + 1 + 1)) (l.drop (j + 1 + 1)) := by
  rw [drop_ent h, entsGo, if_neg (by simp [hr]), prevE_at hq, if_neg (by simp [stuck, hc]), prevE_at h]
theorem ents_step {l : List Ent} {k : Nat} {r : Ent} (h : l[k]? = some r) :
    ((l.take (k + 1)).flatMap entB).map bv = ((l.take k).flatMap entB).map bv ++ (textB r.key.data.toList).map bv ++ [bv (deadB r.dead)] ++ (textB r.value.data.toList).map bv := by
  rw [List.take_add_one, h]
  simp [entB]
theorem entE_good {r : Ent} (h : entE r = 0) : r.key.size ≤ 120 ∧ r.value.size ≤ 120 ∧ (r.dead = true → r.value.toList = []) := by
  unfold entE at h
  split at h
  · cases h
  · split at h
    · cases h
    · rename_i h1 h2
      refine ⟨by omega, by omega, fun hd => ?_⟩
      exact Classical.byContradiction fun hv => h2 ⟨hd, hv⟩

/-- The cells of the entry at k, and where they lie. -/
theorem Rd.ent_ {w w' : World} {B D n k : Nat} {A : Option Addr} {l : List Ent} (h : Rd w B 3 A n (entCells l)) (hk : k < n) (hl : l.length = n) (hb : Below D w w') (hD : B ≤ D) :
    ∃ ad, ∃ r : Ent, A = some ad ∧ (ad.add (k * 3)).block < B ∧ l[k]? = some r ∧ w'.cell? (ad.add (k * 3)) = some (.string r.key) ∧ w'.cell? ⟨(ad.add (k * 3)).block, (ad.add (k * 3)).off + 1, none⟩ = some (.string r.value) ∧
      w'.cell? ⟨(ad.add (k * 3)).block, (ad.add (k * 3)).off + 2, none⟩ = some (.bool r.dead) := by
  obtain ⟨ad, rfl, hbb, hc⟩ := (h.below hb hD).2 (by omega)
  have hr : l[k]? = some l[k] := List.getElem?_eq_getElem (by omega)
  have hat : ∀ j, j < 3 → (entCells l)[k * 3 + j]? = (l[k].cells)[j]? := fun j hj => by
    rw [entCells, flat_at Ent.cells 3 (fun _ => rfl) l k j hj, hr]; rfl
  refine ⟨ad, l[k], rfl, by rw [block_add]; exact hbb, hr, hc _ _ ((hat 0 (by omega)).trans rfl), ?_, ?_⟩
  · rw [← add_more]; exact hc _ _ ((hat 1 (by omega)).trans rfl)
  · rw [← add_more]; exact hc _ _ ((hat 2 (by omega)).trans rfl)
/-- Three cells in a row behind a call. -/
theorem keepc {w w' : World} {D : Nat} {p : Addr} {x y z : Value} (hb : Below D w w') (hp : p.block < D) (h0 : w.cell? p = some x) (h1 : w.cell? ⟨p.block, p.off + 1, none⟩ = some y) (h2 : w.cell? ⟨p.block, p.off + 2, none⟩ = some z) :
    w'.cell? p = some x ∧ w'.cell? ⟨p.block, p.off + 1, none⟩ = some y ∧ w'.cell? ⟨p.block, p.off + 2, none⟩ = some z :=
  ⟨(hb.cell hp).trans h0, (hb.cell (p := ⟨p.block, p.off + 1, none⟩) hp).trans h1, (hb.cell (p := ⟨p.block, p.off + 2, none⟩) hp).trans h2⟩
theorem cells3 {w : World} {g : Nat} {t : TypeId} {x y z : Value} (h : Blk w g t #[x, y, z]) : w.cell? ⟨g, 0, none⟩ = some x ∧ w.cell? ⟨g, 1, none⟩ = some y ∧ w.cell? ⟨g, 2, none⟩ = some z := ⟨h.cell 0, h.cell 1, h.cell 2⟩
theorem entCells_snoc (acc : List Ent) (r : Ent) : entCells (acc ++ [r]) = entCells acc ++ r.cells := by simp [entCells]

/-! ### Entries out of bytes -/
/-- The byte that says whether an entry is dead. -/
def byteS (l : List UInt8) : Option Nat → Bool × Option Nat
  | none => (false, none)
  | some a => if a < l.length then ((l.getD a 0).toNat == 1, if 1 < (l.getD a 0).toNat then none else some (a + 1)) else (false, some a)
/-- An entry out of bytes, and where the reader stands behind it, what stands ahead of it not yet looked at. -/
def entS (l : List UInt8) (s : Option Nat) : Ent × Option Nat :=
  (⟨⟨(textS l 120 s).1.toArray⟩, ⟨(textS l 120 (byteS l (textS l 120 s).2).2).1.toArray⟩, (byteS l (textS l 120 s).2).1⟩, (textS l 120 (byteS l (textS l 120 s).2).2).2)
/-- The reader behind the look at the entry and at what stands ahead. -/
def lookS (p : Option Ent) (e : Ent) (s : Option Nat) : Option Nat := if stuck p e = true ∨ entE e ≠ 0 then none else s
def entsS (l : List UInt8) : Nat → Option Ent → Option Nat → List Ent × Option Nat
  | 0, _, s => ([], s)
  | m + 1, p, s => match lookS p (entS l s).1 (entS l s).2 with
    | none => ([], none)
    | some a => ((entS l s).1 :: (entsS l m (some (entS l s).1) (some a)).1, (entsS l m (some (entS l s).1) (some a)).2)
/-- The entries that some bytes inside a piece are, if they are any. -/
def readIn (l : List UInt8) : Option (List Ent) :=
  let r := entsS l (uptoS l 400 (some 0)).1.toNat none (uptoS l 400 (some 0)).2
  if endS l r.2 then some r.1 else none
/-- The entries that some bytes are, if they are any. -/
def readTab (b : List UInt8) : Option (List Ent) := match openS b with
  | none => none
  | some (i, n) => if n = b.length then readIn i else none
def rtE (l : List UInt8) : Nat := if (readTab l).isSome then 0 else 9
theorem rtE_none {l : List UInt8} (h : readTab l = none) : rtE l = 9 := by rw [rtE, h]; rfl
theorem rtE_some {l : List UInt8} {r : List Ent} (h : readTab l = some r) : rtE l = 0 := by rw [rtE, h]; rfl

theorem entsS_bad {l : List UInt8} {m : Nat} {p : Option Ent} {s : Option Nat} (h : lookS p (entS l s).1 (entS l s).2 = none) : entsS l (m + 1) p s = ([], none) := by rw [entsS, h]
theorem entsS_good {l : List UInt8} {m a : Nat} {p : Option Ent} {s : Option Nat} (h : lookS p (entS l s).1 (entS l s).2 = some a) :
    entsS l (m + 1) p s = ((entS l s).1 :: (entsS l m (some (entS l s).1) (some a)).1, (entsS l m (some (entS l s).1) (some a)).2) := by rw [entsS, h]
def lastE (acc : List Ent) : Option Ent := acc.getLast?
theorem lastE_snoc (acc : List Ent) (r : Ent) : lastE (acc ++ [r]) = some r := by simp [lastE]
theorem byteS_bd (l : List UInt8) (s : Option Nat) (h : Stands l s) : Stands l (byteS l s).2 := by
  rcases s with _ | a
  · exact h
  · have ha := h a rfl
    simp only [byteS]
    split
    · simp only
      split
      · intro _ hh; cases hh
      · intro b hh; injection hh with hh; omega
    · exact h
theorem ent_parts (l : List UInt8) (s : Option Nat) (h : Stands l s) :
    ∃ (kb : List UInt8) (s1 : Option Nat) (d : Bool) (s2 : Option Nat) (vb : List UInt8) (s3 : Option Nat), textS l 120 s = (kb, s1) ∧ byteS l s1 = (d, s2) ∧ textS l 120 s2 = (vb, s3) ∧ entS l s = (⟨⟨kb.toArray⟩, ⟨vb.toArray⟩, d⟩, s3) ∧
      Stands l s1 ∧ Stands l s2 ∧ Stands l s3 ∧ kb.length ≤ 120 ∧ vb.length ≤ 120 := by
  have h1 := textS_bd l 120 s h (by omega)
  have h2 := byteS_bd l _ h1.1
  have h3 := textS_bd l 120 _ h2 (by omega)
  exact ⟨(textS l 120 s).1, (textS l 120 s).2, _, _, (textS l 120 (byteS l (textS l 120 s).2).2).1, _, rfl, rfl, rfl, rfl, h1.1, h2, h3.1, by omega, by omega⟩

/-- The loop's form: what has been read, and what is still to be read. -/
def Reads6 (l : List UInt8) (N : Nat) (s0 : Option Nat) (acc : List Ent) (k : Nat) (s : Option Nat) : Prop :=
  entsS l N none s0 = (acc ++ (entsS l (N - k) (lastE acc) s).1, (entsS l (N - k) (lastE acc) s).2)
theorem Reads6.start (l : List UInt8) (N : Nat) (s0 : Option Nat) : Reads6 l N s0 [] 0 s0 := by simp [Reads6, lastE]
theorem Reads6.step {l : List UInt8} {N k : Nat} {s0 s s4 : Option Nat} {acc : List Ent} {r : Ent} {a : Nat} (h : Reads6 l N s0 acc k s) (hk : k < N) (hr : entS l s = (r, s4)) (hs : lookS (lastE acc) r s4 = some a) : Reads6 l N s0 (acc ++ [r]) (k + 1) (some a) := by
  have e : N - k = (N - (k + 1)) + 1 := by omega
  unfold Reads6 at *
  rw [h, e, entsS_good (by rw [hr]; exact hs), hr, lastE_snoc]
  simp
theorem Reads6.bad {l : List UInt8} {N k : Nat} {s0 s s4 : Option Nat} {acc : List Ent} {r : Ent} (h : Reads6 l N s0 acc k s) (hk : k < N) (hr : entS l s = (r, s4)) (hs : lookS (lastE acc) r s4 = none) : entsS l N none s0 = (acc, none) := by
  have e : N - k = (N - (k + 1)) + 1 := by omega
  unfold Reads6 at h
  rw [h, e, entsS_bad (by rw [hr]; exact hs)]
  simp
theorem Reads6.done {l : List UInt8} {N k : Nat} {s0 s : Option Nat} {acc : List Ent} (h : Reads6 l N s0 acc k s) (hk : N ≤ k) : entsS l N none s0 = (acc, s) := by
  unfold Reads6 at h
  rw [h, show N - k = 0 from by omega]
  simp [entsS]

/-! ### What is written is read as it was -/
theorem byteS_at {l : List UInt8} {a : Nat} {d : Bool} {r : List UInt8} (h : Rest l a ([deadB d] ++ r)) : byteS l (some a) = (d, some (a + 1)) := by
  have hl := h.len
  simp only [List.length_append, List.length_singleton] at hl
  have hg : l.getD a 0 = deadB d := by
    have := h.2
    rw [drop_byte (by omega)] at this
    simp only [List.cons_append, List.nil_append, List.cons.injEq] at this
    exact this.1
  rw [byteS, if_pos (by omega), hg]
  cases d <;> rfl
theorem entS_at {l : List UInt8} {a : Nat} {x : Ent} {r : List UInt8} (h : Rest l a (entB x ++ r)) (hx : entE x = 0) : entS l (some a) = (x, some (a + (entB x).length)) := by
  obtain ⟨h1, h2, _⟩ := entE_good hx
  rw [entB, List.append_assoc, List.append_assoc] at h
  have hks : x.key.data.toList.length = x.key.size := by rw [Array.length_toList]; rfl
  have hvs : x.value.data.toList.length = x.value.size := by rw [Array.length_toList]; rfl
  have e1 := textS_at (most := 120) h (by rw [hks]; omega) (by rw [hks]; omega)
  have e2 := byteS_at h.on
  have e3 := textS_at (most := 120) (h.on.on : Rest l (a + (textB x.key.data.toList).length + 1) _) (by rw [hvs]; omega) (by rw [hvs]; omega)
  simp only [List.length_singleton] at e3
  rw [entS, e1]
  simp only
  rw [e2]
  simp only
  rw [e3]
  simp [entB, Nat.add_assoc, Nat.add_comm, Nat.add_left_comm]
theorem entsGo_cons {p : Option Ent} {x : Ent} {xs : List Ent} (h : entsGo p (x :: xs) = 0) : entE x = 0 ∧ stuck p x = false ∧ entsGo (some x) xs = 0 := by
  rw [entsGo] at h
  split at h
  · rename_i h1; exact absurd h h1
  · rename_i h1
    split at h
    · cases h
    · rename_i h2
      exact ⟨by simpa using h1, by simpa using h2, h⟩
theorem entsS_at {l : List UInt8} : ∀ (xs : List Ent) (p : Option Ent) (a : Nat) (r : List UInt8), Rest l a (xs.flatMap entB ++ r) → entsGo p xs = 0 → entsS l xs.length p (some a) = (xs, some (a + (xs.flatMap entB).length)) := by
  intro xs
  induction xs with
  | nil => intro p a r _ _; simp [entsS]
  | cons x xs ih =>
    intro p a r h hgo
    rw [List.flatMap_cons, List.append_assoc] at h
    obtain ⟨h1, h2, h3⟩ := entsGo_cons hgo
    have e := entS_at h h1
    have hr : lookS p (entS l (some a)).1 (entS l (some a)).2 = some (a + (entB x).length) := by rw [e]; simp [lookS, h2, h1]
    rw [List.length_cons, entsS_good hr, e, ih _ _ r h.on h3]
    simp [Nat.add_assoc]
theorem ents_read {xs : List Ent} (h : entsE xs = 0) : readIn (tabIn xs) = some xs := by
  unfold entsE at h
  split at h
  · cases h
  · rename_i hl
    have hR : Rest (tabIn xs) 0 (numB xs.length ++ (xs.flatMap entB ++ [])) := by rw [List.append_nil]; exact Rest.start _
    have e1 := uptoS_at (most := 400) hR ⟨by omega, by omega⟩ (by omega) (by omega)
    have e2 := entsS_at xs none _ [] hR.on h
    have hlen := hR.on.on.len
    unfold readIn
    rw [e1]
    simp only [Int.toNat_natCast]
    rw [e2]
    have h2 : endS (tabIn xs) (some (0 + (numB (xs.length : Int)).length + (xs.flatMap entB).length)) = true := by simpa [endS] using hlen
    simp only [h2, if_true]
theorem entsGo_all : ∀ (l : List Ent) (p : Option Ent), entsGo p l = 0 → ∀ r ∈ l, entE r = 0 := by
  intro l
  induction l with
  | nil => intro p _ r hr; cases hr
  | cons x l ih =>
    intro p h r hr
    obtain ⟨h1, h2, h3⟩ := entsGo_cons h
    rcases List.mem_cons.1 hr with rfl | hr
    · exact h1
    · exact ih _ h3 r hr
theorem entsE_all {l : List Ent} (h : entsE l = 0) : l.length ≤ 400 ∧ ∀ r ∈ l, entE r = 0 := by
  unfold entsE at h
  split at h
  · cases h
  · exact ⟨by omega, entsGo_all l none h⟩
theorem tabIn_le {l : List Ent} (h : entsE l = 0) : (tabIn l).length ≤ 120000 := by
  obtain ⟨hl, hall⟩ := entsE_all h
  have h1 := flat_le entB 261 l fun r hr => by
    obtain ⟨a1, a2, _⟩ := entE_good (hall r hr)
    have h2 := textB_le r.key 120 a1
    have h3 := textB_le r.value 120 a2
    simp only [entB, List.length_append, List.length_singleton]; omega
  have h5 := numB_le (l.length : Int)
  rw [tabIn, List.length_append]; omega
theorem tab_read {l : List Ent} (h : entsE l = 0) : readTab (tabB l) = some l := by
  have hlen := tabIn_le h
  have := open_seal (tabIn l) [] (by omega)
  rw [List.append_nil] at this
  rw [readTab, tabB_good h, this]
  simp only [if_true]
  exact ents_read h
end Go.Proofs.YtcfijljagohmlaaGreatDoor
