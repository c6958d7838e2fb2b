/- What the law SharePlays' walk leans on. -/
import Derived.Test.YtmeemcafjebanaaGreatDoorPlainShare
import Derived.Test.YtmeemcafjebanaaGreatDoorKNamed
import Derived.Test.YtmeemcafjebanaaGreatDoorWalkAs
import Derived.Test.YtmeemcafjebanaaGreatDoorOpenII
import Derived.BigQuiet
import Derived.Deep.QuietTactic
namespace Go.Proofs.YtmeemcafjebanaaGreatDoor
open Go.RowKit Go.Maps Go.WideMaps

theorem cell_cells {w : World} {p : Addr} {u : Value} (h : w.cell? p = some u) : ∃ cs t f, w.heap[p.block]? = some (.cells cs t f) := by
  unfold World.cell? at h
  split at h
  · rename_i cs t f e
    exact ⟨_, _, _, e⟩
  · cases h
theorem keepM_cell {w w' : World} (h : KeepF offMap w w') {p : Addr} {u : Value} (hc : w.cell? p = some u) : w'.cell? p = some u := by
  obtain ⟨cs, t, f, e⟩ := cell_cells hc
  exact (World.cell?_of_block ((h.block p.block _ e rfl).trans e.symm)).trans hc
theorem Rd.keepM {w w' : World} {B size n : Nat} {A : Option Addr} {xs : List Value} (h : Rd w B size A n xs) (hk : KeepF offMap w w') : Rd w' B size A n xs :=
  ⟨h.1, fun hn => by
    obtain ⟨ad, rfl, hb, hc⟩ := h.2 hn
    exact ⟨ad, rfl, hb, fun j u hj => keepM_cell hk (hc j u hj)⟩⟩
/-- One of the files' beginnings. -/
def kvS (Af : Option Addr) (cf : Nat) (k : Nat) : Value := .slice Af k cf
/-- The law's two lists in memory. -/
structure ListsAt (w : World) (Af : Option Addr) (cf : Nat) (P Q : Value) (ps : List Int) (ks : List Nat) (n : Nat) : Prop where
  pl : ps.length = n
  kl : ks.length = n
  at_ : ∃ A c A' c', P = .slice A n c ∧ n ≤ c ∧ c ≤ maxLen ∧ Q = .slice A' n c' ∧ n ≤ c' ∧ c' ≤ maxLen ∧ Rd w w.heap.size 1 A n (ps.map (Value.int .i64)) ∧ Rd w w.heap.size 1 A' n (ks.map (kvS Af cf))
section
variable {w w' : World} {Af : Option Addr} {cf n : Nat} {P Q : Value} {ps : List Int} {ks : List Nat}
theorem ListsAt.keep (h : ListsAt w Af cf P Q ps ks n) (hk : KeepF offMap w w') : ListsAt w' Af cf P Q ps ks n := by
  obtain ⟨A, c, A', c', h1, h2, h3, h4, h5, h6, h7, h8⟩ := h.at_
  exact ⟨h.pl, h.kl, A, c, A', c', h1, h2, h3, h4, h5, h6, (h7.keepM hk).more hk.size, (h8.keepM hk).more hk.size⟩
theorem ListsAt.up (h : ListsAt w Af cf P Q ps ks n) (hb : Below w.heap.size w w') : ListsAt w' Af cf P Q ps ks n := h.keep (keepF_below hb)
theorem ListsAt.start (w : World) (Af : Option Addr) (cf : Nat) : ListsAt w Af cf (.slice none 0 0) (.slice none 0 0) [] [] 0 := ⟨rfl, rfl, none, 0, none, 0, rfl, Nat.le_refl _, Nat.zero_le _, rfl, Nat.le_refl _, Nat.zero_le _, ⟨rfl, fun h => absurd h (by omega)⟩, ⟨rfl, fun h => absurd h (by omega)⟩⟩
end
/-- Where a number stands. -/
def atI (n : Int) (ps : List Int) : Int := match ps.findIdx? (fun z => decide (z = n)) with | some i => i | none => -1
/-- How many of the lists a file is in. -/
def cntL (fs : List ByteArray) (ks : List Nat) (m : ByteArray) : Nat := ks.countP fun k => (fs.take k).any fun z => decide (z = m)
def newB (f : ByteArray → Nat) (fs : List ByteArray) (j : Nat) : Bool := decide (0 < f (strAt fs j)) && !((fs.take j).any fun z => decide (z = strAt fs j))
theorem newB_iff {f : ByteArray → Nat} {fs : List ByteArray} {j : Nat} : newB f fs j = true ↔ 0 < f (strAt fs j) ∧ strAt fs j ∉ fs.take j := by
  unfold newB
  rw [Bool.and_eq_true, decide_eq_true_eq, Bool.not_eq_true', ← Bool.not_eq_true, any_mem]
/-- The files that are in some list, each where it first stands. -/
def firstsL (f : ByteArray → Nat) (fs : List ByteArray) : Nat → List ByteArray
  | 0 => []
  | j + 1 => firstsL f fs j ++ if newB f fs j = true then [strAt fs j] else []
theorem strAt_get {fs : List ByteArray} {j : Nat} (h : j < fs.length) : fs[j]? = some (strAt fs j) := by
  rw [strAt, List.getD_eq_getElem?_getD, List.getElem?_eq_getElem h]; rfl
theorem firsts_mem {f : ByteArray → Nat} {fs : List ByteArray} {x : ByteArray} : ∀ {j : Nat}, j ≤ fs.length → (x ∈ firstsL f fs j ↔ x ∈ fs.take j ∧ 0 < f x) := by
  intro j
  induction j with
  | zero => intro _; simp [firstsL]
  | succ j ih =>
    intro h
    have hj := strAt_get (fs := fs) (j := j) (by omega)
    rw [firstsL, List.mem_append, ih (by omega), List.take_add_one, hj, List.mem_append]
    constructor
    · rintro (⟨h1, h2⟩ | h1)
      · exact ⟨.inl h1, h2⟩
      · split at h1
        · rename_i hc
          obtain rfl := List.mem_singleton.1 h1
          exact ⟨.inr (by simp), (newB_iff.1 hc).1⟩
        · simp at h1
    · rintro ⟨h1 | h1, h2⟩
      · exact .inl ⟨h1, h2⟩
      · obtain rfl : x = strAt fs j := by simpa using h1
        by_cases hm : strAt fs j ∈ fs.take j
        · exact .inl ⟨hm, h2⟩
        · exact .inr (by rw [if_pos (newB_iff.2 ⟨h2, hm⟩)]; exact List.mem_singleton.2 rfl)
theorem firsts_nodup {f : ByteArray → Nat} {fs : List ByteArray} : ∀ {j : Nat}, j ≤ fs.length → (firstsL f fs j).Nodup := by
  intro j
  induction j with
  | zero => intro _; exact .nil
  | succ j ih =>
    intro h
    rw [firstsL]
    split
    · rename_i hc
      refine List.nodup_append.2 ⟨ih (by omega), by simp, fun a ha b hb e => ?_⟩
      obtain rfl := List.mem_singleton.1 hb
      subst e
      exact (newB_iff.1 hc).2 ((firsts_mem (by omega)).1 ha).1
    · rw [List.append_nil]; exact ih (by omega)
theorem cntL_mem {fs : List ByteArray} {ks : List Nat} {m : ByteArray} (h : 0 < cntL fs ks m) : m ∈ fs := by
  obtain ⟨k, _, hk⟩ := List.countP_pos_iff.1 h
  exact List.mem_of_mem_take (any_mem.1 hk)
theorem live_len {fs : List ByteArray} {ks : List Nat} {l : List ByteArray} (hr : riseK l) (hm : ∀ m, m ∈ l ↔ 0 < cntL fs ks m) : l.length = (firstsL (cntL fs ks) fs fs.length).length := by
  refine ((List.perm_ext_iff_of_nodup (riseK_nodup hr) (firsts_nodup (Nat.le_refl _))).2 fun x => ?_).length_eq
  rw [hm, firsts_mem (Nat.le_refl _), List.take_length]
  exact ⟨fun h => ⟨cntL_mem h, h⟩, fun h => h.2⟩
theorem firsts_le {f : ByteArray → Nat} {fs : List ByteArray} : ∀ j, (firstsL f fs j).length ≤ j := by
  intro j
  induction j with
  | zero => exact Nat.le_refl _
  | succ j ih =>
    rw [firstsL, List.length_append]
    split
    · simp; omega
    · simp; omega
set_option maxRecDepth 100000 in
theorem named2_any (s : ByteArray) (w : World) :
    Calls Tryz.prog 6 #[.string s] w fun e w' => e = .returned (.bool (namedB s)) ∧ w' = w := by
  have h := knamed_any s w
  go_enter Tryz.func6, Tryz.ntmps6
  go_wp2_with (go_at_call 28; go_must (refine h.mono ?_); rintro e w1 ⟨rfl, rfl⟩)
  go_ret
  exact ⟨rfl, rfl⟩
set_option maxRecDepth 100000 in
set_option maxHeartbeats 1000000 in
theorem ints_any (A A' : Option Addr) (c c' B B' n : Nat) (l : List Int) (w : World) (hx : Rd w B 1 A n (l.map (Value.int .i64))) (hy : Rd w B' 1 A' n (l.map (Value.int .i64))) (hl : n ≤ 140737488355328) :
    Calls Tryz.prog 11 #[.slice A n c, .slice A' n c'] w fun e w' => e = .returned (.bool true) ∧ Below w.heap.size w w' := by
  have hln : l.length = n := by have := hx.1; simpa using this
  go_enter Tryz.func11, Tryz.ntmps11
  go_wp2_with fail
  go_loopw [5] (fun i wr => ∃ k q : Nat, k ≤ n ∧ i = .int .i64 k ∧ wr = w.drewN q) (fun i _ => n - (intOf i).toNat)
  case atStart => exact ⟨0, 0, Nat.zero_le _, rfl, rfl⟩
  obtain ⟨k, q, hk, rfl, hw⟩ := hrel
  have HW := Lib.hid hw
  by_cases hlt : k < n
  · have hz : (l.map (Value.int .i64))[k]? = some (.int .i64 (l.getD k 0)) := by rw [List.getElem?_map, List.getD_eq_getElem?_getD, List.getElem?_eq_getElem (by omega)]; rfl
    obtain ⟨ad, u, rfl, _, hu, g0⟩ := (show Rd wr B 1 A n (l.map (Value.int .i64)) by rw [hw]; exact hx.drewN q).at_ hlt
    obtain ⟨ad', u', rfl, _, hu', p0⟩ := (show Rd wr B' 1 A' n (l.map (Value.int .i64)) by rw [hw]; exact hy.drewN q).at_ hlt
    obtain rfl : u = .int .i64 (l.getD k 0) := by rw [hz] at hu; injection hu with hu; exact hu.symm
    obtain rfl : u' = .int .i64 (l.getD k 0) := by rw [hz] at hu'; injection hu' with hu'; exact hu'.symm
    generalize l.getD k 0 = z at *
    have hi0 : (0 : Int) ≤ (k : Int) := by omega
    have hi1 : (k : Int) < (n : Int) := by omega
    clear hw hu hu' hz hln
    go_wp2_with fail
    go_quiet (fail)
    go_wp2_with fail
    go_roundw
    case rel => exact ⟨k + 1, q + nq, by omega, by go_num, by rw [HW.out, World.drewN_drewN]⟩
    case measure => simp [intOf]; omega
  · have hi1 : ¬ (k : Int) < (n : Int) := by omega
    clear hw hln
    go_wp2_with fail
    go_ret
    exact ⟨rfl, by rw [HW.out]; exact below_drewN (Below.refl _ _) _⟩
end Go.Proofs.YtmeemcafjebanaaGreatDoor
