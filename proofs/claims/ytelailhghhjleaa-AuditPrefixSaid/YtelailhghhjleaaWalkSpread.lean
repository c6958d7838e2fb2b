/- The walks of spread.check, weirsame.Texts at two equal lists, spread.Even. -/
import Derived.Test.YtelailhghhjleaaProg
import Derived.Test.YtelailhghhjleaaPlainSpread
import Derived.Test.YtelailhghhjleaaKeeps
import Derived.Test.YtelailhghhjleaaErr
import Derived.Deep.RegionLaw
import Derived.BigQuiet
import Derived.WideLaws
import Derived.Deep.QuietTactic
import Derived.Deep.OwnRows
namespace Go.Proofs.Ytelailhghhjleaa
open Go.RowKit

theorem el_str : Elt Try.prog 35 9 (.string ByteArray.empty) 1 16 := ⟨Try.underlying35, by kernel_rfl, rfl, by omega, by omega⟩
theorem svs_one (l : List ByteArray) : ∀ u ∈ l.map sv, u.oneCell' = true := by
  intro u hu; obtain ⟨b, _, rfl⟩ := List.mem_map.1 hu; rfl
theorem Rd.str_ {w : World} {B n k : Nat} {A : Option Addr} {l : List ByteArray} (h : Rd w B 1 A n (l.map sv)) (hk : k < n) : ∃ ad, A = some ad ∧ ad.block < B ∧ w.cell? (ad.add k) = some (.string (strAt l k)) := by
  obtain ⟨ad, u, rfl, hb, hu, hc⟩ := h.at_ hk
  refine ⟨ad, rfl, hb, hc.trans ?_⟩
  have hl : k < l.length := by have := h.1; simp at this; omega
  rw [← hu, List.getElem?_map, strAt, List.getD_eq_getElem?_getD, List.getElem?_eq_getElem hl]
  rfl

set_option maxRecDepth 100000 in
set_option maxHeartbeats 1000000 in
theorem spcheck_any (n : Nat) (p : Int) (w : World) (hn : n ≤ 140737488355328) (h0 : -9223372036854775808 ≤ p) (h1 : p ≤ 9223372036854775807) :
    Calls Try.prog 32 #[.int .i64 n, .int .i64 p] w fun e w' => e = .returned (errV (spreadE n p)) ∧ w = w' := by
  by_cases hp : p < 1
  · have HE : Hid (errV (spreadE n p) = .iface 63 (.int .i64 1)) := Lib.hid (by rw [spreadE, if_pos (.inl hp)]; rfl)
    rw [HE.out]
    go_enter Try.func32, Try.ntmps32
    go_wp2
    go_ret
    exact ⟨rfl, rfl⟩
  by_cases hp2 : 16 < p
  · have HE : Hid (errV (spreadE n p) = .iface 63 (.int .i64 1)) := Lib.hid (by rw [spreadE, if_pos (.inr hp2)]; rfl)
    rw [HE.out]
    go_enter Try.func32, Try.ntmps32
    go_wp2
    go_ret
    exact ⟨rfl, rfl⟩
  by_cases h4 : 400 < n
  · have HE : Hid (errV (spreadE n p) = .iface 63 (.int .i64 4)) := Lib.hid (by rw [spreadE, if_neg (by omega), if_pos h4]; rfl)
    rw [HE.out]
    go_enter Try.func32, Try.ntmps32
    go_wp2
    go_ret
    exact ⟨rfl, rfl⟩
  · have HE : Hid (errV (spreadE n p) = .nilIface) := Lib.hid (by rw [spreadE, if_neg (by omega), if_neg h4]; rfl)
    rw [HE.out]
    go_enter Try.func32, Try.ntmps32
    go_wp2
    go_ret
    exact ⟨rfl, rfl⟩

set_option maxRecDepth 100000 in
set_option maxHeartbeats 1000000 in
theorem texts_quiet (A A' : Option Addr) (c c' B : Nat) (l : List ByteArray) (w : World) (hx : Rd w B 1 A l.length (l.map sv)) (hy : Rd w B 1 A' l.length (l.map sv)) (hl : l.length ≤ 140737488355328) :
    Calls Try.prog 14 #[.slice A l.length c, .slice A' l.length c'] w fun e w' => e = .returned (.bool true) ∧ ∃ q, w' = w.drewN q := by
  obtain ⟨n, hn⟩ : ∃ n, n = l.length := ⟨_, rfl⟩
  rw [← hn] at hx hy hl ⊢
  clear hn
  go_enter Try.func14, Try.ntmps14
  go_wp2_with fail
  go_loopw [5] (fun i wr => ∃ k q : Nat, k ≤ n ∧ i = .int .i64 k ∧ wr = w.drewN q) (fun i _ => n - (intOf i).toNat)
  case atStart => exact ⟨0, 0, Nat.zero_le _, rfl, rfl⟩
  case round =>
    obtain ⟨k, q, hk, rfl, hw⟩ := hrel
    have HW := Lib.hid hw
    by_cases hlt : k < n
    · obtain ⟨ad, rfl, _, g0⟩ := (show Rd wr B 1 A n (l.map sv) by rw [hw]; exact hx.drewN q).str_ hlt
      obtain ⟨ad', rfl, _, p0⟩ := (show Rd wr B 1 A' n (l.map sv) by rw [hw]; exact hy.drewN q).str_ hlt
      obtain ⟨z, hz⟩ : ∃ z, z = strAt l k := ⟨_, rfl⟩
      rw [← hz] at g0 p0
      clear hz hw
      have hi0 : (0 : Int) ≤ (k : Int) := by omega
      have hi1 : (k : Int) < (n : Int) := by omega
      go_wp2_with fail
      go_quiet (fail)
      go_wp2_with fail
      go_roundw
      case rel => exact ⟨k + 1, q + nq, by omega, by go_num, by rw [HW.out, World.drewN_drewN]⟩
      case measure => simp [intOf]; omega
    · clear hw
      go_wp2_with fail
      go_ret
      exact ⟨rfl, q, HW.out⟩
theorem texts_same (A A' : Option Addr) (c c' B : Nat) (l : List ByteArray) (w : World) (hx : Rd w B 1 A l.length (l.map sv)) (hy : Rd w B 1 A' l.length (l.map sv)) (_hB : B ≤ w.heap.size) (hl : l.length ≤ 140737488355328) :
    Calls Try.prog 14 #[.slice A l.length c, .slice A' l.length c'] w fun e w' => e = .returned (.bool true) ∧ Below w.heap.size w w' :=
  (texts_quiet A A' c c' B l w hx hy hl).mono fun _ _ ⟨he, q, hw⟩ => ⟨he, hw ▸ below_drewN (Below.refl _ _) q⟩

/-- Rows of texts of the call's own. -/
structure TextRows (w : World) (base go : Nat) (sl : List Value) (rows : List (List ByteArray)) : Prop where
  at_ : base ≤ go
  blk : Blk w go 35 sl.toArray
  rows : Rows_ w 9 1 sl (rows.map fun l => l.map sv)
  low : ∀ v ∈ sl, ∀ g, v.ownBlock = some g → base ≤ g ∧ g ≠ go
theorem TextRows.row {w : World} {base go : Nat} {sl : List Value} {rows : List (List ByteArray)} (h : TextRows w base go sl rows) {i : Nat} {l : List ByteArray} (hi : rows[i]? = some l) :
    ∃ A c, sl[i]? = some (.slice A l.length c) ∧ w.cell? ⟨go, i, none⟩ = some (.slice A l.length c) ∧ l.length ≤ c ∧ c ≤ maxLen ∧ w.ownsRow 0 9 1 (.slice A l.length c) l.length (l.map sv) ∧ Rd w w.heap.size 1 A l.length (l.map sv) := by
  have hx : (rows.map fun l => l.map sv)[i]? = some (l.map sv) := by rw [List.getElem?_map, hi]; rfl
  have hl : i < sl.length := by rw [← h.rows.len]; exact (List.getElem?_eq_some_iff.1 hx).1
  have ho := h.rows.row i sl[i] _ (List.getElem?_eq_getElem hl) hx
  rw [List.length_map, Nat.div_one] at ho
  obtain ⟨A, c, e, h1, h2, _, h3⟩ := own_form ho
  have hs : sl[i]? = some (.slice A l.length c) := by rw [List.getElem?_eq_getElem hl, e]
  refine ⟨A, c, hs, ?_, h1, h2, e ▸ ho, h3⟩
  rw [h.blk.cell, List.getElem?_toArray, hs]
theorem TextRows.drew {w : World} {base go : Nat} {sl : List Value} {rows : List (List ByteArray)} (h : TextRows w base go sl rows) : TextRows w.drew base go sl rows :=
  ⟨h.at_, h.blk, h.rows.same fun _ _ _ _ => rfl, h.low⟩
/-- A row grown. -/
theorem TextRows.replace {w w4 : World} {base go : Nat} {sl : List Value} {rows : List (List ByteArray)} (h : TextRows w base go sl rows) {i : Nat} {v v' : Value} {l : List ByteArray} (hv : sl[i]? = some v) (hB : base ≤ w.heap.size)
    (hg : w.grownBy w4 v.ownBlock) (ho : w4.ownsRow 0 9 1 v' l.length (l.map sv)) (hb : ∀ g, v'.ownBlock = some g → v.ownBlock = some g ∨ w.heap.size ≤ g) : TextRows (w4.setCell ⟨go, i, none⟩ v') base go (sl.set i v') (rows.set i l) ∧ Below base w (w4.setCell ⟨go, i, none⟩ v') := by
  have hvm := List.mem_of_getElem? hv
  have hd := h.low v hvm
  have hgo : w4.heap[go]? = w.heap[go]? := hg.block go h.blk.lt fun e => (hd go e.symm).2 rfl
  have hrow := h.rows.replace (x := l.map sv) hv hg (by rw [List.length_map, Nat.div_one]; exact ho) hb
  have hlow : ∀ u ∈ sl.set i v', ∀ g, u.ownBlock = some g → base ≤ g ∧ g ≠ go := by
    intro u hu g hg'
    rcases List.mem_or_eq_of_mem_set hu with hu | rfl
    · exact h.low u hu g hg'
    · rcases hb g hg' with e | e
      · exact hd g e
      · have := h.blk.lt; exact ⟨by omega, by omega⟩
  refine ⟨⟨h.at_, ?_, ?_, hlow⟩, ?_⟩
  · have := Blk.set_ (show Blk w4 go _ _ from hgo.trans h.blk) i v'
    simpa using this
  · have e : (rows.set i l).map (fun l => l.map sv) = (rows.map fun l => l.map sv).set i (l.map sv) := by simp [List.map_set]
    rw [e]
    exact hrow.same fun u g hu hg' => Below.heap_setCell w4 ⟨go, i, none⟩ v' g (hlow u hu g hg').2
  · exact ((Below.refl base w).grown hg hB fun g e => (hd g e).1).setCell h.at_ _
theorem TextRows.start {w : World} {base go p : Nat} (h : base ≤ go) (hb : Blk w go 35 (madeCells #[.slice none 0 0] p)) : TextRows w base go (List.replicate p (.slice none 0 0)) (List.replicate p []) := by
  have none_ : ∀ v ∈ List.replicate p (Value.slice none 0 0), v.ownBlock = none := fun v hv => by rw [List.eq_of_mem_replicate hv]; rfl
  refine ⟨h, ?_, ⟨by simp, fun i v x hv hx => ?_, fun i j v u g hv _ e _ => ?_⟩, fun v hv g hg => ?_⟩
  · rw [← toList_madeCells_one, Array.toArray_toList]; exact hb
  · have e1 := List.eq_of_mem_replicate (List.mem_of_getElem? hv)
    have e2 : x = [] := by
      have := List.mem_of_getElem? hx
      simp only [List.map_replicate, List.map_nil] at this
      exact List.eq_of_mem_replicate this
    subst e1 e2
    exact World.ownsRow_nil _ _ _ _
  · rw [none_ v (List.mem_of_getElem? hv)] at e; cases e
  · rw [none_ v hv] at hg; cases hg
end Go.Proofs.Ytelailhghhjleaa
