/- The walks of slices.Clone at entries and of table.Part. -/
import Derived.Test.YtcfijljagohmlaaGreatDoorWalkERef
import Derived.Lib.AppendZerosOnto
import Derived.Lib.Walk
import Derived.Lib.SliceRun
import Derived.Lib.LazyBuf
import Derived.Deep.RegionLaw
import Derived.Deep.OwnRows
namespace Go.Proofs.YtcfijljagohmlaaGreatDoor
open Go.RowKit

set_option maxRecDepth 100000 in
set_option maxHeartbeats 1000000 in
theorem eclone_any (A : Option Addr) (c B : Nat) (l : List Ent) (w : World) (hr : Rd w B 3 A l.length (entCells l)) (hB : B ≤ w.heap.size) (hl : l.length ≤ 400) :
    Calls Tryz.prog 107 #[.slice A l.length c] w fun e w' => ∃ v, e = .returned v ∧ w'.ownsRow w.heap.size 67 3 v l.length (entCells l) ∧ Below w.heap.size w w' := by
  obtain ⟨n, hn⟩ : ∃ n, n = l.length := ⟨_, rfl⟩
  rw [← hn] at hr hl ⊢
  rcases A with _ | ad
  · have hn0 : n = 0 := by
      rcases Nat.eq_zero_or_pos n with h | h
      · exact h
      · obtain ⟨_, h, _⟩ := hr.2 h; cases h
    subst hn0
    have hl0 : l = [] := List.eq_nil_of_length_eq_zero hn.symm
    subst hl0
    clear hn
    have heq : ∀ W : World, (binOp .eql 57 (.slice none 0 c) (.slice none 0 0)).run Tryz.prog W = .ok (.bool true) W := fun W => run_eql_slice_nil W 57 67 none 0 c Tryz.underlying57
    go_enter Tryz.func107, Tryz.ntmps107
    go_wp2_with fail
    go_ret
    exact ⟨_, rfl, World.ownsRow_nil _ _ _ _, Below.refl _ _⟩
  · clear hn
    have hb := (Below.refl w.heap.size w).alloc (Nat.le_refl _) (.cells #[] 67)
    have hown : (w.alloc (.cells #[] 67)).ownsRow w.heap.size 67 3 (.slice (some ⟨w.heap.size, 0, none⟩) 0 0) 0 [] := ⟨rfl, .inr ⟨w.heap.size, 0, _, rfl, Nat.le_refl _, heap_alloc_new w _, Nat.le_refl _, Nat.zero_le _, rfl, rfl⟩⟩
    have hr2 := hr.alloc hB (.cells #[] 67)
    have h1 : ∀ u ∈ entCells l, u.oneCell' = true := by
      intro u hu
      obtain ⟨x, _, hx⟩ := List.mem_flatMap.1 hu
      simp only [Ent.cells, List.mem_cons, List.not_mem_nil, or_false] at hx
      rcases hx with rfl | rfl | rfl <;> rfl
    generalize entCells l = xs at *
    have heq : ∀ W : World, (binOp .eql 57 (.slice (some ad) n c) (.slice none 0 0)).run Tryz.prog W = .ok (.bool false) W := fun W => run_eql_slice_nil W 57 67 (some ad) n c Tryz.underlying57
    go_enter Tryz.func107, Tryz.ntmps107
    go_wp2_with (first
      | (with_reducible show wpList _ _ _ (⟨some 7, _, _, _, _, _⟩ :: _) _ _; go_must (refine wpList_rd (.tmp 5) (.tmp 6) el_ent rfl rfl hown rfl hr2 rfl h1 (by omega) (by simp) ?_); intro v1 w1 hown1 hb1 hg1 ha1))
    go_ret
    exact ⟨v1, rfl, by simpa using hown1, hb.trans hb1⟩

theorem filter_part {l : List Ent} {P : Ent → Bool} {i k : Nat} (hik : i ≤ k) (h : ∀ m r, l[m]? = some r → (P r = true ↔ i ≤ m ∧ m < k)) : l.filter P = (l.drop i).take (k - i) := by
  have e : l = l.take i ++ ((l.drop i).take (k - i) ++ l.drop k) := by
    have h1 : l.drop k = (l.drop i).drop (k - i) := by rw [List.drop_drop]; congr 1; omega
    rw [h1, List.take_append_drop, List.take_append_drop]
  have a1 : (l.take i).filter P = [] := by
    rw [List.filter_eq_nil_iff]
    intro r hr
    obtain ⟨m, hm⟩ := List.mem_iff_getElem?.1 hr
    rw [List.getElem?_take] at hm
    split at hm
    · have := (h m r hm).1
      intro hp
      have := this hp
      omega
    · cases hm
  have a2 : ((l.drop i).take (k - i)).filter P = (l.drop i).take (k - i) := by
    rw [List.filter_eq_self]
    intro r hr
    obtain ⟨m, hm⟩ := List.mem_iff_getElem?.1 hr
    rw [List.getElem?_take] at hm
    split at hm
    · rw [List.getElem?_drop] at hm
      exact (h _ r hm).2 (by omega)
    · cases hm
  have a3 : (l.drop k).filter P = [] := by
    rw [List.filter_eq_nil_iff]
    intro r hr
    obtain ⟨m, hm⟩ := List.mem_iff_getElem?.1 hr
    rw [List.getElem?_drop] at hm
    intro hp
    have := (h _ r hm).1 hp
    omega
  conv => lhs; rw [e]
  rw [List.filter_append, List.filter_append, a1, a2, a3, List.nil_append, List.append_nil]
theorem lowK_iff {l : List Ent} (hs : riseK (keysE l)) {t : ByteArray} {m : Nat} {r : Ent} (h : l[m]? = some r) : klt r.key t = true ↔ m < lowK t (keysE l) := by
  have hm : m < (keysE l).length := by rw [keysE_len]; exact (List.getElem?_eq_some_iff.1 h).1
  rw [← keysE_at h]
  constructor
  · intro hk
    rcases Nat.lt_or_ge m (lowK t (keysE l)) with h1 | h1
    · exact h1
    · rw [lowK_ge hs h1 hm] at hk; cases hk
  · exact fun h1 => lowK_lt h1
def hiK (high : ByteArray) (l : List Ent) : Nat := if high.toList.isEmpty = true then l.length else lowK high (keysE l)
theorem hiK_le (high : ByteArray) (l : List Ent) : hiK high l ≤ l.length := by
  rw [hiK]
  split
  · exact Nat.le_refl _
  · have := lowK_le high (keysE l); rwa [keysE_len] at this
theorem part_iff {l : List Ent} (hs : riseK (keysE l)) {low high : ByteArray} {m : Nat} {r : Ent} (h : l[m]? = some r) : inPart low high r = true ↔ lowK low (keysE l) ≤ m ∧ m < hiK high l := by
  have h1 := lowK_iff hs (t := low) h
  have h2 := lowK_iff hs (t := high) h
  have hm : m < l.length := (List.getElem?_eq_some_iff.1 h).1
  rw [inPart, hiK, Bool.and_eq_true, Bool.or_eq_true, Bool.not_eq_true']
  have h1' : klt r.key low = false ↔ lowK low (keysE l) ≤ m := by
    rw [← Bool.not_eq_true, h1]; omega
  rw [h1']
  by_cases he : high.toList.isEmpty = true
  · rw [if_pos he]; simp [he, hm]
  · rw [if_neg he]; simp [he, h2]
theorem partE_slice {l : List Ent} (hs : riseK (keysE l)) {low high : ByteArray} (h : lowK low (keysE l) ≤ hiK high l) : partE low high l = (l.drop (lowK low (keysE l))).take (hiK high l - lowK low (keysE l)) :=
  filter_part h fun _ _ hx => part_iff hs hx
theorem partE_none {l : List Ent} (hs : riseK (keysE l)) {low high : ByteArray} (h : hiK high l ≤ lowK low (keysE l)) : partE low high l = [] := by
  rw [partE, List.filter_eq_nil_iff]
  intro r hr hp
  obtain ⟨m, hm⟩ := List.mem_iff_getElem?.1 hr
  have := (part_iff hs hm).1 hp
  omega

theorem flat_drop3 (l : List Ent) (i : Nat) : (l.drop i).flatMap Ent.cells = (l.flatMap Ent.cells).drop (i * 3) := by
  induction i generalizing l with
  | zero => simp
  | succ i ih =>
    cases l with
    | nil => simp
    | cons x l =>
      have h0 : x.cells.drop (x.cells.length + i * 3) = [] := List.drop_eq_nil_of_le (Nat.le_add_right _ _)
      rw [List.drop_succ_cons, ih, List.flatMap_cons, show (i + 1) * 3 = x.cells.length + i * 3 from by rw [show x.cells.length = 3 from rfl]; omega, List.drop_append, Nat.add_sub_cancel_left, h0, List.nil_append]
theorem flat_take3 (l : List Ent) (i : Nat) : (l.take i).flatMap Ent.cells = (l.flatMap Ent.cells).take (i * 3) := by
  induction i generalizing l with
  | zero => simp
  | succ i ih =>
    cases l with
    | nil => simp
    | cons x l =>
      have h0 : x.cells.take (x.cells.length + i * 3) = x.cells := List.take_of_length_le (Nat.le_add_right _ _)
      rw [List.take_succ_cons, List.flatMap_cons, ih, List.flatMap_cons, show (i + 1) * 3 = x.cells.length + i * 3 from by rw [show x.cells.length = 3 from rfl]; omega, List.take_append, Nat.add_sub_cancel_left, h0]
theorem Rd.cut_lt3 {w : World} {B size n k cap : Nat} {A : Option Addr} {xs : List Value} (h : Rd w B size A n xs) (hk : k < n) (hc : n ≤ cap) : Rd w B size (A.map (fun x => x.add (k * size))) (n - k) (xs.drop (k * size)) := by
  have := h.cut (Nat.le_of_lt hk) hc; rwa [if_neg (by omega)] at this

set_option maxRecDepth 100000 in
set_option maxHeartbeats 4000000 in
theorem part_any (A : Option Addr) (c B : Nat) (l : List Ent) (low high : ByteArray) (w : World) (hr : Rd w B 3 A l.length (entCells l)) (hB : B ≤ w.heap.size) (hl : l.length ≤ 400) (hs : riseK (keysE l)) (hc : l.length ≤ c) (_hcm : c ≤ maxLen) :
    Calls Tryz.prog 70 #[.slice A l.length c, .string low, .string high] w fun e w' => ∃ v, e = .returned v ∧ w'.ownsRow w.heap.size 67 3 v (partE low high l).length (entCells (partE low high l)) ∧ Below w.heap.size w w' := by
  have hb1 := search_any A c B l low w hr hB hl hs
  have hb2 := fun W (hb : Below w.heap.size w W) => search_any A c B l high W (hr.below hb hB) (Nat.le_trans hB hb.size) hl hs
  have hp1 : lowK low (keysE l) ≤ hiK high l → partE low high l = (l.drop (lowK low (keysE l))).take (hiK high l - lowK low (keysE l)) := partE_slice hs
  have hp2 : hiK high l ≤ lowK low (keysE l) → partE low high l = [] := partE_none hs
  have hh := hiK_le high l
  have hlo := lowK_le low (keysE l)
  rw [keysE_len] at hlo
  obtain ⟨k, hk⟩ : ∃ k, k = hiK high l := ⟨_, rfl⟩
  have hkd := hk
  rw [hiK] at hkd
  rw [← hk] at hp1 hp2 hh
  generalize lowK low (keysE l) = i at *
  have HP1 := Lib.hid hp1
  have HP2 := Lib.hid hp2
  have HB2 := Lib.hid hb2
  have HKD := Lib.hid hkd
  generalize lowK high (keysE l) = kh at *
  obtain ⟨n, hn⟩ : ∃ n, n = l.length := ⟨_, rfl⟩
  rw [← hn] at hb1 HB2 hr hl hc hh hlo HKD ⊢
  have Hn := Lib.hid hn
  clear hp1 hp2 hb2 hk hkd hn hs
  go_enter Tryz.func70, Tryz.ntmps70
  go_wp2_with fail
  refine hb1.mono ?_
  rintro e w1 ⟨rfl, hbe1⟩
  rcases hemp : high.toList.isEmpty
  · have hkk : k = kh := by have := HKD.out; rw [hemp] at this; simpa using this
    subst hkk
    have t2 := hemp
    clear hemp
    go_wp2_with fail
    refine (HB2.out w1 hbe1).mono ?_
    rintro e w2 ⟨rfl, hbe2⟩
    have hbb := below_up hbe1 hbe2
    by_cases hik : i < k
    · have hrs := ((hr.below hbb hB).cut_lt3 (k := i) (by omega) hc).take (k := k - i) (by omega)
      have hcells : (List.drop (i * 3) (entCells l)).take ((k - i) * 3) = entCells ((l.drop i).take (k - i)) := by rw [entCells, entCells, flat_take3, flat_drop3]
      rw [hcells] at hrs
      have hlen : ((l.drop i).take (k - i)).length = k - i := by rw [List.length_take, List.length_drop, ← Hn.out]; omega
      have hcl := fun A' c' W (h : Rd W B 3 A' (k - i) (entCells ((l.drop i).take (k - i)))) (hB' : B ≤ W.heap.size) => eclone_any A' c' B ((l.drop i).take (k - i)) W (by rw [hlen]; exact h) hB' (by rw [hlen]; omega)
      rw [hlen] at hcl
      have HP := Lib.hid (HP1.out (Nat.le_of_lt hik))
      obtain ⟨ad, rfl, _, _⟩ := hr.2 (by omega)
      have hci : ¬ c = i := by omega
      have hi0 : (0 : Int) ≤ (i : Int) := by omega
      have hi1 : (i : Int) ≤ (k : Int) := by omega
      have hi2 : (k : Int) ≤ (c : Int) := by omega
      have HCL := Lib.hid hcl
      have HLEN := Lib.hid hlen
      clear hcl hlen hcells
      go_wp2_with fail
      refine (HCL.out _ _ w2 hrs (Nat.le_trans hB hbb.size)).mono ?_
      rintro e w3 ⟨v3, rfl, ho3, hb3⟩
      go_wp2_with fail
      go_ret
      refine ⟨_, rfl, ?_, below_up hbb hb3⟩
      rw [HP.out, HLEN.out]
      exact own_base ho3 hbb.size
    · have HP := Lib.hid (HP2.out (by omega))
      go_wp2_with fail
      go_ret
      rw [HP.out]
      exact ⟨_, rfl, World.ownsRow_nil _ _ _ _, hbb⟩
  · have hkk : k = n := by have := HKD.out; rw [hemp] at this; simpa using this
    subst hkk
    have t2 := hemp
    have hbb := hbe1
    have hbe2 := hbe1
    clear hemp
    obtain ⟨w2, hw2⟩ : ∃ w2, w2 = w1 := ⟨_, rfl⟩
    rw [← hw2] at hbb hbe2 ⊢
    clear hw2
    by_cases hik : i < k
    · have hrs := ((hr.below hbb hB).cut_lt3 (k := i) (by omega) hc).take (k := k - i) (by omega)
      have hcells : (List.drop (i * 3) (entCells l)).take ((k - i) * 3) = entCells ((l.drop i).take (k - i)) := by rw [entCells, entCells, flat_take3, flat_drop3]
      rw [hcells] at hrs
      have hlen : ((l.drop i).take (k - i)).length = k - i := by rw [List.length_take, List.length_drop, ← Hn.out]; omega
      have hcl := fun A' c' W (h : Rd W B 3 A' (k - i) (entCells ((l.drop i).take (k - i)))) (hB' : B ≤ W.heap.size) => eclone_any A' c' B ((l.drop i).take (k - i)) W (by rw [hlen]; exact h) hB' (by rw [hlen]; omega)
      rw [hlen] at hcl
      have HP := Lib.hid (HP1.out (Nat.le_of_lt hik))
      obtain ⟨ad, rfl, _, _⟩ := hr.2 (by omega)
      have hci : ¬ c = i := by omega
      have hi0 : (0 : Int) ≤ (i : Int) := by omega
      have hi1 : (i : Int) ≤ (k : Int) := by omega
      have hi2 : (k : Int) ≤ (c : Int) := by omega
      have HCL := Lib.hid hcl
      have HLEN := Lib.hid hlen
      clear hcl hlen hcells
      go_wp2_with fail
      refine (HCL.out _ _ w2 hrs (Nat.le_trans hB hbb.size)).mono ?_
      rintro e w3 ⟨v3, rfl, ho3, hb3⟩
      go_wp2_with fail
      go_ret
      refine ⟨_, rfl, ?_, below_up hbb hb3⟩
      rw [HP.out, HLEN.out]
      exact own_base ho3 hbb.size
    · have HP := Lib.hid (HP2.out (by omega))
      go_wp2_with fail
      go_ret
      rw [HP.out]
      exact ⟨_, rfl, World.ownsRow_nil _ _ _ _, hbb⟩
end Go.Proofs.YtcfijljagohmlaaGreatDoor
