/- A row of the call's own as the sort's kit spells it, and back. No program in sight. -/
import Derived.Test.YtcfijljagohmlaaGreatDoorPlainRec
import Derived.Test.YtcfijljagohmlaaGreatDoorBase2
import Derived.Shelf.SlSortCmp.KitK
import Derived.Lib.OwnBridge
namespace Go.Proofs.YtcfijljagohmlaaGreatDoor
open Go.RowKit Go.Sort Go.Shelf Go.Lib

section
variable {α : Type} [Inhabited α] {enc : α → List Value} {k : Nat} {w : World}
theorem holdsK_own (hk : ∀ x, (enc x).length = k) (hk0 : 0 < k) {base g n c : Nat} {e : TypeId} {zs : List α} (h : w.ownsRow base e k (.slice (some ⟨g, 0, none⟩) n c) n (zs.flatMap enc)) (hz : zs.length = n) :
    HoldsK enc k w g 0 zs.toArray ∧ g < w.heap.size ∧ base ≤ g := by
  rcases h.2 with ⟨e0, _⟩ | ⟨g', cap, cur, e0, hb, hg, hn, hm, hs, ht⟩
  · cases e0
  · injection e0 with e1 e2 e3
    injection e1 with e1
    injection e1 with e1
    subst e1
    have hlt : g < w.heap.size := (Array.getElem?_eq_some_iff.1 hg).1
    refine ⟨fun j hj => ?_, hlt, hb⟩
    have hj' : j < zs.toArray.size * k := by rw [size_flatK] at hj; exact hj
    rw [get_flatK _ _ _ _ hj']
    have hjn : j < n * k := by simpa [hz] using hj'
    have hmod : j % k < k := Nat.mod_lt _ hk0
    have hjk : j / k < zs.length := by rw [hz]; exact (Nat.div_lt_iff_lt_mul hk0).2 hjn
    have e4 : (zs.flatMap enc)[j]? = some (enc zs[j / k])[j % k]! := by
      have e5 := flat_at enc k hk zs (j / k) (j % k) hmod
      rw [Nat.div_add_mod' j k, List.getElem?_eq_getElem hjk] at e5
      rw [e5, Option.bind_some, List.getElem?_eq_getElem (by rw [hk]; exact hmod), getElem!_pos]
    refine ⟨?_, by simp [World.frozen?, hg]⟩
    have e6 : (cur.toList.take (n * k))[j]? = some (enc zs[j / k])[j % k]! := by rw [ht]; exact e4
    rw [List.getElem?_take, if_pos hjn, Array.getElem?_toList] at e6
    simp only [World.cell?, hg, Nat.zero_add, Option.isSome_none, Bool.false_eq_true, if_false]
    rw [e6]
    simp [getElem!_pos, hjk]
theorem rd_of_holdsK (hk : ∀ x, (enc x).length = k) (hk0 : 0 < k) {g B : Nat} {zs : List α} (h : HoldsK enc k w g 0 zs.toArray) (hB : g < B) : Rd w B k (some ⟨g, 0, none⟩) zs.length (zs.flatMap enc) := by
  have hlen : (zs.flatMap enc).length = zs.length * k := by
    clear h
    induction zs with
    | nil => simp
    | cons a l ih => rw [List.flatMap_cons, List.length_append, hk, ih, List.length_cons, Nat.succ_mul]; omega
  refine ⟨hlen, fun _ => ⟨_, rfl, hB, fun j u hu => ?_⟩⟩
  have hj : j < zs.length * k := by rw [← hlen]; exact (List.getElem?_eq_some_iff.1 hu).1
  have hmod : j % k < k := Nat.mod_lt _ hk0
  have hjk : j / k < zs.length := (Nat.div_lt_iff_lt_mul hk0).2 hj
  have e5 := flat_at enc k hk zs (j / k) (j % k) hmod
  rw [Nat.div_add_mod' j k, hu, List.getElem?_eq_getElem hjk, Option.bind_some] at e5
  have hc := (h.cell (i := j / k) (c := j % k) (by simpa using hjk) hmod).1
  rw [Nat.zero_add, Nat.div_add_mod' j k] at hc
  have ha : (Addr.add ⟨g, 0, none⟩ j : Addr) = ⟨g, j, none⟩ := by
    unfold Addr.add
    split
    · rename_i h0; rw [h0]
    · simp
  rw [ha, hc]
  have e7 : zs.toArray[j / k]! = zs[j / k] := by rw [getElem!_pos _ _ (by simpa using hjk)]; simp
  rw [e7, e5]
  rw [List.getElem?_eq_getElem (by rw [hk]; exact hmod), getElem!_pos]
theorem below_grow0 {B : Nat} (w : World) (hB : B ≤ w.heap.size) (os : Array Obj) : Below B w (grow w os) :=
  ⟨rfl, rfl, rfl, by simp [grow], fun k hk => by simp only [grow]; rw [Array.getElem?_append_left (by omega)]⟩
theorem below_swk {B g : Nat} {d : Array α} {W : World} (h : SWK enc k w g 0 d W) (hB : B ≤ g) (hw : B ≤ w.heap.size) : Below B w W := by
  obtain ⟨n, os, rfl⟩ := h
  have h1 : Below B w (putRowK enc k (Sort.ahead w n) g 0 d) := below_putRow (Below.refl B w) hB
  exact h1.trans (below_grow0 _ (by rw [size_putRowK]; exact hw) os)
theorem holdsK_row {W : World} {g : Nat} {d : Array α} (h : HoldsK enc k W g 0 d) : HoldsK enc k W g 0 d.toList.toArray := by simpa using h
end
end Go.Proofs.YtcfijljagohmlaaGreatDoor
