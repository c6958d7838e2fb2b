/- The library's sort and compact over a row of texts of the call's own. -/
import Derived.Test.YtmeemcafjebanaaGreatDoorShelfSort
import Derived.Test.YtmeemcafjebanaaGreatDoorPlainCompact
import Derived.Test.YtmeemcafjebanaaGreatDoorBase2
import Derived.Test.YtmeemcafjebanaaGreatDoorWalkSpread
import Derived.Lib.OwnBridge
namespace Go.Proofs.YtmeemcafjebanaaGreatDoor
open Go.RowKit Go.Sort Go.Shelf Go.Lib

def sortKs (ks : List ByteArray) : List (List UInt8) := (ks.map kb).mergeSort fun x y => decide (x ≤ y)
theorem sortKs_len (ks : List ByteArray) : (sortKs ks).length = ks.length := by rw [sortKs, List.length_mergeSort, List.length_map]
theorem sv_enc (l : List (List UInt8)) : (l.map bk).map sv = l.map encStr := by
  rw [List.map_map]
  exact List.map_congr_left fun x _ => rfl
theorem sv_kb (ks : List ByteArray) : ks.map sv = (ks.map kb).map encStr := by
  rw [← sv_enc, List.map_map, List.map_map]
  exact List.map_congr_left fun x _ => by simp [bk_kb]
theorem below_grow0s {B : Nat} (w : World) (hB : B ≤ w.heap.size) (os : Array Obj) : Below B w (grow w os) :=
  ⟨rfl, rfl, rfl, by simp [grow], fun k hk => by simp only [grow]; rw [Array.getElem?_append_left (by omega)]⟩
theorem sort_any (v : Value) (n base : Nat) (ks : List ByteArray) (w : World) (h : w.ownsRow base 9 1 v n (ks.map sv)) (hB : base ≤ w.heap.size) (hn : n ≤ 1099511627776) :
    Calls Tryz.prog 34 #[v] w fun e w' => e = .returned (.tuple #[]) ∧ w'.ownsRow base 9 1 v n (((sortKs ks).map bk).map sv) ∧ Below base w w' := by
  have hl : ks.length = n := by simpa using h.1
  rw [sv_enc]
  rw [sv_kb] at h
  by_cases hv : v = .slice none 0 0
  · subst hv
    have hn0 : n = 0 := by
      rcases h.2 with ⟨_, h0⟩ | ⟨g, cap, cur, e, _⟩
      · exact h0
      · cases e
    subst hn0
    have hk : ks = [] := List.eq_nil_of_length_eq_zero hl
    subst hk
    refine (Any.slices_Sort_string_none lays190 none 0 w).mono ?_
    rintro e w' ⟨rfl, rfl⟩
    rw [show sortKs [] = [] by simp [sortKs]]
    exact ⟨rfl, World.ownsRow_nil _ _ _ _, Below.refl _ _⟩
  · obtain ⟨g, cap, rfl, hg0, hg, hnc, hcm, hzl, hH⟩ := holds_of_ownsRow h hv
    have hc := Any.slices_Sort_string lays190 g 0 cap (ks.map kb) w hH hg (by rw [List.length_map]; omega)
    rw [List.length_map, hl] at hc
    refine hc.mono ?_
    rintro e w' ⟨rfl, q, os, rfl⟩
    have h1 := ownsRow_putRow (q := q) (ys := sortKs ks) (k := n) h (by rw [sortKs_len, hl]) (Nat.le_refl _)
    rw [List.take_of_length_le (by rw [sortKs_len, hl]; exact Nat.le_refl _)] at h1
    have hb1 : Below base w (putRow encStr (Sort.ahead w q) g 0 (sortKs ks).toArray) := below_putRow (Below.refl base w) hg0
    exact ⟨rfl, own_up h1 (below_grow0s _ (Nat.le_refl _) os), hb1.trans (below_grow0s _ (Nat.le_trans hB hb1.size) os)⟩
theorem compact_any (v : Value) (n base : Nat) (ks : List ByteArray) (w : World) (h : w.ownsRow base 9 1 v n (((sortKs ks).map bk).map sv)) (hB : base ≤ w.heap.size) (hn : n ≤ 1099511627776) :
    Calls Tryz.prog 35 #[v] w fun e w' => ∃ v', e = .returned v' ∧ w'.ownsRow base 9 1 v' (allKeys ks).length (((allKeys ks).map bk).map sv) ∧ Below base w w' := by
  have hl : ks.length = n := by simpa [sortKs_len] using h.1
  rw [sv_enc] at h ⊢
  have hak : allKeys ks = Lib.compact (sortKs ks) := rfl
  by_cases hv : v = .slice none 0 0
  · subst hv
    have hn0 : n = 0 := by
      rcases h.2 with ⟨_, h0⟩ | ⟨g, cap, cur, e, _⟩
      · exact h0
      · cases e
    subst hn0
    have hk : ks = [] := List.eq_nil_of_length_eq_zero hl
    subst hk
    have hA : allKeys [] = [] := List.eq_nil_of_length_eq_zero (Nat.le_zero.1 (allKeys_len []))
    refine (Any.slices_Compact_string_empty lays194 none 0 w).mono ?_
    rintro e w' ⟨rfl, rfl⟩
    rw [hA]
    exact ⟨_, rfl, World.ownsRow_nil _ _ _ _, Below.refl _ _⟩
  · obtain ⟨g, cap, rfl, hg0, hg, hnc, hcm, hzl, hH⟩ := holds_of_ownsRow h hv
    have hs := sortKs_len ks
    have hc := Any.slices_Compact_string lays194 g 0 cap (sortKs ks) w hH (by omega) (by omega)
    have hle := allKeys_len ks
    rw [← hak] at hc
    rw [hs, hl] at hc
    refine hc.mono ?_
    rintro e w' ⟨rfl, q, rfl⟩
    have h1 := ownsRow_putRow (q := q) (ys := allKeys ks ++ List.replicate (n - (allKeys ks).length) []) (k := (allKeys ks).length) h (by rw [List.length_append, List.length_replicate]; omega) (by omega)
    rw [List.take_left] at h1
    exact ⟨_, rfl, h1, below_putRow (Below.refl base w) hg0⟩
end Go.Proofs.YtmeemcafjebanaaGreatDoor
