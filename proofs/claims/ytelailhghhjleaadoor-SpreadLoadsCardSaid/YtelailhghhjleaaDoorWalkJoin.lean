/- Lists of lists of texts, and the walk of slices.Concat at them. -/
import Derived.Test.YtelailhghhjleaaDoorWalkConcat
namespace Go.Proofs.YtelailhghhjleaaDoor
open Go.RowKit

/-- A slice of slices of texts reads as these lists, all below block B. -/
def RdTT (w : World) (B : Nat) (A : Option Addr) (ls : List (List ByteArray)) : Prop :=
  0 < ls.length → ∃ ad, A = some ad ∧ ad.block < B ∧ ∀ (i : Nat) (l : List ByteArray), ls[i]? = some l → ∃ A' c, w.cell? (ad.add i) = some (.slice A' l.length c) ∧ l.length ≤ c ∧ c ≤ maxLen ∧ Rd w B 1 A' l.length (l.map sv)
theorem RdTT.at_ {w w' : World} {B : Nat} {A : Option Addr} {ls : List (List ByteArray)} (h : RdTT w B A ls) (hb : Below B w w') {i : Nat} (hi : i < ls.length) :
    ∃ ad A' c, A = some ad ∧ w'.cell? (ad.add i) = some (.slice A' (ls.getD i []).length c) ∧ (ls.getD i []).length ≤ c ∧ c ≤ maxLen ∧ Rd w' B 1 A' (ls.getD i []).length ((ls.getD i []).map sv) := by
  obtain ⟨ad, e, hlt, hc⟩ := h (by omega)
  have hx : ls[i]? = some (ls.getD i []) := by rw [List.getD_eq_getElem?_getD, List.getElem?_eq_getElem hi]; rfl
  obtain ⟨A', c, h1, h2, h3, h4⟩ := hc i _ hx
  exact ⟨ad, A', c, e, (hb.cell (by rw [block_add]; exact hlt)).trans h1, h2, h3, h4.below hb (Nat.le_refl _)⟩
theorem RdTT.below {w w' : World} {B : Nat} {A : Option Addr} {ls : List (List ByteArray)} (h : RdTT w B A ls) (hb : Below B w w') : RdTT w' B A ls := by
  intro hn
  obtain ⟨ad, e, hlt, hc⟩ := h hn
  refine ⟨ad, e, hlt, fun i l hi => ?_⟩
  obtain ⟨A', c, h1, h2, h3, h4⟩ := hc i l hi
  exact ⟨A', c, (hb.cell (by rw [block_add]; exact hlt)).trans h1, h2, h3, h4.below hb (Nat.le_refl _)⟩
/-- The first k lists, one behind the other. -/
def flatTo (ls : List (List ByteArray)) : Nat → List ByteArray
  | 0 => []
  | k + 1 => flatTo ls k ++ ls.getD k []
theorem flatTo_le (ls : List (List ByteArray)) {a b : Nat} (h : a ≤ b) : (flatTo ls a).length ≤ (flatTo ls b).length := by
  induction b with
  | zero => have : a = 0 := by omega
            subst this; exact Nat.le_refl _
  | succ b ih =>
    by_cases e : a = b + 1
    · subst e; exact Nat.le_refl _
    · have := ih (by omega)
      rw [flatTo, List.length_append]; omega

set_option maxRecDepth 100000 in
set_option maxHeartbeats 1000000 in
theorem concat_any (A : Option Addr) (c B : Nat) (ls : List (List ByteArray)) (w : World) (hr : RdTT w B A ls) (hB : B ≤ w.heap.size) (hn : ls.length ≤ 4398046511104) (hl : (flatTo ls ls.length).length ≤ 4398046511104) :
    Calls Tryd.prog 39 #[.slice A ls.length c] w fun e w' => ∃ v, e = .returned v ∧ w'.ownsRow w.heap.size 9 1 v (flatTo ls ls.length).length ((flatTo ls ls.length).map sv) ∧ Below w.heap.size w w' := by
  obtain ⟨n, hnn⟩ : ∃ n, n = ls.length := ⟨_, rfl⟩
  rw [← hnn] at hn hl ⊢
  have HN := Lib.hid hnn
  clear hnn
  go_enter Tryd.func39, Tryd.ntmps39
  go_wp2_with fail
  go_loopw [3, 11] (fun s i wr => ∃ k : Nat, k ≤ n ∧ i = .int .i64 k ∧ s = .int .i64 (flatTo ls k).length ∧ wr = w) (fun _ i _ => n - (intOf i).toNat)
  case atStart => exact ⟨0, Nat.zero_le _, rfl, rfl, rfl⟩
  case round =>
    obtain ⟨k, hk, rfl, rfl, rfl⟩ := hrel
    by_cases hlt : k < n
    · obtain ⟨ad, A1, c1, rfl, g0, _, _, _⟩ := hr.at_ (Below.refl _ _) (by have := HN.out; omega : k < ls.length)
      have hle := flatTo_le ls (show k + 1 ≤ n by omega)
      have hsc : (flatTo ls (k + 1)).length = (flatTo ls k).length + (ls.getD k []).length := by rw [flatTo, List.length_append]
      have HSC := Lib.hid hsc
      rw [hsc] at hle
      obtain ⟨s, hs⟩ : ∃ s, s = (flatTo ls k).length := ⟨_, rfl⟩
      obtain ⟨m, hm⟩ : ∃ m, m = (ls.getD k []).length := ⟨_, rfl⟩
      rw [← hs, ← hm] at hle HSC
      rw [← hm] at g0
      rw [← hs]
      clear hsc hs hm
      have hi0 : (0 : Int) ≤ (k : Int) := by omega
      have hi1 : (k : Int) < (n : Int) := by omega
      have h0 : ¬ ((s : Int) + (m : Int) < 0) := by omega
      go_wp2_with fail
      go_roundw
      case rel => exact ⟨k + 1, by omega, by go_num, by rw [HSC.out]; go_num, trivial⟩
      case measure => simp [intOf]; omega
    · have e : k = n := by omega
      subst e
      have hgr := grow_nil (flatTo ls k).length wr hl
      obtain ⟨s, hs⟩ : ∃ s, s = (flatTo ls k).length := ⟨_, rfl⟩
      rw [← hs] at hgr hl ⊢
      have HS := Lib.hid hs
      clear hs
      go_wp2_with (first | (go_at_call 67; refine hgr.mono ?_; rintro e w1 ⟨v1, rfl, hown1, hb1⟩))
      go_loopw [6, 27] (fun s i w2 => ∃ j : Nat, j ≤ k ∧ i = .int .i64 j ∧ w2.ownsRow wr.heap.size 9 1 s (flatTo ls j).length ((flatTo ls j).map sv) ∧ Below wr.heap.size wr w2) (fun _ i _ => k - (intOf i).toNat)
      case atStart => exact ⟨0, Nat.zero_le _, rfl, hown1, hb1⟩
      case round =>
        clear hown1 hb1
        obtain ⟨j, hj, rfl, hown2, hb2⟩ := hrel
        by_cases hlt : j < k
        · obtain ⟨ad, A1, c1, rfl, g0, _, _, hr2⟩ := (hr.below (hb2.mono hB)).at_ (Below.refl _ _) (by have := HN.out; omega : j < ls.length)
          have hle := flatTo_le ls (show j + 1 ≤ k by omega)
          have hsc : flatTo ls (j + 1) = flatTo ls j ++ ls.getD j [] := rfl
          have HSC := Lib.hid hsc
          rw [hsc, List.length_append, ← HS.out] at hle
          obtain ⟨q, hq⟩ : ∃ q, q = ls.getD j [] := ⟨_, rfl⟩
          obtain ⟨p, hp⟩ : ∃ p, p = flatTo ls j := ⟨_, rfl⟩
          rw [← hq, ← hp] at hle HSC
          rw [← hq] at g0 hr2
          rw [← hp] at hown2
          clear hsc hq hp
          have hi0 : (0 : Int) ≤ (j : Int) := by omega
          have hi1 : (j : Int) < (k : Int) := by omega
          obtain ⟨m, hm⟩ : ∃ m, m = q.length := ⟨_, rfl⟩
          rw [← hm] at hle g0 hr2
          have HM := Lib.hid hm
          clear hm
          go_wp2_with (first
            | (with_reducible show wpList _ _ _ (⟨some 33, _, _, _, _, _⟩ :: _) _ _; go_must (refine wpList_rd (.tmp 31) (.tmp 32) el_str rfl rfl hown2 rfl hr2 rfl (svs_one _) (by omega) hb2.size ?_); intro v4 w4 hown4 hb4 hg4 ha4))
          go_roundw
          case rel => exact ⟨j + 1, by omega, by go_num, by rw [HSC.out, List.length_append, List.map_append, ← HM.out]; exact hown4, hb2.trans hb4⟩
          case measure => simp [intOf]; omega
        · have e : j = k := by omega
          subst e
          rw [← HS.out] at hown2
          go_wp2_with fail
          go_ret
          exact ⟨_, rfl, by rw [← HS.out]; exact hown2, hb2⟩
end Go.Proofs.YtelailhghhjleaaDoor
