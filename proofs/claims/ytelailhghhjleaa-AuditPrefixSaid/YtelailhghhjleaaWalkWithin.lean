/- The walk of audit.within. -/
import Derived.Test.YtelailhghhjleaaWalkLines
import Derived.Test.YtelailhghhjleaaPlainWithin
import Derived.Maps.Own
import Derived.Maps.OwnOps
import Derived.Maps.OwnSet
import Derived.Maps.Views
namespace Go.Proofs.Ytelailhghhjleaa
open Go.RowKit Go.Maps

theorem kint : Keyed Try.prog 3 := int_keyed Try.underlying3
theorem zint (w : World) : (zeroValue 3).run Try.prog w = .ok (.int .i64 0) w := by kernel_rfl
/-- A map of ints holds these numbers. -/
def Holds1 (D : DataW Unit) (f : Int → Int) : Prop := ∀ x, D.atKey (.int .i64 x) (.lit (.int .i64 0)) = .lit (.int .i64 (f x))
theorem Holds1.at_ {D : DataW Unit} {f : Int → Int} (h : Holds1 D f) {x c : Int} (hat : D.atKey (.int .i64 x) (.lit (.int .i64 0)) = .lit (.int .i64 c)) : c = f x := by
  have := hat.symm.trans (h x)
  injection this with this
  injection this
theorem Holds1.put {D : DataW Unit} {f g : Int → Int} (h : Holds1 D f) (hm : IsMap D) {x c : Int} (hg : ∀ y, g y = if y = x then c else f y) : Holds1 (D.put (.int .i64 x) (.lit (.int .i64 c))) g := by
  intro y
  rw [hg]
  by_cases e : y = x
  · subst e
    rw [if_pos rfl]
    exact atKey_put_same hm (by trivial) _ _
  · rw [if_neg e]
    rw [atKey_put_other (fun h => e (by injection h)) _ _]
    exact h y
theorem holds1_start : Holds1 (.map []) fun _ => 0 := fun _ => rfl
def cnt (b : List Int) (k : Nat) (x : Int) : Int := ((b.take k).count x : Nat)
theorem cnt_zero (b : List Int) : cnt b 0 = fun _ => 0 := by funext x; simp [cnt]
theorem cnt_le {b : List Int} (k : Nat) (x : Int) (hb : b.length ≤ 400) : 0 ≤ cnt b k x ∧ cnt b k x ≤ 400 := by
  have h1 := count_take_le b k x
  have h2 := List.count_le_length (a := x) (l := b)
  unfold cnt
  omega
theorem cnt_succ {b : List Int} {k : Nat} {x : Int} (h : b[k]? = some x) (y : Int) : cnt b (k + 1) y = if y = x then cnt b k x + 1 else cnt b k y := by
  unfold cnt
  rw [count_take_succ h]
  split
  · rename_i e; subst e; omega
  · omega
theorem cnt_all {b : List Int} {k : Nat} (h : b.length ≤ k) (x : Int) : cnt b k x = (b.count x : Nat) := by unfold cnt; rw [List.take_of_length_le h]
theorem Rd.intw {w w' : World} {B D n k : Nat} {A : Option Addr} {l : List Int} (h : Rd w B 1 A n (l.map iv)) (hk : k < n) (hl : l.length = n) (hb : Below D w w') (hD : B ≤ D) : ∃ ad z, A = some ad ∧ l[k]? = some z ∧ z ∈ l ∧ w'.cell? (ad.add k) = some (.int .i64 z) := by
  obtain ⟨ad, u, rfl, hbb, hu, hc⟩ := (h.below hb hD).at_ hk
  have hx := List.getElem?_eq_getElem (l := l) (by omega : k < l.length)
  refine ⟨ad, l[k], rfl, hx, List.getElem_mem _, hc.trans ?_⟩
  rw [← hu, List.getElem?_map, hx]; rfl

set_option maxRecDepth 100000 in
set_option maxHeartbeats 4000000 in
theorem within_any (A1 A2 : Option Addr) (c1 c2 B : Nat) (a b : List Int) (w : World) (hr1 : Rd w B 1 A1 a.length (a.map iv)) (hr2 : Rd w B 1 A2 b.length (b.map iv)) (hB : B ≤ w.heap.size)
    (hl1 : a.length ≤ 400) (hl2 : b.length ≤ 400) (hw1 : ∀ x ∈ a, (Lit.int .i64 x).wf = true) (hw2 : ∀ x ∈ b, (Lit.int .i64 x).wf = true) :
    Calls Try.prog 62 #[.slice A1 a.length c1, .slice A2 b.length c2] w fun e w' => e = .returned (.bool (withinB a b)) ∧ Below w.heap.size w w' := by
  obtain ⟨n, hn⟩ : ∃ n, n = a.length := ⟨_, rfl⟩
  obtain ⟨m, hm⟩ : ∃ m, m = b.length := ⟨_, rfl⟩
  have Hn := Lib.hid hn
  have Hm := Lib.hid hm
  rw [← hn] at hr1 hl1 ⊢
  rw [← hm] at hr2 hl2 ⊢
  clear hn hm
  have hmm := @run_makeMap Try.prog
  go_enter Try.func62, Try.ntmps62
  go_wp2_with fail
  go_loopw [7, 13] (fun _ i wr => ∃ k : Nat, ∃ D : DataW Unit, k ≤ m ∧ i = .int .i64 k ∧ wr.ownsMap Try.prog 3 (plainElem Try.prog 3) w.heap.size k D ∧ Hid (Holds1 D (cnt b k)) ∧ Below w.heap.size w wr) (fun _ i _ => m - (intOf i).toNat)
  case atStart => exact ⟨0, _, Nat.zero_le _, rfl, World.ownsMap_made _ _ _ _, Lib.hid (by rw [cnt_zero]; exact holds1_start), (Below.refl _ _).alloc (Nat.le_refl _) _⟩
  obtain ⟨k, D, hk, rfl, hown, HD, hbel⟩ := hrel
  have hws := hbel.size
  by_cases hlt : k < m
  · obtain ⟨ad, z, rfl, hz, hzm, g0⟩ := hr2.intw hlt (Hm.out).symm hbel hB
    have hkey : keyOf Try.prog 3 (.int .i64 z) = some (.int .i64 z) := keyOf_int_mk Try.underlying3 (hw2 z hzm)
    have hq := cnt_le (b := b) k z (by have := Hm.out; omega)
    have hst := cnt_succ hz
    have HST := Lib.hid hst
    clear hst hz
    have HDz := fun c hat => (HD.out.at_ (x := z) (c := c) hat)
    generalize cnt b k z = q at *
    have hk0 : (0 : Int) ≤ (k : Int) := by omega
    have hk1 : (k : Int) < (m : Int) := by omega
    go_wp2_with (first
      | (at_lookup; go_must (refine wpList_lookup_own_int _ rfl _ _ 125 rfl 3 3 .i64 kint Try.underlying125 Try.underlying3 (zint _) w.heap.size k _ rfl hown _ _ rfl hkey ?_); intro c hat hwc; obtain rfl := HDz c hat; clear hat HDz)
      | (at_mapUpdate; go_must (refine wpList_mapUpdate_own _ rfl _ _ _ 125 rfl 3 3 kint Try.underlying125 _ w.heap.size k _ rfl hown (by unfold maxLen; omega) _ _ _ rfl rfl hkey _ [] (plainElem_int Try.underlying3 (WalkArith.wf_i64 (by omega))) ?_); intro w1 hown1 hgrow1))
    go_roundw
    case rel =>
      exact ⟨k + 1, _, by omega, by go_num, hown1, Lib.hid (HD.out.put hown.isMap fun y => HST.out y), hbel.grown hgrow1 hbel.size (fun j hj => by cases hj; exact Nat.le_refl _)⟩
    case measure => simp [intOf]; omega
  · have e : k = m := by omega
    subst e
    have HD0 := HD
    clear HD
    go_wp2_with fail
    go_loopw [9, 24] (fun _ i w2 => ∃ j : Nat, ∃ D : DataW Unit, j ≤ n ∧ i = .int .i64 j ∧ w2.ownsMap Try.prog 3 (plainElem Try.prog 3) w.heap.size (k + j) D ∧ Hid (Holds1 D (fun x => (b.count x : Nat) - cnt a j x)) ∧ Hid (WOk a b j) ∧ Below w.heap.size w w2) (fun _ i _ => n - (intOf i).toNat)
    case atStart =>
      refine ⟨0, _, Nat.zero_le _, rfl, hown, Lib.hid fun x => ?_, Lib.hid (WOk.start a b), hbel⟩
      rw [HD0.out x, cnt_all (by have := Hm.out; omega)]
      simp [cnt]
    clear hown HD0 hbel hws
    obtain ⟨j, D, hj, rfl, hown, HD, HO, hbel⟩ := hrel
    have hws := hbel.size
    by_cases hlt2 : j < n
    · obtain ⟨ad, z, rfl, hz, hzm, g0⟩ := hr1.intw hlt2 (Hn.out).symm hbel hB
      have hkey : keyOf Try.prog 3 (.int .i64 z) = some (.int .i64 z) := keyOf_int_mk Try.underlying3 (hw1 z hzm)
      have hq := cnt_le (b := a) j z (by have := Hn.out; omega)
      have hp : (b.count z : Nat) ≤ 400 := Nat.le_trans (List.count_le_length) (by have := Hm.out; omega)
      have hst := cnt_succ hz
      have HST := Lib.hid hst
      have HZ := Lib.hid hz
      clear hst hz
      have HDz := fun c hat => (HD.out.at_ (x := z) (c := c) hat)
      have HQ : Hid (cnt a j z = ((a.take j).count z : Nat)) := Lib.hid rfl
      obtain ⟨q, hqe⟩ : ∃ q : Int, q = (b.count z : Nat) - cnt a j z := ⟨_, rfl⟩
      simp only [← hqe] at HDz
      have hq0 : -400 ≤ q ∧ q ≤ 400 := by omega
      have HE := Lib.hid hqe
      clear hqe hq hp
      have hk0 : (0 : Int) ≤ (j : Int) := by omega
      have hk1 : (j : Int) < (n : Int) := by omega
      have hput : ∀ D' : DataW Unit, IsMap D' → (D'.put (.int .i64 z) (.lit (.int .i64 (q - 1)))).atKey (.int .i64 z) (.lit (.int .i64 0)) = .lit (.int .i64 (q - 1)) := fun D' h => atKey_put_same h (by trivial) _ _
      by_cases hneg : q - 1 < 0
      · go_wp2_with (first
          | (at_lookup; refine wpList_lookup_own_int _ rfl _ _ 125 rfl 3 3 .i64 kint Try.underlying125 Try.underlying3 (zint _) w.heap.size (k + j) _ rfl hown _ _ rfl hkey ?_; intro c hat hwc; obtain rfl := HDz c hat; clear hat HDz)
          | (at_mapUpdate; go_must (refine wpList_mapUpdate_own _ rfl _ _ _ 125 rfl 3 3 kint Try.underlying125 _ w.heap.size (k + j) _ rfl hown (by unfold maxLen; omega) _ _ _ rfl rfl hkey _ [] (plainElem_int Try.underlying3 (WalkArith.wf_i64 (by omega))) ?_); intro w1 hown1 hgrow1)
          | (at_lookup; go_must (refine wpList_lookup_own_int _ rfl _ _ 125 rfl 3 3 .i64 kint Try.underlying125 Try.underlying3 (zint _) w.heap.size (k + j + 1) _ rfl hown1 _ _ rfl hkey ?_); intro c2 hat2 hwc2; obtain rfl : c2 = c - 1 := (by have h2 := hat2.symm.trans (hput _ hown.isMap); injection h2 with h2; injection h2); clear hat2 hput))
        have hc0 : b.count z < (a.take j).count z + 1 := by have h1 := HE.out; have h2 := HQ.out; omega
        have H0 := Lib.hid (within_no HZ.out hc0)
        clear hc0
        go_ret
        exact ⟨by rw [H0.out]; rfl, hbel.grown hgrow1 hbel.size (fun j hj => by cases hj; exact Nat.le_refl _)⟩
      · go_wp2_with (first
          | (at_lookup; refine wpList_lookup_own_int _ rfl _ _ 125 rfl 3 3 .i64 kint Try.underlying125 Try.underlying3 (zint _) w.heap.size (k + j) _ rfl hown _ _ rfl hkey ?_; intro c hat hwc; obtain rfl := HDz c hat; clear hat HDz)
          | (at_mapUpdate; go_must (refine wpList_mapUpdate_own _ rfl _ _ _ 125 rfl 3 3 kint Try.underlying125 _ w.heap.size (k + j) _ rfl hown (by unfold maxLen; omega) _ _ _ rfl rfl hkey _ [] (plainElem_int Try.underlying3 (WalkArith.wf_i64 (by omega))) ?_); intro w1 hown1 hgrow1)
          | (at_lookup; go_must (refine wpList_lookup_own_int _ rfl _ _ 125 rfl 3 3 .i64 kint Try.underlying125 Try.underlying3 (zint _) w.heap.size (k + j + 1) _ rfl hown1 _ _ rfl hkey ?_); intro c2 hat2 hwc2; obtain rfl : c2 = c - 1 := (by have h2 := hat2.symm.trans (hput _ hown.isMap); injection h2 with h2; injection h2); clear hat2 hput))
        have hc0 : (a.take j).count z + 1 ≤ b.count z := by have h1 := HE.out; have h2 := HQ.out; omega
        have H0 := Lib.hid (HO.out.step HZ.out hc0)
        clear hc0
        go_roundw
        case rel =>
          refine ⟨j + 1, _, by omega, by go_num, hown1, Lib.hid (HD.out.put hown.isMap fun y => ?_), H0, hbel.grown hgrow1 hbel.size (fun j hj => by cases hj; exact Nat.le_refl _)⟩
          rw [HST.out y]
          have h1 := HE.out
          split
          · rename_i e; subst e; omega
          · rfl
        case measure => simp [intOf]; omega
    · have H0 : Hid (withinB a b = true) := Lib.hid (by
        have h := HO.out
        rw [show j = a.length by have := Hn.out; omega] at h
        exact h.done)
      go_wp2_with fail
      go_ret
      exact ⟨by rw [H0.out]; rfl, hbel⟩
end Go.Proofs.Ytelailhghhjleaa
