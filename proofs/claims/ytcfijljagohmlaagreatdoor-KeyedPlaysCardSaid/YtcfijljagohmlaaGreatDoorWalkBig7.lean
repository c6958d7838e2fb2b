/- The walk of weirref1's Group. -/
import Derived.Test.YtcfijljagohmlaaGreatDoorBigNums
import Derived.Test.YtcfijljagohmlaaGreatDoorWalkGroup
namespace Go.Proofs.YtcfijljagohmlaaGreatDoor
open Go.RowKit

/-- A new number of 64 bits, not below nought. -/
theorem newnat_any (x : Nat) (w : World) (h : x ≤ 4294967296) :
    Calls Tryz.prog 50 #[.int .i64 x] w fun e w' => e = .returned (.pointer (some ⟨w.heap.size, 0, none⟩)) ∧ BigV w' w.heap.size x ∧ Below w.heap.size w w' :=
  (newint_any x w (by omega) (by omega)).mono fun e w' ⟨h1, h2, h3⟩ => ⟨h1, by
    have e : decide ((x : Int) < 0) = false := decide_eq_false (by omega)
    rw [e, Int.natAbs_natCast] at h2
    exact h2, h3⟩
theorem BigV.far2 {w w' : World} {k v g x : Nat} (h : BigV w k v) (hx : BigV w g x) (hg : w.grownBy w' (some g)) (hne : g ≠ k) : BigV w' k v := by
  obtain ⟨q, hb, _⟩ := hx.parts
  exact h.far hb hg hne
theorem xor_i64 {a b : Nat} (ha : a < 4294967296) (hb : b < 4294967296) : bits BinOp.xor IntKind.i64 (a : Int) (b : Int) = ((a ^^^ b : Nat) : Int) := by
  have hx : a ^^^ b < 4294967296 := xor_lt ha hb
  show IntKind.i64.wrap ((BitVec.ofInt 64 (a : Int) ^^^ BitVec.ofInt 64 (b : Int)).toNat : Int) = _
  rw [BitVec.toNat_xor, BitVec.ofInt_natCast, BitVec.ofInt_natCast, BitVec.toNat_ofNat, BitVec.toNat_ofNat, Nat.mod_eq_of_lt (by omega), Nat.mod_eq_of_lt (by omega)]
  exact IntWalk.i64_in _ (by omega)
theorem fnv_xor_end {x : Nat} (hx : x < 4294967296) : Value.int IntKind.i64 ((bits BinOp.xor IntKind.i64 ((x : Int) / 65536) (x : Int)).tmod 16) = Value.int .i64 ((((x / 65536) ^^^ x) % 16 : Nat) : Int) := by
  have e : ((x : Int) / 65536) = ((x / 65536 : Nat) : Int) := by omega
  rw [e, xor_i64 (a := x / 65536) (b := x) (by omega) (by omega)]
  have h : (((x / 65536 ^^^ x : Nat) : Int).tmod 16) = (((x / 65536 ^^^ x) % 16 : Nat) : Int) := by
    rw [Int.tmod_eq_emod_of_nonneg (by omega)]; omega
  exact congrArg (Value.int .i64) h
set_option maxRecDepth 100000 in
set_option maxHeartbeats 2000000 in
theorem rgroup_any (k : ByteArray) (w : World) (hk : k.size ≤ 140737488355328) :
    Calls Tryz.prog 13 #[.string k] w fun e w' => e = .returned (.int .i64 (gOf k)) ∧ Below w.heap.size w w' := by
  obtain ⟨l, hl⟩ : ∃ l, l = k.data.toList := ⟨_, rfl⟩
  have HS : Hid (l.length = k.size) := Lib.hid (by rw [hl, Array.length_toList]; rfl)
  have HG : Hid (gOf k = ((fnvTo l k.size / 65536) ^^^ fnvTo l k.size) % 16) := Lib.hid (by
    rw [fnvTo, List.take_of_length_le (by rw [HS.out]; exact Nat.le_refl _), hl]; rfl)
  have HN1 : ∀ W, Calls Tryz.prog 50 #[.int .i64 4294967296] W fun e w' => e = .returned (.pointer (some ⟨W.heap.size, 0, none⟩)) ∧ BigV w' W.heap.size 4294967296 ∧ Below W.heap.size W w' := fun W => newnat_any 4294967296 W (by omega)
  have HN2 : ∀ W, Calls Tryz.prog 50 #[.int .i64 2166136261] W fun e w' => e = .returned (.pointer (some ⟨W.heap.size, 0, none⟩)) ∧ BigV w' W.heap.size 2166136261 ∧ Below W.heap.size W w' := fun W => newnat_any 2166136261 W (by omega)
  have HN3 : ∀ W, Calls Tryz.prog 50 #[.int .i64 16777619] W fun e w' => e = .returned (.pointer (some ⟨W.heap.size, 0, none⟩)) ∧ BigV w' W.heap.size 16777619 ∧ Below W.heap.size W w' := fun W => newnat_any 16777619 W (by omega)
  go_enter Tryz.func13, Tryz.ntmps13
  go_upto_region 2 with (go_at_call 50; go_must (refine (HN1 _).mono ?_); rintro e w1 ⟨rfl, hv1, hb1⟩)
  go_wp2_with (go_at_call 50; go_must (refine (HN2 _).mono ?_); rintro e w2 ⟨rfl, hv2, hb2⟩)
  have hm2 := hv1.up hb2
  have hbel := below_up hb1 hb2
  have hlt : w.heap.size < w1.heap.size := by obtain ⟨x, h, _⟩ := hv1.parts; exact h.lt
  obtain ⟨gm, hgm⟩ : ∃ gm, gm = w.heap.size := ⟨_, rfl⟩
  obtain ⟨gx, hgx⟩ : ∃ gx, gx = w1.heap.size := ⟨_, rfl⟩
  rw [← hgm] at hm2
  rw [← hgx] at hv2
  have hne : gx ≠ gm := by omega
  have hle : w.heap.size ≤ gm ∧ w.heap.size ≤ gx := by omega
  rw [← hgm, ← hgx]
  have HD := Lib.hid hgm
  clear hgm hgx hv1 hb1 hb2 hlt
  have HK := Lib.hid hk
  obtain ⟨n, hn⟩ : ∃ n, n = k.size := ⟨_, rfl⟩
  go_loopw [5] (fun i wr => ∃ j : Nat, j ≤ n ∧ i = .int .i64 j ∧ BigV wr gm 4294967296 ∧ BigV wr gx (fnvTo l j) ∧ Below w.heap.size w wr) (fun i _ => n - (intOf i).toNat)
  case atStart => exact ⟨0, Nat.zero_le _, rfl, hm2, by rw [fnvTo_zero]; exact hv2, hbel⟩
  obtain ⟨j, hj, rfl, hmr, hxr, hbr⟩ := hrel
  have hx := fnvB_lt (l.take j)
  rw [← fnvTo] at hx
  by_cases hlt : j < n
  · have hlk : j < k.size := by omega
    have hb : l[j]? = some k[j] := by
      rw [hl, Array.getElem?_toList]
      exact Array.getElem?_eq_getElem hlk
    have HN := Lib.hid (fnvTo_next hb)
    have hb256 : (k[j]).toNat < 256 := UInt8.toNat_lt _
    have hyx : fnvTo l j ^^^ (k[j]).toNat < 4294967296 := xor_lt hx (by omega)
    have hne1 : gx < wr.heap.size := by obtain ⟨q, h, _⟩ := hxr.parts; exact h.lt
    have hne2 : gm < wr.heap.size := by obtain ⟨q, h, _⟩ := hmr.parts; exact h.lt
    have HNB := fun W => newnat_any (k[j]).toNat W (by omega)
    have HXO := fun W g1 (h1 : BigV W gx (fnvTo l j)) (h2 : BigV W g1 (k[j]).toNat) => bxor_any gx g1 (fnvTo l j) (k[j]).toNat W h1 h2 hx (by omega)
    have HMU := fun W g1 (h1 : BigV W gx (fnvTo l j ^^^ (k[j]).toNat)) (h2 : BigV W g1 16777619) (h3 : gx ≠ g1) => bmul_any gx g1 _ 16777619 W h1 h2 hyx (by omega) (by omega) h3
    have hpl : (fnvTo l j ^^^ (k[j]).toNat) * 16777619 < 18446744073709551616 := by
      have := Nat.mul_le_mul_right 16777619 (Nat.le_of_lt hyx)
      omega
    have HMO := fun W (h1 : BigV W gx ((fnvTo l j ^^^ (k[j]).toNat) * 16777619)) (h2 : BigV W gm 4294967296) => mod_any gx gm _ W h1 h2 hpl
    clear hb hl
    generalize fnvTo l j = y at *
    go_wp2_with (first
      | (go_at_call_of 50 j; go_must (refine (HNB _).mono ?_); rintro e w3 ⟨rfl, hb3, hl3⟩)
      | (go_at_call 51; go_must (refine (HXO _ _ (hxr.up hl3) hb3).mono ?_); rintro e w4 ⟨rfl, hx4, hg4⟩)
      | (go_at_call 50; go_must (refine (HN3 _).mono ?_); rintro e w5 ⟨rfl, hb5, hl5⟩)
      | (go_at_call 52; go_must (refine (HMU _ _ (hx4.up hl5) hb5 (by have := hl3.size; have := hg4.size; omega)).mono ?_); rintro e w6 ⟨rfl, hx6, hg6⟩)
      | (go_at_call 53; go_must (refine (HMO _ hx6 ((((hmr.up hl3).far2 (hxr.up hl3) hg4 hne).up hl5).far2 (hx4.up hl5) hg6 hne)).mono ?_); rintro e w7 ⟨rfl, hx7, hg7⟩))
    go_roundw
    case rel =>
      refine ⟨j + 1, by omega, by go_num, ((((hmr.up hl3).far2 (hxr.up hl3) hg4 hne).up hl5).far2 (hx4.up hl5) hg6 hne).far2 hx6 hg7 hne, ?_, ?_⟩
      · rw [HN.out]; exact hx7
      · have k3 : Below w.heap.size w w3 := hbr.trans (hl3.mono hbr.size)
        have k4 : Below w.heap.size w w4 := k3.grown hg4 (by exact k3.size) (fun k hk => by cases hk; exact hle.2)
        have k5 : Below w.heap.size w w5 := k4.trans (hl5.mono k4.size)
        have k6 : Below w.heap.size w w6 := k5.grown hg6 (by exact k5.size) (fun k hk => by cases hk; exact hle.2)
        exact k6.grown hg7 (by exact k6.size) (fun k hk => by cases hk; exact hle.2)
    case measure => simp [intOf]; omega
  · obtain rfl : j = n := by omega
    have HI := fun q => int64_any gx (fnvTo l j) (wr.drewN q) (hxr.drewN q) (by omega)
    have HE := Lib.hid (fnv_xor_end hx)
    rw [← hn] at HG
    generalize fnvTo l j = y at *
    go_wp2_with (go_at_call 54; go_must (refine (HI 0).mono ?_); rintro e w3 ⟨rfl, rfl⟩)
    go_ret
    exact ⟨by rw [HG.out]; exact congrArg Ending.returned HE.out, below_drewN hbr 0⟩
end Go.Proofs.YtcfijljagohmlaaGreatDoor
