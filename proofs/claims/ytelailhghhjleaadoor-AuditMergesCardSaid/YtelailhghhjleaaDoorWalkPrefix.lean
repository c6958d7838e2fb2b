/- The walks of slices.Equal at ints, slices.IndexFunc at lines, den.Prefix, weirref1.Prefix, audit.count, audit.Less, weirsame.Lines. -/
import Derived.Test.YtelailhghhjleaaDoorWalkLines
import Derived.Test.YtelailhghhjleaaDoorWalkMarks2
import Derived.Test.YtelailhghhjleaaDoorPlainMerge
import Derived.BigQuiet
import Derived.Deep.CutBlock
import Derived.Deep.CutRange
namespace Go.Proofs.YtelailhghhjleaaDoor
open Go.RowKit

theorem getD_same {a b : List Int} (hl : a.length = b.length) (h : ∀ j, j < a.length → a.getD j 0 = b.getD j 0) : a = b := by
  refine List.ext_getElem hl fun i h1 h2 => ?_
  have := h i h1
  simpa [List.getD_eq_getElem?_getD, h1, h2] using this
set_option maxRecDepth 100000 in
set_option maxHeartbeats 1000000 in
theorem ints_equal (A A' : Option Addr) (c c' B n : Nat) (a b : List Int) (w : World) (hx : Rd w B 1 A n (a.map iv)) (hy : Rd w B 1 A' n (b.map iv)) (hl : n ≤ 140737488355328) (ha : a.length = n) (hb : b.length = n) :
    Calls Tryd.prog 79 #[.slice A n c, .slice A' n c'] w fun e w' => e = .returned (.bool (decide (a = b))) ∧ ∃ q, w' = w.drewN q := by
  have Ha := Lib.hid ha
  have Hb := Lib.hid hb
  clear ha hb
  go_enter Tryd.func79, Tryd.ntmps79
  go_wp2_with fail
  go_loopw [13] (fun i wr => ∃ k : Nat, k ≤ n ∧ i = .int .i64 k ∧ Hid (∀ j, j < k → a.getD j 0 = b.getD j 0) ∧ ∃ q, wr = w.drewN q) (fun i _ => n - (intOf i).toNat)
  case atStart => exact ⟨0, Nat.zero_le _, rfl, Lib.hid (fun j hj => absurd hj (by omega)), 0, rfl⟩
  case round =>
    obtain ⟨k, hk, rfl, HS, q, hw⟩ := hrel
    have hxr : Rd wr B 1 A n (a.map iv) := by rw [hw]; exact hx.drewN q
    have hyr : Rd wr B 1 A' n (b.map iv) := by rw [hw]; exact hy.drewN q
    have HW := Lib.hid hw
    clear hw
    by_cases hlt : k < n
    · obtain ⟨ad, rfl, _, g0⟩ := hxr.intm hlt
      obtain ⟨ad', rfl, _, p0⟩ := hyr.intm hlt
      obtain ⟨x, hxe⟩ : ∃ x, x = a.getD k 0 := ⟨_, rfl⟩
      obtain ⟨y, hye⟩ : ∃ y, y = b.getD k 0 := ⟨_, rfl⟩
      have HX := Lib.hid hxe
      have HY := Lib.hid hye
      rw [← hxe] at g0
      rw [← hye] at p0
      clear hxe hye
      have hi0 : (0 : Int) ≤ (k : Int) := by omega
      have hi1 : (k : Int) < (n : Int) := by omega
      by_cases hxy : x = y
      · have HS2 : Hid (∀ j, j < k + 1 → a.getD j 0 = b.getD j 0) := Lib.hid fun j hj => by
          by_cases hjk : j < k
          · exact HS.out j hjk
          · obtain rfl : j = k := by omega
            rw [← HX.out, ← HY.out, hxy]
        subst hxy
        go_wp2_with fail
        go_quiet (fail)
        go_wp2_with fail
        go_roundw
        case rel => exact ⟨k + 1, by omega, by go_num, HS2, q + nq, by rw [HW.out, World.drewN_drewN]⟩
        case measure => simp [intOf]; omega
      · have HE : Hid (decide (a = b) = false) := Lib.hid (by
          rw [decide_eq_false_iff_not]
          intro e
          exact hxy (by rw [HX.out, HY.out, e]))
        go_wp2_with fail
        go_quiet (fail)
        go_wp2_with fail
        go_ret
        exact ⟨by rw [HE.out]; rfl, q + nq, by rw [HW.out, World.drewN_drewN]⟩
    · have HE : Hid (decide (a = b) = true) := Lib.hid (by
        rw [decide_eq_true_iff]
        exact getD_same (by rw [Ha.out, Hb.out]) fun j hj => HS.out j (by have := Ha.out; omega))
      go_wp2_with fail
      go_ret
      exact ⟨by rw [HE.out]; rfl, q, HW.out⟩

set_option maxRecDepth 100000 in
set_option maxHeartbeats 1000000 in
theorem idxcl_any (y : Pl) (key : ByteArray) (v : Value) (gx : Nat) (w : World) (hb : Blk w gx 64 #[.string key, v]) :
    Calls Tryd.prog 78 #[.agg #[.string y.ln.key, .slice y.A y.ln.nums.length y.c], .pointer (some ⟨gx, 0, none⟩)] w fun e w' => e = .returned (.bool (y.ln.key.toList == key.toList)) ∧ Below w.heap.size w w' := by
  obtain ⟨x0, x1⟩ := cells2 (hb.alloc (.cells #[.string y.ln.key, .slice y.A y.ln.nums.length y.c] 64))
  go_enter Tryd.func78, Tryd.ntmps78
  go_wp2
  go_ret
  exact ⟨rfl, (Below.refl _ _).alloc (Nat.le_refl _) _⟩

def fIdx (k : ByteArray) (l : List Ln) : Int := if idxL k l < l.length then (idxL k l : Nat) else -1
set_option maxRecDepth 100000 in
set_option maxHeartbeats 2000000 in
theorem lnidx_any (A : Option Addr) (c B n gx : Nat) (ps : List Pl) (key : ByteArray) (v : Value) (w : World) (hr : RdPs w B A n ps) (hB : B ≤ w.heap.size) (hn : n ≤ 140737488355328) (hb : Blk w gx 64 #[.string key, v]) :
    Calls Tryd.prog 77 #[.slice A n c, .func (.func 78) #[] #[.pointer (some ⟨gx, 0, none⟩)]] w fun e w' => e = .returned (.int .i64 (fIdx key (lnsOf ps))) ∧ Below w.heap.size w w' := by
  have Hn := Lib.hid hr.len
  go_enter Tryd.func77, Tryd.ntmps77
  go_wp2_with fail
  go_loopw [8] (fun i wr => ∃ k : Nat, k ≤ n ∧ i = .int .i64 k ∧ Hid (∀ (j : Nat) (x : Ln), j < k → (lnsOf ps)[j]? = some x → x.key ≠ key) ∧ Below w.heap.size w wr) (fun i _ => n - (intOf i).toNat)
  case atStart => exact ⟨0, Nat.zero_le _, rfl, Lib.hid (fun j _ hj => absurd hj (by omega)), Below.refl _ _⟩
  case round =>
    obtain ⟨k, hk, rfl, HS, hbel⟩ := hrel
    have hws := hbel.size
    by_cases hlt : k < n
    · obtain ⟨ad, p, rfl, _, hx0, g0, g1, hpo⟩ := (hr.below hbel hB).at_ hlt
      unfold Pl.val at g1
      have Hx := Lib.hid (lnsOf_at hx0)
      have hcl := idxcl_any p key v gx wr (hb.up hbel)
      clear hx0 hpo
      have hk0 : (0 : Int) ≤ (k : Int) := by omega
      have hk1 : (k : Int) < (n : Int) := by omega
      rcases he : (p.ln.key.toList == key.toList)
      · rw [he] at hcl
        have HS2 : Hid (∀ (j : Nat) (x : Ln), j < k + 1 → (lnsOf ps)[j]? = some x → x.key ≠ key) := Lib.hid fun j x hj hx e => by
          by_cases hjk : j < k
          · exact HS.out j x hjk hx e
          · obtain rfl : j = k := by omega
            rw [Hx.out] at hx
            injection hx with hx
            rw [hx, e] at he
            simp at he
        clear he
        go_wp2_with (first
          | (go_at_call 78; go_must (refine hcl.mono ?_); rintro e w2 ⟨rfl, hb2⟩))
        go_roundw
        case rel => exact ⟨k + 1, by omega, by go_num, HS2, below_up hbel hb2⟩
        case measure => simp [intOf]; omega
      · rw [he] at hcl
        have HI : Hid (fIdx key (lnsOf ps) = (k : Nat)) := Lib.hid (by
          have e : p.ln.key = key := bytes_same (by simpa using he)
          have : idxL key (lnsOf ps) = k := idxL_is (by rw [lnsOf_len, Hn.out]; omega) HS.out (fun x hx => by rw [Hx.out] at hx; injection hx with hx; rw [← hx, e])
          rw [fIdx, this, if_pos (by rw [lnsOf_len, Hn.out]; exact hlt)])
        clear he
        go_wp2_with (first
          | (go_at_call 78; go_must (refine hcl.mono ?_); rintro e w2 ⟨rfl, hb2⟩))
        go_ret
        exact ⟨by rw [HI.out]; rfl, below_up hbel hb2⟩
    · have HI : Hid (fIdx key (lnsOf ps) = -1) := Lib.hid (by
        have : idxL key (lnsOf ps) = (lnsOf ps).length := idxL_is (Nat.le_refl _) (fun j x hj hx => HS.out j x (by rw [lnsOf_len, Hn.out] at hj; omega) hx) (fun x hx => by simp at hx)
        rw [fIdx, this, if_neg (by omega)])
      go_wp2_with fail
      go_ret
      exact ⟨by rw [HI.out]; rfl, hbel⟩


set_option maxRecDepth 100000 in
set_option maxHeartbeats 4000000 in
theorem dprefix_any (A1 A2 : Option Addr) (c1 c2 B n1 n2 : Nat) (p1 p2 : List Pl) (w : World) (hr1 : RdPs w B A1 n1 p1) (hr2 : RdPs w B A2 n2 p2) (hB : B ≤ w.heap.size) (hl1 : n1 ≤ 140737488355328) (hl2 : n2 ≤ 140737488355328)
    (hk1 : ∀ p ∈ p1, p.ln.nums.length ≤ 400) (hk2 : ∀ p ∈ p2, p.ln.nums.length ≤ 400) :
    Calls Tryd.prog 57 #[.slice A1 n1 c1, .slice A2 n2 c2] w fun e w' => e = .returned (.bool (prefB (lnsOf p1) (lnsOf p2))) ∧ Below w.heap.size w w' := by
  have Hn1 := Lib.hid hr1.len
  have Hn2 := Lib.hid hr2.len
  have HK1 := Lib.hid hk1
  have HK2 := Lib.hid hk2
  clear hk1 hk2
  go_enter Tryd.func57, Tryd.ntmps57
  go_wp2_with fail
  go_loopw [10] (fun i wr => ∃ k : Nat, k ≤ n1 ∧ i = .int .i64 k ∧ Hid (∀ (j : Nat) (x : Ln), j < k → (lnsOf p1)[j]? = some x → pref1 (lnsOf p2) x = true) ∧ Below w.heap.size w wr) (fun i _ => n1 - (intOf i).toNat)
  case atStart => exact ⟨0, Nat.zero_le _, rfl, Lib.hid (fun j _ hj => absurd hj (by omega)), Below.refl _ _⟩
  case round =>
    obtain ⟨k, hk, rfl, HS, hbel⟩ := hrel
    have hws := hbel.size
    by_cases hlt : k < n1
    · obtain ⟨ad, p, rfl, _, hx0, g0, g1, hpo⟩ := (hr1.below hbel hB).at_ hlt
      have Hx := Lib.hid (lnsOf_at hx0)
      have hp400 := HK1.out p (List.mem_of_getElem? hx0)
      have hrow := hpo.rd
      have hcap := hpo.cap
      obtain ⟨m, hm⟩ : ∃ m, m = p.ln.nums.length := ⟨_, rfl⟩
      have Hm := Lib.hid hm
      unfold Pl.val at g1
      rw [← hm] at g1 hp400 hrow hcap
      clear hx0 hpo hm
      have hk0 : (0 : Int) ≤ (k : Int) := by omega
      have hk3 : (k : Int) < (n1 : Int) := by omega
      go_upto_region 4 with fail
      have hbx := Blk.new wr 64 #[.string p.ln.key, .slice p.A m p.c]
      have hrowa := hrow.alloc (Nat.le_trans hB hws) (.cells #[.string p.ln.key, .slice p.A m p.c] 64)
      have hbela := hbel.alloc hws (.cells #[.string p.ln.key, .slice p.A m p.c] 64)
      obtain ⟨gx, hgx⟩ : ∃ gx, gx = wr.heap.size := ⟨_, rfl⟩
      rw [← hgx] at hbx ⊢
      generalize wr.alloc (.cells #[.string p.ln.key, .slice p.A m p.c] 64) = wa at *
      have hBa := Nat.le_trans hB hbela.size
      have hix := lnidx_any A2 c2 B n2 gx p2 p.ln.key (.slice p.A m p.c) wa (hr2.below hbela hB) hBa hl2 hbx
      clear hgx g0 g1 hrow hbel hws
      by_cases hno : idxL p.ln.key (lnsOf p2) < (lnsOf p2).length
      · have hfi : fIdx p.ln.key (lnsOf p2) = (idxL p.ln.key (lnsOf p2) : Nat) := by rw [fIdx, if_pos hno]
        obtain ⟨y, hy1, _, hy3⟩ := idxL_at hno
        rw [hfi] at hix
        rw [lnsOf_len, Hn2.out] at hno
        clear hfi
        generalize idxL p.ln.key (lnsOf p2) = i at *
        go_upto_region 5 with (first
          | (go_at_call 77; go_must (refine hix.mono ?_); rintro e w2 ⟨rfl, hb2⟩))
        have hbx2 := hbx.up hb2
        obtain ⟨x0, x1⟩ := cells2 hbx2
        have hbel2 := below_up hbela hb2
        obtain ⟨ad2, q, rfl, _, hq0, q0, q1, hqo⟩ := (hr2.below hbel2 hB).at_ hno
        have Hq := Lib.hid (lnsOf_at hq0)
        have hq400 := HK2.out q (List.mem_of_getElem? hq0)
        rw [Hq.out] at hy1
        injection hy1 with hy1
        subst hy1
        have HY := Lib.hid hy3
        have hqrow := hqo.rd
        have hqcap := hqo.cap
        obtain ⟨m2, hm2⟩ : ∃ m2, m2 = q.ln.nums.length := ⟨_, rfl⟩
        have Hm2 := Lib.hid hm2
        unfold Pl.val at q1
        rw [← hm2] at q1 hq400 hqrow hqcap
        have hrow2 := hrowa.below hb2 hBa
        have hi0 : (0 : Int) ≤ (i : Int) := by omega
        have hi1 : (i : Int) < (n2 : Int) := by omega
        have hd0 : decide ((i : Int) < 0) = false := by simp
        clear hq0 hy3 hqo hm2 hix hbx hrowa
        by_cases hlen : m2 < m
        · have hd1 : decide ((m2 : Int) < (m : Int)) = true := by simp; exact hlen
          have HF : Hid (prefB (lnsOf p1) (lnsOf p2) = false) := Lib.hid (prefB_fail Hx.out (pref1_short HY.out (by rw [← Hm.out, ← Hm2.out]; exact hlen)))
          go_quiet (fail)
          go_wp2_with fail
          go_ret
          exact ⟨by rw [HF.out]; rfl, below_drewN hbel2 _⟩
        · have hd1 : decide ((m2 : Int) < (m : Int)) = false := by simp; omega
          have hd2 : ¬ ((m2 : Int) < (m : Int)) := by omega
          have hmq : m ≤ q.c := by omega
          have hP1 := pref1_is HY.out (by rw [← Hm.out, ← Hm2.out]; omega)
          have hrowq : Rd w2 B 1 q.A m ((q.ln.nums.take m).map iv) := by
            have := Rd.take hqrow (k := m) (by omega)
            rwa [Nat.mul_one, ← List.map_take] at this
          have HLT : Hid ((q.ln.nums.take m).length = m) := Lib.hid (by rw [List.length_take, ← Hm2.out]; omega)
          have heqc := fun W (h1 : Rd W B 1 p.A m (p.ln.nums.map iv)) (h2 : Rd W B 1 q.A m ((q.ln.nums.take m).map iv)) => ints_equal p.A q.A p.c q.c B m p.ln.nums (q.ln.nums.take m) W h1 h2 (by omega) Hm.out.symm HLT.out
          rw [← Hm.out] at hP1
          clear hqrow hbx2
          by_cases heq : p.ln.nums = q.ln.nums.take m
          · have hd : decide (p.ln.nums = q.ln.nums.take m) = true := by simpa using heq
            have HS2 : Hid (∀ (j : Nat) (x : Ln), j < k + 1 → (lnsOf p1)[j]? = some x → pref1 (lnsOf p2) x = true) := Lib.hid fun j x hj hx => by
              by_cases hjk : j < k
              · exact HS.out j x hjk hx
              · obtain rfl : j = k := by omega
                rw [Hx.out] at hx
                injection hx with hx
                rw [← hx, hP1, hd]
            rw [hd] at heqc
            clear hP1 heq hd
            generalize q.ln.nums.take m = qt at *
            go_quiet (first
              | (go_at_call 79; refine Calls.quiet_of (heqc _ ?_ ?_); exact hrow2; exact hrowq))
            have hbq := below_drewN hbel2 nq
            generalize w2.drewN nq = wq at *
            go_wp2_with fail
            go_roundw
            case rel => exact ⟨k + 1, by omega, by go_num, HS2, hbq⟩
            case measure => simp [intOf]; omega
          · have hd : decide (p.ln.nums = q.ln.nums.take m) = false := by simpa using heq
            have HF : Hid (prefB (lnsOf p1) (lnsOf p2) = false) := Lib.hid (prefB_fail Hx.out (by rw [hP1, hd]))
            rw [hd] at heqc
            clear hP1 heq hd
            generalize q.ln.nums.take m = qt at *
            go_quiet (first
              | (go_at_call 79; refine Calls.quiet_of (heqc _ ?_ ?_); exact hrow2; exact hrowq))
            have hbq := below_drewN hbel2 nq
            generalize w2.drewN nq = wq at *
            go_wp2_with fail
            go_ret
            exact ⟨by rw [HF.out]; rfl, hbq⟩
      · have hfi : fIdx p.ln.key (lnsOf p2) = -1 := by rw [fIdx, if_neg hno]
        have HF : Hid (prefB (lnsOf p1) (lnsOf p2) = false) := Lib.hid (prefB_fail Hx.out (pref1_none (by have := idxL_le p.ln.key (lnsOf p2); omega)))
        rw [hfi] at hix
        clear hfi hno
        go_upto_region 5 with (first
          | (go_at_call 77; go_must (refine hix.mono ?_); rintro e w2 ⟨rfl, hb2⟩))
        have hbel2 := below_up hbela hb2
        have hd0 : decide ((-1 : Int) < 0) = true := by decide
        go_quiet (fail)
        go_wp2_with fail
        go_ret
        exact ⟨by rw [HF.out]; rfl, below_drewN hbel2 _⟩
    · have HT : Hid (prefB (lnsOf p1) (lnsOf p2) = true) := Lib.hid (prefB_good fun i x hx => HS.out i x (by
        have := (List.getElem?_eq_some_iff.1 hx).1
        rw [lnsOf_len, Hn1.out] at this; omega) hx)
      go_wp2_with fail
      go_ret
      exact ⟨by rw [HT.out]; rfl, hbel⟩
end Go.Proofs.YtelailhghhjleaaDoor
