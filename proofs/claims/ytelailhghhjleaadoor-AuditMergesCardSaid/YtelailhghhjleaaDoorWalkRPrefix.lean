/- The walk of weirref1.Prefix. -/
import Derived.Test.YtelailhghhjleaaDoorWalkRLines
import Derived.Test.YtelailhghhjleaaDoorWalkMarks2
import Derived.Test.YtelailhghhjleaaDoorPlainMerge
import Derived.BigQuiet
import Derived.Deep.CutBlock
import Derived.Deep.CutRange
namespace Go.Proofs.YtelailhghhjleaaDoor
open Go.RowKit

theorem getD_same2 {a b : List Int} {m : Nat} (ha : a.length = m) (hb : m ≤ b.length) (h : ∀ j, j < m → a.getD j 0 = b.getD j 0) : a = b.take m := by
  refine List.ext_getElem (by rw [List.length_take]; omega) fun i h1 h2 => ?_
  have h3 := h i (by omega)
  rw [List.length_take] at h2
  have h4 : i < b.length := by omega
  simpa [List.getD_eq_getElem?_getD, h1, h4] using h3
set_option maxRecDepth 100000 in
set_option maxHeartbeats 4000000 in
theorem rprefix_any (A1 A2 : Option Addr) (c1 c2 B n1 n2 : Nat) (p1 p2 : List Pl) (w : World) (hr1 : RdPs w B A1 n1 p1) (hr2 : RdPs w B A2 n2 p2) (hl1 : n1 ≤ 140737488355328) (hl2 : n2 ≤ 140737488355328)
    (hk1 : ∀ p ∈ p1, p.ln.nums.length ≤ 400) (hk2 : ∀ p ∈ p2, p.ln.nums.length ≤ 400) :
    Calls Tryd.prog 30 #[.slice A1 n1 c1, .slice A2 n2 c2] w fun e w' => e = .returned (.bool (prefB (lnsOf p1) (lnsOf p2))) ∧ ∃ q, w' = w.drewN q := by
  have Hn1 := Lib.hid hr1.len
  have Hn2 := Lib.hid hr2.len
  have HK1 := Lib.hid hk1
  have HK2 := Lib.hid hk2
  clear hk1 hk2
  go_enter Tryd.func30, Tryd.ntmps30
  go_wp2_with fail
  go_loopw [5] (fun x wr => ∃ i q : Nat, i ≤ n1 ∧ x = .int .i64 i ∧ Hid (∀ (j : Nat) (x : Ln), j < i → (lnsOf p1)[j]? = some x → pref1 (lnsOf p2) x = true) ∧ Hid (wr = w.drewN q)) (fun x _ => n1 - (intOf x).toNat)
  case atStart => exact ⟨0, 0, Nat.zero_le _, rfl, Lib.hid (fun j _ hj => absurd hj (by omega)), Lib.hid rfl⟩
  obtain ⟨i, q, hi, rfl, HS, HW⟩ := hrel
  by_cases hlt : i < n1
  · obtain ⟨ad, p, rfl, _, hx0, g0, g1, hpo⟩ := hr1.at_ hlt
    have Hx := Lib.hid (lnsOf_at hx0)
    have hp400 := HK1.out p (List.mem_of_getElem? hx0)
    have hrow := hpo.rd
    obtain ⟨m, hm⟩ : ∃ m, m = p.ln.nums.length := ⟨_, rfl⟩
    have Hm := Lib.hid hm
    unfold Pl.val at g1
    rw [← hm] at g1 hp400 hrow
    clear hx0 hpo hm
    have hi0 : (0 : Int) ≤ (i : Int) := by omega
    have hi1 : (i : Int) < (n1 : Int) := by omega
    go_upto_region 5 with fail
    rename World => wo
    go_loopw [6] (fun x wz => ∃ k q : Nat, k ≤ n2 ∧ x = .int .i64 k ∧ Hid (∀ (j : Nat) (y : Ln), j < k → (lnsOf p2)[j]? = some y → y.key ≠ p.ln.key) ∧ Hid (wz = w.drewN q)) (fun x _ => n2 - (intOf x).toNat)
    case atStart => exact ⟨0, q, Nat.zero_le _, rfl, Lib.hid (fun j _ hj => absurd hj (by omega)), HW⟩
    obtain ⟨k, q1, hk, rfl, HS1, HW1⟩ := hrel
    have x0 : wr.cell? (ad.add (i * 2)) = some (.string p.ln.key) := by rw [HW1.out]; exact g0
    have x1 : wr.cell? ⟨(ad.add (i * 2)).block, (ad.add (i * 2)).off + 1, none⟩ = some (.slice p.A m p.c) := by rw [HW1.out]; exact g1
    have hk0 : (0 : Int) ≤ (k : Int) := by omega
    by_cases hkn : k < n2
    · have hrz : RdPs wr B A2 n2 p2 := by rw [HW1.out]; exact hr2.drewN q1
      obtain ⟨ad2, y, rfl, _, hy0, y0, y1, hyo⟩ := hrz.at_ hkn
      have Hy := Lib.hid (lnsOf_at hy0)
      have hy400 := HK2.out y (List.mem_of_getElem? hy0)
      have hyrow := hyo.rd
      obtain ⟨m2, hm2⟩ : ∃ m2, m2 = y.ln.nums.length := ⟨_, rfl⟩
      have Hm2 := Lib.hid hm2
      unfold Pl.val at y1
      rw [← hm2] at y1 hy400 hyrow
      clear hy0 hyo hm2 hrz
      have hk1 : (k : Int) < (n2 : Int) := by omega
      have t1 : ((k : Int) == (n2 : Int)) = false := by simp; omega
      have t2 : decide ((k : Int) = (n2 : Int)) = false := by simp; omega
      rcases he : (y.ln.key.toList == p.ln.key.toList)
      · have HS2 : Hid (∀ (j : Nat) (z : Ln), j < k + 1 → (lnsOf p2)[j]? = some z → z.key ≠ p.ln.key) := Lib.hid fun j z hj hz e => by
          by_cases hjk : j < k
          · exact HS1.out j z hjk hz e
          · obtain rfl : j = k := by omega
            rw [Hy.out] at hz
            injection hz with hz
            rw [hz, e] at he
            simp at he
        clear hyrow
        go_wp2_with fail
        go_quiet (fail)
        go_wp2_with fail
        go_roundw
        case rel => exact ⟨k + 1, q1 + nq, by omega, by go_num, HS2, Lib.hid (by rw [HW1.out, World.drewN_drewN])⟩
        case measure => simp [intOf]; omega
      · have hee : y.ln.key = p.ln.key := bytes_same (by simpa using he)
        have hidx : idxL p.ln.key (lnsOf p2) = k := idxL_is (by rw [lnsOf_len, Hn2.out]; omega) HS1.out (fun x hx => by rw [Hy.out] at hx; injection hx with hx; rw [← hx, hee])
        obtain ⟨y', hy1, _, hy3⟩ := idxL_at (k := p.ln.key) (l := lnsOf p2) (by rw [hidx, lnsOf_len, Hn2.out]; exact hkn)
        rw [hidx, Hy.out] at hy1
        injection hy1 with hy1
        subst hy1
        have HY := Lib.hid hy3
        clear hidx hy3 hee
        go_wp2_with fail
        go_quiet (fail)
        have HW2 : Hid (wr.drewN nq = w.drewN (q1 + nq)) := Lib.hid (by rw [HW1.out, World.drewN_drewN])
        have ec : wr.cell? = (wr.drewN nq).cell? := rfl
        rw [ec] at x0 x1 y0 y1
        generalize wr.drewN nq = w5 at *
        clear ec he
        go_wp2_with fail
        by_cases hsh : m2 < m
        · have hd1 : decide ((m2 : Int) < (m : Int)) = true := by simp; exact hsh
          have HF : Hid (prefB (lnsOf p1) (lnsOf p2) = false) := Lib.hid (prefB_fail Hx.out (pref1_short HY.out (by rw [← Hm.out, ← Hm2.out]; exact hsh)))
          go_quiet (fail)
          go_wp2_with fail
          go_ret
          exact ⟨by rw [HF.out]; rfl, _, by rw [HW2.out, World.drewN_drewN]⟩
        · have hd1 : decide ((m2 : Int) < (m : Int)) = false := by simp; omega
          have hP1 := Lib.hid (pref1_is HY.out (by rw [← Hm.out, ← Hm2.out]; omega))
          go_quiet (fail)
          have HW3 : Hid (w5.drewN nq = w.drewN (q1 + _ + nq)) := Lib.hid (by rw [HW2.out, World.drewN_drewN])
          have ec : w5.cell? = (w5.drewN nq).cell? := rfl
          rw [ec] at x0 x1 y0 y1
          generalize w5.drewN nq = w6 at *
          clear ec hd1 t1 t2
          have hyw : Rd w B 1 y.A m2 (y.ln.nums.map iv) := by have h := hyrow; rw [HW1.out] at h; exact h
          have y1w : w.cell? ⟨(ad2.add (k * 2)).block, (ad2.add (k * 2)).off + 1, none⟩ = some (.slice y.A m2 y.c) := by have h := y1; rw [HW3.out] at h; exact h
          clear x0 x1 y0 y1 hyrow
          go_wp2_with fail
          go_loopw [7] (fun x wz => ∃ j q : Nat, j ≤ m ∧ x = .int .i64 j ∧ Hid (∀ t, t < j → p.ln.nums.getD t 0 = y.ln.nums.getD t 0) ∧ Hid (wz = w.drewN q)) (fun x _ => m - (intOf x).toNat)
          case atStart => exact ⟨0, _, Nat.zero_le _, rfl, Lib.hid (fun t ht => absurd ht (by omega)), HW3⟩
          obtain ⟨j, q3, hj, rfl, HE, HW4⟩ := hrel
          have z1 : wr.cell? ⟨(ad.add (i * 2)).block, (ad.add (i * 2)).off + 1, none⟩ = some (.slice p.A m p.c) := by rw [HW4.out]; exact g1
          have v1 : wr.cell? ⟨(ad2.add (k * 2)).block, (ad2.add (k * 2)).off + 1, none⟩ = some (.slice y.A m2 y.c) := by rw [HW4.out]; exact y1w
          by_cases hjm : j < m
          · obtain ⟨ap, hpa, _, a0⟩ := hrow.intm hjm
            obtain ⟨ay, hya, _, b0⟩ := hyw.intm (k := j) (by omega)
            rw [hpa] at z1
            rw [hya] at v1
            obtain ⟨xa, hxa⟩ : ∃ xa, xa = p.ln.nums.getD j 0 := ⟨_, rfl⟩
            obtain ⟨xb, hxb⟩ : ∃ xb, xb = y.ln.nums.getD j 0 := ⟨_, rfl⟩
            have HXA := Lib.hid hxa
            have HXB := Lib.hid hxb
            rw [← hxa] at a0
            rw [← hxb] at b0
            have a1 : wr.cell? (ap.add j) = some (.int .i64 xa) := by rw [HW4.out]; exact a0
            have b1 : wr.cell? (ay.add j) = some (.int .i64 xb) := by rw [HW4.out]; exact b0
            clear hpa hya hxa hxb a0 b0
            have hj0 : (0 : Int) ≤ (j : Int) := by omega
            have hj1 : (j : Int) < (m : Int) := by omega
            have hj2 : (j : Int) < (m2 : Int) := by omega
            by_cases hab : xa = xb
            · have HE2 : Hid (∀ t, t < j + 1 → p.ln.nums.getD t 0 = y.ln.nums.getD t 0) := Lib.hid fun t ht => by
                by_cases htj : t < j
                · exact HE.out t htj
                · obtain rfl : t = j := by omega
                  rw [← HXA.out, ← HXB.out, hab]
              subst hab
              go_wp2_with fail
              go_quiet (fail)
              go_wp2_with fail
              go_roundw
              case rel => exact ⟨j + 1, q3 + nq, by omega, by go_num, HE2, Lib.hid (by rw [HW4.out, World.drewN_drewN])⟩
              case measure => simp [intOf]; omega
            · have HF : Hid (prefB (lnsOf p1) (lnsOf p2) = false) := Lib.hid (prefB_fail Hx.out (by
                rw [hP1.out, decide_eq_false_iff_not]
                intro e
                apply hab
                rw [HXA.out, HXB.out, e, ← Hm.out, List.getD_eq_getElem?_getD, List.getD_eq_getElem?_getD, List.getElem?_take_of_lt hjm]))
              go_wp2_with fail
              go_quiet (fail)
              go_wp2_with fail
              go_ret
              exact ⟨by rw [HF.out]; rfl, _, by rw [HW4.out, World.drewN_drewN]⟩
          · obtain rfl : j = m := by omega
            have HS3 : Hid (∀ (t : Nat) (x : Ln), t < i + 1 → (lnsOf p1)[t]? = some x → pref1 (lnsOf p2) x = true) := Lib.hid fun t x ht hx => by
              by_cases hti : t < i
              · exact HS.out t x hti hx
              · obtain rfl : t = i := by omega
                rw [Hx.out] at hx
                injection hx with hx
                rw [← hx, hP1.out, decide_eq_true_iff, ← Hm.out]
                exact getD_same2 Hm.out.symm (by rw [← Hm2.out]; omega) HE.out
            go_wp2_with fail
            go_roundw
            case rel => exact ⟨i + 1, q3, by omega, by go_num, HS3, HW4⟩
            case measure => simp [intOf]; omega
    · obtain rfl : k = n2 := by omega
      have HF : Hid (prefB (lnsOf p1) (lnsOf p2) = false) := Lib.hid (prefB_fail Hx.out (pref1_none (by
        refine idxL_is (Nat.le_refl _) (fun j x hj hx => HS1.out j x (by rw [lnsOf_len, Hn2.out] at hj; exact hj) hx) (fun x hx => by simp at hx))))
      have hk1 : decide ((k : Int) < (k : Int)) = false := by simp
      go_wp2_with fail
      go_quiet (fail)
      go_wp2_with fail
      go_quiet (fail)
      go_wp2_with fail
      go_ret
      exact ⟨by rw [HF.out]; rfl, _, by rw [HW1.out, World.drewN_drewN, World.drewN_drewN]⟩
  · have HT : Hid (prefB (lnsOf p1) (lnsOf p2) = true) := Lib.hid (prefB_good fun j x hx => HS.out j x (by
      have := (List.getElem?_eq_some_iff.1 hx).1
      rw [lnsOf_len, Hn1.out] at this; omega) hx)
    go_wp2_with fail
    go_ret
    exact ⟨by rw [HT.out]; rfl, q, HW.out⟩
end Go.Proofs.YtelailhghhjleaaDoor
