/- The walk of weirref2.Judge. -/
import Derived.Test.YtelailhghhjleaaDoorWalkRNums
import Derived.Test.YtelailhghhjleaaDoorWalkLine
import Derived.Test.YtelailhghhjleaaDoorPlainJudge
import Derived.Deep.CutBlock
import Derived.Deep.CutRange
namespace Go.Proofs.YtelailhghhjleaaDoor
open Go.RowKit

theorem key_false {a b : ByteArray} (h : klt a b = false) : Op.bytesLess a.toList b.toList = false := h
theorem same_next {w g : List Int} {t : Nat} (h : ∀ j, j < t → w[j]? = g[j]?) (he : w[t]? = g[t]?) : ∀ j, j < t + 1 → w[j]? = g[j]? := by
  intro j hj
  by_cases hjk : j < t
  · exact h j hjk
  · obtain rfl : j = t := by omega
    exact he
/-- Whether all so far stand among the others. -/
def crossTo (w g : List Int) (t j : Nat) : Bool := ((g.drop t).take (j - t)).all fun x => decide ((g.drop t).count x ≤ (w.drop t).count x)
theorem crossTo_start (w g : List Int) (t : Nat) : crossTo w g t t = true := by rw [crossTo, Nat.sub_self]; rfl
theorem crossTo_succ {w g : List Int} {t j : Nat} {x : Int} (hj : t ≤ j) (hx : g[j]? = some x) : crossTo w g t (j + 1) = (crossTo w g t j && decide ((g.drop t).count x ≤ (w.drop t).count x)) := by
  have e : (g.drop t)[j - t]? = some x := by rw [List.getElem?_drop, show t + (j - t) = j by omega]; exact hx
  rw [crossTo, crossTo, show j + 1 - t = (j - t) + 1 by omega, take_at e, List.all_append, List.all_cons, List.all_nil, Bool.and_true]
theorem crossTo_end {w g : List Int} {t j : Nat} (h : g.length ≤ j) : crossTo w g t j = withinB (g.drop t) (w.drop t) := by
  rw [crossTo, withinB, List.take_of_length_le (by rw [List.length_drop]; omega)]
theorem rnums_g {A : Option Addr} {c B n : Nat} {ps : List Pl} {t : ByteArray} {w : World} (hr : RdPs w B A n ps) (hl : n ≤ 140737488355328) {g : List Int} (hg : g = (numsOf (lnsOf ps) t).getD []) {m : Nat} (hm : m = g.length) :
    Calls Tryd.prog 59 #[.slice A n c, .string t] w fun e w' => ∃ A' c', e = .returned (.slice A' m c') ∧ m ≤ c' ∧ c' ≤ maxLen ∧ Rd w B 1 A' m (g.map iv) ∧ w = w' := by
  subst hg hm
  refine (rnums_any A c B n ps t w hr hl).mono ?_
  rintro e w' ⟨v, rfl, ⟨A', c', rfl, h1, h2, h3⟩, rfl⟩
  exact ⟨A', c', rfl, h1, h2, h3, rfl⟩

theorem rcount_drop {ad : Addr} {c B n a : Nat} {l : List Int} {z : Int} {W : World} (h : Rd W B 1 (some ad) n (l.map iv)) (hl : l.length = n) (ha : a < n) (hc : n ≤ c) (hn : n ≤ 400) {X : Nat} (hX : X = (l.drop a).count z) :
    Calls Tryd.prog 60 #[.slice (some (ad.add a)) (n - a) (c - a), .int .i64 z] W fun e w' => e = .returned (.int .i64 X) ∧ ∃ q, w' = W.drewN q := by
  subst hX
  have hd : (l.drop a).length = n - a := by rw [List.length_drop, hl]
  have h1 := rcount_any (some (ad.add a)) (c - a) B (l.drop a) z W (h.tail1 hl ha hc (Below.refl B W) (Nat.le_refl _)) (by omega)
  rw [hd] at h1
  exact h1.mono fun _ _ ⟨h2, h3⟩ => ⟨h2, 0, h3.symm⟩

theorem RdPs.cells {w w' : World} {B n : Nat} {A : Option Addr} {ps : List Pl} (h : RdPs w B A n ps) (e : w'.cell? = w.cell?) : RdPs w' B A n ps :=
  ⟨h.len, h.rd.keep fun p _ => congrFun e p, fun p hp => ⟨(h.ok p hp).cap, (h.ok p hp).max, (h.ok p hp).rd.keep fun a _ => congrFun e a, (h.ok p hp).wf⟩⟩

set_option maxRecDepth 100000 in
set_option maxHeartbeats 4000000 in
theorem rjudge_any (A1 A2 : Option Addr) (c1 c2 B n1 n2 : Nat) (p1 p2 : List Pl) (w : World) (hr1 : RdPs w B A1 n1 p1) (hr2 : RdPs w B A2 n2 p2) (hk1 : LnsOk (lnsOf p1)) (hk2 : LnsOk (lnsOf p2)) :
    Calls Tryd.prog 33 #[.slice A1 n1 c1, .slice A2 n2 c2] w fun e w' => e = .returned (.tuple #[.int .i64 ((judge (lnsOf p1) (lnsOf p2)).1 : Nat), .string (judge (lnsOf p1) (lnsOf p2)).2.1, .int .i64 ((judge (lnsOf p1) (lnsOf p2)).2.2 : Nat)]) ∧ ∃ q, w' = w.drewN q := by
  have hn1 : n1 ≤ 400 := by have := hk1.len; rwa [lnsOf_len, hr1.len] at this
  have hn2 : n2 ≤ 400 := by have := hk2.len; rwa [lnsOf_len, hr2.len] at this
  have HK1 := Lib.hid hk1
  have HK2 := Lib.hid hk2
  have HN1 := Lib.hid hr1.len
  have HN2 := Lib.hid hr2.len
  clear hk1 hk2
  go_enter Tryd.func33, Tryd.ntmps33
  go_wp2_with fail
  go_loopw [7, 8] (fun x y wr => ∃ i k q : Nat, x = .int .i64 i ∧ y = .int .i64 k ∧ Hid (JInv (lnsOf p1) (lnsOf p2) i k) ∧ i ≤ n1 ∧ k ≤ n2 ∧ Hid (wr = w.drewN q)) (fun x y _ => n1 - (intOf x).toNat)
  case atStart => exact ⟨0, 0, 0, rfl, rfl, Lib.hid (JInv.start _ _), Nat.zero_le _, Nat.zero_le _, Lib.hid rfl⟩
  obtain ⟨i, k, q, rfl, rfl, HJ, hi, hk, HW⟩ := hrel
  have hr1 : RdPs wr B A1 n1 p1 := by rw [HW.out]; exact hr1.drewN q
  have hr2 : RdPs wr B A2 n2 p2 := by rw [HW.out]; exact hr2.drewN q
  have hi0 : (0 : Int) ≤ (i : Int) := by omega
  have hk0 : (0 : Int) ≤ (k : Int) := by omega
  by_cases hin : i < n1
  · 
    obtain ⟨ad1, ⟨⟨key, ws⟩, PA, pc⟩, rfl, _, hpx0, b0, b1, hpo⟩ := hr1.at_ hin
    have Hpx := Lib.hid (lnsOf_at hpx0)
    have hi3 : (i : Int) < (n1 : Int) := by omega
    have hi5 : ((i : Int) == (n1 : Int)) = false := by simp; omega
    have hpl := HK1.out.few _ (List.mem_of_getElem? (lnsOf_at hpx0))
    have hpc := hpo.cap
    have hpm := hpo.max
    have hpr := hpo.rd
    unfold Pl.val at b1
    dsimp only at Hpx b0 b1 hpl hpc hpm hpr
    obtain ⟨g, hg⟩ : ∃ g, g = (numsOf (lnsOf p2) key).getD [] := ⟨_, rfl⟩
    have hgl := numsOf_few HK2.out (t := key)
    rw [← hg] at hgl
    have HG := Lib.hid hg
    obtain ⟨m1, hm1⟩ : ∃ m, m = ws.length := ⟨_, rfl⟩
    have Hm1 := Lib.hid hm1
    rw [← hm1] at hpl hpc hpr b1
    clear hpx0 hpo hm1
    obtain ⟨cb, hcb⟩ : ∃ cb : Bool, cb = (match (lnsOf p2)[k]? with | none => false | some g => klt g.key key) := ⟨_, rfl⟩
    have HCB := Lib.hid hcb
    clear hcb
    go_upto_region 4 with fail
    go_cut [49] from 17 to 179 (fun s wx => s = .bool cb ∧ ∃ q', Hid (wx = w.drewN q'))
    case first =>
      by_cases hkn : k < n2
      · obtain ⟨ad2, g2, rfl, _, hgx0, a0, a1, hgo⟩ := hr2.at_ hkn
        have Hgx := Lib.hid (lnsOf_at hgx0)
        have hk3 : (k : Int) < (n2 : Int) := by omega
        have hc2 : cb = klt g2.ln.key key := by rw [HCB.out, Hgx.out]
        clear hgx0 a1 hgo
        rcases hcmp : klt g2.ln.key key
        · have tc : Op.bytesLess g2.ln.key.toList key.toList = false := hcmp
          have HC3 : Hid (cb = false) := Lib.hid (hc2.trans hcmp)
          clear hcmp hc2
          go_wp2_with fail
          go_quiet (fail)
          go_wp2_with fail
          go_meet
          exact ⟨by rw [HC3.out], _, Lib.hid (by rw [HW.out, World.drewN_drewN])⟩
        · have tc : Op.bytesLess g2.ln.key.toList key.toList = true := hcmp
          have HC3 : Hid (cb = true) := Lib.hid (hc2.trans hcmp)
          clear hcmp hc2
          go_wp2_with fail
          go_quiet (fail)
          go_wp2_with fail
          go_meet
          exact ⟨by rw [HC3.out], _, Lib.hid (by rw [HW.out, World.drewN_drewN])⟩
      · have hk5 : decide (k < n2) = false := by simpa using hkn
        have HC3 : Hid (cb = false) := Lib.hid (by rw [HCB.out, List.getElem?_eq_none (by rw [lnsOf_len, HN2.out]; omega)])
        go_wp2_with fail
        go_quiet (fail)
        go_wp2_with fail
        go_meet
        exact ⟨by rw [HC3.out], _, Lib.hid (by rw [HW.out, World.drewN_drewN])⟩
    case rest =>
      obtain ⟨rfl, q', HQ⟩ := hcut
      have ecell : wc.cell? = wr.cell? := by rw [HQ.out, HW.out]; rfl
      have hq2 := hr2.cells ecell
      rw [← ecell] at b0 b1
      replace hpr := hpr.keep (w' := wc) fun p _ => congrFun ecell p
      clear ecell
      rcases cb with _ | _
      · have HNO : Hid (∀ g, (lnsOf p2)[k]? = some g → klt g.key key = false) := Lib.hid fun g hg => by
          have h := HCB.out
          rw [hg] at h
          exact h.symm
        have HFLT : Hid (∀ kd pt, lineJ ws g = (kd, pt) → kd ≠ 0 → judge (lnsOf p1) (lnsOf p2) = (kd, key, pt)) := Lib.hid fun kd pt hl h0 => by
          have h := HJ.out.fault HK1.out Hpx.out HNO.out (by rw [← HG.out, hl]; exact h0)
          rw [← HG.out, hl] at h
          exact h
        obtain ⟨m3, hm3⟩ : ∃ m, m = g.length := ⟨_, rfl⟩
        have Hm3 := Lib.hid hm3
        rw [← hm3] at hgl
        clear hm3 hg
        go_wp2_with (first
          | (go_at_call 59; go_must (refine (rnums_g (t := key) hq2 (by omega) HG.out Hm3.out).mono ?_); rintro e w9 ⟨A3, c3, rfl, k31, k32, k33, rfl⟩))
        go_loopw [12] (fun x wt => ∃ a q2 : Nat, x = .int .i64 a ∧ a ≤ m1 ∧ a ≤ m3 ∧ Hid (∀ j, j < a → ws[j]? = g[j]?) ∧ Hid (wt = w.drewN q2)) (fun x _ => m1 - (intOf x).toNat)
        case atStart => exact ⟨0, _, rfl, Nat.zero_le _, Nat.zero_le _, Lib.hid (fun j hj => absurd hj (by omega)), HQ⟩
        obtain ⟨a, q2, rfl, ha1, ha3, HS, HT⟩ := hrel
        have ew : wr.cell? = wc.cell? := by rw [HT.out, HQ.out]; rfl
        have k1 : Rd wr B 1 PA m1 (ws.map iv) := hpr.keep fun p _ => congrFun ew p
        have k3 : Rd wr B 1 A3 m3 (g.map iv) := k33.keep fun p _ => congrFun ew p
        by_cases h1 : a < m1
        · obtain ⟨ada, x, rfl, hx, _, x0⟩ := k1.intw h1 (Hm1.out).symm (Below.refl B wr) (Nat.le_refl _)
          have j0 : (0 : Int) ≤ (a : Int) := by omega
          have j1 : (a : Int) < (m1 : Int) := by omega
          by_cases h3 : a < m3
          · obtain ⟨adg, y, rfl, hy, _, y0⟩ := k3.intw h3 (Hm3.out).symm (Below.refl B wr) (Nat.le_refl _)
            have j3 : (a : Int) < (m3 : Int) := by omega
            by_cases hxy : x = y
            · have HS2 := Lib.hid (same_next HS.out (by rw [hx, hy, hxy]))
              subst hxy
              clear hx hy
              go_wp2_with fail
              go_quiet (fail)
              have HT2 : Hid (wr.drewN nq = w.drewN (q2 + nq)) := Lib.hid (by rw [HT.out, World.drewN_drewN])
              generalize wr.drewN nq = wz at *
              go_wp2_with fail
              go_roundw
              case rel => exact ⟨a + 1, _, by go_num, by omega, by omega, HS2, HT2⟩
              case measure => simp [intOf]; omega
            · have HL := Lib.hid (line_far HS.out (by have := Hm1.out; omega) (by have := Hm3.out; omega) (by rw [hx, hy]; simpa using hxy))
              have HX := Lib.hid hx
              have HY := Lib.hid hy
              clear hx hy
              go_wp2_with fail
              go_quiet (fail)
              have HT2 : Hid (wr.drewN nq = w.drewN (q2 + nq)) := Lib.hid (by rw [HT.out, World.drewN_drewN])
              have ez : wr.cell? = (wr.drewN nq).cell? := rfl
              rw [ez] at x0 y0
              replace k1 := k1.drewN nq
              replace k3 := k3.drewN nq
              clear ez
              generalize wr.drewN nq = wz at *
              go_wp2_with fail
              go_loopw [13, 14] (fun cc y wt => ∃ j q3 : Nat, ∃ cr : Bool, cc = .bool cr ∧ y = .int .i64 j ∧ a ≤ j ∧ j ≤ m3 ∧ Hid (cr = crossTo ws g a j) ∧ Hid (wt = w.drewN q3)) (fun _ y _ => m3 - (intOf y).toNat)
              case atStart => exact ⟨a, _, true, rfl, rfl, Nat.le_refl _, by omega, Lib.hid (crossTo_start _ _ _).symm, HT2⟩
              obtain ⟨j, q3, cr, rfl, rfl, hja, hjm, HC, HR⟩ := hrel
              have ev : wr.cell? = wz.cell? := by rw [HR.out, HT2.out]; rfl
              have k4 : Rd wr B 1 (some ada) m1 (ws.map iv) := k1.keep fun p _ => congrFun ev p
              have k5 : Rd wr B 1 (some adg) m3 (g.map iv) := k3.keep fun p _ => congrFun ev p
              by_cases hjl : j < m3
              · obtain ⟨ad', z, he, hz, _, z0⟩ := k5.intw hjl (Hm3.out).symm (Below.refl B wr) (Nat.le_refl _)
                injection he with he
                subst he
                obtain ⟨X, hX⟩ : ∃ X, X = (g.drop a).count z := ⟨_, rfl⟩
                obtain ⟨Y, hY⟩ : ∃ Y, Y = (ws.drop a).count z := ⟨_, rfl⟩
                have HCS : Hid (crossTo ws g a (j + 1) = (cr && decide (X ≤ Y))) := Lib.hid (by rw [crossTo_succ hja hz, ← HC.out, ← hX, ← hY])
                have hcg := fun W (h : Rd W B 1 (some adg) m3 (g.map iv)) => rcount_drop (c := c3) h (Hm3.out).symm h3 k31 hgl hX
                have hcw := fun W (h : Rd W B 1 (some ada) m1 (ws.map iv)) => rcount_drop (c := pc) h (Hm1.out).symm h1 hpc hpl hY
                clear hz hX hY
                have jn0 : (0 : Int) ≤ (j : Int) := by omega
                have jn1 : (j : Int) < (m3 : Int) := by omega
                have f1 : ((a : Int)).toNat = a := by omega
                have f2 : a ≤ m3 := by omega
                have f3 : a ≤ m1 := by omega
                have f4 : ¬ (pc = a) := by omega
                have f5 : ¬ (c3 = a) := by omega
                have f6 : a ≤ pc := by omega
                have f7 : a ≤ c3 := by omega
                go_wp2_with fail
                go_quiet (first
                  | (go_at_call 60; refine Calls.quiet_of (hcg _ ?_); exact k5))
                have HR2 : Hid (wr.drewN nq = w.drewN (q3 + nq)) := Lib.hid (by rw [HR.out, World.drewN_drewN])
                have es : wr.cell? = (wr.drewN nq).cell? := rfl
                rw [es] at z0
                replace k4 := k4.drewN nq
                clear es
                generalize wr.drewN nq = wy at *
                go_wp2_with fail
                go_quiet (first
                  | (go_at_call 60; refine Calls.quiet_of (hcw _ ?_); exact k4))
                have HR3 : Hid (wy.drewN nq = w.drewN (q3 + _ + nq)) := Lib.hid (by rw [HR2.out, World.drewN_drewN])
                generalize wy.drewN nq = wx at *
                clear z0 f1 f2 f3 f4 f5 f6 f7
                rcases cr with _ | _
                · go_wp2_with fail
                  go_roundw
                  case rel => exact ⟨j + 1, _, false, rfl, by go_num, by omega, by omega, Lib.hid (by rw [HCS.out]; rfl), HR3⟩
                  case measure => simp [intOf]; omega
                · by_cases hle : X ≤ Y
                  · have hle2 : (X : Int) ≤ (Y : Int) := by omega
                    go_wp2_with fail
                    go_roundw
                    case rel => exact ⟨j + 1, _, true, rfl, by go_num, by omega, by omega, Lib.hid (by rw [HCS.out, decide_eq_true hle]; rfl), HR3⟩
                    case measure => simp [intOf]; omega
                  · have hle2 : ¬ ((X : Int) ≤ (Y : Int)) := by omega
                    go_wp2_with fail
                    go_roundw
                    case rel => exact ⟨j + 1, _, false, rfl, by go_num, by omega, by omega, Lib.hid (by rw [HCS.out, decide_eq_false hle]; rfl), HR3⟩
                    case measure => simp [intOf]; omega
              · have HCE := Lib.hid (HC.out.trans (crossTo_end (t := a) (by have := Hm3.out; omega)))
                rcases cr with _ | _
                · rcases a with _ | b
                  · have HJL := Lib.hid (line_foreign HL.out (by have := Hm1.out; omega) (by have := Hm3.out; omega) HCE.out.symm (by omega))
                    go_wp2_with fail
                    go_quiet (fail)
                    have HR4 : Hid (wr.drewN nq = w.drewN (q3 + nq)) := Lib.hid (by rw [HR.out, World.drewN_drewN])
                    go_wp2_with fail
                    go_ret3
                    exact ⟨by rw [HFLT.out _ _ HJL.out (by decide)]; rfl, _, HR4.out⟩
                  · obtain ⟨ad', z, he, hz, _, z0⟩ := k4.intw (k := b) (by omega) (Hm1.out).symm (Below.refl B wr) (Nat.le_refl _)
                    injection he with he
                    subst he
                    have hb0 : (0 : Int) ≤ (b : Int) := by omega
                    have hb1 : (b : Int) < (m1 : Int) := by omega
                    have hb2 : IntKind.i64.wrap ((b : Int) + 1 - 1) = (b : Int) := by rw [IntWalk.i64_in _ (by omega)]; omega
                    have hb3 : IntKind.i64.wrap (b : Int) = (b : Int) := IntWalk.i64_in _ (by omega)
                    have hb4 : (0 : Int) ≤ (b : Int) + 1 := by omega
                    have hb5 : (b : Int) + 1 < (m3 : Int) := by omega
                    have HAY : Hid (atD g (b + 1) = y) := Lib.hid (by rw [atD, HY.out]; rfl)
                    have HAZ : Hid (atD ws (b + 1 - 1) = z) := Lib.hid (by rw [atD, Nat.add_sub_cancel, hz]; rfl)
                    have y1 : wr.cell? (adg.add (b + 1)) = some (.int .i64 y) := by rw [ev]; exact y0
                    have y2 : wr.cell? ⟨adg.block, adg.off + (b + 1), none⟩ = some (.int .i64 y) := by have h := y1; rwa [Addr.add, if_neg (by omega)] at h
                    clear hz y0 x0
                    by_cases hyz : y = z
                    · have HJL := Lib.hid (line_twice HL.out (by have := Hm1.out; omega) (by have := Hm3.out; omega) HCE.out.symm (by omega) (by rw [HAY.out, HAZ.out, hyz]))
                      subst hyz
                      go_wp2_with fail
                      go_quiet (fail)
                      have HR4 : Hid (wr.drewN nq = w.drewN (q3 + nq)) := Lib.hid (by rw [HR.out, World.drewN_drewN])
                      go_wp2_with fail
                      go_ret3
                      exact ⟨by rw [HFLT.out _ _ HJL.out (by decide)]; rfl, _, HR4.out⟩
                    · have HJL := Lib.hid (line_foreign HL.out (by have := Hm1.out; omega) (by have := Hm3.out; omega) HCE.out.symm (by rw [HAY.out, HAZ.out]; exact fun h => hyz h.2))
                      go_wp2_with fail
                      go_quiet (fail)
                      have HR4 : Hid (wr.drewN nq = w.drewN (q3 + nq)) := Lib.hid (by rw [HR.out, World.drewN_drewN])
                      go_wp2_with fail
                      go_ret3
                      exact ⟨by rw [HFLT.out _ _ HJL.out (by decide)]; rfl, _, HR4.out⟩
                · have HJL := Lib.hid (line_cross HL.out (by have := Hm1.out; omega) (by have := Hm3.out; omega) HCE.out.symm)
                  go_wp2_with fail
                  go_ret3
                  exact ⟨by rw [HFLT.out _ _ HJL.out (by decide)]; rfl, _, HR.out⟩
          · have e : a = m3 := by omega
            have HLE := Lib.hid (line_end HS.out (by have := Hm1.out; have := Hm3.out; omega))
            have HJL : Hid (lineJ ws g = (1, a)) := Lib.hid (by rw [HLE.out, if_neg (by have := Hm3.out; omega), if_pos (by have := Hm1.out; omega)])
            have j3 : ¬ ((a : Int) < (m3 : Int)) := by omega
            clear e
            go_wp2_with fail
            go_quiet (fail)
            have HT2 : Hid (wr.drewN nq = w.drewN (q2 + nq)) := Lib.hid (by rw [HT.out, World.drewN_drewN])
            have ez : (wr.drewN nq).cell? = wc.cell? := ew
            generalize wr.drewN nq = wz at *
            go_wp2_with fail
            go_ret3
            exact ⟨by rw [HFLT.out _ _ HJL.out (by decide)]; rfl, _, HT2.out⟩
        · have e : a = m1 := by omega
          have HLE0 := Lib.hid (line_end HS.out (by have := Hm1.out; have := Hm3.out; omega))
          have j1 : ¬ ((a : Int) < (m1 : Int)) := by omega
          by_cases h3 : a < m3
          · have HJL : Hid (lineJ ws g = (2, a)) := Lib.hid (by rw [HLE0.out, if_pos (by have := Hm3.out; omega)])
            have j3 : (a : Int) < (m3 : Int) := by omega
            clear e
            go_wp2_with fail
            go_quiet (fail)
            have HT2 : Hid (wr.drewN nq = w.drewN (q2 + nq)) := Lib.hid (by rw [HT.out, World.drewN_drewN])
            have ez : (wr.drewN nq).cell? = wc.cell? := ew
            generalize wr.drewN nq = wz at *
            go_wp2_with fail
            go_ret3
            exact ⟨by rw [HFLT.out _ _ HJL.out (by decide)]; rfl, _, HT2.out⟩
          · have HLE : Hid (lineJ ws g = (0, 0)) := Lib.hid (by rw [HLE0.out, if_neg (by have := Hm3.out; omega), if_neg (by have := Hm1.out; omega)])
            have j3 : ¬ ((a : Int) < (m3 : Int)) := by omega
            clear e
            go_wp2_with fail
            go_quiet (fail)
            have HT2 : Hid (wr.drewN nq = w.drewN (q2 + nq)) := Lib.hid (by rw [HT.out, World.drewN_drewN])
            have ez : (wr.drewN nq).cell? = wc.cell? := ew
            generalize wr.drewN nq = wz at *
            by_cases hkn : k < n2
            · 
              obtain ⟨ad2, g2, rfl, _, hgx0, a0, a1, hgo⟩ := hq2.at_ hkn
              have Hgx := Lib.hid (lnsOf_at hgx0)
              have hk3 : (k : Int) < (n2 : Int) := by omega
              clear hgx0 a1 hgo
              have a2 : wz.cell? (ad2.add (k * 2)) = some (.string g2.ln.key) := by rw [ez]; exact a0
              by_cases he : g2.ln.key = key
              · have t1 : (g2.ln.key.toList == key.toList) = true := by rw [he]; simp
                have HF := Lib.hid (HJ.out.fine HK1.out HK2.out Hpx.out HNO.out (by rw [← HG.out, HLE.out]) (k' := k + 1) (.inl ⟨⟨_, Hgx.out, he⟩, rfl⟩))
                clear he
                go_wp2_with fail
                go_roundw
                case rel => exact ⟨i + 1, k + 1, _, by go_num, by go_num, HF, by omega, by omega, HT2⟩
                case measure => simp [intOf]; omega
              · have t1 : (g2.ln.key.toList == key.toList) = false := by simpa using fun h => he (bytes_same h)
                have HF := Lib.hid (HJ.out.fine HK1.out HK2.out Hpx.out HNO.out (by rw [← HG.out, HLE.out]) (k' := k) (.inr ⟨(fun ⟨x, h, h'⟩ => he (by rw [Hgx.out] at h; injection h with h; rw [h]; exact h')), rfl⟩))
                clear he
                go_wp2_with fail
                go_roundw
                case rel => exact ⟨i + 1, k, _, by go_num, by go_num, HF, by omega, by omega, HT2⟩
                case measure => simp [intOf]; omega
            · 
              have hk4 : ¬ ((k : Int) < (n2 : Int)) := by omega
              have hk5 : decide (k < n2) = false := by simpa using hkn
              have HF := Lib.hid (HJ.out.fine HK1.out HK2.out Hpx.out HNO.out (by rw [← HG.out, HLE.out]) (k' := k) (.inr ⟨(fun ⟨x, h, h'⟩ => by have := (List.getElem?_eq_some_iff.1 h).1; rw [lnsOf_len, HN2.out] at this; omega), rfl⟩))
              go_wp2_with fail
              go_roundw
              case rel => exact ⟨i + 1, k, _, by go_num, by go_num, HF, by omega, by omega, HT2⟩
              case measure => simp [intOf]; omega
      · obtain ⟨g2, hg2, hlt2⟩ : ∃ g2, (lnsOf p2)[k]? = some g2 ∧ klt g2.key key = true := by
          have h := HCB.out
          rcases hg : (lnsOf p2)[k]? with _ | g2
          · rw [hg] at h; cases h
          · rw [hg] at h; exact ⟨g2, rfl, h.symm⟩
        have hkn : k < n2 := by have := (List.getElem?_eq_some_iff.1 hg2).1; rwa [lnsOf_len, HN2.out] at this
        have HF := Lib.hid (HJ.out.foreign HK1.out hg2 (.inr ⟨_, Hpx.out, hlt2⟩))
        obtain ⟨ad2, p9, rfl, _, hgx0, a0, a1, hgo⟩ := hq2.at_ hkn
        have he9 := lnsOf_at hgx0
        rw [hg2] at he9
        injection he9 with he9
        have HE9 : Hid (g2.key = p9.ln.key) := Lib.hid (by rw [he9])
        have hk3 : (k : Int) < (n2 : Int) := by omega
        clear hg2 hlt2 hgx0 he9 a1 hgo
        go_wp2_with fail
        go_quiet (fail)
        have HQ2 : Hid (∃ q3, wc.drewN nq = w.drewN q3) := Lib.hid ⟨_, by rw [HQ.out, World.drewN_drewN]⟩
        go_wp2_with fail
        go_ret3
        exact ⟨by rw [HF.out, HE9.out]; rfl, HQ2.out⟩
  · have hi4 : ¬ ((i : Int) < (n1 : Int)) := by omega
    by_cases hkn : k < n2
    · have e : i = n1 := by omega
      subst e
      obtain ⟨ad2, g2, rfl, _, hgx0, a0, a1, hgo⟩ := hr2.at_ hkn
      have HF := Lib.hid (HJ.out.foreign HK1.out (lnsOf_at hgx0) (.inl (by rw [lnsOf_len, HN1.out]; exact Nat.le_refl _)))
      have hk3 : (k : Int) < (n2 : Int) := by omega
      clear hgx0 a1 hgo
      go_wp2_with fail
      go_quiet (fail)
      have HQ : Hid (wr.drewN nq = w.drewN (q + nq)) := Lib.hid (by rw [HW.out, World.drewN_drewN])
      have ecell : wr.cell? = (wr.drewN nq).cell? := rfl
      rw [ecell] at a0
      clear ecell
      generalize wr.drewN nq = wz at *
      go_wp2_with fail
      go_quiet (fail)
      have HQ2 : Hid (∃ q3, wz.drewN nq = w.drewN q3) := Lib.hid ⟨_, by rw [HQ.out, World.drewN_drewN]⟩
      go_wp2_with fail
      go_ret3
      exact ⟨by rw [HF.out]; rfl, HQ2.out⟩
    · have hk5 : decide (k < n2) = false := by simpa using hkn
      have hk4 : ¬ ((k : Int) < (n2 : Int)) := by omega
      have HF := Lib.hid (HJ.out.done (by rw [lnsOf_len, HN1.out]; omega) (by rw [lnsOf_len, HN2.out]; omega))
      go_wp2_with fail
      go_ret3
      exact ⟨by rw [HF.out]; rfl, _, HW.out⟩
end Go.Proofs.YtelailhghhjleaaDoor
