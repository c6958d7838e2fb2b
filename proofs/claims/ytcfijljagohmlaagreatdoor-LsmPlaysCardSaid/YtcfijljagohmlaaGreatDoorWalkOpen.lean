/- The walk of frame.Open. -/
import Derived.Test.YtcfijljagohmlaaGreatDoorWalkReaders
import Derived.Test.YtcfijljagohmlaaGreatDoorWalkSeal
import Derived.Test.YtcfijljagohmlaaGreatDoorPlainBacks
import Derived.Test.YtcfijljagohmlaaGreatDoorBase2
namespace Go.Proofs.YtcfijljagohmlaaGreatDoor
open Go.RowKit

set_option maxRecDepth 100000 in
set_option maxHeartbeats 8000000 in
theorem open_any (A : Option Addr) (c B : Nat) (l : List UInt8) (w : World) (hr : Rd w B 1 A l.length (l.map bv)) (hB : B ≤ w.heap.size) (hl : l.length ≤ 140737488355328) (hc : l.length ≤ c) :
    Calls Tryz.prog 130 #[.slice A l.length c] w fun e w' => ∃ v, e = .returned (.tuple #[v, .int .i64 (opN l), errV (opE l)]) ∧
      w'.ownsRow w.heap.size 5 1 v (opB l).length ((opB l).map bv) ∧ Below w.heap.size w w' := by
  have hst : Stands l (some 0) := by intro a h; injection h with h; omega
  obtain ⟨hs1, hn0, hn1⟩ := numS_bd l (some 0) hst
  obtain ⟨v, hv⟩ : ∃ v, v = (numS l (some 0)).1 := ⟨_, rfl⟩
  obtain ⟨s1, hs1'⟩ : ∃ s1, s1 = (numS l (some 0)).2 := ⟨_, rfl⟩
  have CN := fun (w0 : World) (h : Rdr w0 w.heap.size A c l (some 0)) (h2 : Rd w0 B 1 A l.length (l.map bv)) => rdnum_any w.heap.size A c B l (some 0) w0 h h2 hB hst hl
  rw [← hv] at hn0 hn1
  rw [← hs1'] at hs1
  simp only [← hv, ← hs1'] at CN
  have HO := Lib.hid (open_form l v s1 hv hs1')
  have HCN := Lib.hid CN
  clear CN hv hs1' hst
  rcases s1 with _ | a
  · go_enter Tryz.func130, Tryz.ntmps130
    go_wp2_with (first | (go_at_call 75; go_must (refine (HCN.out _ (Blk.new w _ _) (hr.alloc hB _)).mono ?_); rintro e w1 ⟨hg1, rfl, a, ha, hb1⟩; have hc2 := hb1.cell 2; simp [errV] at hc2))
    go_ret3
    obtain ⟨e1, e2, e3⟩ := op_none (l := l) (HO.out.trans rfl)
    rw [e1, e2, e3]
    exact ⟨_, rfl, World.ownsRow_nil _ _ _ _, ((Below.refl _ _).alloc (Nat.le_refl _) _).trans (below_of_only hg1 (Nat.le_refl _) (by simp))⟩
  · have ha := hs1 a rfl
    clear hs1
    by_cases hv0 : v < 0
    · go_enter Tryz.func130, Tryz.ntmps130
      go_wp2_with (first | (go_at_call 75; go_must (refine (HCN.out _ (Blk.new w _ _) (hr.alloc hB _)).mono ?_); rintro e w1 ⟨hg1, rfl, hb1⟩; have hc2 := Blk.cell hb1 2; simp at hc2))
      go_ret3
      obtain ⟨e1, e2, e3⟩ := op_none (l := l) (HO.out.trans (openAt_out (.inl hv0)))
      rw [e1, e2, e3]
      exact ⟨_, rfl, World.ownsRow_nil _ _ _ _, ((Below.refl _ _).alloc (Nat.le_refl _) _).trans (below_of_only hg1 (Nat.le_refl _) (by simp))⟩
    · by_cases hv1 : (l.length : Int) - a - 4 < v
      · go_enter Tryz.func130, Tryz.ntmps130
        go_wp2_with (first | (go_at_call 75; go_must (refine (HCN.out _ (Blk.new w _ _) (hr.alloc hB _)).mono ?_); rintro e w1 ⟨hg1, rfl, hb1⟩; have hc2 := Blk.cell hb1 2; have hc1 := Blk.cell hb1 1; simp at hc1 hc2))
        go_ret3
        obtain ⟨e1, e2, e3⟩ := op_none (l := l) (HO.out.trans (openAt_out (.inr hv1)))
        rw [e1, e2, e3]
        exact ⟨_, rfl, World.ownsRow_nil _ _ _ _, ((Below.refl _ _).alloc (Nat.le_refl _) _).trans (below_of_only hg1 (Nat.le_refl _) (by simp))⟩
      · obtain ⟨m, rfl⟩ : ∃ m : Nat, v = (m : Int) := ⟨v.toNat, by omega⟩
        have hm : a + m + 4 ≤ l.length := by omega
        have hcut : (l.drop a).take m = ((l.drop a).take m) := rfl
        obtain ⟨sub, hsub⟩ : ∃ sub, sub = (l.drop a).take m := ⟨_, rfl⟩
        have hlen : sub.length = m := by rw [hsub]; simp; omega
        have hrs : Rd w B 1 (if c = a then A else A.map (fun x => x.add a)) m (sub.map bv) := by rw [hsub]; exact hr.sub (by omega) hc
        rw [if_neg (by omega)] at hrs
        have CS := fun (w0 : World) (h : Rd w0 B 1 (A.map (fun x => x.add a)) m (sub.map bv)) => sum_any (A.map (fun x => x.add a)) (c - a) B sub w0 (by rw [hlen]; exact h) (by omega)
        simp only [hlen] at CS
        have HCS := Lib.hid CS
        have Hsub := Lib.hid hsub
        have Hlen := Lib.hid hlen
        have hx1 := sumB_lt' sub
        obtain ⟨x, hx⟩ : ∃ x, x = sumB sub := ⟨_, rfl⟩
        have HX := Lib.hid hx
        rw [← hx] at hx1
        clear CS hcut hsub hlen hx
        go_enter Tryz.func130, Tryz.ntmps130
        go_wp2_with (first
          | (go_at_call 75; go_must (refine (HCN.out _ (Blk.new w _ _) (hr.alloc hB _)).mono ?_); rintro e w1 ⟨hg1, rfl, hb1⟩; have hc2 := Blk.cell hb1 2; have hc1 := Blk.cell hb1 1; simp at hc1 hc2; have hbel1 := ((Below.refl w.heap.size w).alloc (Nat.le_refl _) (.cells #[.slice A l.length c, .int .i64 ((0 : Nat) : Int), .nilIface] 124)).trans (below_of_only hg1 (Nat.le_refl _) (by simp)))
          | (go_at_call 136; go_must (refine (HCS.out _ (hrs.below hbel1 hB)).mono ?_); rintro e w2 ⟨rfl, rfl⟩; rw [← HX.out]))
        go_loopw [43] (fun i wr => ∃ k : Nat, k ≤ 4 ∧ i = .int .i64 k ∧ Hid (SumTo l (a + m) x k) ∧ Below w.heap.size w wr) (fun i _ => 4 - (intOf i).toNat)
        case atStart => exact ⟨0, by omega, rfl, fun j hj => absurd hj (Nat.not_lt_zero _), hbel1⟩
        case round =>
          obtain ⟨k, hk, rfl, Hst, hbel⟩ := hrel
          by_cases hlt : k < 4
          · obtain ⟨ad, rfl, hcell⟩ := (hr.below hbel hB).byte (k := a + m + k) (by omega)
            obtain ⟨b, hb⟩ : ∃ b, b = l.getD (a + m + k) 0 := ⟨_, rfl⟩
            rw [← hb] at hcell
            have hb1 := b.toNat_lt
            have Hb := Lib.hid hb
            clear hb
            obtain rfl | rfl | rfl | rfl : k = 0 ∨ k = 1 ∨ k = 2 ∨ k = 3 := by omega
            · have hcell' : wr.cell? (ad.add (a + m)) = some (.int .u8 (b.toNat : Int)) := hcell
              clear hcell
              have i1 : IntKind.i64.wrap ((a : Int) + (m : Int)) = (a : Int) + (m : Int) := IntWalk.i64_in _ (by omega)
              have i2 : (0 : Int) ≤ (a : Int) + (m : Int) := by omega
              have i3 : (a : Int) + (m : Int) < (l.length : Int) := by omega
              have i4 : ((a : Int) + (m : Int)).toNat = a + m := by omega
              go_wp2
              go_quiet (fail)
              go_wp2
              · have ht : ((b.toNat : Int) != (x : Int) % 256) = true := by assumption
                have ht2 : ¬ ((b.toNat : Int) = (x : Int) % 256) := by simpa using ht
                clear ht
                have hne : (l.getD (a + m + 0) 0).toNat ≠ x / 256 ^ 0 % 256 := by
                  rw [← Hb.out]
                  clear Hst Hb HO HCN HCS Hsub Hlen HX
                  omega
                go_ret3
                obtain ⟨e1, e2, e3⟩ := op_none (l := l) (HO.out.trans (openAt_bad (by omega) (by omega) (by rw [Int.toNat_natCast, ← Hsub.out, ← HX.out]; exact SumTo.not (by omega) hne)))
                rw [e1, e2, e3]
                exact ⟨_, rfl, World.ownsRow_nil _ _ _ _, below_drewN hbel nq⟩
              · have ht : ((b.toNat : Int) != (x : Int) % 256) = false := by assumption
                have ht2 : (b.toNat : Int) = (x : Int) % 256 := by simpa using ht
                have heq : (l.getD (a + m + 0) 0).toNat = x / 256 ^ 0 % 256 := by
                  rw [← Hb.out]
                  clear Hst Hb HO HCN HCS Hsub Hlen HX ht
                  omega
                exact ⟨⟨0 + 1, by omega, rfl, Hst.out.next heq, below_drewN hbel nq⟩, by simp [intOf]⟩
            ·
              have hcell' : wr.cell? ⟨ad.block, ad.off + (a + m + 1), none⟩ = some (.int .u8 (b.toNat : Int)) := by simpa [Addr.add] using hcell
              clear hcell
              have i1 : IntKind.i64.wrap ((a : Int) + (m : Int) + 1) = (a : Int) + (m : Int) + 1 := IntWalk.i64_in _ (by omega)
              have i2 : (0 : Int) ≤ (a : Int) + (m : Int) + 1 := by omega
              have i3 : (a : Int) + (m : Int) + 1 < (l.length : Int) := by omega
              have i4 : ((a : Int) + (m : Int) + 1).toNat = a + m + 1 := by omega
              go_wp2
              go_quiet (fail)
              go_wp2
              · have ht : ((b.toNat : Int) != (x : Int) / 256 % 256) = true := by assumption
                have ht2 : ¬ ((b.toNat : Int) = (x : Int) / 256 % 256) := by simpa using ht
                clear ht
                have hne : (l.getD (a + m + 1) 0).toNat ≠ x / 256 ^ 1 % 256 := by
                  rw [← Hb.out]
                  clear Hst Hb HO HCN HCS Hsub Hlen HX
                  omega
                go_ret3
                obtain ⟨e1, e2, e3⟩ := op_none (l := l) (HO.out.trans (openAt_bad (by omega) (by omega) (by rw [Int.toNat_natCast, ← Hsub.out, ← HX.out]; exact SumTo.not (by omega) hne)))
                rw [e1, e2, e3]
                exact ⟨_, rfl, World.ownsRow_nil _ _ _ _, below_drewN hbel nq⟩
              · have ht : ((b.toNat : Int) != (x : Int) / 256 % 256) = false := by assumption
                have ht2 : (b.toNat : Int) = (x : Int) / 256 % 256 := by simpa using ht
                have heq : (l.getD (a + m + 1) 0).toNat = x / 256 ^ 1 % 256 := by
                  rw [← Hb.out]
                  clear Hst Hb HO HCN HCS Hsub Hlen HX ht
                  omega
                exact ⟨⟨1 + 1, by omega, rfl, Hst.out.next heq, below_drewN hbel nq⟩, by simp [intOf]⟩
            ·
              have hcell' : wr.cell? ⟨ad.block, ad.off + (a + m + 2), none⟩ = some (.int .u8 (b.toNat : Int)) := by simpa [Addr.add] using hcell
              clear hcell
              have i1 : IntKind.i64.wrap ((a : Int) + (m : Int) + 2) = (a : Int) + (m : Int) + 2 := IntWalk.i64_in _ (by omega)
              have i2 : (0 : Int) ≤ (a : Int) + (m : Int) + 2 := by omega
              have i3 : (a : Int) + (m : Int) + 2 < (l.length : Int) := by omega
              have i4 : ((a : Int) + (m : Int) + 2).toNat = a + m + 2 := by omega
              go_wp2
              go_quiet (fail)
              go_wp2
              · have ht : ((b.toNat : Int) != (x : Int) / 65536 % 256) = true := by assumption
                have ht2 : ¬ ((b.toNat : Int) = (x : Int) / 65536 % 256) := by simpa using ht
                clear ht
                have hne : (l.getD (a + m + 2) 0).toNat ≠ x / 256 ^ 2 % 256 := by
                  rw [← Hb.out]
                  clear Hst Hb HO HCN HCS Hsub Hlen HX
                  omega
                go_ret3
                obtain ⟨e1, e2, e3⟩ := op_none (l := l) (HO.out.trans (openAt_bad (by omega) (by omega) (by rw [Int.toNat_natCast, ← Hsub.out, ← HX.out]; exact SumTo.not (by omega) hne)))
                rw [e1, e2, e3]
                exact ⟨_, rfl, World.ownsRow_nil _ _ _ _, below_drewN hbel nq⟩
              · have ht : ((b.toNat : Int) != (x : Int) / 65536 % 256) = false := by assumption
                have ht2 : (b.toNat : Int) = (x : Int) / 65536 % 256 := by simpa using ht
                have heq : (l.getD (a + m + 2) 0).toNat = x / 256 ^ 2 % 256 := by
                  rw [← Hb.out]
                  clear Hst Hb HO HCN HCS Hsub Hlen HX ht
                  omega
                exact ⟨⟨2 + 1, by omega, rfl, Hst.out.next heq, below_drewN hbel nq⟩, by simp [intOf]⟩
            ·
              have hcell' : wr.cell? ⟨ad.block, ad.off + (a + m + 3), none⟩ = some (.int .u8 (b.toNat : Int)) := by simpa [Addr.add] using hcell
              clear hcell
              have i1 : IntKind.i64.wrap ((a : Int) + (m : Int) + 3) = (a : Int) + (m : Int) + 3 := IntWalk.i64_in _ (by omega)
              have i2 : (0 : Int) ≤ (a : Int) + (m : Int) + 3 := by omega
              have i3 : (a : Int) + (m : Int) + 3 < (l.length : Int) := by omega
              have i4 : ((a : Int) + (m : Int) + 3).toNat = a + m + 3 := by omega
              go_wp2
              go_quiet (fail)
              go_wp2
              · have ht : ((b.toNat : Int) != (x : Int) / 16777216) = true := by assumption
                have ht2 : ¬ ((b.toNat : Int) = (x : Int) / 16777216) := by simpa using ht
                clear ht
                have hne : (l.getD (a + m + 3) 0).toNat ≠ x / 256 ^ 3 % 256 := by
                  rw [← Hb.out]
                  clear Hst Hb HO HCN HCS Hsub Hlen HX
                  omega
                go_ret3
                obtain ⟨e1, e2, e3⟩ := op_none (l := l) (HO.out.trans (openAt_bad (by omega) (by omega) (by rw [Int.toNat_natCast, ← Hsub.out, ← HX.out]; exact SumTo.not (by omega) hne)))
                rw [e1, e2, e3]
                exact ⟨_, rfl, World.ownsRow_nil _ _ _ _, below_drewN hbel nq⟩
              · have ht : ((b.toNat : Int) != (x : Int) / 16777216) = false := by assumption
                have ht2 : (b.toNat : Int) = (x : Int) / 16777216 := by simpa using ht
                have heq : (l.getD (a + m + 3) 0).toNat = x / 256 ^ 3 % 256 := by
                  rw [← Hb.out]
                  clear Hst Hb HO HCN HCS Hsub Hlen HX ht
                  omega
                exact ⟨⟨3 + 1, by omega, rfl, Hst.out.next heq, below_drewN hbel nq⟩, by simp [intOf]⟩
          · obtain rfl : k = 4 := by omega
            have hbs := hbel.size
            have i1 : IntKind.i64.wrap ((a : Int) + (m : Int) + 4) = (a : Int) + (m : Int) + 4 := IntWalk.i64_in _ (by omega)
            go_wp2_with (first | (with_reducible show wpList _ _ _ (⟨some 61, _, _, _, _, _⟩ :: _) _ _; go_must (refine wpList_rd (.const (.slice none 0 0)) (.tmp 60) el_u8 rfl rfl (World.ownsRow_nil wr w.heap.size 5 1) rfl (hrs.below hbel hB) rfl (bvs_one _) (by omega) (by omega) ?_); intro v3 w3 ho3 hb3 hg3 ha3))
            go_ret3
            obtain ⟨e1, e2, e3⟩ := op_some (l := l) (HO.out.trans (openAt_good (by omega) (by omega) (by rw [Int.toNat_natCast, ← Hsub.out, ← HX.out]; exact Hst.out)))
            rw [e1, e2, e3, Int.toNat_natCast, ← Hsub.out, Hlen.out]
            refine ⟨v3, ?_, by simpa using ho3, hbel.trans hb3⟩
            first | rfl | (congr 4; omega) | (simp; omega)
end Go.Proofs.YtcfijljagohmlaaGreatDoor
