/- The walk of the reference's Open. -/
import Derived.Test.YtcfijljagohmlaaDoorWalkD2
import Derived.Test.YtcfijljagohmlaaDoorWalkSeal
import Derived.Test.YtcfijljagohmlaaDoorPlainBackH
namespace Go.Proofs.YtcfijljagohmlaaDoor
open Go.RowKit

/-- What the reference's Open finds: the piece's bytes again. -/
theorem openAt_seal {l : List UInt8} {m a : Nat} (h : numS l (some 0) = ((m : Int), some a)) (hl : a + m + 4 ≤ l.length) :
    openAt l (m : Int) (some a) = (if sealB ((l.drop a).take m) = l.take (a + m + 4) then some ((l.drop a).take m, a + m + 4) else none) := by
  have hb := (numS_back (Nat.zero_le _) h).1
  have h0 := hb.2
  simp only [List.drop_zero] at h0
  have hla : a = (numB (m : Int)).length := by
    have h1 : rdNum l = some ((m : Int), a) := by
      simp only [numS, List.drop_zero] at h
      rcases hr : rdNum l with _ | ⟨v, k⟩
      · rw [hr] at h; simp at h
      · rw [hr] at h; simp only [Prod.mk.injEq, Option.some.injEq, Nat.zero_add] at h; obtain ⟨rfl, rfl⟩ := h; rfl
    exact (numB_rdNum h1).2
  have hta : l.take a = numB (m : Int) := by rw [h0, hla]; simp
  have hsub : ((l.drop a).take m).length = m := by simp; omega
  have e1 : l.take (a + m + 4) = numB (m : Int) ++ (l.drop a).take m ++ (l.drop (a + m)).take 4 := by
    rw [show a + m + 4 = a + (m + 4) from by omega, List.take_add, hta, List.take_add, List.drop_drop, List.append_assoc]
  rw [openAt, if_neg (by omega), Int.toNat_natCast, e1, sealB, hsub]
  by_cases hc : (l.drop (a + m)).take 4 = sum4 (sumB ((l.drop a).take m))
  · rw [if_pos hc, if_pos (by rw [hc])]
  · rw [if_neg hc, if_neg (fun e => hc (List.append_cancel_left e).symm)]

set_option maxRecDepth 100000 in
set_option maxHeartbeats 8000000 in
theorem sopen_any (A : Option Addr) (c B : Nat) (l : List UInt8) (w : World) (hr : Rd w B 1 A l.length (l.map bv)) (hB : B ≤ w.heap.size) (hl : l.length ≤ 140737488355300) (hc : l.length ≤ c) :
    Calls Tryd.prog 19 #[.slice A l.length c] w fun e w' => ∃ A' c', e = .returned (.tuple #[.slice A' (opB l).length c', .int .i64 (opN l), .bool (openS l).isSome]) ∧
      Rd w' B 1 A' (opB l).length ((opB l).map bv) ∧ Below w.heap.size w w' := by
  have hst : Stands l (some 0) := by intro a h; injection h with h; omega
  obtain ⟨hs1, hn0, hn1⟩ := numS_bd l (some 0) hst
  obtain ⟨v, hv⟩ : ∃ v, v = (numS l (some 0)).1 := ⟨_, rfl⟩
  obtain ⟨s1, hs1'⟩ : ∃ s1, s1 = (numS l (some 0)).2 := ⟨_, rfl⟩
  have CN := fun (w0 : World) (h : Drd w0 w.heap.size A c l (some 0)) (h2 : Rd w0 B 1 A l.length (l.map bv)) => dnum_any w.heap.size A c B l (some 0) w0 h h2 hB hst (by omega)
  rw [← hv] at hn0 hn1
  rw [← hs1'] at hs1
  simp only [← hv, ← hs1'] at CN
  have HO := Lib.hid (open_form l v s1 hv hs1')
  have HNS : Hid (numS l (some 0) = (v, s1)) := Lib.hid (by rw [hv, hs1'])
  have HCN := Lib.hid CN
  clear CN hv hs1' hst
  rcases s1 with _ | a
  · go_enter Tryd.func19, Tryd.ntmps19
    go_wp2_with (first | (go_at_call 40; go_must (refine (HCN.out _ (Blk.new w _ _) (hr.alloc hB _)).mono ?_); rintro e w1 ⟨hg1, rfl, hb1⟩; have hc2 := hb1.bad; simp only [Option.isNone] at hc2))
    go_ret3
    have h0 : openS l = none := HO.out.trans rfl
    obtain ⟨e1, e2, e3⟩ := op_none h0
    rw [e1, e2, h0]
    exact ⟨none, 0, rfl, Rd.nil_, ((Below.refl _ _).alloc (Nat.le_refl _) _).trans (below_of_only hg1 (Nat.le_refl _) (by simp))⟩
  · have ha := hs1 a rfl
    clear hs1
    by_cases hv0 : v < 0
    · go_enter Tryd.func19, Tryd.ntmps19
      go_wp2_with (first | (go_at_call 40; go_must (refine (HCN.out _ (Blk.new w _ _) (hr.alloc hB _)).mono ?_); rintro e w1 ⟨hg1, rfl, hb1⟩; have hc2 := Blk.cell hb1 2; simp at hc2))
      go_ret3
      have h0 : openS l = none := HO.out.trans (openAt_out (.inl hv0))
      obtain ⟨e1, e2, e3⟩ := op_none h0
      rw [e1, e2, h0]
      exact ⟨none, 0, rfl, Rd.nil_, ((Below.refl _ _).alloc (Nat.le_refl _) _).trans (below_of_only hg1 (Nat.le_refl _) (by simp))⟩
    · by_cases hv1 : (l.length : Int) - a - 4 < v
      · go_enter Tryd.func19, Tryd.ntmps19
        go_wp2_with (first | (go_at_call 40; go_must (refine (HCN.out _ (Blk.new w _ _) (hr.alloc hB _)).mono ?_); rintro e w1 ⟨hg1, rfl, hb1⟩; have hc2 := Blk.cell hb1 2; have hc1 := Blk.cell hb1 1; simp at hc1 hc2))
        go_ret3
        have h0 : openS l = none := HO.out.trans (openAt_out (.inr hv1))
        obtain ⟨e1, e2, e3⟩ := op_none h0
        rw [e1, e2, h0]
        exact ⟨none, 0, rfl, Rd.nil_, ((Below.refl _ _).alloc (Nat.le_refl _) _).trans (below_of_only hg1 (Nat.le_refl _) (by simp))⟩
      · obtain ⟨m, rfl⟩ : ∃ m : Nat, v = (m : Int) := ⟨v.toNat, by omega⟩
        have hm : a + m + 4 ≤ l.length := by omega
        have HF := Lib.hid (HO.out.trans (openAt_seal HNS.out hm))
        obtain ⟨sub, hsub⟩ : ∃ sub, sub = (l.drop a).take m := ⟨_, rfl⟩
        have hlen : sub.length = m := by rw [hsub]; simp; omega
        have hrs : Rd w B 1 (if c = a then A else A.map (fun x => x.add a)) m (sub.map bv) := by rw [hsub]; exact hr.sub (by omega) hc
        rw [if_neg (by omega)] at hrs
        have CS := fun (w0 : World) (h : Rd w0 B 1 (A.map (fun x => x.add a)) m (sub.map bv)) (hB' : B ≤ w0.heap.size) => rseal_any (A.map (fun x => x.add a)) (c - a) B sub w0 (by rw [hlen]; exact h) hB' (by omega)
        simp only [hlen] at CS
        have HCS := Lib.hid CS
        have Hsub := Lib.hid hsub
        have Hlen := Lib.hid hlen
        clear CS hsub hlen
        go_enter Tryd.func19, Tryd.ntmps19
        go_wp2_with (first
          | (go_at_call 40; go_must (refine (HCN.out _ (Blk.new w _ _) (hr.alloc hB _)).mono ?_); rintro e w1 ⟨hg1, rfl, hb1⟩; have hc2 := Blk.cell hb1 2; have hc1 := Blk.cell hb1 1; simp at hc1 hc2; have hbel1 := ((Below.refl w.heap.size w).alloc (Nat.le_refl _) (.cells #[.slice A l.length c, .int .i64 ((0 : Nat) : Int), .bool false] 79)).trans (below_of_only hg1 (Nat.le_refl _) (by simp))))
        have i1 : IntKind.i64.wrap ((a : Int) + (m : Int)) = (a : Int) + (m : Int) := IntWalk.i64_in _ (by omega)
        have i2 : (0 : Int) ≤ (a : Int) + (m : Int) := by omega
        have i3 : (a : Int) + (m : Int) ≤ (l.length : Int) := by omega
        have i4 : ((a : Int) + (m : Int)).toNat = a + m := by omega
        have i5 : (a : Int) ≤ (a : Int) + (m : Int) := by omega
        go_quiet (fail)
        clear i1 i2 i3 i4 i5
        have hbelq := below_drewN hbel1 nq
        have hbq := Blk.drewN hb1 nq
        clear hbel1 hb1 hc1 hc2
        generalize w1.drewN nq = wq at *
        go_wp2_with (first
          | (go_at_call 50; go_must (refine (HCS.out _ (hrs.below hbelq hB) (by have := hbelq.size; omega)).mono ?_); rintro e w2 ⟨v2, rfl, ho2, hb2⟩; have hbel2 := hbelq.trans (hb2.mono hbelq.size); have hb3 := Blk.up hbq hb2; have hc1 := hb3.cell 1; simp at hc1))
        obtain ⟨A2, c2, rfl, _, _, _, r2⟩ := own_form ho2
        have q1 := fun x : Nat => run_string_rd (P := Tryd.prog) (c := c2) Tryd.underlying23 Tryd.underlying5 Tryd.underlying9 (r2.drewN x)
        have ht : Rd w2 B 1 A (a + m + 4) ((l.take (a + m + 4)).map bv) := by
          have := (hr.below hbel2 hB).take (k := a + m + 4) hm
          simpa [List.map_take] using this
        have q2 := fun x : Nat => run_string_rd (P := Tryd.prog) (c := c) Tryd.underlying23 Tryd.underlying5 Tryd.underlying9 (ht.drewN x)
        have i1 : IntKind.i64.wrap ((a : Int) + (m : Int) + 4) = (a : Int) + (m : Int) + 4 := IntWalk.i64_in _ (by omega)
        have i2 : (0 : Int) ≤ (a : Int) + (m : Int) + 4 := by omega
        have i3 : (a : Int) + (m : Int) + 4 ≤ (l.length : Int) := by omega
        have i4 : ((a : Int) + (m : Int) + 4).toNat = a + m + 4 := by omega
        by_cases heq : sealB sub = l.take (a + m + 4)
        · have HE := Lib.hid heq
          have q3 : ∀ x : Nat, (Go.convert 23 9 (.slice A2 (sealB sub).length c2)).run Tryd.prog (w2.drewN x) = .ok (.string ⟨(l.take (a + m + 4)).toArray⟩) (w2.drewN x) := fun x => by rw [q1 x, heq]
          clear heq q1
          go_quiet (fail)
          go_wp2
          go_ret3
          have h0 : openS l = some (sub, a + m + 4) := by rw [HF.out, ← Hsub.out, if_pos HE.out]
          obtain ⟨e1, e2, e3⟩ := op_some h0
          rw [e1, e2, h0, Hlen.out]
          exact ⟨_, _, rfl, (hrs.below hbel2 hB).drewN nq, below_drewN hbel2 nq⟩
        · have t1 : (sealB sub == l.take (a + m + 4)) = false := by simpa using heq
          have HE := Lib.hid heq
          clear heq
          go_quiet (fail)
          go_wp2
          go_ret3
          have h0 : openS l = none := by rw [HF.out, ← Hsub.out, if_neg HE.out]
          obtain ⟨e1, e2, e3⟩ := op_none h0
          rw [e1, e2, h0]
          exact ⟨none, 0, rfl, Rd.nil_, below_drewN hbel2 nq⟩
end Go.Proofs.YtcfijljagohmlaaDoor
