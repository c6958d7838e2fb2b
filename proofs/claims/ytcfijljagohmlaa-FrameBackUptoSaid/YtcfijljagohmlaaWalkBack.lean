/- The walk of the law FrameBack. -/
import Derived.Test.YtcfijljagohmlaaWalkOpen
import Derived.Test.YtcfijljagohmlaaWalkSame
import Derived.Test.YtcfijljagohmlaaWalkReadRecords
import Derived.Test.YtcfijljagohmlaaWalkRecords
import Derived.Test.YtcfijljagohmlaaWalkReadHelds
import Derived.Test.YtcfijljagohmlaaWalkHelds
namespace Go.Proofs.Ytcfijljagohmlaa
open Go.RowKit

theorem map_len (l : List UInt8) : (l.map bv).length = l.length := by simp
theorem cell_at0 {w : World} {A : Option Addr} {B n : Nat} {l : List UInt8} (h : Rd w B 1 A n (l.map bv)) (hk : 0 < n) : ∃ ad, A = some ad ∧ w.cell? ad = some (.int .u8 ((l.getD 0 0).toNat : Int)) := by
  obtain ⟨ad, e, hc⟩ := h.byte hk
  exact ⟨ad, e, by simpa [Addr.add] using hc⟩

set_option maxRecDepth 100000 in
set_option maxHeartbeats 8000000 in
theorem back_walk (A Ah Ab Am : Option Addr) (c ch cb cm : Nat) (l : List Rec) (h : List Hld) (b more : List UInt8) (w : World)
    (hr : Rd w w.heap.size 3 A l.length (recCells l)) (hh : Rd w w.heap.size 4 Ah h.length (hldCells h)) (hb : Rd w w.heap.size 1 Ab b.length (b.map bv)) (hm : Rd w w.heap.size 1 Am more.length (more.map bv))
    (hl1 : l.length ≤ 1048576) (hl2 : h.length ≤ 1048576) (hl3 : b.length ≤ 1048576) (hl4 : more.length ≤ 1048576) (hcm : more.length ≤ cm) (hrok : ∀ x ∈ l, x.Ok) (hhok : ∀ x ∈ h, x.Ok) :
    Calls Try.prog 4 #[.slice A l.length c, .slice Ah h.length ch, .slice Ab b.length cb, .slice Am more.length cm] w fun e w' => e = .returned (.bool true) ∧ Below w.heap.size w w' := by
  have hsl : (sealB b).length = (numB b.length).length + b.length + 4 := by simp [sealB, sum4, Nat.add_assoc]
  have hsn := numB_le (b.length : Int)
  obtain ⟨n, hn⟩ : ∃ n, (sealB b).length = n + 1 := ⟨(sealB b).length - 1, by omega⟩
  have hn1 : n ≤ 1048600 := by omega
  have HN := Lib.hid hn
  have hcu := open_cut b (by omega)
  rw [show (sealB b).length - 1 = n from by omega] at hcu
  have HCU := Lib.hid hcu
  have hop := open_seal b more (by omega)
  rw [hn] at hop
  have HOP := Lib.hid hop
  clear hsl hsn hn hcu hop
  by_cases he : recsE l = 0
  · have HE := Lib.hid he
    have HR := Lib.hid (recs_read he (fun x hx => (hrok x hx).2.1))
    clear he
    go_enter Try.func4, Try.ntmps4
    go_wp2_with fail
    refine (num_any _ _ (by omega) (by omega)).mono ?_
    rintro e w1 ⟨v1, rfl, ho1, hb1⟩
    rw [fact300] at ho1
    obtain ⟨A1, c1, rfl, hnn1, _, _, r1⟩ := own_form ho1
    obtain ⟨ad1, rfl, hc1⟩ := cell_at0 r1 (by simp)
    simp at hc1
    clear ho1 r1
    go_wp2_with fail
    refine (records_any A c w.heap.size l _ (hr.below hb1 (Nat.le_refl _)) hb1.size hrok (by omega)).mono ?_
    rintro e w2 ⟨v2, rfl, ho2, hb2⟩
    have hbb2 := below_up hb1 hb2
    rw [show errV (recsE l) = .nilIface from by rw [HE.out]; rfl]
    obtain ⟨A2, c2, rfl, hn2, hc2, _, r2⟩ := own_form ho2
    clear ho2
    go_wp2_with fail
    refine (readrecs_any A2 c2 w2.heap.size (recsB l) _ r2 (Nat.le_refl _) (Nat.le_trans (recsB_le l) (by omega)) hn2).mono ?_
    rintro e w3 ⟨v3, rfl, ho3, hb3⟩
    have hbb3 := below_up hbb2 hb3
    rw [show errV (rrE (recsB l)) = .nilIface from by rw [rrE_some HR.out]; rfl]
    rw [HR.out, Option.getD_some] at ho3
    obtain ⟨A3, c3, rfl, hn3, hc3, _, r3⟩ := own_form ho3
    clear ho3
    go_wp2_with fail
    refine (samerecs_any A3 A c3 c w3.heap.size l l _ r3 ((hr.below hbb3 (Nat.le_refl _)).more hbb3.size) (Nat.le_refl _) (by omega) (by omega)).mono ?_
    rintro e w4 ⟨t, rfl, ht, hb4⟩
    have hbb4 := below_up hbb3 hb4
    obtain rfl : t = true := ht.2 rfl
    clear r2 r3 ht hb2 hb3 hb4 hbb2 hbb3
    by_cases hf : heldsE h = 0
    · have HF := Lib.hid hf
      have HS := Lib.hid (helds_read hf (fun x hx => ⟨(hhok x hx).2.2.1, (hhok x hx).2.2.2⟩))
      clear hf
      go_wp2_with fail
      refine (helds_any Ah ch w.heap.size h _ (hh.below hbb4 (Nat.le_refl _)) hbb4.size hhok (by omega)).mono ?_
      rintro e w5 ⟨v5, rfl, ho5, hb5⟩
      have hbb5 := below_up hbb4 hb5
      rw [show errV (heldsE h) = .nilIface from by rw [HF.out]; rfl]
      obtain ⟨A5, c5, rfl, hn5, hc5, _, r5⟩ := own_form ho5
      clear ho5
      go_wp2_with fail
      refine (readhelds_any A5 c5 w5.heap.size (heldsB h) _ r5 (Nat.le_refl _) (Nat.le_trans (heldsB_le h) (by omega)) hn5).mono ?_
      rintro e w6 ⟨v6, rfl, ho6, hb6⟩
      have hbb6 := below_up hbb5 hb6
      rw [show errV (rhE (heldsB h)) = .nilIface from by rw [rhE_some HS.out]; rfl]
      rw [HS.out, Option.getD_some] at ho6
      obtain ⟨A6, c6, rfl, hn6, hc6, _, r6⟩ := own_form ho6
      clear ho6
      go_wp2_with fail
      refine (samehelds_any A6 Ah c6 ch w6.heap.size h h _ r6 ((hh.below hbb6 (Nat.le_refl _)).more hbb6.size) (Nat.le_refl _) (by omega) (by omega)).mono ?_
      rintro e w7 ⟨t, rfl, ht, hb7⟩
      have hbb7 := below_up hbb6 hb7
      obtain rfl : t = true := ht.2 rfl
      clear r5 r6 ht hb5 hb6 hb7 hbb5 hbb6 hc5 hc6
      go_wp2_with fail
      refine (seal_any Ab cb w.heap.size b _ (hb.below hbb7 (Nat.le_refl _)) hbb7.size (by omega)).mono ?_
      rintro e w8 ⟨v8, rfl, ho8, hb8⟩
      have hbb8 := below_up hbb7 hb8
      rw [HN.out] at ho8
      obtain ⟨A8, c8, rfl, hn8, hc8, _, r8⟩ := own_form ho8
      have hcut : Rd w8 w8.heap.size 1 A8 n (((sealB b).take n).map bv) := by
        have := r8.take (k := n) (by omega); simpa [List.map_take] using this
      have hlen : ((sealB b).take n).length = n := by rw [List.length_take, HN.out]; omega
      have C1 := open_any A8 c8 w8.heap.size ((sealB b).take n) w8 (by rw [hlen]; exact hcut) (Nat.le_refl _) (by omega) (by omega)
      rw [hlen] at C1
      have HC1 := Lib.hid C1
      clear C1 hlen hcut
      go_wp2_with fail
      refine HC1.out.mono ?_
      rintro e w9 ⟨v9, rfl, ho9, hb9⟩
      have hbb9 := below_up hbb8 hb9
      rw [show errV (opE ((sealB b).take n)) = .iface 84 (.int .i64 9) from by rw [(op_none (HCU.out)).2.2]; rfl]
      clear HC1 ho9
      have hox := own_up ho8 hb9
      have hox2 := own_base hox hbb7.size
      clear hox
      go_wp2_with (first | (with_reducible show wpList _ _ _ (⟨some 93, _, _, _, _, _⟩ :: _) _ _; go_must (refine wpList_rd (.tmp 91) (.tmp 92) el_u8 rfl rfl hox2 rfl (hm.below hbb9 (Nat.le_refl _)) rfl (bvs_one _) (by omega) hbb9.size ?_); intro va wa hoa hba hga haa))
      have hbba := hbb9.trans hba
      clear ho8 r8 hox2 hb8 hb9 hga haa
      rw [← List.map_append] at hoa
      obtain ⟨Aa, ca, rfl, hna, hca, _, ra⟩ := own_form hoa
      clear hoa
      have hlen : (sealB b ++ more).length = n + 1 + more.length := by rw [List.length_append, HN.out]
      have C2 := open_any Aa ca wa.heap.size (sealB b ++ more) wa (by rw [hlen]; exact ra) (Nat.le_refl _) (by omega) (by omega)
      rw [hlen] at C2
      have HC2 := Lib.hid C2
      clear C2 hlen
      go_wp2_with fail
      refine HC2.out.mono ?_
      rintro e wb ⟨vb', rfl, hob, hbb'⟩
      have hbbb := below_up hbba hbb'
      rw [(op_some HOP.out).2.2, (op_some HOP.out).2.1, errV_zero]
      rw [(op_some HOP.out).1] at hob
      obtain ⟨Ai, ci, rfl, hni, hci, _, ri⟩ := own_form hob
      have q1 := run_string_rd (c := ci) Try.underlying22 Try.underlying5 Try.underlying9 ri
      have q2 := run_string_rd (c := cb) Try.underlying22 Try.underlying5 Try.underlying9 (hb.below hbbb (Nat.le_refl _))
      clear HC2 hob ra hbb' hba
      go_wp2_with fail
      refine (readrecs_any Am cm w.heap.size more _ (hm.below hbbb (Nat.le_refl _)) hbbb.size (by omega) hcm).mono ?_
      rintro e wc ⟨vc, rfl, hoc, hbc⟩
      have hbbc := below_up hbbb hbc
      clear q1 q2 ri
      rcases hmr : readRecs more with _ | rs
      · have HM := Lib.hid hmr
        clear hmr
        rw [show errV (rrE more) = .iface 84 (.int .i64 9) from by rw [rrE_none HM.out]; rfl]
        go_wp2
        go_ret
        exact ⟨rfl, hbbc⟩
      · have HM := Lib.hid hmr
        obtain ⟨x1, x2, x3, x4⟩ := read_recs hmr
        have HQE := Lib.hid x1
        have HQB := Lib.hid x2
        have HQL := Lib.hid x3
        have HQ : Hid (∀ x ∈ rs, x.Ok) := Lib.hid fun x hx => recOk_ok (x4 x hx).1 (x4 x hx).2
        clear hmr x1 x2 x3 x4
        rw [show errV (rrE more) = .nilIface from by rw [rrE_some HM.out]; rfl]
        rw [HM.out, Option.getD_some] at hoc
        obtain ⟨Ac, cc, rfl, hnc, hcc, _, rc⟩ := own_form hoc
        go_wp2_with fail
        refine (records_any Ac cc wc.heap.size rs _ rc (Nat.le_refl _) HQ.out (by have := HQL.out; omega)).mono ?_
        rintro e wd ⟨vd, rfl, hod, hbd⟩
        have hbbd := below_up hbbc hbd
        rw [show errV (recsE rs) = .nilIface from by rw [HQE.out]; rfl]
        rw [HQB.out] at hod
        obtain ⟨Ad, cd, rfl, hnd, hcd, _, rd⟩ := own_form hod
        have q3 := run_string_rd (c := cd) Try.underlying22 Try.underlying5 Try.underlying9 rd
        have q4 := run_string_rd (c := cm) Try.underlying22 Try.underlying5 Try.underlying9 (hm.below hbbd (Nat.le_refl _))
        go_wp2
        go_ret
        exact ⟨rfl, hbbd⟩
    · have HF := Lib.hid hf
      clear hf
      go_wp2_with fail
      refine (helds_any Ah ch w.heap.size h _ (hh.below hbb4 (Nat.le_refl _)) hbb4.size hhok (by omega)).mono ?_
      rintro e w5 ⟨v5, rfl, ho5, hb5⟩
      have hbb5 := below_up hbb4 hb5
      obtain ⟨E', hE'⟩ : ∃ E : Int, errV (heldsE h) = .iface 84 (.int .i64 E) := ⟨_, by rw [errV, if_neg HF.out]⟩
      rw [hE']
      clear hE' ho5 hb5
      obtain ⟨w7, hw7⟩ : ∃ w7, w7 = w5 := ⟨_, rfl⟩
      subst hw7
      have hbb7 := hbb5
      clear hbb5
      go_wp2_with fail
      refine (seal_any Ab cb w.heap.size b _ (hb.below hbb7 (Nat.le_refl _)) hbb7.size (by omega)).mono ?_
      rintro e w8 ⟨v8, rfl, ho8, hb8⟩
      have hbb8 := below_up hbb7 hb8
      rw [HN.out] at ho8
      obtain ⟨A8, c8, rfl, hn8, hc8, _, r8⟩ := own_form ho8
      have hcut : Rd w8 w8.heap.size 1 A8 n (((sealB b).take n).map bv) := by
        have := r8.take (k := n) (by omega); simpa [List.map_take] using this
      have hlen : ((sealB b).take n).length = n := by rw [List.length_take, HN.out]; omega
      have C1 := open_any A8 c8 w8.heap.size ((sealB b).take n) w8 (by rw [hlen]; exact hcut) (Nat.le_refl _) (by omega) (by omega)
      rw [hlen] at C1
      have HC1 := Lib.hid C1
      clear C1 hlen hcut
      go_wp2_with fail
      refine HC1.out.mono ?_
      rintro e w9 ⟨v9, rfl, ho9, hb9⟩
      have hbb9 := below_up hbb8 hb9
      rw [show errV (opE ((sealB b).take n)) = .iface 84 (.int .i64 9) from by rw [(op_none (HCU.out)).2.2]; rfl]
      clear HC1 ho9
      have hox := own_up ho8 hb9
      have hox2 := own_base hox hbb7.size
      clear hox
      go_wp2_with (first | (with_reducible show wpList _ _ _ (⟨some 93, _, _, _, _, _⟩ :: _) _ _; go_must (refine wpList_rd (.tmp 91) (.tmp 92) el_u8 rfl rfl hox2 rfl (hm.below hbb9 (Nat.le_refl _)) rfl (bvs_one _) (by omega) hbb9.size ?_); intro va wa hoa hba hga haa))
      have hbba := hbb9.trans hba
      clear ho8 r8 hox2 hb8 hb9 hga haa
      rw [← List.map_append] at hoa
      obtain ⟨Aa, ca, rfl, hna, hca, _, ra⟩ := own_form hoa
      clear hoa
      have hlen : (sealB b ++ more).length = n + 1 + more.length := by rw [List.length_append, HN.out]
      have C2 := open_any Aa ca wa.heap.size (sealB b ++ more) wa (by rw [hlen]; exact ra) (Nat.le_refl _) (by omega) (by omega)
      rw [hlen] at C2
      have HC2 := Lib.hid C2
      clear C2 hlen
      go_wp2_with fail
      refine HC2.out.mono ?_
      rintro e wb ⟨vb', rfl, hob, hbb'⟩
      have hbbb := below_up hbba hbb'
      rw [(op_some HOP.out).2.2, (op_some HOP.out).2.1, errV_zero]
      rw [(op_some HOP.out).1] at hob
      obtain ⟨Ai, ci, rfl, hni, hci, _, ri⟩ := own_form hob
      have q1 := run_string_rd (c := ci) Try.underlying22 Try.underlying5 Try.underlying9 ri
      have q2 := run_string_rd (c := cb) Try.underlying22 Try.underlying5 Try.underlying9 (hb.below hbbb (Nat.le_refl _))
      clear HC2 hob ra hbb' hba
      go_wp2_with fail
      refine (readrecs_any Am cm w.heap.size more _ (hm.below hbbb (Nat.le_refl _)) hbbb.size (by omega) hcm).mono ?_
      rintro e wc ⟨vc, rfl, hoc, hbc⟩
      have hbbc := below_up hbbb hbc
      clear q1 q2 ri
      rcases hmr : readRecs more with _ | rs
      · have HM := Lib.hid hmr
        clear hmr
        rw [show errV (rrE more) = .iface 84 (.int .i64 9) from by rw [rrE_none HM.out]; rfl]
        go_wp2
        go_ret
        exact ⟨rfl, hbbc⟩
      · have HM := Lib.hid hmr
        obtain ⟨x1, x2, x3, x4⟩ := read_recs hmr
        have HQE := Lib.hid x1
        have HQB := Lib.hid x2
        have HQL := Lib.hid x3
        have HQ : Hid (∀ x ∈ rs, x.Ok) := Lib.hid fun x hx => recOk_ok (x4 x hx).1 (x4 x hx).2
        clear hmr x1 x2 x3 x4
        rw [show errV (rrE more) = .nilIface from by rw [rrE_some HM.out]; rfl]
        rw [HM.out, Option.getD_some] at hoc
        obtain ⟨Ac, cc, rfl, hnc, hcc, _, rc⟩ := own_form hoc
        go_wp2_with fail
        refine (records_any Ac cc wc.heap.size rs _ rc (Nat.le_refl _) HQ.out (by have := HQL.out; omega)).mono ?_
        rintro e wd ⟨vd, rfl, hod, hbd⟩
        have hbbd := below_up hbbc hbd
        rw [show errV (recsE rs) = .nilIface from by rw [HQE.out]; rfl]
        rw [HQB.out] at hod
        obtain ⟨Ad, cd, rfl, hnd, hcd, _, rd⟩ := own_form hod
        have q3 := run_string_rd (c := cd) Try.underlying22 Try.underlying5 Try.underlying9 rd
        have q4 := run_string_rd (c := cm) Try.underlying22 Try.underlying5 Try.underlying9 (hm.below hbbd (Nat.le_refl _))
        go_wp2
        go_ret
        exact ⟨rfl, hbbd⟩
  · have HE := Lib.hid he
    clear he
    go_enter Try.func4, Try.ntmps4
    go_wp2_with fail
    refine (num_any _ _ (by omega) (by omega)).mono ?_
    rintro e w1 ⟨v1, rfl, ho1, hb1⟩
    rw [fact300] at ho1
    obtain ⟨A1, c1, rfl, hnn1, _, _, r1⟩ := own_form ho1
    obtain ⟨ad1, rfl, hc1⟩ := cell_at0 r1 (by simp)
    simp at hc1
    clear ho1 r1
    go_wp2_with fail
    refine (records_any A c w.heap.size l _ (hr.below hb1 (Nat.le_refl _)) hb1.size hrok (by omega)).mono ?_
    rintro e w2 ⟨v2, rfl, ho2, hb2⟩
    have hbb2 := below_up hb1 hb2
    obtain ⟨E, hE⟩ : ∃ E : Int, errV (recsE l) = .iface 84 (.int .i64 E) := ⟨_, by rw [errV, if_neg HE.out]⟩
    rw [hE]
    clear hE ho2 hb2
    obtain ⟨w4, hw4⟩ : ∃ w4, w4 = w2 := ⟨_, rfl⟩
    subst hw4
    have hbb4 := hbb2
    clear hbb2
    by_cases hf : heldsE h = 0
    · have HF := Lib.hid hf
      have HS := Lib.hid (helds_read hf (fun x hx => ⟨(hhok x hx).2.2.1, (hhok x hx).2.2.2⟩))
      clear hf
      go_wp2_with fail
      refine (helds_any Ah ch w.heap.size h _ (hh.below hbb4 (Nat.le_refl _)) hbb4.size hhok (by omega)).mono ?_
      rintro e w5 ⟨v5, rfl, ho5, hb5⟩
      have hbb5 := below_up hbb4 hb5
      rw [show errV (heldsE h) = .nilIface from by rw [HF.out]; rfl]
      obtain ⟨A5, c5, rfl, hn5, hc5, _, r5⟩ := own_form ho5
      clear ho5
      go_wp2_with fail
      refine (readhelds_any A5 c5 w5.heap.size (heldsB h) _ r5 (Nat.le_refl _) (Nat.le_trans (heldsB_le h) (by omega)) hn5).mono ?_
      rintro e w6 ⟨v6, rfl, ho6, hb6⟩
      have hbb6 := below_up hbb5 hb6
      rw [show errV (rhE (heldsB h)) = .nilIface from by rw [rhE_some HS.out]; rfl]
      rw [HS.out, Option.getD_some] at ho6
      obtain ⟨A6, c6, rfl, hn6, hc6, _, r6⟩ := own_form ho6
      clear ho6
      go_wp2_with fail
      refine (samehelds_any A6 Ah c6 ch w6.heap.size h h _ r6 ((hh.below hbb6 (Nat.le_refl _)).more hbb6.size) (Nat.le_refl _) (by omega) (by omega)).mono ?_
      rintro e w7 ⟨t, rfl, ht, hb7⟩
      have hbb7 := below_up hbb6 hb7
      obtain rfl : t = true := ht.2 rfl
      clear r5 r6 ht hb5 hb6 hb7 hbb5 hbb6 hc5 hc6
      go_wp2_with fail
      refine (seal_any Ab cb w.heap.size b _ (hb.below hbb7 (Nat.le_refl _)) hbb7.size (by omega)).mono ?_
      rintro e w8 ⟨v8, rfl, ho8, hb8⟩
      have hbb8 := below_up hbb7 hb8
      rw [HN.out] at ho8
      obtain ⟨A8, c8, rfl, hn8, hc8, _, r8⟩ := own_form ho8
      have hcut : Rd w8 w8.heap.size 1 A8 n (((sealB b).take n).map bv) := by
        have := r8.take (k := n) (by omega); simpa [List.map_take] using this
      have hlen : ((sealB b).take n).length = n := by rw [List.length_take, HN.out]; omega
      have C1 := open_any A8 c8 w8.heap.size ((sealB b).take n) w8 (by rw [hlen]; exact hcut) (Nat.le_refl _) (by omega) (by omega)
      rw [hlen] at C1
      have HC1 := Lib.hid C1
      clear C1 hlen hcut
      go_wp2_with fail
      refine HC1.out.mono ?_
      rintro e w9 ⟨v9, rfl, ho9, hb9⟩
      have hbb9 := below_up hbb8 hb9
      rw [show errV (opE ((sealB b).take n)) = .iface 84 (.int .i64 9) from by rw [(op_none (HCU.out)).2.2]; rfl]
      clear HC1 ho9
      have hox := own_up ho8 hb9
      have hox2 := own_base hox hbb7.size
      clear hox
      go_wp2_with (first | (with_reducible show wpList _ _ _ (⟨some 93, _, _, _, _, _⟩ :: _) _ _; go_must (refine wpList_rd (.tmp 91) (.tmp 92) el_u8 rfl rfl hox2 rfl (hm.below hbb9 (Nat.le_refl _)) rfl (bvs_one _) (by omega) hbb9.size ?_); intro va wa hoa hba hga haa))
      have hbba := hbb9.trans hba
      clear ho8 r8 hox2 hb8 hb9 hga haa
      rw [← List.map_append] at hoa
      obtain ⟨Aa, ca, rfl, hna, hca, _, ra⟩ := own_form hoa
      clear hoa
      have hlen : (sealB b ++ more).length = n + 1 + more.length := by rw [List.length_append, HN.out]
      have C2 := open_any Aa ca wa.heap.size (sealB b ++ more) wa (by rw [hlen]; exact ra) (Nat.le_refl _) (by omega) (by omega)
      rw [hlen] at C2
      have HC2 := Lib.hid C2
      clear C2 hlen
      go_wp2_with fail
      refine HC2.out.mono ?_
      rintro e wb ⟨vb', rfl, hob, hbb'⟩
      have hbbb := below_up hbba hbb'
      rw [(op_some HOP.out).2.2, (op_some HOP.out).2.1, errV_zero]
      rw [(op_some HOP.out).1] at hob
      obtain ⟨Ai, ci, rfl, hni, hci, _, ri⟩ := own_form hob
      have q1 := run_string_rd (c := ci) Try.underlying22 Try.underlying5 Try.underlying9 ri
      have q2 := run_string_rd (c := cb) Try.underlying22 Try.underlying5 Try.underlying9 (hb.below hbbb (Nat.le_refl _))
      clear HC2 hob ra hbb' hba
      go_wp2_with fail
      refine (readrecs_any Am cm w.heap.size more _ (hm.below hbbb (Nat.le_refl _)) hbbb.size (by omega) hcm).mono ?_
      rintro e wc ⟨vc, rfl, hoc, hbc⟩
      have hbbc := below_up hbbb hbc
      clear q1 q2 ri
      rcases hmr : readRecs more with _ | rs
      · have HM := Lib.hid hmr
        clear hmr
        rw [show errV (rrE more) = .iface 84 (.int .i64 9) from by rw [rrE_none HM.out]; rfl]
        go_wp2
        go_ret
        exact ⟨rfl, hbbc⟩
      · have HM := Lib.hid hmr
        obtain ⟨x1, x2, x3, x4⟩ := read_recs hmr
        have HQE := Lib.hid x1
        have HQB := Lib.hid x2
        have HQL := Lib.hid x3
        have HQ : Hid (∀ x ∈ rs, x.Ok) := Lib.hid fun x hx => recOk_ok (x4 x hx).1 (x4 x hx).2
        clear hmr x1 x2 x3 x4
        rw [show errV (rrE more) = .nilIface from by rw [rrE_some HM.out]; rfl]
        rw [HM.out, Option.getD_some] at hoc
        obtain ⟨Ac, cc, rfl, hnc, hcc, _, rc⟩ := own_form hoc
        go_wp2_with fail
        refine (records_any Ac cc wc.heap.size rs _ rc (Nat.le_refl _) HQ.out (by have := HQL.out; omega)).mono ?_
        rintro e wd ⟨vd, rfl, hod, hbd⟩
        have hbbd := below_up hbbc hbd
        rw [show errV (recsE rs) = .nilIface from by rw [HQE.out]; rfl]
        rw [HQB.out] at hod
        obtain ⟨Ad, cd, rfl, hnd, hcd, _, rd⟩ := own_form hod
        have q3 := run_string_rd (c := cd) Try.underlying22 Try.underlying5 Try.underlying9 rd
        have q4 := run_string_rd (c := cm) Try.underlying22 Try.underlying5 Try.underlying9 (hm.below hbbd (Nat.le_refl _))
        go_wp2
        go_ret
        exact ⟨rfl, hbbd⟩
    · have HF := Lib.hid hf
      clear hf
      go_wp2_with fail
      refine (helds_any Ah ch w.heap.size h _ (hh.below hbb4 (Nat.le_refl _)) hbb4.size hhok (by omega)).mono ?_
      rintro e w5 ⟨v5, rfl, ho5, hb5⟩
      have hbb5 := below_up hbb4 hb5
      obtain ⟨E', hE'⟩ : ∃ E : Int, errV (heldsE h) = .iface 84 (.int .i64 E) := ⟨_, by rw [errV, if_neg HF.out]⟩
      rw [hE']
      clear hE' ho5 hb5
      obtain ⟨w7, hw7⟩ : ∃ w7, w7 = w5 := ⟨_, rfl⟩
      subst hw7
      have hbb7 := hbb5
      clear hbb5
      go_wp2_with fail
      refine (seal_any Ab cb w.heap.size b _ (hb.below hbb7 (Nat.le_refl _)) hbb7.size (by omega)).mono ?_
      rintro e w8 ⟨v8, rfl, ho8, hb8⟩
      have hbb8 := below_up hbb7 hb8
      rw [HN.out] at ho8
      obtain ⟨A8, c8, rfl, hn8, hc8, _, r8⟩ := own_form ho8
      have hcut : Rd w8 w8.heap.size 1 A8 n (((sealB b).take n).map bv) := by
        have := r8.take (k := n) (by omega); simpa [List.map_take] using this
      have hlen : ((sealB b).take n).length = n := by rw [List.length_take, HN.out]; omega
      have C1 := open_any A8 c8 w8.heap.size ((sealB b).take n) w8 (by rw [hlen]; exact hcut) (Nat.le_refl _) (by omega) (by omega)
      rw [hlen] at C1
      have HC1 := Lib.hid C1
      clear C1 hlen hcut
      go_wp2_with fail
      refine HC1.out.mono ?_
      rintro e w9 ⟨v9, rfl, ho9, hb9⟩
      have hbb9 := below_up hbb8 hb9
      rw [show errV (opE ((sealB b).take n)) = .iface 84 (.int .i64 9) from by rw [(op_none (HCU.out)).2.2]; rfl]
      clear HC1 ho9
      have hox := own_up ho8 hb9
      have hox2 := own_base hox hbb7.size
      clear hox
      go_wp2_with (first | (with_reducible show wpList _ _ _ (⟨some 93, _, _, _, _, _⟩ :: _) _ _; go_must (refine wpList_rd (.tmp 91) (.tmp 92) el_u8 rfl rfl hox2 rfl (hm.below hbb9 (Nat.le_refl _)) rfl (bvs_one _) (by omega) hbb9.size ?_); intro va wa hoa hba hga haa))
      have hbba := hbb9.trans hba
      clear ho8 r8 hox2 hb8 hb9 hga haa
      rw [← List.map_append] at hoa
      obtain ⟨Aa, ca, rfl, hna, hca, _, ra⟩ := own_form hoa
      clear hoa
      have hlen : (sealB b ++ more).length = n + 1 + more.length := by rw [List.length_append, HN.out]
      have C2 := open_any Aa ca wa.heap.size (sealB b ++ more) wa (by rw [hlen]; exact ra) (Nat.le_refl _) (by omega) (by omega)
      rw [hlen] at C2
      have HC2 := Lib.hid C2
      clear C2 hlen
      go_wp2_with fail
      refine HC2.out.mono ?_
      rintro e wb ⟨vb', rfl, hob, hbb'⟩
      have hbbb := below_up hbba hbb'
      rw [(op_some HOP.out).2.2, (op_some HOP.out).2.1, errV_zero]
      rw [(op_some HOP.out).1] at hob
      obtain ⟨Ai, ci, rfl, hni, hci, _, ri⟩ := own_form hob
      have q1 := run_string_rd (c := ci) Try.underlying22 Try.underlying5 Try.underlying9 ri
      have q2 := run_string_rd (c := cb) Try.underlying22 Try.underlying5 Try.underlying9 (hb.below hbbb (Nat.le_refl _))
      clear HC2 hob ra hbb' hba
      go_wp2_with fail
      refine (readrecs_any Am cm w.heap.size more _ (hm.below hbbb (Nat.le_refl _)) hbbb.size (by omega) hcm).mono ?_
      rintro e wc ⟨vc, rfl, hoc, hbc⟩
      have hbbc := below_up hbbb hbc
      clear q1 q2 ri
      rcases hmr : readRecs more with _ | rs
      · have HM := Lib.hid hmr
        clear hmr
        rw [show errV (rrE more) = .iface 84 (.int .i64 9) from by rw [rrE_none HM.out]; rfl]
        go_wp2
        go_ret
        exact ⟨rfl, hbbc⟩
      · have HM := Lib.hid hmr
        obtain ⟨x1, x2, x3, x4⟩ := read_recs hmr
        have HQE := Lib.hid x1
        have HQB := Lib.hid x2
        have HQL := Lib.hid x3
        have HQ : Hid (∀ x ∈ rs, x.Ok) := Lib.hid fun x hx => recOk_ok (x4 x hx).1 (x4 x hx).2
        clear hmr x1 x2 x3 x4
        rw [show errV (rrE more) = .nilIface from by rw [rrE_some HM.out]; rfl]
        rw [HM.out, Option.getD_some] at hoc
        obtain ⟨Ac, cc, rfl, hnc, hcc, _, rc⟩ := own_form hoc
        go_wp2_with fail
        refine (records_any Ac cc wc.heap.size rs _ rc (Nat.le_refl _) HQ.out (by have := HQL.out; omega)).mono ?_
        rintro e wd ⟨vd, rfl, hod, hbd⟩
        have hbbd := below_up hbbc hbd
        rw [show errV (recsE rs) = .nilIface from by rw [HQE.out]; rfl]
        rw [HQB.out] at hod
        obtain ⟨Ad, cd, rfl, hnd, hcd, _, rd⟩ := own_form hod
        have q3 := run_string_rd (c := cd) Try.underlying22 Try.underlying5 Try.underlying9 rd
        have q4 := run_string_rd (c := cm) Try.underlying22 Try.underlying5 Try.underlying9 (hm.below hbbd (Nat.le_refl _))
        go_wp2
        go_ret
        exact ⟨rfl, hbbd⟩
end Go.Proofs.Ytcfijljagohmlaa
