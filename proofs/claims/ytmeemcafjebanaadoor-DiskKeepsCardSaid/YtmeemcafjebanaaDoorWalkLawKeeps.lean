/- The walk of the law DiskKeeps. -/
import Derived.Test.YtmeemcafjebanaaDoorPlainKeeps
import Derived.Test.YtmeemcafjebanaaDoorTexts
namespace Go.Proofs.YtmeemcafjebanaaDoor
open Go.RowKit Go.Maps Go.WideMaps

theorem names_row {w : World} {base n : Nat} {v : Value} {l : List Fl} {t : List ByteArray} (h : w.ownsRow base 9 1 v n ((namesL l).map encStr)) (hn : n = l.length) (ht : namesL l = t.map fun x => x.data.toList) {m : Nat} (hm : l.length = m) :
    ∃ A c, v = .slice A m c ∧ Rd w w.heap.size 1 A m (t.map sv) := by
  have e : (namesL l).map encStr = t.map sv := by
    rw [ht, List.map_map]
    refine List.map_congr_left fun x _ => ?_
    show Value.string ⟨x.data.toList.toArray⟩ = .string x
    rw [Array.toArray_toList]
  rw [e, hn, hm] at h
  obtain ⟨A, c, rfl, _, _, _, hr⟩ := own_form h
  exact ⟨A, c, rfl, hr⟩
theorem read_at {base g : Nat} {s : DS} {l : List Fl} (hl : s.now = l) {name : ByteArray} {x : List UInt8} (h0 : hasE l name = 0) (hx : readB l name = x) (w : World) (h : DiskAt w base g s) (hs : name.size ≤ 9223372036854775807) :
    Calls Tryd.prog 24 #[.pointer (some ⟨g, 0, none⟩), .string name] w fun r w' => ∃ A c, r = .returned (.tuple #[.slice A x.length c, .nilIface]) ∧ Rd w' w'.heap.size 1 A x.length (x.map bv) ∧ Below w.heap.size w w' := by
  refine (read_any base g s name w h hs).mono fun r w' hp => ?_
  rw [hl, h0, hx, errV_zero] at hp
  obtain ⟨v, rfl, ho, hb⟩ := hp
  obtain ⟨A, c, rfl, _, _, _, hr⟩ := own_form ho
  exact ⟨A, c, rfl, hr, hb⟩
set_option maxRecDepth 100000 in
set_option maxHeartbeats 4000000 in
theorem lawkeeps_any (A A' : Option Addr) (c c' B : Nat) (a b : List UInt8) (keep : Int) (w : World) (hra : Rd w B 1 A a.length (a.map bv)) (hrb : Rd w B 1 A' b.length (b.map bv)) (hB : B ≤ w.heap.size) (hla : a.length ≤ 140737488355328) (hlb : b.length ≤ 140737488355328) (hk0 : -9223372036854775808 ≤ keep) (hk1 : keep ≤ 9223372036854775807) :
    Calls Tryd.prog 4 #[.slice A a.length c, .slice A' b.length c', .int .i64 keep] w fun e w' => e = .returned (.bool true) ∧ Below w.heap.size w w' := by
  have hnew := dnew_any w
  have hszA : nA.size ≤ 9223372036854775807 := by decide +kernel
  have hszB : nB.size ≤ 9223372036854775807 := by decide +kernel
  have hszC : nC.size ≤ 9223372036854775807 := by decide +kernel
  go_enter Tryd.func4, Tryd.ntmps4
  go_upto_region 2 with (go_at_call 17; go_must (refine hnew.mono ?_); rintro e w1 ⟨g, rfl, hd1, hb1⟩)
  have hw1 := write_any w.heap.size g 0 B noDS nA A c a w1 hd1 hb1.size ⟨Nat.le_refl _, Nat.le_refl _⟩ (by omega) hszA (hra.below hb1 hB) (Nat.le_trans hB hb1.size) hla
  go_upto_region 3 with (go_at_call 18; go_must (refine hw1.mono ?_); rintro e w2 ⟨xa, hxn, hxb, rfl, hd2, hb2, _⟩)
  clear hw1 hd1 hnew
  have hb2 := hb1.trans hb2
  have hf2 := DS.Few.step (s := noDS) (n := 0) ⟨Nat.le_refl _, Nat.le_refl _⟩ (writeE nA a.length) (some (.put xa))
  obtain ⟨v1, hv1⟩ : ∃ v, v = errV (stepE noDS (writeE nA a.length)) := ⟨_, rfl⟩
  rw [← hv1]
  obtain ⟨s1, hs1⟩ : ∃ s, s = stepS noDS (writeE nA a.length) (some (.put xa)) := ⟨_, rfl⟩
  rw [← hs1] at hd2 hf2
  have HV1 := Lib.hid hv1
  have HS1 := Lib.hid hs1
  have HXA := Lib.hid (show xa.name = nA ∧ xa.b = a from ⟨hxn, hxb⟩)
  clear hv1 hs1 hxn hxb hb1
  have hsy := sync_any w.heap.size g 1 s1 w2 hd2 hb2.size hf2 (by omega)
  go_upto_region 4 with (go_at_call 19; go_must (refine hsy.mono ?_); rintro e w3 ⟨rfl, hd3, hb3, _⟩)
  clear hsy hd2
  have hb3 := hb2.trans hb3
  have hf3 := hf2.sync
  obtain ⟨v2, hv2⟩ : ∃ v, v = errV (stepE s1 0) := ⟨_, rfl⟩
  rw [← hv2]
  obtain ⟨s2, hs2⟩ : ∃ s, s = syncS s1 := ⟨_, rfl⟩
  rw [← hs2] at hd3 hf3
  have HV2 := Lib.hid hv2
  have HS2 := Lib.hid hs2
  clear hv2 hs2 hf2 hb2
  have hwb := write_any w.heap.size g 2 B s2 nB A' c' b w3 hd3 hb3.size hf3 (by omega) hszB (hrb.below hb3 hB) (Nat.le_trans hB hb3.size) hlb
  go_upto_region 5 with (go_at_call 18; go_must (refine hwb.mono ?_); rintro e w4 ⟨xb, hxn, hxb, rfl, hd4, hb4, _⟩)
  clear hwb hd3
  have hb4 := hb3.trans hb4
  have hf4 := hf3.step (writeE nB b.length) (some (.put xb))
  obtain ⟨v3, hv3⟩ : ∃ v, v = errV (stepE s2 (writeE nB b.length)) := ⟨_, rfl⟩
  rw [← hv3]
  obtain ⟨s3, hs3⟩ : ∃ s, s = stepS s2 (writeE nB b.length) (some (.put xb)) := ⟨_, rfl⟩
  rw [← hs3] at hd4 hf4
  have HV3 := Lib.hid hv3
  have HS3 := Lib.hid hs3
  have HXB := Lib.hid (show xb.name = nB ∧ xb.b = b from ⟨hxn, hxb⟩)
  clear hv3 hs3 hxn hxb hf3 hb3
  have hrn := rename_any w.heap.size g 3 s3 nA nC w4 hd4 hb4.size hf4 (by omega) hszA hszC
  go_upto_region 6 with (go_at_call 20; go_must (refine hrn.mono ?_); rintro e w5 ⟨rfl, hd5, hb5, _⟩)
  clear hrn hd4
  have hb5 := hb4.trans hb5
  have hf5 := hf4.step (renE s3.now nA nC) (some (.ren nA nC))
  obtain ⟨v4, hv4⟩ : ∃ v, v = errV (stepE s3 (renE s3.now nA nC)) := ⟨_, rfl⟩
  rw [← hv4]
  obtain ⟨s4, hs4⟩ : ∃ s, s = stepS s3 (renE s3.now nA nC) (some (.ren nA nC)) := ⟨_, rfl⟩
  rw [← hs4] at hd5 hf5
  have HV4 := Lib.hid hv4
  have HS4 := Lib.hid hs4
  clear hv4 hs4 hf4 hb4
  have hrm := remove_any w.heap.size g 4 s4 nB w5 hd5 hb5.size hf5 (by omega) hszB
  go_upto_region 7 with (go_at_call 21; go_must (refine hrm.mono ?_); rintro e w6 ⟨rfl, hd6, hb6, _⟩)
  clear hrm hd5
  have hb6 := hb5.trans hb6
  have hf6 := hf5.step (hasE s4.now nB) (some (.del nB))
  obtain ⟨v5, hv5⟩ : ∃ v, v = errV (stepE s4 (hasE s4.now nB)) := ⟨_, rfl⟩
  rw [← hv5]
  obtain ⟨s5, hs5⟩ : ∃ s, s = stepS s4 (hasE s4.now nB) (some (.del nB)) := ⟨_, rfl⟩
  rw [← hs5] at hd6 hf6
  have HV5 := Lib.hid hv5
  have HS5 := Lib.hid hs5
  clear hv5 hs5 hf5 hb5
  have hcr := crash_any w.heap.size g 5 s5 keep w6 hd6 hb6.size hf6 (by omega) hk1 hk0
  go_upto_region 8 with (go_at_call 22; go_must (refine hcr.mono ?_); rintro e w7 ⟨rfl, hd7, hb7, _⟩)
  clear hcr hd6
  have hb7 := hb6.trans hb7
  have hf7 := hf6.crash keep
  obtain ⟨s6, hs6⟩ : ∃ s, s = crashS s5 keep := ⟨_, rfl⟩
  rw [← hs6] at hd7 hf7
  have HS6 := Lib.hid hs6
  clear hs6 hf6 hb6
  have hnm := names_any w.heap.size g 5 s6 w7 hd7 hf7 (by omega)
  go_upto_region 9 with (go_at_call 23; go_must (refine hnm.mono ?_); rintro e w8 ⟨vn, rfl, hown8, hb8⟩)
  clear hnm
  have hd8 := DiskIn.up hd7 hb8
  have hb8 := hb7.trans (hb8.mono hb7.size)
  clear hd7 hb7
  by_cases hga : a.length ≤ 60000
  · by_cases hgb : b.length ≤ 60000
    · obtain ⟨⟨ga, gb, ca, cb, hs5⟩, rfl, rfl, rfl, rfl, rfl⟩ := keeps_good hga hgb HXA.out HXB.out HS1.out HS2.out HS3.out HS4.out HS5.out HV1.out HV2.out HV3.out HV4.out HV5.out
      have HK5 := Lib.hid hs5
      clear hs5 HXA HXB HS1 HS2 HS3 HS4 HS5 HV1 HV2 HV3 HV4 HV5
      have hga : ¬ (60000 : Int) < (a.length : Int) := by omega
      have hgb : ¬ (60000 : Int) < (b.length : Int) := by omega
      have hraw := hra.below hb8 hB
      have hB8 := Nat.le_trans hB hb8.size
      have hws := hb8.size
      go_upto_region 13 with fail
      rcases (show keep ≤ 0 ∨ keep = 1 ∨ keep = 2 ∨ 2 < keep by omega) with hk | rfl | rfl | hk
      · have hs6 : s6 = ⟨[kA a ga ca], [], 0, -1⟩ := by rw [HS6.out, HK5.out]; exact k6_0 a b ga gb ca cb hk
        clear HS6 HK5
        subst hs6
        obtain ⟨An, cn, rfl, hrn⟩ := names_row (m := 1) hown8 rfl (n6_0 a ga ca) rfl
        have q1 : ¬ keep = 1 := by omega
        have q2 : ¬ keep = 2 := by omega
        have q3 : ¬ 2 < keep := by omega
        have q4 : ¬ 1 < keep := by omega
        go_upto_region 23 with fail
        have hb9 := (Below.refl w8.heap.size w8).alloc (Nat.le_refl _) (.cells #[.string ⟨#[97]⟩] 9)
        have hwant := (rd_new (m := 1) (size := 1) w8 #[.string ⟨#[97]⟩] 9 rfl).more (B' := (w8.alloc (.cells #[.string ⟨#[97]⟩] 9)).heap.size) (by simp)
        generalize (w8.alloc (.cells #[.string ⟨#[97]⟩] 9)) = W9 at *
        have hE := h6_0 a ga ca
        have hR := r6_0 a ga ca
        have hd9 := DiskIn.up hd8 hb9
        have hws9 := hb9.size
        have HTX := Lib.hid (fun (W : World) (hb : Below W9.heap.size W9 W) => (show Calls Tryd.prog 25 #[.slice An 1 cn, .slice (some ⟨w8.heap.size, 0, none⟩) 1 1] W fun e w' => e = .returned (.bool true) ∧ Below W.heap.size W w' from
          texts_same An (some ⟨w8.heap.size, 0, none⟩) cn 1 W.heap.size [nA] W (((hrn.below hb9 (Nat.le_refl _)).below hb hws9).more (Nat.le_trans hws9 hb.size)) ((hwant.below hb (Nat.le_refl _)).more hb.size) (Nat.le_refl _) (by simp)))
        have hrd := (fun hl => read_at hl hE hR W9 hd9 hszA) rfl
        clear hwant hrn hd8 hown8 hE hR
        go_upto_region 25 with (first
          | (go_at_call 24; go_must (refine hrd.mono ?_); rintro e w10 ⟨Ar, cr, rfl, hr10, hb10⟩)
          | (go_at_call 25; go_must (refine (HTX.out w10 hb10).mono ?_); rintro e w11 ⟨rfl, hb11⟩))
        have hr11 := hr10.below hb11 (Nat.le_refl _)
        have hra11 := ((hraw.below hb9 hB8).below hb10 (Nat.le_trans hB8 hws9)).below hb11 (Nat.le_trans hB8 (Nat.le_trans hws9 hb10.size))
        have q11 := run_string_rd (P := Tryd.prog) (c := cr) Tryd.underlying52 Tryd.underlying5 Tryd.underlying9 hr11
        have q12 := run_string_rd (P := Tryd.prog) (c := c) Tryd.underlying52 Tryd.underlying5 Tryd.underlying9 hra11
        go_wp2_with fail
        go_ret
        exact ⟨by simp, ((hb8.trans (hb9.mono hws)).trans (hb10.mono (Nat.le_trans hws hws9))).trans (hb11.mono (Nat.le_trans hws (Nat.le_trans hws9 hb10.size)))⟩
      · have hs6 : s6 = ⟨[kB b gb cb, kA a ga ca], [], 0, -1⟩ := by rw [HS6.out, HK5.out]; exact k6_1 a b ga gb ca cb
        clear HS6 HK5
        subst hs6
        obtain ⟨An, cn, rfl, hrn⟩ := names_row (m := 2) hown8 rfl (n6_1 a b ga gb ca cb) rfl
        go_upto_region 23 with fail
        have hb9 : Below w8.heap.size w8 ((w8.alloc (.cells #[.string ⟨#[97]⟩] 9)).alloc (.cells #[.string ⟨#[97]⟩, .string ⟨#[98]⟩] 9)) := ((Below.refl w8.heap.size w8).alloc (Nat.le_refl _) (.cells #[.string ⟨#[97]⟩] 9)).alloc (by simp) _
        have hwant := (rd_new (m := 2) (size := 1) (w8.alloc (.cells #[.string ⟨#[97]⟩] 9)) #[.string ⟨#[97]⟩, .string ⟨#[98]⟩] 9 rfl).more (B' := ((w8.alloc (.cells #[.string ⟨#[97]⟩] 9)).alloc (.cells #[.string ⟨#[97]⟩, .string ⟨#[98]⟩] 9)).heap.size) (by simp)
        rw [show (w8.alloc (.cells #[.string ⟨#[97]⟩] 9)).heap.size = w8.heap.size + 1 from by simp] at hwant
        generalize ((w8.alloc (.cells #[.string ⟨#[97]⟩] 9)).alloc (.cells #[.string ⟨#[97]⟩, .string ⟨#[98]⟩] 9)) = W9 at *
        obtain ⟨GG, hGG⟩ : ∃ GG, GG = w8.heap.size + 1 := ⟨_, rfl⟩
        rw [← hGG] at hwant ⊢
        clear hGG
        have hE := h6_1 a b ga gb ca cb
        have hR := r6_1 a b ga gb ca cb
        have hd9 := DiskIn.up hd8 hb9
        have hws9 := hb9.size
        have HTX := Lib.hid (fun (W : World) (hb : Below W9.heap.size W9 W) => (show Calls Tryd.prog 25 #[.slice An 2 cn, .slice (some ⟨GG, 0, none⟩) 2 2] W fun e w' => e = .returned (.bool true) ∧ Below W.heap.size W w' from
          texts_same An (some ⟨GG, 0, none⟩) cn 2 W.heap.size [nA,nB] W (((hrn.below hb9 (Nat.le_refl _)).below hb hws9).more (Nat.le_trans hws9 hb.size)) ((hwant.below hb (Nat.le_refl _)).more hb.size) (Nat.le_refl _) (by simp)))
        have hrd := (fun hl => read_at hl hE hR W9 hd9 hszA) rfl
        clear hwant hrn hd8 hown8 hE hR
        go_upto_region 25 with (first
          | (go_at_call 24; go_must (refine hrd.mono ?_); rintro e w10 ⟨Ar, cr, rfl, hr10, hb10⟩)
          | (go_at_call 25; go_must (refine (HTX.out w10 hb10).mono ?_); rintro e w11 ⟨rfl, hb11⟩))
        have hr11 := hr10.below hb11 (Nat.le_refl _)
        have hra11 := ((hraw.below hb9 hB8).below hb10 (Nat.le_trans hB8 hws9)).below hb11 (Nat.le_trans hB8 (Nat.le_trans hws9 hb10.size))
        have q11 := run_string_rd (P := Tryd.prog) (c := cr) Tryd.underlying52 Tryd.underlying5 Tryd.underlying9 hr11
        have q12 := run_string_rd (P := Tryd.prog) (c := c) Tryd.underlying52 Tryd.underlying5 Tryd.underlying9 hra11
        go_wp2_with fail
        go_ret
        exact ⟨by simp, ((hb8.trans (hb9.mono hws)).trans (hb10.mono (Nat.le_trans hws hws9))).trans (hb11.mono (Nat.le_trans hws (Nat.le_trans hws9 hb10.size)))⟩
      · have hs6 : s6 = ⟨[kC a ga ca, kB b gb cb], [], 0, -1⟩ := by rw [HS6.out, HK5.out]; exact k6_2 a b ga gb ca cb
        clear HS6 HK5
        subst hs6
        obtain ⟨An, cn, rfl, hrn⟩ := names_row (m := 2) hown8 rfl (n6_2 a b ga gb ca cb) rfl
        go_upto_region 23 with fail
        have hb9 : Below w8.heap.size w8 ((w8.alloc (.cells #[.string ⟨#[97]⟩] 9)).alloc (.cells #[.string ⟨#[98]⟩, .string ⟨#[99]⟩] 9)) := ((Below.refl w8.heap.size w8).alloc (Nat.le_refl _) (.cells #[.string ⟨#[97]⟩] 9)).alloc (by simp) _
        have hwant := (rd_new (m := 2) (size := 1) (w8.alloc (.cells #[.string ⟨#[97]⟩] 9)) #[.string ⟨#[98]⟩, .string ⟨#[99]⟩] 9 rfl).more (B' := ((w8.alloc (.cells #[.string ⟨#[97]⟩] 9)).alloc (.cells #[.string ⟨#[98]⟩, .string ⟨#[99]⟩] 9)).heap.size) (by simp)
        rw [show (w8.alloc (.cells #[.string ⟨#[97]⟩] 9)).heap.size = w8.heap.size + 1 from by simp] at hwant
        generalize ((w8.alloc (.cells #[.string ⟨#[97]⟩] 9)).alloc (.cells #[.string ⟨#[98]⟩, .string ⟨#[99]⟩] 9)) = W9 at *
        obtain ⟨GG, hGG⟩ : ∃ GG, GG = w8.heap.size + 1 := ⟨_, rfl⟩
        rw [← hGG] at hwant ⊢
        clear hGG
        have hE := h6_2 a b ga gb ca cb
        have hR := r6_2 a b ga gb ca cb
        have hd9 := DiskIn.up hd8 hb9
        have hws9 := hb9.size
        have HTX := Lib.hid (fun (W : World) (hb : Below W9.heap.size W9 W) => (show Calls Tryd.prog 25 #[.slice An 2 cn, .slice (some ⟨GG, 0, none⟩) 2 2] W fun e w' => e = .returned (.bool true) ∧ Below W.heap.size W w' from
          texts_same An (some ⟨GG, 0, none⟩) cn 2 W.heap.size [nB,nC] W (((hrn.below hb9 (Nat.le_refl _)).below hb hws9).more (Nat.le_trans hws9 hb.size)) ((hwant.below hb (Nat.le_refl _)).more hb.size) (Nat.le_refl _) (by simp)))
        have hrd := (fun hl => read_at hl hE hR W9 hd9 hszC) rfl
        clear hwant hrn hd8 hown8 hE hR
        go_upto_region 25 with (first
          | (go_at_call 24; go_must (refine hrd.mono ?_); rintro e w10 ⟨Ar, cr, rfl, hr10, hb10⟩)
          | (go_at_call 25; go_must (refine (HTX.out w10 hb10).mono ?_); rintro e w11 ⟨rfl, hb11⟩))
        have hr11 := hr10.below hb11 (Nat.le_refl _)
        have hra11 := ((hraw.below hb9 hB8).below hb10 (Nat.le_trans hB8 hws9)).below hb11 (Nat.le_trans hB8 (Nat.le_trans hws9 hb10.size))
        have q11 := run_string_rd (P := Tryd.prog) (c := cr) Tryd.underlying52 Tryd.underlying5 Tryd.underlying9 hr11
        have q12 := run_string_rd (P := Tryd.prog) (c := c) Tryd.underlying52 Tryd.underlying5 Tryd.underlying9 hra11
        go_wp2_with fail
        go_ret
        exact ⟨by simp, ((hb8.trans (hb9.mono hws)).trans (hb10.mono (Nat.le_trans hws hws9))).trans (hb11.mono (Nat.le_trans hws (Nat.le_trans hws9 hb10.size)))⟩
      · have hs6 : s6 = ⟨[kC a ga ca], [], 0, -1⟩ := by rw [HS6.out, HK5.out]; exact k6_3 a b ga gb ca cb hk
        clear HS6 HK5
        subst hs6
        obtain ⟨An, cn, rfl, hrn⟩ := names_row (m := 1) hown8 rfl (n6_3 a ga ca) rfl
        have q1 : ¬ keep = 1 := by omega
        have q2 : ¬ keep = 2 := by omega
        have q4 : 1 < keep := by omega
        go_upto_region 23 with fail
        have hb9 : Below w8.heap.size w8 ((w8.alloc (.cells #[.string ⟨#[97]⟩] 9)).alloc (.cells #[.string ⟨#[99]⟩] 9)) := ((Below.refl w8.heap.size w8).alloc (Nat.le_refl _) (.cells #[.string ⟨#[97]⟩] 9)).alloc (by simp) _
        have hwant := (rd_new (m := 1) (size := 1) (w8.alloc (.cells #[.string ⟨#[97]⟩] 9)) #[.string ⟨#[99]⟩] 9 rfl).more (B' := ((w8.alloc (.cells #[.string ⟨#[97]⟩] 9)).alloc (.cells #[.string ⟨#[99]⟩] 9)).heap.size) (by simp)
        rw [show (w8.alloc (.cells #[.string ⟨#[97]⟩] 9)).heap.size = w8.heap.size + 1 from by simp] at hwant
        generalize ((w8.alloc (.cells #[.string ⟨#[97]⟩] 9)).alloc (.cells #[.string ⟨#[99]⟩] 9)) = W9 at *
        obtain ⟨GG, hGG⟩ : ∃ GG, GG = w8.heap.size + 1 := ⟨_, rfl⟩
        rw [← hGG] at hwant ⊢
        clear hGG
        have hE := h6_3 a ga ca
        have hR := r6_3 a ga ca
        have hd9 := DiskIn.up hd8 hb9
        have hws9 := hb9.size
        have HTX := Lib.hid (fun (W : World) (hb : Below W9.heap.size W9 W) => (show Calls Tryd.prog 25 #[.slice An 1 cn, .slice (some ⟨GG, 0, none⟩) 1 1] W fun e w' => e = .returned (.bool true) ∧ Below W.heap.size W w' from
          texts_same An (some ⟨GG, 0, none⟩) cn 1 W.heap.size [nC] W (((hrn.below hb9 (Nat.le_refl _)).below hb hws9).more (Nat.le_trans hws9 hb.size)) ((hwant.below hb (Nat.le_refl _)).more hb.size) (Nat.le_refl _) (by simp)))
        have hrd := (fun hl => read_at hl hE hR W9 hd9 hszC) rfl
        clear hwant hrn hd8 hown8 hE hR
        go_upto_region 25 with (first
          | (go_at_call 24; go_must (refine hrd.mono ?_); rintro e w10 ⟨Ar, cr, rfl, hr10, hb10⟩)
          | (go_at_call 25; go_must (refine (HTX.out w10 hb10).mono ?_); rintro e w11 ⟨rfl, hb11⟩))
        have hr11 := hr10.below hb11 (Nat.le_refl _)
        have hra11 := ((hraw.below hb9 hB8).below hb10 (Nat.le_trans hB8 hws9)).below hb11 (Nat.le_trans hB8 (Nat.le_trans hws9 hb10.size))
        have q11 := run_string_rd (P := Tryd.prog) (c := cr) Tryd.underlying52 Tryd.underlying5 Tryd.underlying9 hr11
        have q12 := run_string_rd (P := Tryd.prog) (c := c) Tryd.underlying52 Tryd.underlying5 Tryd.underlying9 hra11
        go_wp2_with fail
        go_ret
        exact ⟨by simp, ((hb8.trans (hb9.mono hws)).trans (hb10.mono (Nat.le_trans hws hws9))).trans (hb11.mono (Nat.le_trans hws (Nat.le_trans hws9 hb10.size)))⟩
    · have hga : ¬ (60000 : Int) < (a.length : Int) := by omega
      have hgb : (60000 : Int) < (b.length : Int) := by omega
      go_wp2_with fail
      go_ret
      exact ⟨rfl, hb8⟩
  · have hga : (60000 : Int) < (a.length : Int) := by omega
    go_wp2_with fail
    go_ret
    exact ⟨rfl, hb8⟩
end Go.Proofs.YtmeemcafjebanaaDoor
