/- The walk of weirlaw2.DiskPlays. -/
import Derived.Test.YtmeemcafjebanaaGreatDoorDiskLaw1
import Derived.Deep.CutBlock
import Derived.Deep.CutRange
import Derived.Deep.RegionHeld3
namespace Go.Proofs.YtmeemcafjebanaaGreatDoor
open Go.RowKit Go.Maps Go.WideMaps

set_option maxRecDepth 100000 in
set_option maxHeartbeats 16000000 in
theorem lawdplays_any (A A' : Option Addr) (c c' n : Nat) (ls : List (List Int)) (bs : List UInt8) (w : World) (hg : HasErr w) (hr : RdII w w.heap.size A ls) (hln : ls.length = n) (hbd : ∀ l ∈ ls, ∀ z ∈ l, -9223372036854775808 ≤ z ∧ z ≤ 9223372036854775807)
    (hrb : Rd w w.heap.size 1 A' bs.length (bs.map bv)) (hlb : bs.length ≤ 140737488351232) :
    Calls Tryz.prog 4 #[.slice A n c, .slice A' bs.length c'] w fun e w' => e = .returned (.bool true) ∧ Below w.heap.size w w' := by
  have HLN := Lib.hid hln
  have HBD := Lib.hid hbd
  have HSE := Lib.hid (fun (k : Nat) (W : World) (h : Below w.heap.size w W) => same_errD k W (hg.up h))
  clear hln hbd hg
  have hnw := dnew_any w
  go_enter Tryz.func4, Tryz.ntmps4
  go_upto_region 2 with (go_at_call 15; go_must (refine hnw.mono ?_); rintro e w1 ⟨g, rfl, hd1, hb1⟩)
  clear hnw
  have hR := Blk.new w1 48 #[.slice none 0 0, .slice none 0 0, .slice none 0 0, .int .i64 0, .int .i64 (-1)]
  have hbR := (Below.refl w1.heap.size w1).alloc (Nat.le_refl _) (.cells #[.slice none 0 0, .slice none 0 0, .slice none 0 0, .int .i64 0, .int .i64 (-1)] 48)
  obtain ⟨R, hRR⟩ : ∃ R, R = w1.heap.size := ⟨_, rfl⟩
  go_upto_block 0 with fail
  rw [← hRR] at hR ⊢
  have hk3 : KAt (w1.alloc (.cells #[.slice none 0 0, .slice none 0 0, .slice none 0 0, .int .i64 0, .int .i64 (-1)] 48)) w.heap.size R noKS :=
    ⟨by rw [hRR]; exact hb1.size, ⟨_, _, _, hR, ⟨World.ownsRow_nil _ _ _ _, fun x hx => by simp [noKS] at hx⟩, ⟨World.ownsRow_nil _ _ _ _, fun x hx => by simp [noKS] at hx⟩, World.ownsRow_nil _ _ _ _⟩, fun x hx => by simp [noKS] at hx⟩
  have hd3 : DiskAt (w1.alloc (.cells #[.slice none 0 0, .slice none 0 0, .slice none 0 0, .int .i64 0, .int .i64 (-1)] 48)) w.heap.size g noDS := DiskIn.up hd1 hbR
  have hbel3 := hb1.trans (hbR.mono hb1.size)
  clear hR hbR hRR hd1 hb1
  generalize (w1.alloc (.cells #[.slice none 0 0, .slice none 0 0, .slice none 0 0, .int .i64 0, .int .i64 (-1)] 48)) = w3 at *
  go_wp2_with fail
  go_loopw [7] (fun x wr => ∃ (i : Nat) (s : DS) (k : KS), i ≤ n ∧ i ≤ 80 ∧ x = .int .i64 i ∧ DiskAt wr w.heap.size g s ∧ KAt wr w.heap.size R k ∧ Sim s k ∧ s.Few i ∧ Below w.heap.size w wr) (fun x _ => n - (intOf x).toNat)
  case atStart => exact ⟨0, noDS, noKS, Nat.zero_le _, Nat.zero_le _, rfl, hd3, hk3, Sim.start, ⟨Nat.le_refl _, Nat.le_refl _⟩, hbel3⟩
  clear hk3 hd3 hbel3
  obtain ⟨i, s, k, hi, hi80, rfl, hds, hks, hsim, hfew, hbel⟩ := hrel
  have hws := hbel.size
  have HSIM := Lib.hid hsim
  have HFEW := Lib.hid hfew
  clear hsim hfew
  by_cases hlt : i < n ∧ i < 80
  · obtain ⟨hlt, hlt8⟩ := hlt
    obtain ⟨ad, A2, c2, rfl, cl, hlc, hcm, hrl⟩ := hr.at_ (Below.refl _ _) (i := i) (by have := HLN.out; omega)
    have hbl := HBD.out (ls.getD i []) (by
      have hx : ls[i]? = some (ls.getD i []) := by rw [List.getD_eq_getElem?_getD, List.getElem?_eq_getElem (by have := HLN.out; omega)]; rfl
      exact List.mem_of_getElem? hx)
    have hadb : (ad.add i).block < w.heap.size := by
      obtain ⟨ad2, e2, hlt2, _⟩ := hr (by have := HLN.out; omega)
      injection e2 with e2; subst e2
      rw [block_add]; exact hlt2
    obtain ⟨l, hl9⟩ : ∃ l, l = ls.getD i [] := ⟨_, rfl⟩
    rw [← hl9] at cl hlc hrl hbl
    clear hl9
    obtain ⟨q, hq⟩ : ∃ q, q = l.length := ⟨_, rfl⟩
    rw [← hq] at cl hlc hrl
    have Hq := Lib.hid hq
    clear hq
    have CL := Lib.hid (fun (W : World) (h : Below w.heap.size w W) => (h.cell hadb).trans cl)
    have HG0 := Lib.hid (getD_in4 hbl)
    have hV := Blk.new wr 49 (cells4_ l 0)
    have hba := (Below.refl wr.heap.size wr).alloc (Nat.le_refl _) (.cells (cells4_ l 0) 49)
    have hds2 := DiskIn.up hds hba
    have hks2 := hks.up hba
    have hbel2 := hbel.trans (hba.mono hws)
    obtain ⟨vb, hvb⟩ : ∃ vb, vb = wr.heap.size := ⟨_, rfl⟩
    have hvw : w.heap.size ≤ vb := by omega
    rw [← hvb] at hV
    rw [cells4_zero] at hds2 hks2 hbel2
    have hV2 : Blk (wr.alloc (.cells #[.int .i64 0, .int .i64 0, .int .i64 0, .int .i64 0] 49)) vb 49 (cells4_ l 0) := hV
    have hi0 : (0 : Int) ≤ (i : Int) := by omega
    have hi1 : (i : Int) < (n : Int) := by omega
    have hi2 : (i : Int) < 80 := by omega
    clear hV hds hks hbl cl hba hbel
    go_upto_block 2 with fail
    rw [← hvb]
    clear hvb
    generalize wr.alloc (.cells #[.int .i64 0, .int .i64 0, .int .i64 0, .int .i64 0] 49) = wv at *
    have hds2 : DiskAt wv w.heap.size g s := hds2
    go_cut [] from 34 to 55 (fun wx => Blk wx vb 49 #[.int .i64 (l.getD 0 0), .int .i64 (l.getD 1 0), .int .i64 (l.getD 2 0), .int .i64 (l.getD 3 0)] ∧ DiskAt wx w.heap.size g s ∧ KAt wx w.heap.size R k ∧ Below w.heap.size w wx)
    case first =>
      go_wp2_with fail
      go_loopw [9] (fun v wr => ∃ j : Nat, j ≤ 4 ∧ j ≤ q ∧ v = .int .i64 j ∧ Blk wr vb 49 (cells4_ l j) ∧ DiskAt wr w.heap.size g s ∧ KAt wr w.heap.size R k ∧ Below w.heap.size w wr) (fun v _ => 4 - (intOf v).toNat)
      case atStart => exact ⟨0, by omega, by omega, rfl, hV2, hds2, hks2, hbel2⟩
      clear hV2 hds2 hks2 hbel2
      obtain ⟨j, hj3, hjq, rfl, hV, hds, hks, hbel⟩ := hrel
      have cl := CL.out _ hbel
      have HDS := Lib.hid hds
      have HKS := Lib.hid hks
      clear hds hks
      by_cases hjl : j < q
      · by_cases hj : j < 4
        · obtain ⟨ad2, rfl, _, cj⟩ := (hrl.below hbel (Nat.le_refl _)).intc4 hjl
          obtain ⟨cu, hcu⟩ : ∃ u, wr.cell? ⟨vb, j, none⟩ = some u := ⟨_, (hV.cell j).trans (Array.getElem?_eq_getElem (by simp [cells4_]; omega))⟩
          have fv := hV.frozen j
          have hst := hV.set_ j (.int .i64 (l.getD j 0))
          rw [cells4_step l hj] at hst
          obtain ⟨z, hz⟩ : ∃ z, z = l.getD j 0 := ⟨_, rfl⟩
          rw [← hz] at cj hst
          have HV3 := Lib.hid (keepT_set hV j (.int .i64 z))
          have hj0 : (0 : Int) ≤ (j : Int) := by omega
          have hj1 : (j : Int) < (q : Int) := by omega
          have hj2 : (j : Int) < 4 := by omega
          clear hz
          go_wp2_with fail
          go_roundw
          case rel =>
            exact ⟨j + 1, by omega, by omega, by go_num, hst, DiskAt.keepV HDS.out HV3.out, HKS.out.keep HV3.out (fun _ => rfl) (fun _ => rfl) (fun _ => rfl) (fun _ => rfl), hbel.setCell hvw _⟩
          case measure => simp [intOf]; omega
        · have hV3 := hV
          rw [cells4_end l (.inl (by omega))] at hV3
          have hj1 : (j : Int) < (q : Int) := by omega
          have hj2 : ¬ (j : Int) < 4 := by omega
          have HV3 := Lib.hid hV3
          clear hV hV3
          go_wp2_with fail
          go_meet
          exact ⟨HV3.out, HDS.out, HKS.out, hbel⟩
      · have hV3 := hV
        rw [cells4_end l (.inr (by have := Hq.out; omega))] at hV3
        have hj1 : ¬ (j : Int) < (q : Int) := by omega
        have HV3 := Lib.hid hV3
        clear hV hV3
        go_wp2_with fail
        go_meet
        exact ⟨HV3.out, HDS.out, HKS.out, hbel⟩
    case rest =>
      obtain ⟨hV, hds, hks, hbel⟩ := hcut
      have x0 := hV.cell 0
      have x1 := hV.cell 1
      have x2 := hV.cell 2
      have x3 := hV.cell 3
      simp only [List.getElem?_toArray, List.getElem?_cons_zero, List.getElem?_cons_succ] at x0 x1 x2 x3
      have hd := HG0.out 3
      obtain ⟨a, ha⟩ : ∃ a, a = l.getD 0 0 := ⟨_, rfl⟩
      obtain ⟨b, hb⟩ : ∃ b, b = l.getD 1 0 := ⟨_, rfl⟩
      obtain ⟨d, hd1⟩ : ∃ d, d = l.getD 2 0 := ⟨_, rfl⟩
      obtain ⟨f, hf⟩ : ∃ f, f = l.getD 3 0 := ⟨_, rfl⟩
      rw [← ha] at x0
      rw [← hb] at x1
      rw [← hd1] at x2
      rw [← hf] at x3 hd
      rw [← ha, ← hb, ← hd1, ← hf] at hV
      have hlv := hV.lt
      clear ha hb hd1 hf HG0 CL hrl hlc hcm hadb Hq hV2 hds2 hks2 hbel2
      go_upto_region 11 with fail
      obtain ⟨wo, rfl⟩ : ∃ wo, wo = wc := ⟨_, rfl⟩
      obtain ⟨pb, hpb⟩ : ∃ pb, pb = wo.heap.size := ⟨_, rfl⟩
      have hpw : w.heap.size ≤ pb := by rw [hpb]; exact hbel.size
      go_cut [10] from 56 to 66 (fun p wx => p = .pointer (some ⟨pb, 0, none⟩) ∧ Blk wx pb 52 #[.int .i64 a, .string (fileB b), .string (fileB d), .slice none 0 0, .int .i64 f] ∧ Blk wx vb 49 #[.int .i64 a, .int .i64 b, .int .i64 d, .int .i64 f] ∧ Below wo.heap.size wo wx)
      case first =>
        subst hpb
        have hS := fun W (h : Below wo.heap.size wo W) => (show W.cell? ⟨vb, 0, none⟩ = some (.int .i64 a) ∧ W.cell? ⟨vb, 1, none⟩ = some (.int .i64 b) ∧ W.cell? ⟨vb, 2, none⟩ = some (.int .i64 d) ∧ W.cell? ⟨vb, 3, none⟩ = some (.int .i64 f) from ⟨(h.cell hlv).trans x0, (h.cell hlv).trans x1, (h.cell hlv).trans x2, (h.cell hlv).trans x3⟩)
        have hS5 := fun W (h : Below wo.heap.size wo W) (u0 u1 u2 u3 u4 : Value) => hS _ (((((h.setCell (p := ⟨wo.heap.size, 0, none⟩) (Nat.le_refl _) u0).setCell (p := ⟨wo.heap.size, 1, none⟩) (Nat.le_refl _) u1).setCell (p := ⟨wo.heap.size, 2, none⟩) (Nat.le_refl _) u2).setCell (p := ⟨wo.heap.size, 3, none⟩) (Nat.le_refl _) u3).setCell (p := ⟨wo.heap.size, 4, none⟩) (Nat.le_refl _) u4)
        have hbd : Below wo.heap.size wo wo.drew := (Below.refl wo.heap.size wo).drew
        have hba := fun o => hbd.alloc (Nat.le_refl _) o
        have hf := file_any
        have hzz : Blk (wo.drew.alloc (.cells #[.int .i64 0, .string ⟨#[]⟩, .string ⟨#[]⟩, .slice none 0 0, .int .i64 0] 52)) wo.heap.size 52 #[.int .i64 0, .string ⟨#[]⟩, .string ⟨#[]⟩, .slice none 0 0, .int .i64 0] := Blk.new wo.drew _ _
        have HZ := Lib.hid hzz
        obtain ⟨z0, z1, z2, z3, z4⟩ := blkW hzz
        have zf0 := hzz.frozen 0
        have zf1 := hzz.frozen 1
        have zf2 := hzz.frozen 2
        have zf3 := hzz.frozen 3
        have zf4 := hzz.frozen 4
        clear hzz
        go_wp2_with fail
        go_region_held3 (fun w' => w'.cell? ⟨vb, 0, none⟩ = some (.int .i64 a) ∧ w'.cell? ⟨vb, 1, none⟩ = some (.int .i64 b) ∧ w'.cell? ⟨vb, 2, none⟩ = some (.int .i64 d) ∧ w'.cell? ⟨vb, 3, none⟩ = some (.int .i64 f)) (first | exact hS _ hbd | exact hS _ (hba _) | exact hS5 _ (hba _) _ _ _ _ _) ((first
          | (go_at_call 16; go_must (refine (hf _ _).mono ?_; rintro e w2 ⟨rfl, rfl⟩))))
        all_goals go_wp2_with fail
        all_goals go_meet
        all_goals
          have hfin := fun (W : World) (h1 : Below wo.heap.size wo W) (h2 : Blk W wo.heap.size 52 #[.int .i64 a, .string (fileB b), .string (fileB d), .slice none 0 0, .int .i64 f]) =>
            (show Blk W wo.heap.size 52 #[.int .i64 a, .string (fileB b), .string (fileB d), .slice none 0 0, .int .i64 f] ∧ Blk W vb 49 #[.int .i64 a, .int .i64 b, .int .i64 d, .int .i64 f] ∧ Below wo.heap.size wo W from ⟨h2, hV.up h1, h1⟩)
        all_goals (first
          | exact ⟨rfl, hfin _ (hbd.alloc (Nat.le_refl _) _) (Blk.new _ _ _)⟩
          | exact ⟨rfl, hfin _ (((((((hba _).setCell (p := ⟨wo.heap.size, 0, none⟩) (Nat.le_refl _) _).setCell (p := ⟨wo.heap.size, 1, none⟩) (Nat.le_refl _) _).setCell (p := ⟨wo.heap.size, 2, none⟩) (Nat.le_refl _) _).setCell (p := ⟨wo.heap.size, 3, none⟩) (Nat.le_refl _) _).setCell (p := ⟨wo.heap.size, 4, none⟩) (Nat.le_refl _) _)) (by simpa using ((((HZ.out.set_ 0 (.int .i64 a)).set_ 1 (.string (fileB b))).set_ 2 (.string (fileB d))).set_ 3 (.slice none 0 0)).set_ 4 (.int .i64 f))⟩)
      case rest =>
        clear x0 x1 x2 x3 hlv hV
        obtain ⟨rfl, hB, hV, hbo⟩ := hcut
        have HPB := Lib.hid hpb
        have HDO := Lib.hid hds
        have HKO := Lib.hid hks
        have hbelO := hbel
        have hds : DiskAt wc w.heap.size g s := DiskIn.up HDO.out hbo
        have hks := HKO.out.up hbo
        have hbel := hbelO.trans (hbo.mono hbelO.size)
        have hpl : wo.heap.size ≤ pb := by omega
        clear hpb
        have x0 := hV.cell 0
        simp only [List.getElem?_toArray, List.getElem?_cons_zero] at x0
        clear hV
        by_cases hkind : a = 1 ∨ a = 2 ∨ a = 3 ∨ a = 4 ∨ a = 5 ∨ a = 6
        · go_upto_block 4 with fail
          clear x0
          have hbs := hbel.size
          go_cut [11] from 69 to 118 (fun e wx => ∃ (x : RW) (s2 : DS) (E : Nat), e = errV E ∧ Blk wx pb 52 #[.int .i64 x.kind, .string x.name, .string x.to, .slice x.A x.b.length x.c, .int .i64 x.n] ∧ BOk wx w.heap.size x.b x.A x.c ∧ DiskAt wx w.heap.size g s2 ∧ KAt wx w.heap.size R k ∧ s2.Few (i + 1) ∧ Below w.heap.size w wx ∧ Hid (DoGood w.heap.size R k s2 E x))
          case first =>
            obtain ⟨q0, q1, q2, q3, q4⟩ := blkW hB
            have hfb := fileB_size b
            have hfd := fileB_size d
            rcases hkind with rfl | rfl | rfl | rfl | rfl | rfl
            · have hpc := hB.lt
              have HZ := Lib.hid (fun (W : World) (h : Below wc.heap.size wc W) => (show W.cell? ⟨pb, 3, none⟩ = some (.slice none 0 0) ∧ W.frozen? ⟨pb, 3, none⟩ = false from ⟨(blkW (hB.up h)).2.2.2.1, (hB.up h).frozen 3⟩))
              have hown0 : wc.ownsRow wc.heap.size 5 1 (.slice none 0 0) 0 [] := World.ownsRow_nil _ _ _ _
              have hrb5 := hrb.below hbel (Nat.le_refl _)
              have hb1c := bvs_one bs
              have hby : (0 + bs.length) * 1 ≤ 140737488355328 := by omega
              have hby2 : (bs.length + 1) * 1 ≤ 140737488355328 := by omega
              obtain ⟨cbs, hcbs⟩ : ∃ cbs, cbs = bs.map bv := ⟨_, rfl⟩
              rw [← hcbs] at hrb5 hb1c
              have HCB := Lib.hid hcbs
              clear hcbs
              go_upto_region 16 with (first
                | (with_reducible show wpList _ _ _ (⟨some 74, _, _, _, _, _⟩ :: _) _ _; go_must (refine wpList_rd (.tmp 72) (.tmp 73) el_u8 rfl rfl hown0 rfl hrb5 rfl hb1c hby (Nat.le_refl _) ?_); intro v5 w5 hown5 hb5 hg5 ha5; rw [Nat.zero_add, List.nil_append] at hown5; obtain ⟨A5, c5, rfl, _, _, _, _⟩ := own_form hown5; obtain ⟨e5, f5⟩ := HZ.out w5 hb5))
              have hB5 := hB.up hb5
              have k5 := keepT_set hB5 3 (.slice A5 bs.length c5)
              have hB6 := hB5.set_ 3 (.slice A5 bs.length c5)
              have hown6 := k5.own hown5 (fun _ => rfl)
              have hs5 := hb5.size
              have hb6 : Below wo.heap.size wo (w5.setCell ⟨pb, 3, none⟩ (.slice A5 bs.length c5)) := (hbo.trans (hb5.mono hbo.size)).setCell hpl _
              have hs6 : wc.heap.size ≤ (w5.setCell ⟨pb, 3, none⟩ (.slice A5 bs.length c5)).heap.size := by simpa [World.setCell] using hs5
              simp only [List.setIfInBounds_toArray, List.set_cons_succ, List.set_cons_zero] at hB6
              clear e5 f5 hown5 hg5 ha5 hB5 k5 hb5
              generalize (w5.setCell ⟨pb, 3, none⟩ (.slice A5 bs.length c5)) = w6 at *
              obtain ⟨p0, p1, p2, p3, p4⟩ := blkW hB6
              have HY := Lib.hid (fun (W : World) (h : Below wc.heap.size w6 W) => (show W.cell? ⟨pb, 3, none⟩ = some (.slice A5 bs.length c5) ∧ W.frozen? ⟨pb, 3, none⟩ = false from ⟨(blkW (hB6.below h hpc)).2.2.2.1, (hB6.below h hpc).frozen 3⟩))
              go_upto_region 17 with (first
                | (with_reducible show wpList _ _ _ (⟨some 81, _, _, _, _, _⟩ :: _) _ _; go_must (refine wpList_newg (.tmp 77) (.tmp 80) el_u8 rfl rfl hown6 rfl rfl rfl rfl rfl hby2 hs6 ?_); intro v7 w7 hown7 hb7 hg7 ha7; obtain ⟨A7, c7, rfl, _, _, _, _⟩ := own_form hown7; obtain ⟨e7, f7⟩ := HY.out w7 hb7))
              obtain ⟨b2, hb2⟩ : ∃ b2, b2 = bs ++ [UInt8.ofNat i] := ⟨_, rfl⟩
              have hlen2 : b2.length = bs.length + 1 := by rw [hb2, List.length_append]; rfl
              have hmap : b2.map bv = cbs ++ #[Value.int .u8 (i : Int)].toList := by
                rw [hb2, List.map_append, ← HCB.out]
                congr 1
                show [Value.int .u8 ((UInt8.ofNat i).toNat : Int)] = _
                rw [UInt8.toNat_ofNat_of_lt' (by show i < 256; omega)]
              have HL2 := Lib.hid hlen2
              have hB7 := hB6.below hb7 hpc
              have k7 := keepT_set hB7 3 (.slice A7 (bs.length + 1) c7)
              have hB8 := hB7.set_ 3 (.slice A7 (bs.length + 1) c7)
              have own8 := k7.own hown7 (fun _ => rfl)
              rw [← hmap] at own8
              have hb8 : Below wo.heap.size wo (w7.setCell ⟨pb, 3, none⟩ (.slice A7 (bs.length + 1) c7)) := (hb6.trans (hb7.mono hbo.size)).setCell hpl _
              simp only [List.setIfInBounds_toArray, List.set_cons_succ, List.set_cons_zero] at hB8
              clear e7 f7 hown7 hg7 ha7 hB7 k7 hb7 hb6 hown6 hB6 p0 p1 p2 p3 p4 hmap hb2 q0 q1 q2 q3 q4 hB
              generalize (w7.setCell ⟨pb, 3, none⟩ (.slice A7 (bs.length + 1) c7)) = w8 at *
              obtain ⟨p0, p1, p2, p3, p4⟩ := blkW hB8
              have hds8 : DiskAt w8 w.heap.size g s := DiskIn.up HDO.out hb8
              have HKS8 := Lib.hid (HKO.out.up hb8)
              have hbel8 := hbelO.trans (hb8.mono hbelO.size)
              have own9 : w8.ownsRow w.heap.size 5 1 (.slice A7 b2.length c7) b2.length (b2.map bv) := by
                rw [HL2.out]
                exact own_base own8 hbs
              have hwr := write_any w.heap.size g i w8.heap.size s (fileB b) A7 c7 b2 w8 hds8 hbel8.size HFEW.out (by omega) (by omega) (own_rd own9) (Nat.le_refl _) (by omega)
              have HG := Lib.hid (fun (yg : Option Nat) (yc : Nat) => (do_op (base := w.heap.size) (R := R) (x := ⟨1, fileB b, fileB d, b2, A7, c7, f⟩) (o := .put ⟨fileB b, b2, yg, yc⟩) HSIM.out ⟨rfl, rfl, rfl⟩ HFEW.out (by omega)))
              have HO9 := Lib.hid own9
              have HB8 := Lib.hid (show Blk w8 pb 52 #[.int .i64 1, .string (fileB b), .string (fileB d), .slice A7 b2.length c7, .int .i64 f] by rw [HL2.out]; exact hB8)
              obtain ⟨EW, hEW⟩ : ∃ EW, EW = writeE (fileB b) b2.length := ⟨_, rfl⟩
              rw [← hEW] at hwr
              have HEW := Lib.hid hEW
              rw [hlen2] at hwr
              clear own8 own9 hlen2 hB8 hEW
              go_wp2_with (go_at_call 17; go_must (refine hwr.mono ?_); rintro e w9 ⟨y, hyn, hyb, rfl, hd9, hb9, hk9⟩)
              go_meet
              obtain ⟨yn, yb, yg, yc⟩ := y
              have hd9 : DiskAt w9 w.heap.size g (stepS s EW (some (.put ⟨fileB b, b2, yg, yc⟩))) := by
                have e1 : yn = fileB b := hyn
                have e2 : yb = b2 := hyb
                rw [e1, e2] at hd9
                exact hd9
              have hG := HG.out yg yc
              have e9 : opE s (.put ⟨fileB b, b2, yg, yc⟩) = EW := HEW.out.symm
              rw [e9] at hG
              exact ⟨_, _, _, rfl, hk9.blk HB8.out rfl, hk9.own HO9.out (fun _ => rfl), hd9, HKS8.out.keepD hk9, HFEW.out.step _ _, hbel8.trans hb9, Lib.hid hG⟩
            · have hrn := rename_any w.heap.size g i s (fileB b) (fileB d) wc hds hbs HFEW.out (by omega) (by omega) (by omega)
              have HG := Lib.hid (do_op (base := w.heap.size) (R := R) (x := ⟨2, fileB b, fileB d, [], none, 0, f⟩) (o := .ren (fileB b) (fileB d)) HSIM.out ⟨rfl, rfl, rfl⟩ HFEW.out (by omega))
              have HF2 := Lib.hid (HFEW.out.step (opE s (.ren (fileB b) (fileB d))) (some (.ren (fileB b) (fileB d))))
              go_wp2_with (go_at_call 18; go_must (refine hrn.mono ?_); rintro e w5 ⟨rfl, hd5, hb5, hk5⟩)
              go_meet
              exact ⟨_, _, _, rfl, hk5.blk hB rfl, bok_nil _ _, hd5, hks.keepD hk5, HF2.out, hbel.trans hb5, HG⟩
            · have hrm := remove_any w.heap.size g i s (fileB b) wc hds hbs HFEW.out (by omega) (by omega)
              have HG := Lib.hid (do_op (base := w.heap.size) (R := R) (x := ⟨3, fileB b, fileB d, [], none, 0, f⟩) (o := .del (fileB b)) HSIM.out ⟨rfl, rfl⟩ HFEW.out (by omega))
              have HF2 := Lib.hid (HFEW.out.step (opE s (.del (fileB b))) (some (.del (fileB b))))
              go_wp2_with (go_at_call 19; go_must (refine hrm.mono ?_); rintro e w5 ⟨rfl, hd5, hb5, hk5⟩)
              go_meet
              exact ⟨_, _, _, rfl, hk5.blk hB rfl, bok_nil _ _, hd5, hks.keepD hk5, HF2.out, hbel.trans hb5, HG⟩
            · have hsy := sync_any w.heap.size g i s wc hds hbs HFEW.out (by omega)
              have HG := Lib.hid (do_sync (base := w.heap.size) (R := R) (x := ⟨4, fileB b, fileB d, [], none, 0, f⟩) HSIM.out rfl HFEW.out (by omega))
              have HF2 := Lib.hid HFEW.out.sync
              go_wp2_with (go_at_call 20; go_must (refine hsy.mono ?_); rintro e w5 ⟨rfl, hd5, hb5, hk5⟩)
              go_meet
              exact ⟨_, _, _, rfl, hk5.blk hB rfl, bok_nil _ _, hd5, hks.keepD hk5, HF2.out, hbel.trans hb5, HG⟩
            · have hcr := crash_any w.heap.size g i s f wc hds hbs HFEW.out (by omega) hd.2 hd.1
              have HG := Lib.hid (do_crash (base := w.heap.size) (R := R) (x := ⟨5, fileB b, fileB d, [], none, 0, f⟩) HSIM.out rfl HFEW.out (by omega))
              have HF2 := Lib.hid ((HFEW.out.crash f).more (Nat.le_succ i))
              go_wp2_with (go_at_call 21; go_must (refine hcr.mono ?_); rintro e w5 ⟨rfl, hd5, hb5, hk5⟩)
              go_meet
              exact ⟨_, _, 0, rfl, hk5.blk hB rfl, bok_nil _ _, hd5, hks.keepD hk5, HF2.out, hbel.trans hb5, HG⟩
            · have hfa := fail_any w.heap.size g s f wc hds
              have HG := Lib.hid (do_fail (base := w.heap.size) (R := R) (x := ⟨6, fileB b, fileB d, [], none, 0, f⟩) HSIM.out rfl)
              have HF2 := Lib.hid ((HFEW.out.fail f).more (Nat.le_succ i))
              go_wp2_with (go_at_call 22; go_must (refine hfa.mono ?_); rintro e w5 ⟨rfl, hd5, hb5, hk5⟩)
              go_meet
              exact ⟨_, _, 0, rfl, hk5.blk hB rfl, bok_nil _ _, hd5, hks.keepD hk5, HF2.out, hbel.trans hb5, HG⟩
          case rest =>
            clear hB hds hks hbel hbs hbo hbelO HDO HKO HPB hpl hkind
            obtain ⟨x, s2, E, rfl, hB2, hx2, hd2, hk2, hf2, hbel2, HG⟩ := hcut
            obtain ⟨q0, q1, q2, q3, q4⟩ := blkW hB2
            have hdo := HG.out wc hk2 hx2 hbel2.size
            unfold RW.val RW.sl at hdo
            have HSE2 := Lib.hid (fun W h => HSE.out E W h)
            generalize errV E = ev at *
            have HF2 := Lib.hid hf2
            clear HG hf2 hx2
            go_upto_region 29 with (first
              | (go_at_call 23; go_must (refine hdo.mono ?_); rintro e w5 ⟨k2, rfl, hk5, hs5, hb5, hK5⟩; have hse := HSE2.out w5 (hbel2.trans hb5))
              | (go_at_call 7; go_must (refine hse.mono ?_); rintro e w6 ⟨rfl, hb6⟩))
            have hd6 : DiskAt w6 w.heap.size g s2 := DiskIn.up (DiskAt.keepK hd2 hK5) hb6
            have hk6 := hk5.up hb6
            have hbel5 := hbel2.trans hb5
            have hbel6 := hbel5.trans (hb6.mono hbel5.size)
            have HS2 := Lib.hid hs5
            have hkl : k2.now.length ≤ i + 1 := by rw [hs5.now.len]; exact HF2.out.now
            have hnm := names_at hs5 w6 hd6 HF2.out (by omega)
            have HST := Lib.hid (fun (W : World) (h : DiskAt W w.heap.size g s2) => (steps_any w.heap.size g s2 W h))
            obtain ⟨sn, hsn⟩ : ∃ sn, sn = k2.steps := ⟨_, rfl⟩
            have HST := Lib.hid (fun (W : World) (h : DiskAt W w.heap.size g s2) => (show Calls Tryz.prog 25 #[.pointer (some ⟨g, 0, none⟩)] W fun r w' => r = .returned (.int .i64 sn) ∧ w' = W from by
              rw [hsn, hs5.steps]
              exact HST.out W h))
            have HSN := Lib.hid hsn
            clear hsn hdo hB2 hd2 hk2 hbel2 hs5 hb5 hK5 hk5 q0 q1 q2 q3 q4
            go_upto_region 31 with (first
              | (go_at_call 24; go_must (refine hnm.mono ?_); rintro e w7 ⟨An, cn, rfl, hrn, hb7⟩; have hst := HST.out w7 (DiskIn.up hd6 hb7))
              | (go_at_call 25; go_must (refine hst.mono ?_); rintro e w8 ⟨rfl, rfl⟩))
            have hd8 : DiskAt w8 w.heap.size g s2 := DiskIn.up hd6 hb7
            have hk8 := hk6.up hb7
            have hbel8 := hbel6.trans (hb7.mono hbel6.size)
            obtain ⟨vn, vs, vw, hblk, hFn, _⟩ := hk8.rows
            obtain ⟨An2, cn2, rfl, hrk⟩ := hFn.form
            rw [← HSN.out] at hblk
            obtain ⟨c0, _, _, c3, _⟩ := blkK hblk
            obtain ⟨nn, hnn⟩ : ∃ nn, nn = k2.now.length := ⟨_, rfl⟩
            rw [← hnn] at hrn hrk c0 hkl ⊢
            have HNN := Lib.hid hnn
            clear hst hnm hd6 hk6 hb7 hbel6 hFn hblk HST hnn
            go_upto_block 5 with fail
            go_cut [] from 148 to 166 (fun wx => Below w8.heap.size w8 wx)
            case first =>
              go_wp2_with fail
              go_loopw [15] (fun v wx => ∃ j q9 : Nat, j ≤ nn ∧ v = .int .i64 j ∧ wx = w8.drewN q9) (fun v _ => nn - (intOf v).toNat)
              case atStart => exact ⟨0, 0, Nat.zero_le _, rfl, rfl⟩
              rename World => wq
              obtain ⟨j, q9, hj, rfl, hw⟩ := hrel
              have HW := Lib.hid hw
              by_cases hlt9 : j < nn
              · have hx : k2.now[j]? = some k2.now[j] := List.getElem?_eq_getElem (by have := HNN.out; omega)
                obtain ⟨ad9, rfl, x9⟩ := (show Rd wq w8.heap.size 1 An nn (k2.now.map fun x => .string x.name) by rw [hw]; exact hrn.drewN q9).nm_ hlt9 hx
                obtain ⟨ad8, y8, rfl, _, hy8, y9, _⟩ := (show Rd wq w8.heap.size 2 An2 nn (fCells k2.now) by rw [hw]; exact hrk.drewN q9).fl_ hlt9 HNN.out.symm
                obtain rfl : k2.now[j] = y8 := by rw [hx] at hy8; injection hy8
                have c09 : wq.cell? ⟨R, 0, none⟩ = some (.slice (some ad8) nn cn2) := by rw [hw]; exact c0
                generalize k2.now[j].name = zn at *
                have hj0 : (0 : Int) ≤ (j : Int) := by omega
                have hj1 : (j : Int) < (nn : Int) := by omega
                clear hw hx hy8
                go_wp2_with fail
                go_quiet (fail)
                go_wp2_with fail
                go_roundw
                case rel => exact ⟨j + 1, q9 + nq, by omega, by go_num, by rw [HW.out, World.drewN_drewN]⟩
                case measure => simp [intOf]; omega
              · have hj1 : ¬ (j : Int) < (nn : Int) := by omega
                clear hw
                go_wp2_with fail
                go_meet
                rw [HW.out]
                exact below_drewN (Below.refl _ _) _
            case rest =>
              have hd9 : DiskAt wc w.heap.size g s2 := DiskIn.up hd8 hcut
              have hk9 := hk8.up hcut
              have hbel9 := hbel8.trans (hcut.mono hbel8.size)
              have HDR := Lib.hid (fun (nm : ByteArray) (W : World) (h : DiskAt W w.heap.size g s2) (hn : nm.size ≤ 9223372036854775807) => dread_at HS2.out nm W h hn)
              have HKR := Lib.hid (fun (nm : ByteArray) (W : World) (h : KAt W w.heap.size R k2) => kread_at nm W h (by have := HNN.out; omega))
              clear hd8 hk8 hbel8 hrn hrk c0 c3 hcut
              go_wp2_with fail
              go_loopw [16] (fun v wx => ∃ j : Nat, j ≤ 6 ∧ v = .int .i64 j ∧ DiskAt wx w.heap.size g s2 ∧ KAt wx w.heap.size R k2 ∧ Below w.heap.size w wx) (fun v _ => 6 - (intOf v).toNat)
              case atStart => exact ⟨0, by omega, rfl, hd9, hk9, hbel9⟩
              clear hd9 hk9 hbel9
              rename World => wq
              obtain ⟨j, hj, rfl, hd9, hk9, hbel9⟩ := hrel
              by_cases hlt9 : j < 6
              · have hj1 : (j : Int) < 6 := by omega
                have hsz9 := fileB_size (j : Int)
                have hrd := HDR.out (fileB (j : Int)) wq hd9 (by omega)
                have HKR2 := Lib.hid (fun (W : World) (h : KAt W w.heap.size R k2) => HKR.out (fileB (j : Int)) W h)
                have HSE9 := Lib.hid (fun W h => HSE.out (kHasE k2.now (fileB (j : Int))) W h)
                have hfile := file_any (j : Int)
                generalize fileB (j : Int) = nm at *
                generalize kHasE k2.now nm = E9 at *
                generalize errV E9 = ev9 at *
                generalize kReadB k2.now nm = B9 at *
                go_upto_region 42 with (first
                  | (go_at_call 16; go_must (refine (hfile _).mono ?_); rintro e w2 ⟨rfl, rfl⟩)
                  | (go_at_call 26; go_must (refine hrd.mono ?_); rintro e wr1 ⟨Ar, cr, rfl, hr1, hbr1⟩))
                have hd10 : DiskAt wr1 w.heap.size g s2 := DiskIn.up hd9 hbr1
                have hk10 := hk9.up hbr1
                have hbel10 := hbel9.trans (hbr1.mono hbel9.size)
                have hkr := HKR2.out wr1 hk10
                have hse := HSE9.out wr1 hbel10
                clear hrd hd9 hk9 hbel9 hbr1
                go_upto_region 44 with (first
                  | (go_at_call 16; go_must (refine (hfile _).mono ?_); rintro e w2 ⟨rfl, rfl⟩)
                  | (go_at_call 27; go_must (refine hkr.mono ?_); rintro e w4 ⟨Ak, ck, rfl, hr2, rfl⟩)
                  | (go_at_call 7; go_must (refine hse.mono ?_); rintro e wr2 ⟨rfl, hbr2⟩))
                have q11 := run_string_rd (P := Tryz.prog) (c := cr) Tryz.underlying41 Tryz.underlying5 Tryz.underlying9 (hr1.below hbr2 (Nat.le_refl _))
                have q12 := run_string_rd (P := Tryz.prog) (c := ck) Tryz.underlying41 Tryz.underlying5 Tryz.underlying9 (hr2.below hbr2 (Nat.le_refl _))
                clear hkr hse
                go_wp2_with fail
                go_roundw
                case rel => exact ⟨j + 1, by omega, by go_num, DiskIn.up hd10 hbr2, hk10.up hbr2, hbel10.trans (hbr2.mono hbel10.size)⟩
                case measure => simp [intOf]; omega
              · have hj1 : ¬ (j : Int) < 6 := by omega
                go_wp2_with fail
                go_roundw
                case rel => exact ⟨i + 1, s2, k2, hlt, by omega, by go_num, hd9, hk9, HS2.out, HF2.out, hbel9⟩
                case measure => simp [intOf]; omega
        · have n1 : ¬ a = 1 := fun h => hkind (.inl h)
          have n2 : ¬ a = 2 := fun h => hkind (.inr (.inl h))
          have n3 : ¬ a = 3 := fun h => hkind (.inr (.inr (.inl h)))
          have n4 : ¬ a = 4 := fun h => hkind (.inr (.inr (.inr (.inl h))))
          have n5 : ¬ a = 5 := fun h => hkind (.inr (.inr (.inr (.inr (.inl h)))))
          have n6 : ¬ a = 6 := fun h => hkind (.inr (.inr (.inr (.inr (.inr h)))))
          clear hkind
          go_wp2_with fail
          go_roundw
          case rel => exact ⟨i + 1, s, k, hlt, by omega, by go_num, hds, hks, HSIM.out, HFEW.out.more (Nat.le_succ i), hbel⟩
          case measure => simp [intOf]; omega
  · by_cases hn : i < n
    · have h8 : i = 80 := by omega
      have hi1 : (i : Int) < (n : Int) := by omega
      have hi2 : ¬ (i : Int) < 80 := by omega
      clear hlt h8
      go_wp2_with fail
      go_ret
      exact ⟨rfl, hbel⟩
    · have hi1 : ¬ (i : Int) < (n : Int) := by omega
      clear hlt
      go_wp2_with fail
      go_ret
      exact ⟨rfl, hbel⟩
end Go.Proofs.YtmeemcafjebanaaGreatDoor
