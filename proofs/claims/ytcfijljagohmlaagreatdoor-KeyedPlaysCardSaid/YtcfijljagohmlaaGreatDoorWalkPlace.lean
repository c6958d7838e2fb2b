/- The walk of weirlaw2's place. -/
import Derived.Test.YtcfijljagohmlaaGreatDoorPlainWholes
import Derived.Test.YtcfijljagohmlaaGreatDoorWalkSHld
import Derived.Test.YtcfijljagohmlaaGreatDoorWalkKeyed2
namespace Go.Proofs.YtcfijljagohmlaaGreatDoor
open Go.RowKit

/-- Where place ends. -/
def PlEnd (h : Hld) (L : List Hld) (i : Nat) (dn : Bool) (O R : List Hld) : Prop := R = O ++ plP h (L.drop i) dn
set_option maxRecDepth 100000 in
set_option maxHeartbeats 16000000 in
theorem place_any (A : Option Addr) (c n B : Nat) (L : List Hld) (h : Hld) (ins : Bool) (w : World) (hr : Rd w B 4 A n (hldCells L)) (hln : L.length = n) (hB : B ≤ w.heap.size) (hn : n ≤ 1000000) :
    Calls Tryz.prog 7 #[.slice A n c, h.val, .bool ins] w fun e w' => ∃ v, e = .returned v ∧ w'.ownsRow w.heap.size 29 4 v (plP h L (!ins)).length (hldCells (plP h L (!ins))) ∧ Below w.heap.size w w' := by
  obtain ⟨R, hR⟩ : ∃ R, R = plP h L (!ins) := ⟨_, rfl⟩
  have HLN := Lib.hid hln
  have HR : Hid (PlEnd h L 0 (!ins) [] R) := Lib.hid hR
  rw [← hR]
  have hbx := Blk.new w 29 #[.int .i64 h.node, .string h.key, .int .i64 h.a, .int .i64 h.b]
  have hb0 := (Below.refl w.heap.size w).alloc (Nat.le_refl _) (.cells #[.int .i64 h.node, .string h.key, .int .i64 h.a, .int .i64 h.b] 29)
  have hr1 := hr.below hb0 hB
  have hs1 : (w.alloc (.cells #[.int .i64 h.node, .string h.key, .int .i64 h.a, .int .i64 h.b] 29)).heap.size = w.heap.size + 1 := by simp
  clear hln hR hr
  go_enter Tryz.func7, Tryz.ntmps7
  unfold Hld.val
  go_wp2_with fail
  obtain ⟨gb, hgb⟩ : ∃ gb, gb = w.heap.size := ⟨_, rfl⟩
  generalize hwb : w.alloc (.cells #[.int .i64 h.node, .string h.key, .int .i64 h.a, .int .i64 h.b] 29) = wb at *
  rw [← hgb] at hbx hs1 hb0
  rw [← hgb]
  have hBg : B ≤ gb := by omega
  have HGB := Lib.hid hgb
  clear hgb hwb hB
  obtain ⟨d0, hd0⟩ : ∃ d, d = !ins := ⟨_, rfl⟩
  rw [← hd0] at HR ⊢
  clear hd0
  have hbw : Below (gb + 1) wb wb := Below.refl _ _
  go_loopw [7, 8, 9] (fun o d x wr => ∃ (i : Nat) (dn : Bool) (O : List Hld), i ≤ n ∧ x = .int .i64 i ∧ d = .bool dn ∧ wr.ownsRow (gb + 1) 29 4 o O.length (hldCells O) ∧ O.length ≤ i + 1 ∧ Hid (PlEnd h L i dn O R) ∧ Hid (dn = false → O.length ≤ i) ∧ Below (gb + 1) wb wr) (fun _ _ x _ => n - (intOf x).toNat)
  case atStart => exact ⟨0, d0, [], Nat.zero_le _, rfl, rfl, World.ownsRow_nil _ _ _ _, by simp, HR, Lib.hid (fun _ => by simp), hbw⟩
  obtain ⟨i, dn, O, hi, rfl, rfl, hro, hOl, HE, HD, hbel⟩ := hrel
  have hws := hbel.size
  rw [hs1] at hws
  have hbr := hbx.below hbel (by omega)
  have x0 := hbr.cell 0
  have x1 := hbr.cell 1
  have x2 := hbr.cell 2
  have x3 := hbr.cell 3
  simp at x0 x1 x2 x3
  by_cases hlq : i < n
  · obtain ⟨ad, x, rfl, hbk, hx, g0, g1, g2, g3⟩ := hr1.hld_ hlq HLN.out hbel (by omega)
    have hi0 : (0 : Int) ≤ (i : Int) := by omega
    have hi1 : (i : Int) < (n : Int) := by omega
    have hby : (O.length + 1) * 40 ≤ 140737488355328 := by omega
    by_cases hs : x.node = h.node ∧ x.key = h.key
    · have HE2 : Hid (PlEnd h L (i + 1) dn O R) := Lib.hid (by unfold PlEnd; rw [HE.out, plP_same hx hs])
      rw [hs.1] at g0
      rw [hs.2] at g1
      go_wp2_with fail
      go_quiet (fail)
      go_wp2_with fail
      go_roundw
      case rel => exact ⟨i + 1, dn, O, hlq, by go_num, rfl, hro, by omega, HE2, Lib.hid (fun e => by have := HD.out e; omega), below_drewN hbel _⟩
      case measure => simp [intOf]; omega
    · have HS := Lib.hid hs
      have HX := Lib.hid hx
      by_cases h1 : x.node = h.node
      · have h2 : ¬ x.key = h.key := fun e => hs ⟨h1, e⟩
        have h3 : (x.key.toList == h.key.toList) = false := by rw [beq_eq_false_iff_ne]; exact fun e => h2 (ba_same e)
        rw [h1] at g0
        clear hs hx
        go_wp2_with fail
        go_quiet (fail)
        go_wp2_with fail
        rw [← h1] at g0
        clear h1 h2 h3
        have hroN := own_drewN hro nq
        have hbelN := below_drewN hbel nq
        have hwsN : gb + 1 ≤ (wr.drewN nq).heap.size := hws
        obtain ⟨k0, k1, k2, k3⟩ : (wr.drewN nq).cell? (ad.add (i * 4)) = some (.int .i64 x.node) ∧ (wr.drewN nq).cell? ⟨(ad.add (i * 4)).block, (ad.add (i * 4)).off + 1, none⟩ = some (.string x.key) ∧ (wr.drewN nq).cell? ⟨(ad.add (i * 4)).block, (ad.add (i * 4)).off + 2, none⟩ = some (.int .i64 x.a) ∧ (wr.drewN nq).cell? ⟨(ad.add (i * 4)).block, (ad.add (i * 4)).off + 3, none⟩ = some (.int .i64 x.b) := ⟨g0, g1, g2, g3⟩
        obtain ⟨y0, y1, y2, y3⟩ : (wr.drewN nq).cell? ⟨gb, 0, none⟩ = some (.int .i64 h.node) ∧ (wr.drewN nq).cell? ⟨gb, 1, none⟩ = some (.string h.key) ∧ (wr.drewN nq).cell? ⟨gb, 2, none⟩ = some (.int .i64 h.a) ∧ (wr.drewN nq).cell? ⟨gb, 3, none⟩ = some (.int .i64 h.b) := ⟨x0, x1, x2, x3⟩
        clear hro hbel hws g0 g1 g2 g3 x0 x1 x2 x3 hbr
        generalize wr.drewN nq = wq at *
        rcases dn with _ | _
        · have hOf : O.length ≤ i := HD.out rfl
          clear HD
          rcases ha : hlt h x
          · have HA : Hid (decide (cmpH h x < 0) = false) := Lib.hid ha
            have HE2 : Hid (PlEnd h L (i + 1) false (O ++ [x]) R) := Lib.hid (by unfold PlEnd; rw [HE.out, plP_past HX.out HS.out (.inr ha), List.append_assoc]; rfl)
            clear ha
            go_region_held3 (fun w' => (w'.cell? ⟨gb, 0, none⟩ = some (.int .i64 h.node) ∧ w'.cell? ⟨gb, 1, none⟩ = some (.string h.key) ∧ w'.cell? ⟨gb, 2, none⟩ = some (.int .i64 h.a) ∧ w'.cell? ⟨gb, 3, none⟩ = some (.int .i64 h.b)) ∧ w'.cell? (ad.add (i * 4)) = some (.int .i64 x.node) ∧ w'.cell? ⟨(ad.add (i * 4)).block, (ad.add (i * 4)).off + 1, none⟩ = some (.string x.key) ∧ w'.cell? ⟨(ad.add (i * 4)).block, (ad.add (i * 4)).off + 2, none⟩ = some (.int .i64 x.a) ∧ w'.cell? ⟨(ad.add (i * 4)).block, (ad.add (i * 4)).off + 3, none⟩ = some (.int .i64 x.b)) (first | exact ⟨pc, rc⟩ | exact ⟨⟨y0, y1, y2, y3⟩, k0, k1, k2, k3⟩)
              ((first
                | (go_at_call 39; go_must (refine (sahead_is h x _ HA.out).mono ?_); rintro e w2 ⟨rfl, hb3⟩; have pc := keep4 (p := ⟨gb, 0, none⟩) hb3 (by simp; omega) y0 y1 y2 y3; have rc := keep4 hb3 (by simp; omega) k0 k1 k2 k3)))
            have hbel2 := (hbelN.drew).trans (hb3.mono hwsN)
            have hro2 := own_up (own_drew hroN) hb3
            obtain ⟨k0, k1, k2, k3⟩ := rc
            obtain ⟨y0, y1, y2, y3⟩ := pc
            have hws2 := hbel2.size
            rw [hs1] at hws2
            clear hbelN hroN hwsN hb3
            go_wp2_with (first
              | (with_reducible show wpList _ _ _ (⟨some 56, _, _, _, _, _⟩ :: _) _ _; go_must (refine wpList_newg (.tmp 50) (.tmp 55) el_held rfl rfl hro2 rfl rfl rfl rfl rfl hby hws2 ?_); intro v4 w4 hown4 hb4 hg4 ha4))
            go_roundw
            case rel => exact ⟨i + 1, false, O ++ [x], hlq, by go_num, rfl, by rw [List.length_append, hldCells_snoc]; exact hown4, by simp; omega, HE2, Lib.hid (fun e => by simp; omega), hbel2.trans hb4⟩
            case measure => simp [intOf]; omega
          · have HA : Hid (decide (cmpH h x < 0) = true) := Lib.hid ha
            obtain ⟨O2, hO2⟩ : ∃ O2, O2 = O ++ [h] := ⟨_, rfl⟩
            have HO2 := Lib.hid hO2
            have hl2 : O2.length = O.length + 1 := by rw [hO2, List.length_append]; rfl
            have HE2 : Hid (PlEnd h L (i + 1) true (O2 ++ [x]) R) := Lib.hid (by unfold PlEnd; rw [HE.out, plP_ahead HX.out HS.out ha, hO2, List.append_assoc, List.append_assoc]; rfl)
            clear ha hO2
            go_region_held3 (fun w' => (w'.cell? ⟨gb, 0, none⟩ = some (.int .i64 h.node) ∧ w'.cell? ⟨gb, 1, none⟩ = some (.string h.key) ∧ w'.cell? ⟨gb, 2, none⟩ = some (.int .i64 h.a) ∧ w'.cell? ⟨gb, 3, none⟩ = some (.int .i64 h.b)) ∧ w'.cell? (ad.add (i * 4)) = some (.int .i64 x.node) ∧ w'.cell? ⟨(ad.add (i * 4)).block, (ad.add (i * 4)).off + 1, none⟩ = some (.string x.key) ∧ w'.cell? ⟨(ad.add (i * 4)).block, (ad.add (i * 4)).off + 2, none⟩ = some (.int .i64 x.a) ∧ w'.cell? ⟨(ad.add (i * 4)).block, (ad.add (i * 4)).off + 3, none⟩ = some (.int .i64 x.b)) (first | exact ⟨pc, rc⟩ | exact ⟨⟨y0, y1, y2, y3⟩, k0, k1, k2, k3⟩)
              ((first
                | (go_at_call 39; go_must (refine (sahead_is h x _ HA.out).mono ?_); rintro e w2 ⟨rfl, hb3⟩; have pc := keep4 (p := ⟨gb, 0, none⟩) hb3 (by simp; omega) y0 y1 y2 y3; have rc := keep4 hb3 (by simp; omega) k0 k1 k2 k3)))
            have hbel2 := (hbelN.drew).trans (hb3.mono hwsN)
            have hro2 := own_up (own_drew hroN) hb3
            obtain ⟨k0, k1, k2, k3⟩ := rc
            obtain ⟨y0, y1, y2, y3⟩ := pc
            have hws2 := hbel2.size
            rw [hs1] at hws2
            clear hbelN hroN hwsN hb3
            go_upto_region 10 with (with_reducible show wpList _ _ _ (⟨some 49, _, _, _, _, _⟩ :: _) _ _; go_must (refine wpList_newg (.tmp 46) (.tmp 48) el_held rfl rfl hro2 rfl rfl rfl rfl rfl hby hws2 ?_); intro v3 w3 hown3 hb5 hg3 ha3)
            have hby2 : (O2.length + 1) * 40 ≤ 140737488355328 := by omega
            have hown3' : w3.ownsRow (gb + 1) 29 4 v3 O2.length (hldCells O2) := by rw [hl2, HO2.out, hldCells_snoc]; exact hown3
            obtain ⟨k0, k1, k2, k3⟩ := keep4 hb5 (by omega) k0 k1 k2 k3
            have hbel3 := hbel2.trans hb5
            have hws3 := hbel3.size
            rw [hs1] at hws3
            go_wp2_with (first
              | (with_reducible show wpList _ _ _ (⟨some 56, _, _, _, _, _⟩ :: _) _ _; go_must (refine wpList_newg (.tmp 50) (.tmp 55) el_held rfl rfl hown3' rfl rfl rfl rfl rfl hby2 hws3 ?_); intro v4 w4 hown4 hb4 hg4 ha4))
            go_roundw
            case rel => exact ⟨i + 1, true, O2 ++ [x], hlq, by go_num, rfl, by rw [List.length_append, hldCells_snoc]; exact hown4, by simp; omega, HE2, Lib.hid (fun e => by cases e), hbel3.trans hb4⟩
            case measure => simp [intOf]; omega
        · have HE2 : Hid (PlEnd h L (i + 1) true (O ++ [x]) R) := Lib.hid (by unfold PlEnd; rw [HE.out, plP_past HX.out HS.out (.inl rfl), List.append_assoc]; rfl)
          go_quiet (fail)
          have hro2 := own_drewN hroN nq
          have hwsM : gb + 1 ≤ (wq.drewN nq).heap.size := hwsN
          go_wp2_with (first
            | (with_reducible show wpList _ _ _ (⟨some 56, _, _, _, _, _⟩ :: _) _ _; go_must (refine wpList_newg (.tmp 50) (.tmp 55) el_held rfl rfl hro2 rfl rfl rfl rfl rfl hby hwsM ?_); intro v4 w4 hown4 hb4 hg4 ha4))
          go_roundw
          case rel => exact ⟨i + 1, true, O ++ [x], hlq, by go_num, rfl, by rw [List.length_append, hldCells_snoc]; exact hown4, by simp; omega, HE2, Lib.hid (fun e => by cases e), (below_drewN hbelN _).trans hb4⟩
          case measure => simp [intOf]; omega
      · have h2 : (x.node == h.node) = false := by simpa using h1
        clear hs hx
        go_wp2_with fail
        go_quiet (fail)
        go_wp2_with fail
        clear h1 h2
        have hroN := own_drewN hro nq
        have hbelN := below_drewN hbel nq
        have hwsN : gb + 1 ≤ (wr.drewN nq).heap.size := hws
        obtain ⟨k0, k1, k2, k3⟩ : (wr.drewN nq).cell? (ad.add (i * 4)) = some (.int .i64 x.node) ∧ (wr.drewN nq).cell? ⟨(ad.add (i * 4)).block, (ad.add (i * 4)).off + 1, none⟩ = some (.string x.key) ∧ (wr.drewN nq).cell? ⟨(ad.add (i * 4)).block, (ad.add (i * 4)).off + 2, none⟩ = some (.int .i64 x.a) ∧ (wr.drewN nq).cell? ⟨(ad.add (i * 4)).block, (ad.add (i * 4)).off + 3, none⟩ = some (.int .i64 x.b) := ⟨g0, g1, g2, g3⟩
        obtain ⟨y0, y1, y2, y3⟩ : (wr.drewN nq).cell? ⟨gb, 0, none⟩ = some (.int .i64 h.node) ∧ (wr.drewN nq).cell? ⟨gb, 1, none⟩ = some (.string h.key) ∧ (wr.drewN nq).cell? ⟨gb, 2, none⟩ = some (.int .i64 h.a) ∧ (wr.drewN nq).cell? ⟨gb, 3, none⟩ = some (.int .i64 h.b) := ⟨x0, x1, x2, x3⟩
        clear hro hbel hws g0 g1 g2 g3 x0 x1 x2 x3 hbr
        generalize wr.drewN nq = wq at *
        rcases dn with _ | _
        · have hOf : O.length ≤ i := HD.out rfl
          clear HD
          rcases ha : hlt h x
          · have HA : Hid (decide (cmpH h x < 0) = false) := Lib.hid ha
            have HE2 : Hid (PlEnd h L (i + 1) false (O ++ [x]) R) := Lib.hid (by unfold PlEnd; rw [HE.out, plP_past HX.out HS.out (.inr ha), List.append_assoc]; rfl)
            clear ha
            go_region_held3 (fun w' => (w'.cell? ⟨gb, 0, none⟩ = some (.int .i64 h.node) ∧ w'.cell? ⟨gb, 1, none⟩ = some (.string h.key) ∧ w'.cell? ⟨gb, 2, none⟩ = some (.int .i64 h.a) ∧ w'.cell? ⟨gb, 3, none⟩ = some (.int .i64 h.b)) ∧ w'.cell? (ad.add (i * 4)) = some (.int .i64 x.node) ∧ w'.cell? ⟨(ad.add (i * 4)).block, (ad.add (i * 4)).off + 1, none⟩ = some (.string x.key) ∧ w'.cell? ⟨(ad.add (i * 4)).block, (ad.add (i * 4)).off + 2, none⟩ = some (.int .i64 x.a) ∧ w'.cell? ⟨(ad.add (i * 4)).block, (ad.add (i * 4)).off + 3, none⟩ = some (.int .i64 x.b)) (first | exact ⟨pc, rc⟩ | exact ⟨⟨y0, y1, y2, y3⟩, k0, k1, k2, k3⟩)
              ((first
                | (go_at_call 39; go_must (refine (sahead_is h x _ HA.out).mono ?_); rintro e w2 ⟨rfl, hb3⟩; have pc := keep4 (p := ⟨gb, 0, none⟩) hb3 (by simp; omega) y0 y1 y2 y3; have rc := keep4 hb3 (by simp; omega) k0 k1 k2 k3)))
            have hbel2 := (hbelN.drew).trans (hb3.mono hwsN)
            have hro2 := own_up (own_drew hroN) hb3
            obtain ⟨k0, k1, k2, k3⟩ := rc
            obtain ⟨y0, y1, y2, y3⟩ := pc
            have hws2 := hbel2.size
            rw [hs1] at hws2
            clear hbelN hroN hwsN hb3
            go_wp2_with (first
              | (with_reducible show wpList _ _ _ (⟨some 56, _, _, _, _, _⟩ :: _) _ _; go_must (refine wpList_newg (.tmp 50) (.tmp 55) el_held rfl rfl hro2 rfl rfl rfl rfl rfl hby hws2 ?_); intro v4 w4 hown4 hb4 hg4 ha4))
            go_roundw
            case rel => exact ⟨i + 1, false, O ++ [x], hlq, by go_num, rfl, by rw [List.length_append, hldCells_snoc]; exact hown4, by simp; omega, HE2, Lib.hid (fun e => by simp; omega), hbel2.trans hb4⟩
            case measure => simp [intOf]; omega
          · have HA : Hid (decide (cmpH h x < 0) = true) := Lib.hid ha
            obtain ⟨O2, hO2⟩ : ∃ O2, O2 = O ++ [h] := ⟨_, rfl⟩
            have HO2 := Lib.hid hO2
            have hl2 : O2.length = O.length + 1 := by rw [hO2, List.length_append]; rfl
            have HE2 : Hid (PlEnd h L (i + 1) true (O2 ++ [x]) R) := Lib.hid (by unfold PlEnd; rw [HE.out, plP_ahead HX.out HS.out ha, hO2, List.append_assoc, List.append_assoc]; rfl)
            clear ha hO2
            go_region_held3 (fun w' => (w'.cell? ⟨gb, 0, none⟩ = some (.int .i64 h.node) ∧ w'.cell? ⟨gb, 1, none⟩ = some (.string h.key) ∧ w'.cell? ⟨gb, 2, none⟩ = some (.int .i64 h.a) ∧ w'.cell? ⟨gb, 3, none⟩ = some (.int .i64 h.b)) ∧ w'.cell? (ad.add (i * 4)) = some (.int .i64 x.node) ∧ w'.cell? ⟨(ad.add (i * 4)).block, (ad.add (i * 4)).off + 1, none⟩ = some (.string x.key) ∧ w'.cell? ⟨(ad.add (i * 4)).block, (ad.add (i * 4)).off + 2, none⟩ = some (.int .i64 x.a) ∧ w'.cell? ⟨(ad.add (i * 4)).block, (ad.add (i * 4)).off + 3, none⟩ = some (.int .i64 x.b)) (first | exact ⟨pc, rc⟩ | exact ⟨⟨y0, y1, y2, y3⟩, k0, k1, k2, k3⟩)
              ((first
                | (go_at_call 39; go_must (refine (sahead_is h x _ HA.out).mono ?_); rintro e w2 ⟨rfl, hb3⟩; have pc := keep4 (p := ⟨gb, 0, none⟩) hb3 (by simp; omega) y0 y1 y2 y3; have rc := keep4 hb3 (by simp; omega) k0 k1 k2 k3)))
            have hbel2 := (hbelN.drew).trans (hb3.mono hwsN)
            have hro2 := own_up (own_drew hroN) hb3
            obtain ⟨k0, k1, k2, k3⟩ := rc
            obtain ⟨y0, y1, y2, y3⟩ := pc
            have hws2 := hbel2.size
            rw [hs1] at hws2
            clear hbelN hroN hwsN hb3
            go_upto_region 10 with (with_reducible show wpList _ _ _ (⟨some 49, _, _, _, _, _⟩ :: _) _ _; go_must (refine wpList_newg (.tmp 46) (.tmp 48) el_held rfl rfl hro2 rfl rfl rfl rfl rfl hby hws2 ?_); intro v3 w3 hown3 hb5 hg3 ha3)
            have hby2 : (O2.length + 1) * 40 ≤ 140737488355328 := by omega
            have hown3' : w3.ownsRow (gb + 1) 29 4 v3 O2.length (hldCells O2) := by rw [hl2, HO2.out, hldCells_snoc]; exact hown3
            obtain ⟨k0, k1, k2, k3⟩ := keep4 hb5 (by omega) k0 k1 k2 k3
            have hbel3 := hbel2.trans hb5
            have hws3 := hbel3.size
            rw [hs1] at hws3
            go_wp2_with (first
              | (with_reducible show wpList _ _ _ (⟨some 56, _, _, _, _, _⟩ :: _) _ _; go_must (refine wpList_newg (.tmp 50) (.tmp 55) el_held rfl rfl hown3' rfl rfl rfl rfl rfl hby2 hws3 ?_); intro v4 w4 hown4 hb4 hg4 ha4))
            go_roundw
            case rel => exact ⟨i + 1, true, O2 ++ [x], hlq, by go_num, rfl, by rw [List.length_append, hldCells_snoc]; exact hown4, by simp; omega, HE2, Lib.hid (fun e => by cases e), hbel3.trans hb4⟩
            case measure => simp [intOf]; omega
        · have HE2 : Hid (PlEnd h L (i + 1) true (O ++ [x]) R) := Lib.hid (by unfold PlEnd; rw [HE.out, plP_past HX.out HS.out (.inl rfl), List.append_assoc]; rfl)
          go_quiet (fail)
          have hro2 := own_drewN hroN nq
          have hwsM : gb + 1 ≤ (wq.drewN nq).heap.size := hwsN
          go_wp2_with (first
            | (with_reducible show wpList _ _ _ (⟨some 56, _, _, _, _, _⟩ :: _) _ _; go_must (refine wpList_newg (.tmp 50) (.tmp 55) el_held rfl rfl hro2 rfl rfl rfl rfl rfl hby hwsM ?_); intro v4 w4 hown4 hb4 hg4 ha4))
          go_roundw
          case rel => exact ⟨i + 1, true, O ++ [x], hlq, by go_num, rfl, by rw [List.length_append, hldCells_snoc]; exact hown4, by simp; omega, HE2, Lib.hid (fun e => by cases e), (below_drewN hbelN _).trans hb4⟩
          case measure => simp [intOf]; omega
  · obtain rfl : i = n := by omega
    have HF : Hid (R = O ++ if dn = true then [] else [h]) := Lib.hid (by rw [← plP_end (l := L) (i := i) (by rw [HLN.out]; exact Nat.le_refl _)]; exact HE.out)
    rcases dn with _ | _
    · have hby : (O.length + 1) * 40 ≤ 140737488355328 := by omega
      have hro2 := hro
      go_wp2_with (first
        | (with_reducible show wpList _ _ _ (⟨some 62, _, _, _, _, _⟩ :: _) _ _; go_must (refine wpList_newg (.tmp 59) (.tmp 61) el_held rfl rfl hro rfl rfl rfl rfl rfl hby hws ?_); intro v4 w4 hown4 hb4 hg4 ha4))
      go_ret
      rw [HF.out, if_neg (by simp), List.length_append, hldCells_snoc, ← HGB.out]
      exact ⟨_, rfl, own_base hown4 (by omega), hb0.trans ((hbel.trans hb4).mono (by omega))⟩
    · go_wp2_with fail
      go_ret
      rw [show R = O from by simpa using HF.out, ← HGB.out]
      exact ⟨_, rfl, own_base hro (by omega), hb0.trans (hbel.mono (by omega))⟩
theorem place_put (A : Option Addr) (c n B : Nat) (L : List Hld) (h : Hld) (w : World) (hr : Rd w B 4 A n (hldCells L)) (hln : L.length = n) (hB : B ≤ w.heap.size) (hn : n ≤ 1000000) (hL : riseH L) :
    Calls Tryz.prog 7 #[.slice A n c, h.val, .bool true] w fun e w' => ∃ v, e = .returned v ∧ w'.ownsRow w.heap.size 29 4 v (hldPut h L).length (hldCells (hldPut h L)) ∧ Below w.heap.size w w' := by
  have := place_any A c n B L h true w hr hln hB hn
  rwa [Bool.not_true, plP_put h hL] at this
theorem place_off (A : Option Addr) (c n B : Nat) (L : List Hld) (h : Hld) (w : World) (hr : Rd w B 4 A n (hldCells L)) (hln : L.length = n) (hB : B ≤ w.heap.size) (hn : n ≤ 1000000) :
    Calls Tryz.prog 7 #[.slice A n c, h.val, .bool false] w fun e w' => ∃ v, e = .returned v ∧ w'.ownsRow w.heap.size 29 4 v (offH h.node h.key L).length (hldCells (offH h.node h.key L)) ∧ Below w.heap.size w w' := by
  have := place_any A c n B L h false w hr hln hB hn
  rwa [Bool.not_false, plP_done] at this
end Go.Proofs.YtcfijljagohmlaaGreatDoor
