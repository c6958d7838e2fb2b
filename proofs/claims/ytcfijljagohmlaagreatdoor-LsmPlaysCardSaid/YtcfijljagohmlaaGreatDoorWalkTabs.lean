/- WalkTab WalkTab2 in one text. -/
import Derived.Test.YtcfijljagohmlaaGreatDoorWalkSeal
import Derived.Test.YtcfijljagohmlaaGreatDoorPlainTab
import Derived.Test.YtcfijljagohmlaaGreatDoorErr
import Derived.Test.YtcfijljagohmlaaGreatDoorBase2
import Derived.Deep.RegionHeld3
import Derived.Deep.RegionWith
import Derived.Deep.DrawnRows
import Derived.BigQuiet
import Derived.WideLaws
import Derived.Deep.QuietTactic
import Derived.Test.YtcfijljagohmlaaGreatDoorWalkOpen
import Derived.Test.YtcfijljagohmlaaGreatDoorWalkSearch
import Derived.StillTailTactics
import Derived.Deep.CutBlock
import Derived.Deep.CutRange
/- The walks of table.entry and table.Build. -/
namespace Go.Proofs.YtcfijljagohmlaaGreatDoor
open Go.RowKit

set_option maxRecDepth 100000 in
set_option maxHeartbeats 1000000 in
theorem entry_any (e : Ent) (w : World) (h : e.Ok) :
    Calls Tryz.prog 99 #[e.val] w fun x w' => x = .returned (errV (entE e)) ∧ Below w.heap.size w w' := by
  obtain ⟨k1, k2⟩ := h
  by_cases h1 : 120 < e.key.size
  · have HE : Hid (errV (entE e) = .iface 86 (.int .i64 1)) := Lib.hid (by rw [entE, if_pos (.inl h1)]; rfl)
    rw [HE.out]
    go_enter Tryz.func99, Tryz.ntmps99
    unfold Ent.val
    go_wp2
    go_ret
    exact ⟨rfl, (Below.refl _ _).alloc (Nat.le_refl _) _⟩
  · by_cases h2 : 120 < e.value.size
    · have HE : Hid (errV (entE e) = .iface 86 (.int .i64 1)) := Lib.hid (by rw [entE, if_pos (.inr h2)]; rfl)
      rw [HE.out]
      go_enter Tryz.func99, Tryz.ntmps99
      unfold Ent.val
      go_wp2
      go_ret
      exact ⟨rfl, (Below.refl _ _).alloc (Nat.le_refl _) _⟩
    · rcases hd : e.dead
      · have HE : Hid (errV (entE e) = .nilIface) := Lib.hid (by rw [entE, if_neg (by omega), if_neg (by simp [hd])]; rfl)
        rw [HE.out]
        have hv : e.val = .agg #[.string e.key, .string e.value, .bool false] := by rw [Ent.val, hd]
        rw [hv]
        clear hv hd
        go_enter Tryz.func99, Tryz.ntmps99
        go_wp2
        go_ret
        exact ⟨rfl, (Below.refl _ _).alloc (Nat.le_refl _) _⟩
      · have hv : e.val = .agg #[.string e.key, .string e.value, .bool true] := by rw [Ent.val, hd]
        rw [hv]
        by_cases h3 : e.value.toList = []
        · have HE : Hid (errV (entE e) = .nilIface) := Lib.hid (by rw [entE, if_neg (by omega), if_neg (by simp [h3])]; rfl)
          rw [HE.out]
          have t1 : e.value.toList.isEmpty = true := by simp [h3]
          clear hv hd
          go_enter Tryz.func99, Tryz.ntmps99
          go_wp2
          go_ret
          exact ⟨rfl, (Below.refl _ _).alloc (Nat.le_refl _) _⟩
        · have HE : Hid (errV (entE e) = .iface 86 (.int .i64 3)) := Lib.hid (by rw [entE, if_neg (by omega), if_pos ⟨hd, h3⟩]; rfl)
          rw [HE.out]
          have t1 : e.value.toList.isEmpty = false := by simpa using h3
          clear hv hd
          go_enter Tryz.func99, Tryz.ntmps99
          go_wp2
          go_ret
          exact ⟨rfl, (Below.refl _ _).alloc (Nat.le_refl _) _⟩

theorem rd_one {w : World} {g : Nat} {t : TypeId} {u : Value} (h : Blk w g t #[u]) : Rd w (g + 1) 1 (some ⟨g, 0, none⟩) 1 [u] := by
  refine ⟨rfl, fun _ => ⟨_, rfl, by simp, fun j v hv => ?_⟩⟩
  rcases j with _ | j
  · obtain rfl : u = v := by simpa using hv
    exact h.cell 0
  · simp at hv
theorem bv1_one (n : Int) : ∀ u ∈ [Value.int .u8 n], u.oneCell' = true := by
  intro u hu
  obtain rfl : u = _ := by simpa using hu
  rfl
set_option maxRecDepth 100000 in
set_option maxHeartbeats 8000000 in
theorem build_any (A : Option Addr) (c B : Nat) (l : List Ent) (w : World) (hr : Rd w B 3 A l.length (entCells l)) (hB : B ≤ w.heap.size) (hok : ∀ r ∈ l, r.Ok) (hl : l.length ≤ 140737488355328) :
    Calls Tryz.prog 64 #[.slice A l.length c] w fun e w' => ∃ v, e = .returned (.tuple #[v, errV (entsE l)]) ∧ w'.ownsRow w.heap.size 5 1 v (tabB l).length ((tabB l).map bv) ∧ Below w.heap.size w w' := by
  obtain ⟨n, hn⟩ : ∃ n, n = l.length := ⟨_, rfl⟩
  have hsm := numB_le (n : Int)
  have Hn := Lib.hid hn
  rw [← hn] at hr hl ⊢
  clear hn
  by_cases hbig : 400 < n
  · go_enter Tryz.func64, Tryz.ntmps64
    go_wp2
    go_ret2
    have e1 := entsE_long (l := l) (by have := Hn.out; omega)
    exact ⟨_, by rw [e1]; rfl, by rw [tabB_bad e1 (by omega)]; exact World.ownsRow_nil _ _ _ _, Below.refl _ _⟩
  go_enter Tryz.func64, Tryz.ntmps64
  go_wp2_with (first | (go_at_call 83; refine (num_any _ _ (by omega) (by omega)).mono ?_; rintro e w1 ⟨v1, rfl, ho1, hb1⟩))
  go_loopw [4, 18] (fun b i wr => ∃ k : Nat, ∃ m : Nat, k ≤ n ∧ i = .int .i64 k ∧ m ≤ 10 + 261 * k ∧ Hid (entsGo none l = entsGo (prevE l k) (l.drop k)) ∧ wr.ownsRow w.heap.size 5 1 b m ((numB n).map bv ++ ((l.take k).flatMap entB).map bv) ∧ Below w.heap.size w wr) (fun _ i _ => n - (intOf i).toNat)
  case atStart => exact ⟨0, _, Nat.zero_le _, rfl, hsm, rfl, by simpa using ho1, hb1⟩
  case round =>
    obtain ⟨k, m, hk, rfl, hm, Hgo, hown, hbel⟩ := hrel
    have hbs := hbel.size
    by_cases hlt : k < n
    · obtain ⟨ad, r, rfl, hbk0, hx, g0, g1, g2⟩ := hr.ent_ hlt (Hn.out).symm hbel hB
      have hro := hok r (List.mem_of_getElem? hx)
      have Hx := Lib.hid hx
      clear hx
      have hvb : ∀ g, u4.ownBlock = some g → g ≠ wr.heap.size := fun g hg => by have := (hown.lt g hg).2; omega
      by_cases hrk : entE r = 0
      · have HR := Lib.hid hrk
        clear hrk
        obtain ⟨hk1, hk2, _⟩ := entE_good HR.out
        have hle1 := textB_le r.key 120 hk1
        have hle2 := textB_le r.value 120 hk2
        rcases k with _ | j
        · have HG := Lib.hid (Hgo.out.trans (ego_next0 Hx.out HR.out))
          simp only [Nat.zero_mul, Addr.add, if_true] at g0 g1 g2
          have HEV : Hid (errV (entE r) = .nilIface) := Lib.hid (by rw [HR.out]; rfl)
          go_wp2_with (first | (go_at_call 99; go_must (refine (entry_any r _ hro).mono ?_); rintro e w2 ⟨rfl, hb2⟩; rw [HEV.out]))
          have hbx := Blk.up (Blk.new wr 67 #[.string r.key, .string r.value, .bool r.dead]) hb2
          have hown2 := own_up (hown.alloc (.cells #[.string r.key, .string r.value, .bool r.dead] 67)) hb2
          have hbel2 := hbel.trans ((((Below.refl wr.heap.size wr).alloc (Nat.le_refl _) (.cells #[.string r.key, .string r.value, .bool r.dead] 67)).trans (hb2.mono (by simp))).mono hbs)
          clear hb2
          obtain ⟨gx, hgx⟩ : ∃ gx, gx = wr.heap.size := ⟨_, rfl⟩
          rw [← hgx] at hbx hvb ⊢
          clear hgx
          go_quiet (fail)
          have hown3 := own_drewN hown2 nq
          have hbx3 := hbx.drewN nq
          have hbel3 := below_drewN hbel2 nq
          generalize w2.drewN nq = w3 at *
          have hn3 := hvb
          have hm3 : ∀ g, u4.ownBlock = some g → g < w3.heap.size := fun g hg => (hown3.lt g hg).2
          clear hown hown2 hbx hbel2
          have hbs3 := hbel3.size
          have hl3 := hbx3.lt
          rcases hdd : r.dead
          · 
            have HDD := Lib.hid hdd
            have x2 := hbx3.cell 2
            simp only [hdd] at x2
            obtain ⟨x0, x1, x3⟩ := cells3 hbx3
            clear hdd
            go_wp2_with fail
            clear x0 x1 x2 x3
            go_region_held3 (fun w' => w'.cell? ⟨gx, 0, none⟩ = some (.string r.key) ∧ w'.cell? ⟨gx, 1, none⟩ = some (.string r.value) ∧ w'.cell? ⟨gx, 2, none⟩ = some (.bool r.dead)) (first | exact cells3 hbx8 | exact cells3 hbx7 | exact cells3 hbx6 | exact cells3 (hbx5.alloc _) | exact cells3 hbx5 | exact cells3 (hbx4.alloc _) | exact cells3 hbx4 | exact cells3 (hbx3.drew.alloc _) | exact cells3 hbx3)
              ((first
                | (go_at_call_of 84 (r.key); go_must (refine (text_any _ _ (by omega)).mono ?_); rintro e w4 ⟨v4, rfl, ho4, hb4⟩; have hl4 : w3.heap.size ≤ w4.heap.size := (by have h := hb4.size; first | exact h | (simp at h; omega)); have hc4 : Below w.heap.size w w4 := (by first | exact hbel3.drew.trans (hb4.mono hbs3) | exact (hbel3.drew.alloc hbs3 _).trans (hb4.mono (by simp; omega))); have hbx4 : Blk w4 gx 67 #[.string r.key, .string r.value, .bool r.dead] := (by first | exact Blk.up hbx3.drew hb4 | exact Blk.up (hbx3.drew.alloc _) hb4); have hown4 := (by first | exact own_up (own_drew hown3) hb4 | exact own_up ((own_drew hown3).alloc _) hb4 : w4.ownsRow _ _ _ _ _ _); (try (have hD4 := Blk.up (Blk.new w3.drew 5 #[.int .u8 0]) hb4)); obtain ⟨A4, c4, rfl, _, _, ha4, r4⟩ := own_form ho4)
                | (with_reducible show (if Region.wanted (⟨some 48, _, _, _, _, _⟩ : Oper) _ = true then _ else _); go_must (first | refine step_rd (.tmp 44) (.tmp 47) el_u8 rfl rfl hown4 rfl r4 rfl (bvs_one _) (by omega) hc4.size ?_ | refine step_rd (.tmp 44) (.tmp 47) el_u8 rfl rfl (hown4.alloc _) rfl (r4.alloc (Nat.le_refl _) _) rfl (bvs_one _) (by omega) (by have := hc4.size; simp; omega) ?_); intro v5 w5 hown5 hb5 hg5 ha5; have hl5 : w4.heap.size ≤ w5.heap.size := (by have h := hb5.size; first | exact h | (simp at h; omega)); have hc5 : Below w.heap.size w w5 := (by first | exact hc4.trans hb5 | exact (hc4.alloc hc4.size _).trans hb5); have hn5 := row_ne (g := gx) ha5 hn3 (by first | omega | (simp; omega)); have hbx5 : Blk w5 gx 67 #[.string r.key, .string r.value, .bool r.dead] := (by first | exact Blk.app hbx4 hg5 hn3 | exact Blk.app (hbx4.alloc _) hg5 hn3); (try (first | (have hD5 := Blk.app hD4 hg5 (fun g hg => by have := hm3 g hg; simp at this ⊢; omega)) | (have hD5 := Blk.app (Blk.new w4 5 #[.int .u8 0]) hg5 (fun g hg => by have := hm3 g hg; omega)))))
                | (with_reducible show (if Region.wanted (⟨some 51, _, _, _, _, _⟩ : Oper) _ = true then _ else _); go_must (first | refine step_new (.tmp 48) (.tmp 50) el_u8 rfl rfl hown5 rfl (m := 1) rfl rfl rfl (by omega) hc5.size ?_ | refine step_rd (.tmp 48) (.tmp 50) el_u8 rfl rfl hown5 rfl (rd_one hD5) rfl (bv1_one _) (by omega) hc5.size ?_); intro v6 w6 hown6 hb6 hg6 ha6; have hl6 := hb6.size; have hc6 := hc5.trans hb6; have hn6 := row_ne (g := gx) ha6 hn5 (by first | omega | (simp; omega)); have hbx6 := Blk.app hbx5 hg6 hn5)
                | (go_at_call_of 84 (r.value); go_must (refine (text_any _ _ (by omega)).mono ?_); rintro e w7 ⟨v7, rfl, ho7, hb7⟩; have hl7 : w6.heap.size ≤ w7.heap.size := hb7.size; have hc7 := hc6.trans (hb7.mono hc6.size); have hbx7 := Blk.up hbx6 hb7; have hown7 := own_up hown6 hb7; obtain ⟨A7, c7, rfl, _, _, ha7, r7⟩ := own_form ho7)
                | (with_reducible show (if Region.wanted (⟨some 55, _, _, _, _, _⟩ : Oper) _ = true then _ else _); go_must (refine step_rd (.tmp 51) (.tmp 54) el_u8 rfl rfl hown7 rfl r7 rfl (bvs_one _) (by omega) hc7.size ?_); intro v8 w8 hown8 hb8 hg8 ha8; have hc8 := hc7.trans hb8; have hbx8 := Blk.app hbx7 hg8 hn6)))
            all_goals
              go_wp2
              go_roundw
              case rel =>
                refine ⟨0 + 1, m + (textB r.key.data.toList).length + 1 + (textB r.value.data.toList).length, by omega, by go_num, by omega, HG.out, ?_, hc8⟩
                rw [ents_step Hx.out]
                have hd2 : [Value.int .u8 0] = [bv (deadB r.dead)] := by rw [HDD.out]; rfl
                have hown9 := hown8
                first | rw [show #[Value.int .u8 0].toList = [bv (deadB r.dead)] from hd2] at hown9 | rw [hd2] at hown9
                simpa only [List.append_assoc, List.map_append, List.map_cons, List.map_nil] using hown9
              case measure => simp [intOf]; omega
          · 
            have HDD := Lib.hid hdd
            have x2 := hbx3.cell 2
            simp only [hdd] at x2
            obtain ⟨x0, x1, x3⟩ := cells3 hbx3
            clear hdd
            go_wp2_with fail
            clear x0 x1 x2 x3
            go_region_held3 (fun w' => w'.cell? ⟨gx, 0, none⟩ = some (.string r.key) ∧ w'.cell? ⟨gx, 1, none⟩ = some (.string r.value) ∧ w'.cell? ⟨gx, 2, none⟩ = some (.bool r.dead)) (first | exact cells3 hbx8 | exact cells3 hbx7 | exact cells3 hbx6 | exact cells3 (hbx5.alloc _) | exact cells3 hbx5 | exact cells3 (hbx4.alloc _) | exact cells3 hbx4 | exact cells3 (hbx3.drew.alloc _) | exact cells3 hbx3)
              ((first
                | (go_at_call_of 84 (r.key); go_must (refine (text_any _ _ (by omega)).mono ?_); rintro e w4 ⟨v4, rfl, ho4, hb4⟩; have hl4 : w3.heap.size ≤ w4.heap.size := (by have h := hb4.size; first | exact h | (simp at h; omega)); have hc4 : Below w.heap.size w w4 := (by first | exact hbel3.drew.trans (hb4.mono hbs3) | exact (hbel3.drew.alloc hbs3 _).trans (hb4.mono (by simp; omega))); have hbx4 : Blk w4 gx 67 #[.string r.key, .string r.value, .bool r.dead] := (by first | exact Blk.up hbx3.drew hb4 | exact Blk.up (hbx3.drew.alloc _) hb4); have hown4 := (by first | exact own_up (own_drew hown3) hb4 | exact own_up ((own_drew hown3).alloc _) hb4 : w4.ownsRow _ _ _ _ _ _); (try (have hD4 := Blk.up (Blk.new w3.drew 5 #[.int .u8 1]) hb4)); obtain ⟨A4, c4, rfl, _, _, ha4, r4⟩ := own_form ho4)
                | (with_reducible show (if Region.wanted (⟨some 48, _, _, _, _, _⟩ : Oper) _ = true then _ else _); go_must (first | refine step_rd (.tmp 44) (.tmp 47) el_u8 rfl rfl hown4 rfl r4 rfl (bvs_one _) (by omega) hc4.size ?_ | refine step_rd (.tmp 44) (.tmp 47) el_u8 rfl rfl (hown4.alloc _) rfl (r4.alloc (Nat.le_refl _) _) rfl (bvs_one _) (by omega) (by have := hc4.size; simp; omega) ?_); intro v5 w5 hown5 hb5 hg5 ha5; have hl5 : w4.heap.size ≤ w5.heap.size := (by have h := hb5.size; first | exact h | (simp at h; omega)); have hc5 : Below w.heap.size w w5 := (by first | exact hc4.trans hb5 | exact (hc4.alloc hc4.size _).trans hb5); have hn5 := row_ne (g := gx) ha5 hn3 (by first | omega | (simp; omega)); have hbx5 : Blk w5 gx 67 #[.string r.key, .string r.value, .bool r.dead] := (by first | exact Blk.app hbx4 hg5 hn3 | exact Blk.app (hbx4.alloc _) hg5 hn3); (try (first | (have hD5 := Blk.app hD4 hg5 (fun g hg => by have := hm3 g hg; simp at this ⊢; omega)) | (have hD5 := Blk.app (Blk.new w4 5 #[.int .u8 1]) hg5 (fun g hg => by have := hm3 g hg; omega)))))
                | (with_reducible show (if Region.wanted (⟨some 51, _, _, _, _, _⟩ : Oper) _ = true then _ else _); go_must (first | refine step_new (.tmp 48) (.tmp 50) el_u8 rfl rfl hown5 rfl (m := 1) rfl rfl rfl (by omega) hc5.size ?_ | refine step_rd (.tmp 48) (.tmp 50) el_u8 rfl rfl hown5 rfl (rd_one hD5) rfl (bv1_one _) (by omega) hc5.size ?_); intro v6 w6 hown6 hb6 hg6 ha6; have hl6 := hb6.size; have hc6 := hc5.trans hb6; have hn6 := row_ne (g := gx) ha6 hn5 (by first | omega | (simp; omega)); have hbx6 := Blk.app hbx5 hg6 hn5)
                | (go_at_call_of 84 (r.value); go_must (refine (text_any _ _ (by omega)).mono ?_); rintro e w7 ⟨v7, rfl, ho7, hb7⟩; have hl7 : w6.heap.size ≤ w7.heap.size := hb7.size; have hc7 := hc6.trans (hb7.mono hc6.size); have hbx7 := Blk.up hbx6 hb7; have hown7 := own_up hown6 hb7; obtain ⟨A7, c7, rfl, _, _, ha7, r7⟩ := own_form ho7)
                | (with_reducible show (if Region.wanted (⟨some 55, _, _, _, _, _⟩ : Oper) _ = true then _ else _); go_must (refine step_rd (.tmp 51) (.tmp 54) el_u8 rfl rfl hown7 rfl r7 rfl (bvs_one _) (by omega) hc7.size ?_); intro v8 w8 hown8 hb8 hg8 ha8; have hc8 := hc7.trans hb8; have hbx8 := Blk.app hbx7 hg8 hn6)))
            all_goals
              go_wp2
              go_roundw
              case rel =>
                refine ⟨0 + 1, m + (textB r.key.data.toList).length + 1 + (textB r.value.data.toList).length, by omega, by go_num, by omega, HG.out, ?_, hc8⟩
                rw [ents_step Hx.out]
                have hd2 : [Value.int .u8 1] = [bv (deadB r.dead)] := by rw [HDD.out]; rfl
                have hown9 := hown8
                first | rw [show #[Value.int .u8 1].toList = [bv (deadB r.dead)] from hd2] at hown9 | rw [hd2] at hown9
                simpa only [List.append_assoc, List.map_append, List.map_cons, List.map_nil] using hown9
              case measure => simp [intOf]; omega
        · have HEV : Hid (errV (entE r) = .nilIface) := Lib.hid (by rw [HR.out]; rfl)
          go_wp2_with (first | (go_at_call 99; go_must (refine (entry_any r _ hro).mono ?_); rintro e w2 ⟨rfl, hb2⟩; rw [HEV.out]))
          have hbx := Blk.up (Blk.new wr 67 #[.string r.key, .string r.value, .bool r.dead]) hb2
          have hown2 := own_up (hown.alloc (.cells #[.string r.key, .string r.value, .bool r.dead] 67)) hb2
          have hbel2 := hbel.trans ((((Below.refl wr.heap.size wr).alloc (Nat.le_refl _) (.cells #[.string r.key, .string r.value, .bool r.dead] 67)).trans (hb2.mono (by simp))).mono hbs)
          clear hb2
          obtain ⟨gx, hgx⟩ : ∃ gx, gx = wr.heap.size := ⟨_, rfl⟩
          rw [← hgx] at hbx hvb ⊢
          clear hgx
          obtain ⟨ad', q, hq', hbq, hxq, p0, p1, p2⟩ := hr.ent_ (k := j) (by omega) (Hn.out).symm hbel2 hB
          injection hq' with hq'
          subst hq'
          have Hxq := Lib.hid hxq
          clear hxq
          have hi0 : (0 : Int) ≤ (j : Int) := by omega
          have hi1 : (j : Int) < (n : Int) := by omega
          have hi2 : IntKind.i64.wrap ((j : Int) + 1 - 1) = (j : Int) := by rw [IntWalk.i64_in _ (by omega)]; omega
          have hi3 : IntKind.i64.wrap (j : Int) = (j : Int) := IntWalk.i64_in _ (by omega)
          obtain ⟨x0, x1, x2⟩ := cells3 hbx
          rcases hcmp : keyLt q.key r.key
          · have HG := Lib.hid (Hgo.out.trans (ego_order Hxq.out Hx.out HR.out hcmp))
            have tc : (Op.bytesLess q.key.toList r.key.toList) = false := hcmp
            clear hcmp
            go_quiet (fail)
            go_wp2_with fail
            go_ret2
            have e1 := entsE_of (l := l) (by have := Hn.out; omega) HG.out
            exact ⟨_, by rw [e1]; rfl, by rw [tabB_bad e1 (by omega)]; exact World.ownsRow_nil _ _ _ _, below_drewN hbel2 _⟩
          · have HG := Lib.hid (Hgo.out.trans (ego_next Hxq.out Hx.out HR.out hcmp))
            have tc : (Op.bytesLess q.key.toList r.key.toList) = true := hcmp
            clear hcmp
            go_quiet (fail)
            have hown3 := own_drewN hown2 nq
            have hbx3 := hbx.drewN nq
            have hbel3 := below_drewN hbel2 nq
            generalize w2.drewN nq = w3 at *
            clear p0 p1 p2 hi2 hi3 x0 x1 x2 tc
            have hn3 := hvb
            have hm3 : ∀ g, u4.ownBlock = some g → g < w3.heap.size := fun g hg => (hown3.lt g hg).2
            clear hown hown2 hbx hbel2
            have hbs3 := hbel3.size
            have hl3 := hbx3.lt
            rcases hdd : r.dead
            · 
              have HDD := Lib.hid hdd
              have x2 := hbx3.cell 2
              simp only [hdd] at x2
              obtain ⟨x0, x1, x3⟩ := cells3 hbx3
              clear hdd
              go_wp2_with fail
              clear x0 x1 x2 x3
              go_region_held3 (fun w' => w'.cell? ⟨gx, 0, none⟩ = some (.string r.key) ∧ w'.cell? ⟨gx, 1, none⟩ = some (.string r.value) ∧ w'.cell? ⟨gx, 2, none⟩ = some (.bool r.dead)) (first | exact cells3 hbx8 | exact cells3 hbx7 | exact cells3 hbx6 | exact cells3 (hbx5.alloc _) | exact cells3 hbx5 | exact cells3 (hbx4.alloc _) | exact cells3 hbx4 | exact cells3 (hbx3.drew.alloc _) | exact cells3 hbx3)
                ((first
                  | (go_at_call_of 84 (r.key); go_must (refine (text_any _ _ (by omega)).mono ?_); rintro e w4 ⟨v4, rfl, ho4, hb4⟩; have hl4 : w3.heap.size ≤ w4.heap.size := (by have h := hb4.size; first | exact h | (simp at h; omega)); have hc4 : Below w.heap.size w w4 := (by first | exact hbel3.drew.trans (hb4.mono hbs3) | exact (hbel3.drew.alloc hbs3 _).trans (hb4.mono (by simp; omega))); have hbx4 : Blk w4 gx 67 #[.string r.key, .string r.value, .bool r.dead] := (by first | exact Blk.up hbx3.drew hb4 | exact Blk.up (hbx3.drew.alloc _) hb4); have hown4 := (by first | exact own_up (own_drew hown3) hb4 | exact own_up ((own_drew hown3).alloc _) hb4 : w4.ownsRow _ _ _ _ _ _); (try (have hD4 := Blk.up (Blk.new w3.drew 5 #[.int .u8 0]) hb4)); obtain ⟨A4, c4, rfl, _, _, ha4, r4⟩ := own_form ho4)
                  | (with_reducible show (if Region.wanted (⟨some 48, _, _, _, _, _⟩ : Oper) _ = true then _ else _); go_must (first | refine step_rd (.tmp 44) (.tmp 47) el_u8 rfl rfl hown4 rfl r4 rfl (bvs_one _) (by omega) hc4.size ?_ | refine step_rd (.tmp 44) (.tmp 47) el_u8 rfl rfl (hown4.alloc _) rfl (r4.alloc (Nat.le_refl _) _) rfl (bvs_one _) (by omega) (by have := hc4.size; simp; omega) ?_); intro v5 w5 hown5 hb5 hg5 ha5; have hl5 : w4.heap.size ≤ w5.heap.size := (by have h := hb5.size; first | exact h | (simp at h; omega)); have hc5 : Below w.heap.size w w5 := (by first | exact hc4.trans hb5 | exact (hc4.alloc hc4.size _).trans hb5); have hn5 := row_ne (g := gx) ha5 hn3 (by first | omega | (simp; omega)); have hbx5 : Blk w5 gx 67 #[.string r.key, .string r.value, .bool r.dead] := (by first | exact Blk.app hbx4 hg5 hn3 | exact Blk.app (hbx4.alloc _) hg5 hn3); (try (first | (have hD5 := Blk.app hD4 hg5 (fun g hg => by have := hm3 g hg; simp at this ⊢; omega)) | (have hD5 := Blk.app (Blk.new w4 5 #[.int .u8 0]) hg5 (fun g hg => by have := hm3 g hg; omega)))))
                  | (with_reducible show (if Region.wanted (⟨some 51, _, _, _, _, _⟩ : Oper) _ = true then _ else _); go_must (first | refine step_new (.tmp 48) (.tmp 50) el_u8 rfl rfl hown5 rfl (m := 1) rfl rfl rfl (by omega) hc5.size ?_ | refine step_rd (.tmp 48) (.tmp 50) el_u8 rfl rfl hown5 rfl (rd_one hD5) rfl (bv1_one _) (by omega) hc5.size ?_); intro v6 w6 hown6 hb6 hg6 ha6; have hl6 := hb6.size; have hc6 := hc5.trans hb6; have hn6 := row_ne (g := gx) ha6 hn5 (by first | omega | (simp; omega)); have hbx6 := Blk.app hbx5 hg6 hn5)
                  | (go_at_call_of 84 (r.value); go_must (refine (text_any _ _ (by omega)).mono ?_); rintro e w7 ⟨v7, rfl, ho7, hb7⟩; have hl7 : w6.heap.size ≤ w7.heap.size := hb7.size; have hc7 := hc6.trans (hb7.mono hc6.size); have hbx7 := Blk.up hbx6 hb7; have hown7 := own_up hown6 hb7; obtain ⟨A7, c7, rfl, _, _, ha7, r7⟩ := own_form ho7)
                  | (with_reducible show (if Region.wanted (⟨some 55, _, _, _, _, _⟩ : Oper) _ = true then _ else _); go_must (refine step_rd (.tmp 51) (.tmp 54) el_u8 rfl rfl hown7 rfl r7 rfl (bvs_one _) (by omega) hc7.size ?_); intro v8 w8 hown8 hb8 hg8 ha8; have hc8 := hc7.trans hb8; have hbx8 := Blk.app hbx7 hg8 hn6)))
              all_goals
                go_wp2
                go_roundw
                case rel =>
                  refine ⟨(j+1) + 1, m + (textB r.key.data.toList).length + 1 + (textB r.value.data.toList).length, by omega, by go_num, by omega, HG.out, ?_, hc8⟩
                  rw [ents_step Hx.out]
                  have hd2 : [Value.int .u8 0] = [bv (deadB r.dead)] := by rw [HDD.out]; rfl
                  have hown9 := hown8
                  first | rw [show #[Value.int .u8 0].toList = [bv (deadB r.dead)] from hd2] at hown9 | rw [hd2] at hown9
                  simpa only [List.append_assoc, List.map_append, List.map_cons, List.map_nil] using hown9
                case measure => simp [intOf]; omega
            · 
              have HDD := Lib.hid hdd
              have x2 := hbx3.cell 2
              simp only [hdd] at x2
              obtain ⟨x0, x1, x3⟩ := cells3 hbx3
              clear hdd
              go_wp2_with fail
              clear x0 x1 x2 x3
              go_region_held3 (fun w' => w'.cell? ⟨gx, 0, none⟩ = some (.string r.key) ∧ w'.cell? ⟨gx, 1, none⟩ = some (.string r.value) ∧ w'.cell? ⟨gx, 2, none⟩ = some (.bool r.dead)) (first | exact cells3 hbx8 | exact cells3 hbx7 | exact cells3 hbx6 | exact cells3 (hbx5.alloc _) | exact cells3 hbx5 | exact cells3 (hbx4.alloc _) | exact cells3 hbx4 | exact cells3 (hbx3.drew.alloc _) | exact cells3 hbx3)
                ((first
                  | (go_at_call_of 84 (r.key); go_must (refine (text_any _ _ (by omega)).mono ?_); rintro e w4 ⟨v4, rfl, ho4, hb4⟩; have hl4 : w3.heap.size ≤ w4.heap.size := (by have h := hb4.size; first | exact h | (simp at h; omega)); have hc4 : Below w.heap.size w w4 := (by first | exact hbel3.drew.trans (hb4.mono hbs3) | exact (hbel3.drew.alloc hbs3 _).trans (hb4.mono (by simp; omega))); have hbx4 : Blk w4 gx 67 #[.string r.key, .string r.value, .bool r.dead] := (by first | exact Blk.up hbx3.drew hb4 | exact Blk.up (hbx3.drew.alloc _) hb4); have hown4 := (by first | exact own_up (own_drew hown3) hb4 | exact own_up ((own_drew hown3).alloc _) hb4 : w4.ownsRow _ _ _ _ _ _); (try (have hD4 := Blk.up (Blk.new w3.drew 5 #[.int .u8 1]) hb4)); obtain ⟨A4, c4, rfl, _, _, ha4, r4⟩ := own_form ho4)
                  | (with_reducible show (if Region.wanted (⟨some 48, _, _, _, _, _⟩ : Oper) _ = true then _ else _); go_must (first | refine step_rd (.tmp 44) (.tmp 47) el_u8 rfl rfl hown4 rfl r4 rfl (bvs_one _) (by omega) hc4.size ?_ | refine step_rd (.tmp 44) (.tmp 47) el_u8 rfl rfl (hown4.alloc _) rfl (r4.alloc (Nat.le_refl _) _) rfl (bvs_one _) (by omega) (by have := hc4.size; simp; omega) ?_); intro v5 w5 hown5 hb5 hg5 ha5; have hl5 : w4.heap.size ≤ w5.heap.size := (by have h := hb5.size; first | exact h | (simp at h; omega)); have hc5 : Below w.heap.size w w5 := (by first | exact hc4.trans hb5 | exact (hc4.alloc hc4.size _).trans hb5); have hn5 := row_ne (g := gx) ha5 hn3 (by first | omega | (simp; omega)); have hbx5 : Blk w5 gx 67 #[.string r.key, .string r.value, .bool r.dead] := (by first | exact Blk.app hbx4 hg5 hn3 | exact Blk.app (hbx4.alloc _) hg5 hn3); (try (first | (have hD5 := Blk.app hD4 hg5 (fun g hg => by have := hm3 g hg; simp at this ⊢; omega)) | (have hD5 := Blk.app (Blk.new w4 5 #[.int .u8 1]) hg5 (fun g hg => by have := hm3 g hg; omega)))))
                  | (with_reducible show (if Region.wanted (⟨some 51, _, _, _, _, _⟩ : Oper) _ = true then _ else _); go_must (first | refine step_new (.tmp 48) (.tmp 50) el_u8 rfl rfl hown5 rfl (m := 1) rfl rfl rfl (by omega) hc5.size ?_ | refine step_rd (.tmp 48) (.tmp 50) el_u8 rfl rfl hown5 rfl (rd_one hD5) rfl (bv1_one _) (by omega) hc5.size ?_); intro v6 w6 hown6 hb6 hg6 ha6; have hl6 := hb6.size; have hc6 := hc5.trans hb6; have hn6 := row_ne (g := gx) ha6 hn5 (by first | omega | (simp; omega)); have hbx6 := Blk.app hbx5 hg6 hn5)
                  | (go_at_call_of 84 (r.value); go_must (refine (text_any _ _ (by omega)).mono ?_); rintro e w7 ⟨v7, rfl, ho7, hb7⟩; have hl7 : w6.heap.size ≤ w7.heap.size := hb7.size; have hc7 := hc6.trans (hb7.mono hc6.size); have hbx7 := Blk.up hbx6 hb7; have hown7 := own_up hown6 hb7; obtain ⟨A7, c7, rfl, _, _, ha7, r7⟩ := own_form ho7)
                  | (with_reducible show (if Region.wanted (⟨some 55, _, _, _, _, _⟩ : Oper) _ = true then _ else _); go_must (refine step_rd (.tmp 51) (.tmp 54) el_u8 rfl rfl hown7 rfl r7 rfl (bvs_one _) (by omega) hc7.size ?_); intro v8 w8 hown8 hb8 hg8 ha8; have hc8 := hc7.trans hb8; have hbx8 := Blk.app hbx7 hg8 hn6)))
              all_goals
                go_wp2
                go_roundw
                case rel =>
                  refine ⟨(j+1) + 1, m + (textB r.key.data.toList).length + 1 + (textB r.value.data.toList).length, by omega, by go_num, by omega, HG.out, ?_, hc8⟩
                  rw [ents_step Hx.out]
                  have hd2 : [Value.int .u8 1] = [bv (deadB r.dead)] := by rw [HDD.out]; rfl
                  have hown9 := hown8
                  first | rw [show #[Value.int .u8 1].toList = [bv (deadB r.dead)] from hd2] at hown9 | rw [hd2] at hown9
                  simpa only [List.append_assoc, List.map_append, List.map_cons, List.map_nil] using hown9
                case measure => simp [intOf]; omega
      · have HEV : Hid (errV (entE r) = .iface 86 (.int .i64 (entE r))) := Lib.hid (by rw [errV, if_neg hrk])
        have HR := Lib.hid hrk
        clear hrk
        go_wp2_with (first | (go_at_call 99; go_must (refine (entry_any r _ hro).mono ?_); rintro e w2 ⟨rfl, hb2⟩; rw [HEV.out]))
        have hbx := Blk.up (Blk.new wr 67 #[.string r.key, .string r.value, .bool r.dead]) hb2
        have hown2 := own_up (hown.alloc (.cells #[.string r.key, .string r.value, .bool r.dead] 67)) hb2
        have hbel2 := hbel.trans ((((Below.refl wr.heap.size wr).alloc (Nat.le_refl _) (.cells #[.string r.key, .string r.value, .bool r.dead] 67)).trans (hb2.mono (by simp))).mono hbs)
        clear hb2
        obtain ⟨gx, hgx⟩ : ∃ gx, gx = wr.heap.size := ⟨_, rfl⟩
        rw [← hgx] at hbx hvb ⊢
        clear hgx
        go_ret2
        have e1 := entsE_of (l := l) (by have := Hn.out; omega) (Hgo.out.trans (ego_bad Hx.out HR.out))
        exact ⟨_, by rw [e1, HEV.out]; rfl, by rw [tabB_bad e1 HR.out]; exact World.ownsRow_nil _ _ _ _, hbel2⟩
    · have e : k = n := by omega
      have e1 := entsE_of (l := l) (by have := Hn.out; omega) (Hgo.out.trans (by rw [List.drop_eq_nil_of_le (by have := Hn.out; omega), entsGo]))
      have hin : (numB n).map bv ++ ((l.take k).flatMap entB).map bv = (tabIn l).map bv := by
        rw [tabIn, List.map_append, ← Hn.out, List.take_of_length_le (by have := Hn.out; omega)]
      rw [hin] at hown
      have hle := tabIn_le e1
      have hown2 := own_b hown rfl
      obtain ⟨A1, c1, rfl, _, _, _, r1⟩ := own_form hown2
      have H1 := Lib.hid e1
      have hse := seal_any A1 c1 wr.heap.size (tabIn l) wr r1 (Nat.le_refl _) (by omega)
      have HSE := Lib.hid hse
      clear hse e1 hin hown hown2 r1 e
      generalize (tabIn l).length = q at *
      go_wp2_with (first
        | (go_at_call 100; go_must (refine HSE.out.mono ?_); rintro e w2 ⟨v2, rfl, ho2, hb2⟩))
      go_ret2
      refine ⟨_, by rw [H1.out]; rfl, ?_, below_up hbel hb2⟩
      rw [tabB_good H1.out]
      exact own_base ho2 hbs
end Go.Proofs.YtcfijljagohmlaaGreatDoor

/- The walk of table.Read. -/
namespace Go.Proofs.YtcfijljagohmlaaGreatDoor
open Go.RowKit

theorem openS_len {l i : List UInt8} {n : Nat} (h : openS l = some (i, n)) : i.length ≤ l.length := by
  unfold openS at h
  split at h
  · cases h
  · split at h
    · cases h
    · split at h
      · injection h with h
        injection h with h1 h2
        rw [← h1, List.length_take, List.length_drop]
        omega
      · cases h
theorem rdr_kept {w w' : World} {g : Nat} {A : Option Addr} {c : Nat} {l : List UInt8} {s : Option Nat} (h : Rdr w g A c l s) (hk : ∀ t cs, Blk w g t cs → Blk w' g t cs) : Rdr w' g A c l s := by
  rcases s with _ | a
  · obtain ⟨a, ha, hb⟩ := h
    exact ⟨a, ha, hk _ _ hb⟩
  · exact hk _ _ h
theorem rdr_lt {w : World} {g : Nat} {A : Option Addr} {c : Nat} {l : List UInt8} {s : Option Nat} (h : Rdr w g A c l s) : g < w.heap.size := by
  rcases s with _ | a
  · obtain ⟨a, ha, hb⟩ := h
    exact hb.lt
  · exact Blk.lt h
theorem rdr_err {w : World} {g : Nat} {A : Option Addr} {c : Nat} {l : List UInt8} {s : Option Nat} (h : Rdr w g A c l s) : w.cell? ⟨g, 2, none⟩ = some (errV (if s.isSome then 0 else 9)) := by
  rcases s with _ | a
  · obtain ⟨a, ha, hb⟩ := h
    exact hb.cell 2
  · exact Blk.cell h 2
section
variable {P : Program} {ops : Array Oper} {w : World} {Q : Act → Prop} {a : Act} {o : Oper} {rest : List Oper}
/- The goal is kept as 'W frame', W a variable: a term that is laid against 'wpStill .. (o :: rest) frame' is met by whnf, which runs the guards. -/
theorem still_start {l : List Oper} (h : ∀ W : Act → Prop, W = wpStill P ops w Q l → W a) : wpStill P ops w Q l a := h _ rfl
theorem still_skip {W0 : Act → Prop} (e : W0 = wpStill P ops w Q (o :: rest)) (hw : Region.wanted o (yielded ops a.tmps) = false) (h : ∀ W : Act → Prop, W = wpStill P ops w Q rest → W (a.put o.dst undef)) : W0 a := by
  subst e
  exact wpStill_step fun K hK => by rw [if_neg (by rw [hw]; exact Bool.false_ne_true)]; exact hK _ (h _ rfl)
theorem still_want {W0 : Act → Prop} (e : W0 = wpStill P ops w Q (o :: rest)) (hw : Region.wanted o (yielded ops a.tmps) = true) (h : ∀ W K : Act → Prop, W = wpStill P ops w Q rest → (∀ a, W a → K a) → o.still P a w K) : W0 a := by
  subst e
  exact wpStill_step fun K hK => by rw [if_pos hw]; exact h _ K rfl hK
theorem still_end {W0 : Act → Prop} (e : W0 = wpStill P ops w Q []) (h : Q a) : W0 a := by subst e; exact h
end
/-- Does the reader stand at a byte? -/
def atByte (l : List UInt8) (s : Option Nat) : Bool := match s with | none => false | some a => decide (a < l.length)

set_option maxRecDepth 100000 in
set_option maxHeartbeats 8000000 in
theorem readtab_any (A : Option Addr) (c B : Nat) (l : List UInt8) (w : World) (hr : Rd w B 1 A l.length (l.map bv)) (hB : B ≤ w.heap.size) (hl : l.length ≤ 140737488355328) (hc : l.length ≤ c) :
    Calls Tryz.prog 94 #[.slice A l.length c] w fun e w' => ∃ v, e = .returned (.tuple #[v, errV (rtE l)]) ∧
      w'.ownsRow w.heap.size 67 3 v ((readTab l).getD []).length (entCells ((readTab l).getD [])) ∧ Below w.heap.size w w' := by
  have ho := open_any A c B l w hr hB hl hc
  rcases hop : openS l with _ | ⟨i, m⟩
  · obtain ⟨e1, e2, e3⟩ := op_none hop
    rw [e1, e2, e3, show errV 9 = .iface 86 (.int .i64 9) from rfl] at ho
    have hN : readTab l = none := by rw [readTab, hop]
    have HN := Lib.hid hN
    have HO := Lib.hid ho
    clear ho hN hop e1 e2 e3
    generalize l.length = n at *
    go_enter Tryz.func94, Tryz.ntmps94
    go_wp2_with (first | (go_at_call 130; refine HO.out.mono ?_; rintro e w1 ⟨v1, rfl, ho1, hb1⟩))
    go_ret2
    refine ⟨_, by rw [rtE_none HN.out]; rfl, by rw [HN.out]; exact World.ownsRow_nil _ _ _ _, hb1⟩
  obtain ⟨e1, e2, e3⟩ := op_some hop
  rw [e1, e2, e3, show errV 0 = .nilIface from rfl] at ho
  have hil := openS_len hop
  by_cases hml : m = l.length
  · have hN : readTab l = readIn i := by rw [readTab, hop]; simp [hml]
    have HN := Lib.hid hN
    rw [hml] at ho
    have HO := Lib.hid ho
    clear ho hN hop e1 e2 e3 hml
    have hst : Stands i (some 0) := by intro a h; injection h with h; omega
    obtain ⟨hs0, hu0, hu1⟩ := uptoS_bd i 400 (some 0) hst (by omega)
    obtain ⟨N, hNN⟩ : ∃ N : Nat, (uptoS i 400 (some 0)).1 = (N : Int) := ⟨(uptoS i 400 (some 0)).1.toNat, by omega⟩
    obtain ⟨s0, hs0'⟩ : ∃ s0, s0 = (uptoS i 400 (some 0)).2 := ⟨_, rfl⟩
    have HR : Hid (readIn i = if endS i (entsS i N none s0).2 then some (entsS i N none s0).1 else none) := by rw [readIn, hNN, ← hs0', Int.toNat_natCast]; rfl
    rw [hNN] at hu0 hu1
    rw [← hs0'] at hs0
    have CU := fun (w0 : World) (g : Nat) (A1 : Option Addr) (c1 : Nat) (h : Rdr w0 g A1 c1 i (some 0)) (h2 : Rd w0 g 1 A1 i.length (i.map bv)) => rdupto_any g A1 c1 g i 400 (some 0) w0 h h2 (Nat.le_refl _) hst (by omega)
    simp only [hNN, ← hs0'] at CU
    have HCU := Lib.hid CU
    clear CU hNN hs0' hst
    obtain ⟨n, hn⟩ : ∃ n, n = l.length := ⟨_, rfl⟩
    rw [← hn] at HO hil hl hc hr ⊢
    have Hn := Lib.hid hn
    clear hn
    go_enter Tryz.func94, Tryz.ntmps94
    go_wp2_with fail
    refine HO.out.mono ?_
    rintro e w1 ⟨v1, rfl, ho1, hb1⟩
    obtain ⟨A1, c1, rfl, hic, hcm, _, r1⟩ := own_form ho1
    clear ho1
    have hr2 := (r1.alloc (Nat.le_refl _) (.cells #[.slice A1 i.length c1, .int .i64 0, .nilIface] 124))
    have hR2 : Rdr (w1.alloc (.cells #[.slice A1 i.length c1, .int .i64 0, .nilIface] 124)) w1.heap.size A1 c1 i (some 0) := Blk.new w1 _ _
    have hb2 := hb1.trans ((Below.refl w1.heap.size w1).alloc (Nat.le_refl _) (.cells #[.slice A1 i.length c1, .int .i64 0, .nilIface] 124) |>.mono hb1.size)
    have hws := hb1.size
    have hb12 := (Below.refl w1.heap.size w1).alloc (Nat.le_refl _) (.cells #[.slice A1 i.length c1, .int .i64 0, .nilIface] 124)
    have hrA := r1
    have hl2 : w1.heap.size + 1 ≤ (w1.alloc (.cells #[.slice A1 i.length c1, .int .i64 0, .nilIface] 124)).heap.size := by simp
    go_wp2_with fail
    generalize w1.alloc (.cells #[.slice A1 i.length c1, .int .i64 0, .nilIface] 124) = w2 at *
    obtain ⟨gr, hgr⟩ : ∃ gr, gr = w1.heap.size := ⟨_, rfl⟩
    rw [← hgr] at hr2 hR2 hws hl2 hb12 hrA ⊢
    have HGR := Lib.hid hgr
    clear hgr r1
    refine (HCU.out w2 gr A1 c1 hR2 hr2).mono ?_
    rintro e w3 ⟨hg3, rfl, hr3⟩
    have hb3 := below_only hb12 hg3 (Nat.le_refl _) (by omega)
    clear hr2
    have hla := hr3
    clear hR2 hb2 hl2 hg3
    have h3s : gr + 1 ≤ w3.heap.size := rdr_lt hr3
    go_wp2_with fail
    go_loopw [8, 30] (fun v j wr => ∃ k : Nat, ∃ s : Option Nat, ∃ acc : List Ent, k ≤ N ∧ acc.length ≤ k ∧ j = .int .i64 k ∧ Rdr wr gr A1 c1 i s ∧ Hid (Stands i s) ∧ Hid (Reads6 i N s0 acc k s) ∧
        wr.ownsRow (gr + 1) 67 3 v acc.length (entCells acc) ∧ Below gr w1 wr) (fun _ j _ => N - (intOf j).toNat)
    case atStart => exact ⟨0, s0, [], Nat.zero_le _, Nat.le_refl _, rfl, hr3, hs0, Reads6.start _ _ _, World.ownsRow_nil _ _ _ _, hb3⟩
    clear hr3 hb3 hla h3s
    obtain ⟨k, s, acc, hk, hacc, rfl, hrd, Hst, Hrs, hown, hbel⟩ := hrel
    have hrl := rdr_lt hrd
    have hrr := hrA.below hbel (Nat.le_refl _)
    by_cases hlt : k < N
    · obtain ⟨A', c', rfl, hA1, hA2, hA3, hA4⟩ := own_form hown
      obtain ⟨kb, s1, d, s2, vb, s3, e1, e2, e3, e4, h1, h2, h3, hkb, hvb⟩ := ent_parts i s Hst.out
      have C1 := rdtext_any gr A1 c1 gr i 120 s wr hrd hrr (Nat.le_refl _) Hst.out (by omega) (by omega) (by omega) hic
      have C3 := fun (w0 : World) (h : Rdr w0 gr A1 c1 i s2) (h2' : Rd w0 gr 1 A1 i.length (i.map bv)) => rdtext_any gr A1 c1 gr i 120 s2 w0 h h2' (Nat.le_refl _) h2 (by omega) (by omega) (by omega) hic
      simp only [e1] at C1
      simp only [e3] at C3
      have HC1 := Lib.hid C1
      have HC3 := Lib.hid C3
      have E2 := Lib.hid e2
      have E4 := Lib.hid e4
      have H1 := Lib.hid h1
      have H2 := Lib.hid h2
      have H3 := Lib.hid h3
      clear C1 C3 e1 e2 e3 e4 h1 h2 h3
      obtain ⟨kk, hkk⟩ : ∃ kk : ByteArray, kk = ⟨kb.toArray⟩ := ⟨_, rfl⟩
      obtain ⟨vv, hvv⟩ : ∃ vv : ByteArray, vv = ⟨vb.toArray⟩ := ⟨_, rfl⟩
      rw [← hkk] at HC1 E4
      rw [← hvv] at HC3 E4
      have hk120 : kk.size ≤ 120 := by rw [hkk]; exact hkb
      have hv120 : vv.size ≤ 120 := by rw [hvv]; exact hvb
      clear hkk hvv hkb hvb
      go_upto_region 9 with (first
        | (go_at_call 74; go_must (refine HC1.out.mono ?_); rintro e w4 ⟨hg4, rfl, hr4⟩; have hbel4 := hbel.trans (below_of_only hg4 (Nat.le_refl _) (by omega)); have hwn4 := own_only hown hg4 (by omega)))
      have hr5 := rdr_kept (w' := w4.alloc (.cells #[.string kk, .string ⟨#[]⟩, .bool false] 67)) hr4 (fun _ _ h => h.alloc _)
      have hbx5 := Blk.new w4 67 #[.string kk, .string ⟨#[]⟩, .bool false]
      have hwn5 := hwn4.alloc (.cells #[.string kk, .string ⟨#[]⟩, .bool false] 67)
      have hl4 := rdr_lt hr4
      have hbel5 := hbel4.alloc (Nat.le_of_lt hl4) (.cells #[.string kk, .string ⟨#[]⟩, .bool false] 67)
      have hl5 : w4.heap.size < (w4.alloc (.cells #[.string kk, .string ⟨#[]⟩, .bool false] 67)).heap.size := by simp
      generalize w4.alloc (.cells #[.string kk, .string ⟨#[]⟩, .bool false] 67) = w5 at *
      obtain ⟨ge, hge⟩ : ∃ ge, ge = w4.heap.size := ⟨_, rfl⟩
      have hgo : (Value.slice A' acc.length c').ownBlock ≠ some w4.heap.size := fun e => by have := (hwn4.lt _ e).2; omega
      have hgrw : ∀ g, (Value.slice A' acc.length c').ownBlock = some g → gr < g ∧ g < w4.heap.size := fun g hg => by have := hwn4.lt _ hg; omega
      rw [← hge] at hbx5 hl5 hl4 hgo hgrw ⊢
      clear hge hr4 hwn4 hbel4 hA4
      go_cut [43] from 31 to 92 (fun s43 wx => s43 = .bool (atByte i s1) ∧ w5 = wx)
      case first =>
        rcases s1 with _ | a
        · obtain ⟨a, ha, hbk⟩ := hr5
          have d1 := hbk.cell 1
          have d2 := hbk.cell 2
          simp [errV] at d1 d2
          by_cases hal : a < i.length
          · go_wp2_with fail
            go_meet
            exact ⟨rfl, rfl⟩
          · go_wp2_with fail
            go_meet
            exact ⟨rfl, rfl⟩
        · have hbk : Blk w5 gr 124 #[.slice A1 i.length c1, .int .i64 a, .nilIface] := hr5
          have d1 := hbk.cell 1
          have d2 := hbk.cell 2
          simp at d1 d2
          by_cases hal : a < i.length
          · go_wp2_with fail
            go_meet
            exact ⟨by simp [atByte, hal], rfl⟩
          · go_wp2_with fail
            go_meet
            exact ⟨by simp [atByte, hal], rfl⟩
      case rest =>
        obtain ⟨rfl, rfl⟩ := hcut
        go_upto_if 43 with fail
        go_cut [] from 31 to 92 (fun wx => Rdr wx gr A1 c1 i s2 ∧ Blk wx ge 67 #[.string kk, .string ⟨#[]⟩, .bool d] ∧ wx.ownsRow (gr + 1) 67 3 (.slice A' acc.length c') acc.length (entCells acc) ∧ Below gr w1 wx)
        case first =>
          rcases hT : atByte i s1
          · have hE : d = false ∧ s2 = s1 := by
              have h := E2.out
              rcases s1 with _ | a
              · simp [byteS] at h; exact ⟨h.1, h.2.symm⟩
              · have ha : ¬ a < i.length := by simpa [atByte] using hT
                simp [byteS, ha] at h
                exact ⟨h.1, h.2.symm⟩
            obtain ⟨rfl, rfl⟩ := hE
            clear hT
            go_wp2_with fail
            go_meet
            exact ⟨hr5, hbx5, hwn5, hbel5⟩
          · rcases s1 with _ | a
            · cases hT
            have hal : a < i.length := by simpa [atByte] using hT
            have hbk : Blk w5 gr 124 #[.slice A1 i.length c1, .int .i64 a, .nilIface] := hr5
            have hE := E2.out
            simp only [byteS, if_pos hal] at hE
            obtain ⟨ad, rfl, g0⟩ := (hrA.below hbel5 (Nat.le_refl _)).byte hal
            have hb256 := (i.getD a 0).toNat_lt
            obtain ⟨b, hb⟩ : ∃ b, b = (i.getD a 0).toNat := ⟨_, rfl⟩
            rw [← hb] at hE g0 hb256
            have HB := Lib.hid hb
            clear hb hT
            have d1 := hbk.cell 1
            have x2 := hbx5.cell 2
            have f2 := hbx5.frozen 2
            simp at d1 x2
            have ha0 : (0 : Int) ≤ (a : Int) := by omega
            have ha1 : (a : Int) < (i.length : Int) := by omega
            by_cases hb1 : b = 1
            · subst hb1
              obtain ⟨rfl, rfl⟩ : d = true ∧ s2 = some (a + 1) := by simp at hE; exact ⟨hE.1, hE.2.symm⟩
              go_upto_region 11 with fail
              have hbk6 := hbk.far (p := ⟨ge, 2, none⟩) (by simp; omega) (.bool true)
              have hbx6 := hbx5.set_ 2 (.bool true)
              have hwn6 := ownsRow_setCell_other hwn5 (a := ⟨ge, 2, none⟩) hgo (.bool true)
              have hbel6 := hbel5.setCell (p := ⟨ge, 2, none⟩) (by simp; omega) (.bool true)
              generalize w5.setCell ⟨ge, 2, none⟩ (.bool true) = w6 at *
              clear g0 d1 x2 f2
              obtain ⟨ad', e6, g0⟩ := (hrA.below hbel6 (Nat.le_refl _)).byte hal
              injection e6 with e6
              subst e6
              rw [← HB.out] at g0
              first | simp only [Int.natCast_one] at g0 | simp only [Int.natCast_zero] at g0 | skip
              have d1 := hbk6.cell 1
              have f1 := hbk6.frozen 1
              simp at d1
              go_wp2_with fail
              go_meet
              refine ⟨?_, ?_, ?_, ?_⟩
              · have h := hbk6.set_ 1 (.int .i64 ((a : Int) + 1))
                simpa [Rdr] using h
              · exact hbx6.far (p := ⟨gr, 1, none⟩) (by simp; omega) _
              · exact ownsRow_setCell_below hwn6 (a := ⟨gr, 1, none⟩) (by simp) _
              · exact hbel6.setCell (p := ⟨gr, 1, none⟩) (by simp) _
            by_cases hb2 : 1 < b
            · have hbe : (b == 1) = false := by simpa using hb1
              obtain ⟨rfl, rfl⟩ : d = false ∧ s2 = none := by simp [hbe, hb2] at hE; exact ⟨hE.1, hE.2.symm⟩
              have t0 : ((b : Int) == 1) = false := by simp; omega
              have t1 : decide ((1 : Int) < (b : Int)) = true := by simp; omega
              go_upto_region 11 with fail
              have hbk6 := hbk.far (p := ⟨ge, 2, none⟩) (by simp; omega) (.bool false)
              have hbx6 := hbx5.set_ 2 (.bool false)
              have hwn6 := ownsRow_setCell_other hwn5 (a := ⟨ge, 2, none⟩) hgo (.bool false)
              have hbel6 := hbel5.setCell (p := ⟨ge, 2, none⟩) (by simp; omega) (.bool false)
              generalize w5.setCell ⟨ge, 2, none⟩ (.bool false) = w6 at *
              clear g0 d1 x2 f2
              obtain ⟨ad', e6, g0⟩ := (hrA.below hbel6 (Nat.le_refl _)).byte hal
              injection e6 with e6
              subst e6
              rw [← HB.out] at g0
              first | simp only [Int.natCast_one] at g0 | simp only [Int.natCast_zero] at g0 | skip
              have d1 := hbk6.cell 1
              have f1 := hbk6.frozen 1
              simp at d1
              go_wp2_with fail
              refine (fail_any gr _ _ _ _ hbk6).mono ?_
              rintro e w7 ⟨rfl, hbk7, hg7⟩
              have e1 := hbk7.cell 1
              have e2 := hbk7.frozen 1
              simp at e1
              go_wp2_with fail
              go_meet
              refine ⟨⟨a + 1, hal, ?_⟩, ?_, ?_, ?_⟩
              · have h := hbk7.set_ 1 (.int .i64 ((a : Int) + 1))
                simpa using h
              · exact (hbx6.grown hg7 (by simp; omega)).far (p := ⟨gr, 1, none⟩) (by simp; omega) _
              · exact ownsRow_setCell_below (own_only hwn6 hg7 (by omega)) (a := ⟨gr, 1, none⟩) (by simp) _
              · exact (below_only hbel6 hg7 (Nat.le_refl _) (Nat.le_of_lt hbk6.lt)).setCell (p := ⟨gr, 1, none⟩) (by simp) _
            · have hb0 : b = 0 := by omega
              subst hb0
              obtain ⟨rfl, rfl⟩ : d = false ∧ s2 = some (a + 1) := by simp at hE; exact ⟨hE.1, hE.2.symm⟩
              go_upto_region 11 with fail
              have hbk6 := hbk.far (p := ⟨ge, 2, none⟩) (by simp; omega) (.bool false)
              have hbx6 := hbx5.set_ 2 (.bool false)
              have hwn6 := ownsRow_setCell_other hwn5 (a := ⟨ge, 2, none⟩) hgo (.bool false)
              have hbel6 := hbel5.setCell (p := ⟨ge, 2, none⟩) (by simp; omega) (.bool false)
              generalize w5.setCell ⟨ge, 2, none⟩ (.bool false) = w6 at *
              clear g0 d1 x2 f2
              obtain ⟨ad', e6, g0⟩ := (hrA.below hbel6 (Nat.le_refl _)).byte hal
              injection e6 with e6
              subst e6
              rw [← HB.out] at g0
              first | simp only [Int.natCast_one] at g0 | simp only [Int.natCast_zero] at g0 | skip
              have d1 := hbk6.cell 1
              have f1 := hbk6.frozen 1
              simp at d1
              go_wp2_with fail
              go_meet
              refine ⟨?_, ?_, ?_, ?_⟩
              · have h := hbk6.set_ 1 (.int .i64 ((a : Int) + 1))
                simpa [Rdr] using h
              · exact hbx6.far (p := ⟨gr, 1, none⟩) (by simp; omega) _
              · exact ownsRow_setCell_below hwn6 (a := ⟨gr, 1, none⟩) (by simp) _
              · exact hbel6.setCell (p := ⟨gr, 1, none⟩) (by simp) _
        case rest =>
          clear hr5 hbx5 hwn5 hbel5
          obtain ⟨hr5, hbx5, hwn5, hbel5⟩ := hcut
          have hOk : (⟨kk, vv, d⟩ : Ent).Ok := ⟨by show kk.size ≤ _; omega, by show vv.size ≤ _; omega⟩
          go_upto_region 15 with (first
            | (go_at_call 74; go_must (refine (HC3.out wc hr5 (hrA.below hbel5 (Nat.le_refl _))).mono ?_); rintro e w6 ⟨hg6, rfl, hr6⟩; have hbx6 := hbx5.grown hg6 (by simp; omega); have hwn6 := own_only hwn5 hg6 (by omega); have hbel6 := below_only hbel5 hg6 (Nat.le_refl _) (Nat.le_of_lt (rdr_lt hr5)); have x1 := hbx6.cell 1; have f1 := hbx6.frozen 1; simp at x1))
          have hr7 := rdr_kept (w' := w6.setCell ⟨ge, 1, none⟩ (.string vv)) hr6 (fun _ _ h => h.far (by simp; omega) _)
          have hbx7 := hbx6.set_ 1 (.string vv)
          rw [show (#[.string kk, .string ⟨#[]⟩, .bool d] : Array Value).setIfInBounds 1 (.string vv) = #[.string kk, .string vv, .bool d] from rfl] at hbx7
          have hwn7 := ownsRow_setCell_other hwn6 (a := ⟨ge, 1, none⟩) hgo (.string vv)
          have hbel7 := hbel6.setCell (p := ⟨ge, 1, none⟩) (by simp; omega) (.string vv)
          generalize w6.setCell ⟨ge, 1, none⟩ (.string vv) = w7 at *
          have h7s : gr ≤ w7.heap.size := Nat.le_of_lt (rdr_lt hr7)
          clear hr5 hbx5 hwn5 hbel5 hr6 hbx6 hwn6 hbel6 x1 f1 hg6
          rcases List.eq_nil_or_concat acc with rfl | ⟨ac0, q, rfl⟩
          · simp only [List.length_nil] at hwn7 hgo hgrw ⊢
            by_cases hE : entE ⟨kk, vv, d⟩ = 0
            · have HEV : Hid (errV (entE ⟨kk, vv, d⟩) = .nilIface) := Lib.hid (by rw [hE]; rfl)
              have HL : Hid (lookS (lastE ([] : List Ent)) ⟨kk, vv, d⟩ s3 = s3) := Lib.hid (by rw [lookS, if_neg (by simp [lastE, stuck, hE])])
              clear hE
              rcases s3 with _ | a3
              · as_aux_lemma =>
                have HWN := Lib.hid hwn7
                have HR7 := Lib.hid hr7
                have HB7 := Lib.hid hbx7
                have HOK := Lib.hid hOk
                have HGO := Lib.hid hgo
                have HGW := Lib.hid hgrw
                clear hwn7 hr7 hbx7 hOk hgo hgrw
                go_wp2_with fail
                refine wp_region_still_tail 15 (by kernel_rfl) (by kernel_rfl) ?_
                simp only [List.take_succ_cons, List.take_zero, List.drop_succ_cons, List.drop_zero]
                refine still_start (fun W hW => ?_)
                have HW := Lib.hid hW
                clear hW
                refine still_want HW.out (by rfl) (fun W K hW hK => ?_)
                clear HW
                have HK := Lib.hid hK
                have HW := Lib.hid hW
                clear hK hW
                go_simp
                refine HK.out _ ?_
                clear HK K
                refine still_want HW.out (by rfl) (fun W K hW hK => ?_)
                clear HW
                have HK := Lib.hid hK
                have HW := Lib.hid hW
                clear hK hW
                go_simp
                refine HK.out _ ?_
                clear HK K
                refine still_want HW.out (by rfl) (fun W K hW hK => ?_)
                clear HW
                have HK := Lib.hid hK
                have HW := Lib.hid hW
                clear hK hW
                go_simp
                refine HK.out _ ?_
                clear HK K
                refine still_skip HW.out (by kernel_rfl) (fun W hW => ?_)
                clear HW
                have HW := Lib.hid hW
                clear hW
                go_simp
                refine still_skip HW.out (by kernel_rfl) (fun W hW => ?_)
                clear HW
                have HW := Lib.hid hW
                clear hW
                go_simp
                refine still_skip HW.out (by kernel_rfl) (fun W hW => ?_)
                clear HW
                have HW := Lib.hid hW
                clear hW
                go_simp
                refine still_skip HW.out (by kernel_rfl) (fun W hW => ?_)
                clear HW
                have HW := Lib.hid hW
                clear hW
                go_simp
                refine still_skip HW.out (by kernel_rfl) (fun W hW => ?_)
                clear HW
                have HW := Lib.hid hW
                clear hW
                go_simp
                refine still_skip HW.out (by kernel_rfl) (fun W hW => ?_)
                clear HW
                have HW := Lib.hid hW
                clear hW
                go_simp
                refine still_skip HW.out (by kernel_rfl) (fun W hW => ?_)
                clear HW
                have HW := Lib.hid hW
                clear hW
                go_simp
                refine still_skip HW.out (by kernel_rfl) (fun W hW => ?_)
                clear HW
                have HW := Lib.hid hW
                clear hW
                go_simp
                refine still_skip HW.out (by kernel_rfl) (fun W hW => ?_)
                clear HW
                have HW := Lib.hid hW
                clear hW
                go_simp
                refine still_want HW.out (by rfl) (fun W K hW hK => ?_)
                clear HW
                have HK := Lib.hid hK
                have HW := Lib.hid hW
                clear hK hW
                go_simp
                refine HK.out _ ?_
                clear HK K
                refine still_want HW.out (by rfl) (fun W K hW hK => ?_)
                clear HW
                have HK := Lib.hid hK
                have HW := Lib.hid hW
                clear hK hW
                go_simp
                refine HK.out _ ?_
                clear HK K
                obtain ⟨x0, x1, x2⟩ := cells3 HB7.out
                refine still_want HW.out (by rfl) (fun W K hW hK => ?_)
                clear HW
                have HK := Lib.hid hK
                have HW := Lib.hid hW
                clear hK hW
                go_simp
                refine HK.out _ ?_
                clear HK K
                refine still_end HW.out ?_
                clear HW W
                change wpList _ _ _ _ _ w7.drew
                go_wp2_with (first
                  | (go_at_call 99; go_must (refine (entry_any ⟨kk, vv, d⟩ _ HOK.out).mono ?_); rintro e w8 ⟨rfl, hb8⟩; rw [HEV.out]; have hbx8 := Blk.up HB7.out.drew hb8; have hwn8 := own_up (own_drew HWN.out) hb8; have hbel8 := hbel7.drew.trans (hb8.mono h7s); have hr8 := rdr_kept (w' := w8) HR7.out (fun _ _ h => Blk.up h.drew hb8); clear x0 x1 x2; obtain ⟨x0, x1, x2⟩ := cells3 hbx8; have d2 := rdr_err hr8; simp only [Option.isSome, Bool.false_eq_true, if_false, errV, Nat.reduceEqDiff] at d2)
                  | (go_at_call 77; go_must (refine (rdend_any gr A1 c1 i none _ hr8 (by intro _ h; cases h)).mono ?_); rintro e wa ⟨hga, rfl⟩; rw [show errV (if endS i none = true then 0 else 9) = .iface 86 (.int .i64 9) from rfl]))
                go_ret2
                have hN2 : readTab l = none := by rw [HN.out, HR.out, Hrs.out.bad hlt E4.out HL.out]; rfl
                rw [rtE_none hN2, hN2]
                exact ⟨_, by rfl, World.ownsRow_nil _ _ _ _, hb1.trans ((hbel8.trans (below_of_only hga (Nat.le_refl _) (Nat.le_of_lt (rdr_lt hr8)))).mono hws)⟩
              · as_aux_lemma =>
                have HWN := Lib.hid hwn7
                have HR7 := Lib.hid hr7
                have HB7 := Lib.hid hbx7
                have HOK := Lib.hid hOk
                have HGO := Lib.hid hgo
                have HGW := Lib.hid hgrw
                clear hwn7 hr7 hbx7 hOk hgo hgrw
                go_wp2_with fail
                refine wp_region_still_tail 15 (by kernel_rfl) (by kernel_rfl) ?_
                simp only [List.take_succ_cons, List.take_zero, List.drop_succ_cons, List.drop_zero]
                refine still_start (fun W hW => ?_)
                have HW := Lib.hid hW
                clear hW
                refine still_want HW.out (by rfl) (fun W K hW hK => ?_)
                clear HW
                have HK := Lib.hid hK
                have HW := Lib.hid hW
                clear hK hW
                go_simp
                refine HK.out _ ?_
                clear HK K
                refine still_want HW.out (by rfl) (fun W K hW hK => ?_)
                clear HW
                have HK := Lib.hid hK
                have HW := Lib.hid hW
                clear hK hW
                go_simp
                refine HK.out _ ?_
                clear HK K
                refine still_want HW.out (by rfl) (fun W K hW hK => ?_)
                clear HW
                have HK := Lib.hid hK
                have HW := Lib.hid hW
                clear hK hW
                go_simp
                refine HK.out _ ?_
                clear HK K
                refine still_skip HW.out (by kernel_rfl) (fun W hW => ?_)
                clear HW
                have HW := Lib.hid hW
                clear hW
                go_simp
                refine still_skip HW.out (by kernel_rfl) (fun W hW => ?_)
                clear HW
                have HW := Lib.hid hW
                clear hW
                go_simp
                refine still_skip HW.out (by kernel_rfl) (fun W hW => ?_)
                clear HW
                have HW := Lib.hid hW
                clear hW
                go_simp
                refine still_skip HW.out (by kernel_rfl) (fun W hW => ?_)
                clear HW
                have HW := Lib.hid hW
                clear hW
                go_simp
                refine still_skip HW.out (by kernel_rfl) (fun W hW => ?_)
                clear HW
                have HW := Lib.hid hW
                clear hW
                go_simp
                refine still_skip HW.out (by kernel_rfl) (fun W hW => ?_)
                clear HW
                have HW := Lib.hid hW
                clear hW
                go_simp
                refine still_skip HW.out (by kernel_rfl) (fun W hW => ?_)
                clear HW
                have HW := Lib.hid hW
                clear hW
                go_simp
                refine still_skip HW.out (by kernel_rfl) (fun W hW => ?_)
                clear HW
                have HW := Lib.hid hW
                clear hW
                go_simp
                refine still_skip HW.out (by kernel_rfl) (fun W hW => ?_)
                clear HW
                have HW := Lib.hid hW
                clear hW
                go_simp
                refine still_want HW.out (by rfl) (fun W K hW hK => ?_)
                clear HW
                have HK := Lib.hid hK
                have HW := Lib.hid hW
                clear hK hW
                go_simp
                refine HK.out _ ?_
                clear HK K
                refine still_want HW.out (by rfl) (fun W K hW hK => ?_)
                clear HW
                have HK := Lib.hid hK
                have HW := Lib.hid hW
                clear hK hW
                go_simp
                refine HK.out _ ?_
                clear HK K
                obtain ⟨x0, x1, x2⟩ := cells3 HB7.out
                refine still_want HW.out (by rfl) (fun W K hW hK => ?_)
                clear HW
                have HK := Lib.hid hK
                have HW := Lib.hid hW
                clear hK hW
                go_simp
                refine HK.out _ ?_
                clear HK K
                refine still_end HW.out ?_
                clear HW W
                change wpList _ _ _ _ _ w7.drew
                go_wp2_with (first
                  | (go_at_call 99; go_must (refine (entry_any ⟨kk, vv, d⟩ _ HOK.out).mono ?_); rintro e w8 ⟨rfl, hb8⟩; rw [HEV.out]; have hbx8 := Blk.up HB7.out.drew hb8; have hwn8 := own_up (own_drew HWN.out) hb8; have hbel8 := hbel7.drew.trans (hb8.mono h7s); have hr8 := rdr_kept (w' := w8) HR7.out (fun _ _ h => Blk.up h.drew hb8); clear x0 x1 x2; obtain ⟨x0, x1, x2⟩ := cells3 hbx8; have d2 := rdr_err hr8; simp only [Option.isSome, if_true, errV] at d2)
                  | (with_reducible show wpList _ _ _ (⟨some 91, _, _, _, _, _⟩ :: _) _ _; go_must (refine wpList_newg (.tmp 88) (.tmp 90) el_ent rfl rfl hwn8 rfl rfl (by simp) rfl rfl (by omega) (by have := hbel8.size; have := rdr_lt hr8; omega) ?_); intro v9 w9 ho9 hb9 hg9 ha9))
                go_roundw
                case rel =>
                  refine ⟨k + 1, some a3, [⟨kk, vv, d⟩], by omega, by simp, by go_num, ?_, H3.out, Hrs.out.step hlt E4.out HL.out, ?_, ?_⟩
                  · exact rdr_kept hr8 fun t cs h => h.grown hg9 fun e => by have := (hwn8.lt _ e.symm).1; omega
                  · simpa [entCells, Ent.cells] using ho9
                  · exact hbel8.trans (hb9.mono (by omega))
                case measure => simp [intOf]; omega
            · have HEV : Hid (errV (entE ⟨kk, vv, d⟩) = .iface 86 (.int .i64 (entE ⟨kk, vv, d⟩))) := Lib.hid (by rw [errV, if_neg hE])
              have HL : Hid (lookS (lastE ([] : List Ent)) ⟨kk, vv, d⟩ s3 = none) := Lib.hid (by rw [lookS, if_pos (.inr hE)])
              clear hE
              as_aux_lemma =>
                have HWN := Lib.hid hwn7
                have HR7 := Lib.hid hr7
                have HB7 := Lib.hid hbx7
                have HOK := Lib.hid hOk
                have HGO := Lib.hid hgo
                have HGW := Lib.hid hgrw
                clear hwn7 hr7 hbx7 hOk hgo hgrw
                go_wp2_with fail
                refine wp_region_still_tail 15 (by kernel_rfl) (by kernel_rfl) ?_
                simp only [List.take_succ_cons, List.take_zero, List.drop_succ_cons, List.drop_zero]
                refine still_start (fun W hW => ?_)
                have HW := Lib.hid hW
                clear hW
                refine still_want HW.out (by rfl) (fun W K hW hK => ?_)
                clear HW
                have HK := Lib.hid hK
                have HW := Lib.hid hW
                clear hK hW
                go_simp
                refine HK.out _ ?_
                clear HK K
                refine still_want HW.out (by rfl) (fun W K hW hK => ?_)
                clear HW
                have HK := Lib.hid hK
                have HW := Lib.hid hW
                clear hK hW
                go_simp
                refine HK.out _ ?_
                clear HK K
                refine still_want HW.out (by rfl) (fun W K hW hK => ?_)
                clear HW
                have HK := Lib.hid hK
                have HW := Lib.hid hW
                clear hK hW
                go_simp
                refine HK.out _ ?_
                clear HK K
                refine still_skip HW.out (by kernel_rfl) (fun W hW => ?_)
                clear HW
                have HW := Lib.hid hW
                clear hW
                go_simp
                refine still_skip HW.out (by kernel_rfl) (fun W hW => ?_)
                clear HW
                have HW := Lib.hid hW
                clear hW
                go_simp
                refine still_skip HW.out (by kernel_rfl) (fun W hW => ?_)
                clear HW
                have HW := Lib.hid hW
                clear hW
                go_simp
                refine still_skip HW.out (by kernel_rfl) (fun W hW => ?_)
                clear HW
                have HW := Lib.hid hW
                clear hW
                go_simp
                refine still_skip HW.out (by kernel_rfl) (fun W hW => ?_)
                clear HW
                have HW := Lib.hid hW
                clear hW
                go_simp
                refine still_skip HW.out (by kernel_rfl) (fun W hW => ?_)
                clear HW
                have HW := Lib.hid hW
                clear hW
                go_simp
                refine still_skip HW.out (by kernel_rfl) (fun W hW => ?_)
                clear HW
                have HW := Lib.hid hW
                clear hW
                go_simp
                refine still_skip HW.out (by kernel_rfl) (fun W hW => ?_)
                clear HW
                have HW := Lib.hid hW
                clear hW
                go_simp
                refine still_skip HW.out (by kernel_rfl) (fun W hW => ?_)
                clear HW
                have HW := Lib.hid hW
                clear hW
                go_simp
                refine still_want HW.out (by rfl) (fun W K hW hK => ?_)
                clear HW
                have HK := Lib.hid hK
                have HW := Lib.hid hW
                clear hK hW
                go_simp
                refine HK.out _ ?_
                clear HK K
                refine still_want HW.out (by rfl) (fun W K hW hK => ?_)
                clear HW
                have HK := Lib.hid hK
                have HW := Lib.hid hW
                clear hK hW
                go_simp
                refine HK.out _ ?_
                clear HK K
                obtain ⟨x0, x1, x2⟩ := cells3 HB7.out
                refine still_want HW.out (by rfl) (fun W K hW hK => ?_)
                clear HW
                have HK := Lib.hid hK
                have HW := Lib.hid hW
                clear hK hW
                go_simp
                refine HK.out _ ?_
                clear HK K
                refine still_end HW.out ?_
                clear HW W
                change wpList _ _ _ _ _ w7.drew
                go_wp2_with (first
                  | (go_at_call 99; go_must (refine (entry_any ⟨kk, vv, d⟩ _ HOK.out).mono ?_); rintro e w8 ⟨rfl, hb8⟩; rw [HEV.out]; have hbx8 := Blk.up HB7.out.drew hb8; have hwn8 := own_up (own_drew HWN.out) hb8; have hbel8 := hbel7.drew.trans (hb8.mono h7s); have hr8 := rdr_kept (w' := w8) HR7.out (fun _ _ h => Blk.up h.drew hb8); clear x0 x1 x2; obtain ⟨x0, x1, x2⟩ := cells3 hbx8)
                  | (go_at_call 76; go_must (refine (rdfail_any gr A1 c1 i s3 _ hr8 H3.out).mono ?_); rintro e w9 ⟨hg9, rfl, hr9⟩; have d2 := rdr_err hr9; simp only [Option.isSome, Bool.false_eq_true, if_false, errV, Nat.reduceEqDiff] at d2; have hbel9 := hbel8.trans (below_of_only hg9 (Nat.le_refl _) (Nat.le_of_lt (rdr_lt hr8))))
                  | (go_at_call 77; go_must (refine (rdend_any gr A1 c1 i none _ hr9 (by intro _ h; cases h)).mono ?_); rintro e wa ⟨hga, rfl⟩; rw [show errV (if endS i none = true then 0 else 9) = .iface 86 (.int .i64 9) from rfl]))
                go_ret2
                have hN2 : readTab l = none := by rw [HN.out, HR.out, Hrs.out.bad hlt E4.out HL.out]; rfl
                rw [rtE_none hN2, hN2]
                exact ⟨_, by rfl, World.ownsRow_nil _ _ _ _, hb1.trans ((hbel9.trans (below_of_only hga (Nat.le_refl _) (Nat.le_of_lt (rdr_lt hr9)))).mono hws)⟩
          · rw [List.concat_eq_append] at *
            have hlen : (ac0 ++ [q]).length = ac0.length + 1 := by simp
            obtain ⟨j, hj⟩ : ∃ j, j = ac0.length := ⟨_, rfl⟩
            obtain ⟨nn, hnn⟩ : ∃ nn, nn = (ac0 ++ [q]).length := ⟨_, rfl⟩
            have hnj : nn = j + 1 := by rw [hnn, hlen, hj]
            rw [← hnn] at hwn7 hacc hgo hgrw ⊢
            obtain ⟨ad, q', hq', hbq, hxq, p0, p1, p2⟩ := (own_rd hwn7).ent_ (k := j) (by omega) hnn.symm (Below.refl w7.heap.size w7) (Nat.le_refl _)
            subst hq'
            have hqq : q' = q := by rw [hj] at hxq; simpa using hxq.symm
            subst hqq
            have HNN := Lib.hid hnn
            have hi0 : (0 : Int) ≤ (j : Int) := by omega
            have hi1 : (j : Int) < (nn : Int) := by omega
            have hi2 : IntKind.i64.wrap ((nn : Int) - 1) = (j : Int) := by rw [IntWalk.i64_in _ (by omega)]; omega
            have hi3 : IntKind.i64.wrap (j : Int) = (j : Int) := IntWalk.i64_in _ (by omega)
            have hi4 : (0 : Int) < (nn : Int) := by omega
            have hi5 : 0 < nn := by omega
            clear hxq hnn hnj hj hlen p1 p2
            rcases hcmp : keyLt q'.key kk
            · have tc : Op.bytesLess q'.key.toList kk.toList = false := hcmp
              have HL : Hid (lookS (lastE (ac0 ++ [q'])) ⟨kk, vv, d⟩ s3 = none) := Lib.hid (by rw [lookS, if_pos (.inl (by rw [lastE_snoc]; simp [stuck, hcmp]))])
              clear hcmp
              as_aux_lemma =>
                have HWN := Lib.hid hwn7
                have HR7 := Lib.hid hr7
                have HB7 := Lib.hid hbx7
                have HOK := Lib.hid hOk
                have HGO := Lib.hid hgo
                have HGW := Lib.hid hgrw
                have x0 := (cells3 hbx7).1
                clear hwn7 hr7 hbx7 hOk hgo hgrw
                go_wp2_with fail
                refine wp_region_still_tail 15 (by kernel_rfl) (by kernel_rfl) ?_
                simp only [List.take_succ_cons, List.take_zero, List.drop_succ_cons, List.drop_zero]
                refine still_start (fun W hW => ?_)
                have HW := Lib.hid hW
                clear hW
                refine still_want HW.out (by rfl) (fun W K hW hK => ?_)
                clear HW
                have HK := Lib.hid hK
                have HW := Lib.hid hW
                clear hK hW
                go_simp
                refine HK.out _ ?_
                clear HK K
                refine still_want HW.out (by rfl) (fun W K hW hK => ?_)
                clear HW
                have HK := Lib.hid hK
                have HW := Lib.hid hW
                clear hK hW
                go_simp
                refine HK.out _ ?_
                clear HK K
                refine still_want HW.out (by rfl) (fun W K hW hK => ?_)
                clear HW
                have HK := Lib.hid hK
                have HW := Lib.hid hW
                clear hK hW
                go_simp
                refine HK.out _ ?_
                clear HK K
                refine still_want HW.out (by rfl) (fun W K hW hK => ?_)
                clear HW
                have HK := Lib.hid hK
                have HW := Lib.hid hW
                clear hK hW
                go_simp
                refine HK.out _ ?_
                clear HK K
                refine still_want HW.out (by rfl) (fun W K hW hK => ?_)
                clear HW
                have HK := Lib.hid hK
                have HW := Lib.hid hW
                clear hK hW
                go_simp
                refine HK.out _ ?_
                clear HK K
                refine still_want HW.out (by rfl) (fun W K hW hK => ?_)
                clear HW
                have HK := Lib.hid hK
                have HW := Lib.hid hW
                clear hK hW
                go_simp
                refine HK.out _ ?_
                clear HK K
                refine still_want HW.out (by rfl) (fun W K hW hK => ?_)
                clear HW
                have HK := Lib.hid hK
                have HW := Lib.hid hW
                clear hK hW
                go_simp
                refine HK.out _ ?_
                clear HK K
                refine still_want HW.out (by rfl) (fun W K hW hK => ?_)
                clear HW
                have HK := Lib.hid hK
                have HW := Lib.hid hW
                clear hK hW
                go_simp
                refine HK.out _ ?_
                clear HK K
                refine still_want HW.out (by rfl) (fun W K hW hK => ?_)
                clear HW
                have HK := Lib.hid hK
                have HW := Lib.hid hW
                clear hK hW
                go_simp
                refine HK.out _ ?_
                clear HK K
                refine still_want HW.out (by rfl) (fun W K hW hK => ?_)
                clear HW
                have HK := Lib.hid hK
                have HW := Lib.hid hW
                clear hK hW
                go_simp
                refine HK.out _ ?_
                clear HK K
                refine still_want HW.out (by rfl) (fun W K hW hK => ?_)
                clear HW
                have HK := Lib.hid hK
                have HW := Lib.hid hW
                clear hK hW
                go_simp
                refine HK.out _ ?_
                clear HK K
                refine still_want HW.out (by rfl) (fun W K hW hK => ?_)
                clear HW
                have HK := Lib.hid hK
                have HW := Lib.hid hW
                clear hK hW
                go_simp
                refine HK.out _ ?_
                clear HK K
                refine still_want HW.out (by rfl) (fun W K hW hK => ?_)
                clear HW
                have HK := Lib.hid hK
                have HW := Lib.hid hW
                clear hK hW
                go_simp
                refine HK.out _ ?_
                clear HK K
                refine still_want HW.out (by rfl) (fun W K hW hK => ?_)
                clear HW
                have HK := Lib.hid hK
                have HW := Lib.hid hW
                clear hK hW
                go_simp
                refine HK.out _ ?_
                clear HK K
                clear x0
                obtain ⟨x0, x1, x2⟩ := cells3 HB7.out
                refine still_skip HW.out (by kernel_rfl) (fun W hW => ?_)
                clear HW
                have HW := Lib.hid hW
                clear hW
                go_simp
                refine still_end HW.out ?_
                clear HW W
                change wpList _ _ _ _ _ w7.drew
                have hr8 := rdr_kept (w' := w7.drew) HR7.out (fun _ _ h => h.drew)
                have hbel8 := hbel7.drew
                go_wp2_with (first
                  | (go_at_call 76; go_must (refine (rdfail_any gr A1 c1 i s3 _ hr8 H3.out).mono ?_); rintro e w9 ⟨hg9, rfl, hr9⟩; have d2 := rdr_err hr9; simp only [Option.isSome, Bool.false_eq_true, if_false, errV, Nat.reduceEqDiff] at d2; have hbel9 := hbel8.trans (below_of_only hg9 (Nat.le_refl _) (Nat.le_of_lt (rdr_lt hr8))))
                  | (go_at_call 77; go_must (refine (rdend_any gr A1 c1 i none _ hr9 (by intro _ h; cases h)).mono ?_); rintro e wa ⟨hga, rfl⟩; rw [show errV (if endS i none = true then 0 else 9) = .iface 86 (.int .i64 9) from rfl]))
                go_ret2
                have hN2 : readTab l = none := by rw [HN.out, HR.out, Hrs.out.bad hlt E4.out HL.out]; rfl
                rw [rtE_none hN2, hN2]
                exact ⟨_, by rfl, World.ownsRow_nil _ _ _ _, hb1.trans ((hbel9.trans (below_of_only hga (Nat.le_refl _) (Nat.le_of_lt (rdr_lt hr9)))).mono hws)⟩
            · have tc : Op.bytesLess q'.key.toList kk.toList = true := hcmp
              have hst : stuck (lastE (ac0 ++ [q'])) ⟨kk, vv, d⟩ = false := by rw [lastE_snoc]; simp [stuck, hcmp]
              clear hcmp
              by_cases hE : entE ⟨kk, vv, d⟩ = 0
              · have HEV : Hid (errV (entE ⟨kk, vv, d⟩) = .nilIface) := Lib.hid (by rw [hE]; rfl)
                have HL : Hid (lookS (lastE (ac0 ++ [q'])) ⟨kk, vv, d⟩ s3 = s3) := Lib.hid (by rw [lookS, if_neg (by simp [hst, hE])])
                clear hE hst
                rcases s3 with _ | a3
                · as_aux_lemma =>
                  have HWN := Lib.hid hwn7
                  have HR7 := Lib.hid hr7
                  have HB7 := Lib.hid hbx7
                  have HOK := Lib.hid hOk
                  have HGO := Lib.hid hgo
                  have HGW := Lib.hid hgrw
                  have x0 := (cells3 hbx7).1
                  clear hwn7 hr7 hbx7 hOk hgo hgrw
                  go_wp2_with fail
                  refine wp_region_still_tail 15 (by kernel_rfl) (by kernel_rfl) ?_
                  simp only [List.take_succ_cons, List.take_zero, List.drop_succ_cons, List.drop_zero]
                  refine still_start (fun W hW => ?_)
                  have HW := Lib.hid hW
                  clear hW
                  refine still_want HW.out (by rfl) (fun W K hW hK => ?_)
                  clear HW
                  have HK := Lib.hid hK
                  have HW := Lib.hid hW
                  clear hK hW
                  go_simp
                  refine HK.out _ ?_
                  clear HK K
                  refine still_want HW.out (by rfl) (fun W K hW hK => ?_)
                  clear HW
                  have HK := Lib.hid hK
                  have HW := Lib.hid hW
                  clear hK hW
                  go_simp
                  refine HK.out _ ?_
                  clear HK K
                  refine still_want HW.out (by rfl) (fun W K hW hK => ?_)
                  clear HW
                  have HK := Lib.hid hK
                  have HW := Lib.hid hW
                  clear hK hW
                  go_simp
                  refine HK.out _ ?_
                  clear HK K
                  refine still_want HW.out (by rfl) (fun W K hW hK => ?_)
                  clear HW
                  have HK := Lib.hid hK
                  have HW := Lib.hid hW
                  clear hK hW
                  go_simp
                  refine HK.out _ ?_
                  clear HK K
                  refine still_want HW.out (by rfl) (fun W K hW hK => ?_)
                  clear HW
                  have HK := Lib.hid hK
                  have HW := Lib.hid hW
                  clear hK hW
                  go_simp
                  refine HK.out _ ?_
                  clear HK K
                  refine still_want HW.out (by rfl) (fun W K hW hK => ?_)
                  clear HW
                  have HK := Lib.hid hK
                  have HW := Lib.hid hW
                  clear hK hW
                  go_simp
                  refine HK.out _ ?_
                  clear HK K
                  refine still_want HW.out (by rfl) (fun W K hW hK => ?_)
                  clear HW
                  have HK := Lib.hid hK
                  have HW := Lib.hid hW
                  clear hK hW
                  go_simp
                  refine HK.out _ ?_
                  clear HK K
                  refine still_want HW.out (by rfl) (fun W K hW hK => ?_)
                  clear HW
                  have HK := Lib.hid hK
                  have HW := Lib.hid hW
                  clear hK hW
                  go_simp
                  refine HK.out _ ?_
                  clear HK K
                  refine still_want HW.out (by rfl) (fun W K hW hK => ?_)
                  clear HW
                  have HK := Lib.hid hK
                  have HW := Lib.hid hW
                  clear hK hW
                  go_simp
                  refine HK.out _ ?_
                  clear HK K
                  refine still_want HW.out (by rfl) (fun W K hW hK => ?_)
                  clear HW
                  have HK := Lib.hid hK
                  have HW := Lib.hid hW
                  clear hK hW
                  go_simp
                  refine HK.out _ ?_
                  clear HK K
                  refine still_want HW.out (by rfl) (fun W K hW hK => ?_)
                  clear HW
                  have HK := Lib.hid hK
                  have HW := Lib.hid hW
                  clear hK hW
                  go_simp
                  refine HK.out _ ?_
                  clear HK K
                  refine still_want HW.out (by rfl) (fun W K hW hK => ?_)
                  clear HW
                  have HK := Lib.hid hK
                  have HW := Lib.hid hW
                  clear hK hW
                  go_simp
                  refine HK.out _ ?_
                  clear HK K
                  refine still_want HW.out (by rfl) (fun W K hW hK => ?_)
                  clear HW
                  have HK := Lib.hid hK
                  have HW := Lib.hid hW
                  clear hK hW
                  go_simp
                  refine HK.out _ ?_
                  clear HK K
                  refine still_want HW.out (by rfl) (fun W K hW hK => ?_)
                  clear HW
                  have HK := Lib.hid hK
                  have HW := Lib.hid hW
                  clear hK hW
                  go_simp
                  refine HK.out _ ?_
                  clear HK K
                  clear x0
                  obtain ⟨x0, x1, x2⟩ := cells3 HB7.out
                  refine still_want HW.out (by rfl) (fun W K hW hK => ?_)
                  clear HW
                  have HK := Lib.hid hK
                  have HW := Lib.hid hW
                  clear hK hW
                  go_simp
                  refine HK.out _ ?_
                  clear HK K
                  refine still_end HW.out ?_
                  clear HW W
                  change wpList _ _ _ _ _ w7.drew
                  go_wp2_with (first
                    | (go_at_call 99; go_must (refine (entry_any ⟨kk, vv, d⟩ _ HOK.out).mono ?_); rintro e w8 ⟨rfl, hb8⟩; rw [HEV.out]; have hbx8 := Blk.up HB7.out.drew hb8; have hwn8 := own_up (own_drew HWN.out) hb8; have hbel8 := hbel7.drew.trans (hb8.mono h7s); have hr8 := rdr_kept (w' := w8) HR7.out (fun _ _ h => Blk.up h.drew hb8); clear x0 x1 x2; obtain ⟨x0, x1, x2⟩ := cells3 hbx8; have d2 := rdr_err hr8; simp only [Option.isSome, Bool.false_eq_true, if_false, errV, Nat.reduceEqDiff] at d2)
                    | (go_at_call 77; go_must (refine (rdend_any gr A1 c1 i none _ hr8 (by intro _ h; cases h)).mono ?_); rintro e wa ⟨hga, rfl⟩; rw [show errV (if endS i none = true then 0 else 9) = .iface 86 (.int .i64 9) from rfl]))
                  go_ret2
                  have hN2 : readTab l = none := by rw [HN.out, HR.out, Hrs.out.bad hlt E4.out HL.out]; rfl
                  rw [rtE_none hN2, hN2]
                  exact ⟨_, by rfl, World.ownsRow_nil _ _ _ _, hb1.trans ((hbel8.trans (below_of_only hga (Nat.le_refl _) (Nat.le_of_lt (rdr_lt hr8)))).mono hws)⟩
                · as_aux_lemma =>
                  have HWN := Lib.hid hwn7
                  have HR7 := Lib.hid hr7
                  have HB7 := Lib.hid hbx7
                  have HOK := Lib.hid hOk
                  have HGO := Lib.hid hgo
                  have HGW := Lib.hid hgrw
                  have x0 := (cells3 hbx7).1
                  clear hwn7 hr7 hbx7 hOk hgo hgrw
                  go_wp2_with fail
                  refine wp_region_still_tail 15 (by kernel_rfl) (by kernel_rfl) ?_
                  simp only [List.take_succ_cons, List.take_zero, List.drop_succ_cons, List.drop_zero]
                  refine still_start (fun W hW => ?_)
                  have HW := Lib.hid hW
                  clear hW
                  refine still_want HW.out (by rfl) (fun W K hW hK => ?_)
                  clear HW
                  have HK := Lib.hid hK
                  have HW := Lib.hid hW
                  clear hK hW
                  go_simp
                  refine HK.out _ ?_
                  clear HK K
                  refine still_want HW.out (by rfl) (fun W K hW hK => ?_)
                  clear HW
                  have HK := Lib.hid hK
                  have HW := Lib.hid hW
                  clear hK hW
                  go_simp
                  refine HK.out _ ?_
                  clear HK K
                  refine still_want HW.out (by rfl) (fun W K hW hK => ?_)
                  clear HW
                  have HK := Lib.hid hK
                  have HW := Lib.hid hW
                  clear hK hW
                  go_simp
                  refine HK.out _ ?_
                  clear HK K
                  refine still_want HW.out (by rfl) (fun W K hW hK => ?_)
                  clear HW
                  have HK := Lib.hid hK
                  have HW := Lib.hid hW
                  clear hK hW
                  go_simp
                  refine HK.out _ ?_
                  clear HK K
                  refine still_want HW.out (by rfl) (fun W K hW hK => ?_)
                  clear HW
                  have HK := Lib.hid hK
                  have HW := Lib.hid hW
                  clear hK hW
                  go_simp
                  refine HK.out _ ?_
                  clear HK K
                  refine still_want HW.out (by rfl) (fun W K hW hK => ?_)
                  clear HW
                  have HK := Lib.hid hK
                  have HW := Lib.hid hW
                  clear hK hW
                  go_simp
                  refine HK.out _ ?_
                  clear HK K
                  refine still_want HW.out (by rfl) (fun W K hW hK => ?_)
                  clear HW
                  have HK := Lib.hid hK
                  have HW := Lib.hid hW
                  clear hK hW
                  go_simp
                  refine HK.out _ ?_
                  clear HK K
                  refine still_want HW.out (by rfl) (fun W K hW hK => ?_)
                  clear HW
                  have HK := Lib.hid hK
                  have HW := Lib.hid hW
                  clear hK hW
                  go_simp
                  refine HK.out _ ?_
                  clear HK K
                  refine still_want HW.out (by rfl) (fun W K hW hK => ?_)
                  clear HW
                  have HK := Lib.hid hK
                  have HW := Lib.hid hW
                  clear hK hW
                  go_simp
                  refine HK.out _ ?_
                  clear HK K
                  refine still_want HW.out (by rfl) (fun W K hW hK => ?_)
                  clear HW
                  have HK := Lib.hid hK
                  have HW := Lib.hid hW
                  clear hK hW
                  go_simp
                  refine HK.out _ ?_
                  clear HK K
                  refine still_want HW.out (by rfl) (fun W K hW hK => ?_)
                  clear HW
                  have HK := Lib.hid hK
                  have HW := Lib.hid hW
                  clear hK hW
                  go_simp
                  refine HK.out _ ?_
                  clear HK K
                  refine still_want HW.out (by rfl) (fun W K hW hK => ?_)
                  clear HW
                  have HK := Lib.hid hK
                  have HW := Lib.hid hW
                  clear hK hW
                  go_simp
                  refine HK.out _ ?_
                  clear HK K
                  refine still_want HW.out (by rfl) (fun W K hW hK => ?_)
                  clear HW
                  have HK := Lib.hid hK
                  have HW := Lib.hid hW
                  clear hK hW
                  go_simp
                  refine HK.out _ ?_
                  clear HK K
                  refine still_want HW.out (by rfl) (fun W K hW hK => ?_)
                  clear HW
                  have HK := Lib.hid hK
                  have HW := Lib.hid hW
                  clear hK hW
                  go_simp
                  refine HK.out _ ?_
                  clear HK K
                  clear x0
                  obtain ⟨x0, x1, x2⟩ := cells3 HB7.out
                  refine still_want HW.out (by rfl) (fun W K hW hK => ?_)
                  clear HW
                  have HK := Lib.hid hK
                  have HW := Lib.hid hW
                  clear hK hW
                  go_simp
                  refine HK.out _ ?_
                  clear HK K
                  refine still_end HW.out ?_
                  clear HW W
                  change wpList _ _ _ _ _ w7.drew
                  go_wp2_with (first
                    | (go_at_call 99; go_must (refine (entry_any ⟨kk, vv, d⟩ _ HOK.out).mono ?_); rintro e w8 ⟨rfl, hb8⟩; rw [HEV.out]; have hbx8 := Blk.up HB7.out.drew hb8; have hwn8 := own_up (own_drew HWN.out) hb8; have hbel8 := hbel7.drew.trans (hb8.mono h7s); have hr8 := rdr_kept (w' := w8) HR7.out (fun _ _ h => Blk.up h.drew hb8); clear x0 x1 x2; obtain ⟨x0, x1, x2⟩ := cells3 hbx8; have d2 := rdr_err hr8; simp only [Option.isSome, if_true, errV] at d2)
                    | (with_reducible show wpList _ _ _ (⟨some 91, _, _, _, _, _⟩ :: _) _ _; go_must (refine wpList_newg (.tmp 88) (.tmp 90) el_ent rfl rfl hwn8 rfl rfl (by simp) rfl rfl (by omega) (by have := hbel8.size; have := rdr_lt hr8; omega) ?_); intro v9 w9 ho9 hb9 hg9 ha9))
                  go_roundw
                  case rel =>
                    refine ⟨k + 1, some a3, ac0 ++ [q'] ++ [⟨kk, vv, d⟩], by omega, by have := HNN.out; simp at this ⊢; omega, by go_num, ?_, H3.out, Hrs.out.step hlt E4.out HL.out, ?_, ?_⟩
                    · exact rdr_kept hr8 fun t cs h => h.grown hg9 fun e => by have := (hwn8.lt _ e.symm).1; omega
                    · rw [entCells_snoc, List.length_append, ← HNN.out]; simpa [Ent.cells] using ho9
                    · exact hbel8.trans (hb9.mono (by omega))
                  case measure => simp [intOf]; omega
              · have HEV : Hid (errV (entE ⟨kk, vv, d⟩) = .iface 86 (.int .i64 (entE ⟨kk, vv, d⟩))) := Lib.hid (by rw [errV, if_neg hE])
                have HL : Hid (lookS (lastE (ac0 ++ [q'])) ⟨kk, vv, d⟩ s3 = none) := Lib.hid (by rw [lookS, if_pos (.inr hE)])
                clear hE hst
                as_aux_lemma =>
                  have HWN := Lib.hid hwn7
                  have HR7 := Lib.hid hr7
                  have HB7 := Lib.hid hbx7
                  have HOK := Lib.hid hOk
                  have HGO := Lib.hid hgo
                  have HGW := Lib.hid hgrw
                  have x0 := (cells3 hbx7).1
                  clear hwn7 hr7 hbx7 hOk hgo hgrw
                  go_wp2_with fail
                  refine wp_region_still_tail 15 (by kernel_rfl) (by kernel_rfl) ?_
                  simp only [List.take_succ_cons, List.take_zero, List.drop_succ_cons, List.drop_zero]
                  refine still_start (fun W hW => ?_)
                  have HW := Lib.hid hW
                  clear hW
                  refine still_want HW.out (by rfl) (fun W K hW hK => ?_)
                  clear HW
                  have HK := Lib.hid hK
                  have HW := Lib.hid hW
                  clear hK hW
                  go_simp
                  refine HK.out _ ?_
                  clear HK K
                  refine still_want HW.out (by rfl) (fun W K hW hK => ?_)
                  clear HW
                  have HK := Lib.hid hK
                  have HW := Lib.hid hW
                  clear hK hW
                  go_simp
                  refine HK.out _ ?_
                  clear HK K
                  refine still_want HW.out (by rfl) (fun W K hW hK => ?_)
                  clear HW
                  have HK := Lib.hid hK
                  have HW := Lib.hid hW
                  clear hK hW
                  go_simp
                  refine HK.out _ ?_
                  clear HK K
                  refine still_want HW.out (by rfl) (fun W K hW hK => ?_)
                  clear HW
                  have HK := Lib.hid hK
                  have HW := Lib.hid hW
                  clear hK hW
                  go_simp
                  refine HK.out _ ?_
                  clear HK K
                  refine still_want HW.out (by rfl) (fun W K hW hK => ?_)
                  clear HW
                  have HK := Lib.hid hK
                  have HW := Lib.hid hW
                  clear hK hW
                  go_simp
                  refine HK.out _ ?_
                  clear HK K
                  refine still_want HW.out (by rfl) (fun W K hW hK => ?_)
                  clear HW
                  have HK := Lib.hid hK
                  have HW := Lib.hid hW
                  clear hK hW
                  go_simp
                  refine HK.out _ ?_
                  clear HK K
                  refine still_want HW.out (by rfl) (fun W K hW hK => ?_)
                  clear HW
                  have HK := Lib.hid hK
                  have HW := Lib.hid hW
                  clear hK hW
                  go_simp
                  refine HK.out _ ?_
                  clear HK K
                  refine still_want HW.out (by rfl) (fun W K hW hK => ?_)
                  clear HW
                  have HK := Lib.hid hK
                  have HW := Lib.hid hW
                  clear hK hW
                  go_simp
                  refine HK.out _ ?_
                  clear HK K
                  refine still_want HW.out (by rfl) (fun W K hW hK => ?_)
                  clear HW
                  have HK := Lib.hid hK
                  have HW := Lib.hid hW
                  clear hK hW
                  go_simp
                  refine HK.out _ ?_
                  clear HK K
                  refine still_want HW.out (by rfl) (fun W K hW hK => ?_)
                  clear HW
                  have HK := Lib.hid hK
                  have HW := Lib.hid hW
                  clear hK hW
                  go_simp
                  refine HK.out _ ?_
                  clear HK K
                  refine still_want HW.out (by rfl) (fun W K hW hK => ?_)
                  clear HW
                  have HK := Lib.hid hK
                  have HW := Lib.hid hW
                  clear hK hW
                  go_simp
                  refine HK.out _ ?_
                  clear HK K
                  refine still_want HW.out (by rfl) (fun W K hW hK => ?_)
                  clear HW
                  have HK := Lib.hid hK
                  have HW := Lib.hid hW
                  clear hK hW
                  go_simp
                  refine HK.out _ ?_
                  clear HK K
                  refine still_want HW.out (by rfl) (fun W K hW hK => ?_)
                  clear HW
                  have HK := Lib.hid hK
                  have HW := Lib.hid hW
                  clear hK hW
                  go_simp
                  refine HK.out _ ?_
                  clear HK K
                  refine still_want HW.out (by rfl) (fun W K hW hK => ?_)
                  clear HW
                  have HK := Lib.hid hK
                  have HW := Lib.hid hW
                  clear hK hW
                  go_simp
                  refine HK.out _ ?_
                  clear HK K
                  clear x0
                  obtain ⟨x0, x1, x2⟩ := cells3 HB7.out
                  refine still_want HW.out (by rfl) (fun W K hW hK => ?_)
                  clear HW
                  have HK := Lib.hid hK
                  have HW := Lib.hid hW
                  clear hK hW
                  go_simp
                  refine HK.out _ ?_
                  clear HK K
                  refine still_end HW.out ?_
                  clear HW W
                  change wpList _ _ _ _ _ w7.drew
                  go_wp2_with (first
                    | (go_at_call 99; go_must (refine (entry_any ⟨kk, vv, d⟩ _ HOK.out).mono ?_); rintro e w8 ⟨rfl, hb8⟩; rw [HEV.out]; have hbx8 := Blk.up HB7.out.drew hb8; have hwn8 := own_up (own_drew HWN.out) hb8; have hbel8 := hbel7.drew.trans (hb8.mono h7s); have hr8 := rdr_kept (w' := w8) HR7.out (fun _ _ h => Blk.up h.drew hb8); clear x0 x1 x2; obtain ⟨x0, x1, x2⟩ := cells3 hbx8)
                    | (go_at_call 76; go_must (refine (rdfail_any gr A1 c1 i s3 _ hr8 H3.out).mono ?_); rintro e w9 ⟨hg9, rfl, hr9⟩; have d2 := rdr_err hr9; simp only [Option.isSome, Bool.false_eq_true, if_false, errV, Nat.reduceEqDiff] at d2; have hbel9 := hbel8.trans (below_of_only hg9 (Nat.le_refl _) (Nat.le_of_lt (rdr_lt hr8))))
                    | (go_at_call 77; go_must (refine (rdend_any gr A1 c1 i none _ hr9 (by intro _ h; cases h)).mono ?_); rintro e wa ⟨hga, rfl⟩; rw [show errV (if endS i none = true then 0 else 9) = .iface 86 (.int .i64 9) from rfl]))
                  go_ret2
                  have hN2 : readTab l = none := by rw [HN.out, HR.out, Hrs.out.bad hlt E4.out HL.out]; rfl
                  rw [rtE_none hN2, hN2]
                  exact ⟨_, by rfl, World.ownsRow_nil _ _ _ _, hb1.trans ((hbel9.trans (below_of_only hga (Nat.le_refl _) (Nat.le_of_lt (rdr_lt hr9)))).mono hws)⟩
    · have hdone := Hrs.out.done (by omega)
      have HD := Lib.hid hdone
      clear hdone
      by_cases hE : endS i s = true
      · have HE := Lib.hid hE
        clear hE
        go_wp2_with (first | (go_at_call 77; go_must (refine (rdend_any gr A1 c1 i s _ hrd Hst.out).mono ?_); rintro e w6 ⟨hg6, rfl⟩; rw [HE.out]; simp only [if_true, errV_zero]))
        go_ret2
        have hN2 : readTab l = some acc := by rw [HN.out, HR.out, HD.out, if_pos HE.out]
        rw [rtE_some hN2, hN2]
        exact ⟨_, rfl, own_base (own_only hown hg6 (by omega)) (by omega), hb1.trans ((hbel.trans (below_of_only hg6 (Nat.le_refl _) (by omega))).mono hws)⟩
      · have HE : Hid (errV (if endS i s = true then 0 else 9) = .iface 86 (.int .i64 9)) := Lib.hid (by rw [if_neg hE]; rfl)
        have HE2 := Lib.hid hE
        clear hE
        go_wp2_with (first | (go_at_call 77; go_must (refine (rdend_any gr A1 c1 i s _ hrd Hst.out).mono ?_); rintro e w6 ⟨hg6, rfl⟩; rw [HE.out]))
        go_ret2
        have hN2 : readTab l = none := by rw [HN.out, HR.out, HD.out, if_neg HE2.out]
        rw [rtE_none hN2, hN2]
        exact ⟨_, by rfl, World.ownsRow_nil _ _ _ _, hb1.trans ((hbel.trans (below_of_only hg6 (Nat.le_refl _) (by omega))).mono hws)⟩
  · have hN : readTab l = none := by rw [readTab, hop]; simp [hml]
    have HN := Lib.hid hN
    have HO := Lib.hid ho
    have t0 : ((m : Int) == (l.length : Int)) = false := by simpa using fun h => hml (by omega)
    have t1 : ((m : Int) != (l.length : Int)) = true := by simpa using fun h => hml (by omega)
    clear ho hN hop e1 e2 e3
    generalize l.length = n at *
    go_enter Tryz.func94, Tryz.ntmps94
    go_wp2_with (first | (go_at_call 130; refine HO.out.mono ?_; rintro e w1 ⟨v1, rfl, ho1, hb1⟩))
    go_ret2
    refine ⟨_, by rw [rtE_none HN.out]; rfl, by rw [HN.out]; exact World.ownsRow_nil _ _ _ _, hb1⟩
end Go.Proofs.YtcfijljagohmlaaGreatDoor
