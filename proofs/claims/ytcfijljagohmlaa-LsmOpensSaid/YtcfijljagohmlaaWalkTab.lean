/- The walks of table.entry and table.Build. -/
import Derived.Test.YtcfijljagohmlaaWalkSeal
import Derived.Test.YtcfijljagohmlaaPlainTab
import Derived.Test.YtcfijljagohmlaaErr
import Derived.Test.YtcfijljagohmlaaBase2
import Derived.Deep.RegionHeld3
import Derived.Deep.RegionWith
import Derived.Deep.DrawnRows
import Derived.BigQuiet
import Derived.WideLaws
import Derived.Deep.QuietTactic
namespace Go.Proofs.Ytcfijljagohmlaa
open Go.RowKit

set_option maxRecDepth 100000 in
set_option maxHeartbeats 1000000 in
theorem entry_any (e : Ent) (w : World) (h : e.Ok) :
    Calls Try.prog 85 #[e.val] w fun x w' => x = .returned (errV (entE e)) ∧ Below w.heap.size w w' := by
  obtain ⟨k1, k2⟩ := h
  by_cases h1 : 120 < e.key.size
  · have HE : Hid (errV (entE e) = .iface 84 (.int .i64 1)) := Lib.hid (by rw [entE, if_pos (.inl h1)]; rfl)
    rw [HE.out]
    go_enter Try.func85, Try.ntmps85
    unfold Ent.val
    go_wp2
    go_ret
    exact ⟨rfl, (Below.refl _ _).alloc (Nat.le_refl _) _⟩
  · by_cases h2 : 120 < e.value.size
    · have HE : Hid (errV (entE e) = .iface 84 (.int .i64 1)) := Lib.hid (by rw [entE, if_pos (.inr h2)]; rfl)
      rw [HE.out]
      go_enter Try.func85, Try.ntmps85
      unfold Ent.val
      go_wp2
      go_ret
      exact ⟨rfl, (Below.refl _ _).alloc (Nat.le_refl _) _⟩
    · rcases hd : e.dead
      · have HE : Hid (errV (entE e) = .nilIface) := Lib.hid (by rw [entE, if_neg (by omega), if_neg (by simp [hd])]; rfl)
        rw [HE.out]
        have hv : e.val = .agg #[.string e.key, .string e.value, .bool false] := by rw [Ent.val, hd]
        rw [hv]
        clear hv hd
        go_enter Try.func85, Try.ntmps85
        go_wp2
        go_ret
        exact ⟨rfl, (Below.refl _ _).alloc (Nat.le_refl _) _⟩
      · have hv : e.val = .agg #[.string e.key, .string e.value, .bool true] := by rw [Ent.val, hd]
        rw [hv]
        by_cases h3 : e.value.toList = []
        · have HE : Hid (errV (entE e) = .nilIface) := Lib.hid (by rw [entE, if_neg (by omega), if_neg (by simp [h3])]; rfl)
          rw [HE.out]
          have t1 : e.value.toList.isEmpty = true := by simp [h3]
          clear hv hd
          go_enter Try.func85, Try.ntmps85
          go_wp2
          go_ret
          exact ⟨rfl, (Below.refl _ _).alloc (Nat.le_refl _) _⟩
        · have HE : Hid (errV (entE e) = .iface 84 (.int .i64 3)) := Lib.hid (by rw [entE, if_neg (by omega), if_pos ⟨hd, h3⟩]; rfl)
          rw [HE.out]
          have t1 : e.value.toList.isEmpty = false := by simpa using h3
          clear hv hd
          go_enter Try.func85, Try.ntmps85
          go_wp2
          go_ret
          exact ⟨rfl, (Below.refl _ _).alloc (Nat.le_refl _) _⟩

theorem rd_one {w : World} {g : Nat} {t : TypeId} {u : Value} (h : Blk w g t #[u]) : Rd w (g + 1) 1 (some ⟨g, 0, none⟩) 1 [u] := by
  refine ⟨rfl, fun _ => ⟨_, rfl, by simp, fun j v hv => ?_⟩⟩
  rcases j with _ | j
  · obtain rfl : u = v := by simpa using hv
    exact h.cell 0
  · simp at hv
theorem bv1_one (n : Int) : ∀ u ∈ [Value.int .u8 n], u.oneCell' = true := by
  intro u hu
  obtain rfl : u = _ := by simpa using hu
  rfl
set_option maxRecDepth 100000 in
set_option maxHeartbeats 8000000 in
theorem build_any (A : Option Addr) (c B : Nat) (l : List Ent) (w : World) (hr : Rd w B 3 A l.length (entCells l)) (hB : B ≤ w.heap.size) (hok : ∀ r ∈ l, r.Ok) (hl : l.length ≤ 140737488355328) :
    Calls Try.prog 66 #[.slice A l.length c] w fun e w' => ∃ v, e = .returned (.tuple #[v, errV (entsE l)]) ∧ w'.ownsRow w.heap.size 5 1 v (tabB l).length ((tabB l).map bv) ∧ Below w.heap.size w w' := by
  obtain ⟨n, hn⟩ : ∃ n, n = l.length := ⟨_, rfl⟩
  have hsm := numB_le (n : Int)
  have Hn := Lib.hid hn
  rw [← hn] at hr hl ⊢
  clear hn
  by_cases hbig : 400 < n
  · go_enter Try.func66, Try.ntmps66
    go_wp2
    go_ret2
    have e1 := entsE_long (l := l) (by have := Hn.out; omega)
    exact ⟨_, by rw [e1]; rfl, by rw [tabB_bad e1 (by omega)]; exact World.ownsRow_nil _ _ _ _, Below.refl _ _⟩
  go_enter Try.func66, Try.ntmps66
  go_wp2_with (first | (go_at_call 7; refine (num_any _ _ (by omega) (by omega)).mono ?_; rintro e w1 ⟨v1, rfl, ho1, hb1⟩))
  go_loopw [4, 18] (fun b i wr => ∃ k : Nat, ∃ m : Nat, k ≤ n ∧ i = .int .i64 k ∧ m ≤ 10 + 261 * k ∧ Hid (entsGo none l = entsGo (prevE l k) (l.drop k)) ∧ wr.ownsRow w.heap.size 5 1 b m ((numB n).map bv ++ ((l.take k).flatMap entB).map bv) ∧ Below w.heap.size w wr) (fun _ i _ => n - (intOf i).toNat)
  case atStart => exact ⟨0, _, Nat.zero_le _, rfl, hsm, rfl, by simpa using ho1, hb1⟩
  case round =>
    obtain ⟨k, m, hk, rfl, hm, Hgo, hown, hbel⟩ := hrel
    have hbs := hbel.size
    by_cases hlt : k < n
    · obtain ⟨ad, r, rfl, hbk0, hx, g0, g1, g2⟩ := hr.ent_ hlt (Hn.out).symm hbel hB
      have hro := hok r (List.mem_of_getElem? hx)
      have Hx := Lib.hid hx
      clear hx
      have hvb : ∀ g, u4.ownBlock = some g → g ≠ wr.heap.size := fun g hg => by have := (hown.lt g hg).2; omega
      by_cases hrk : entE r = 0
      · have HR := Lib.hid hrk
        clear hrk
        obtain ⟨hk1, hk2, _⟩ := entE_good HR.out
        have hle1 := textB_le r.key 120 hk1
        have hle2 := textB_le r.value 120 hk2
        rcases k with _ | j
        · have HG := Lib.hid (Hgo.out.trans (ego_next0 Hx.out HR.out))
          simp only [Nat.zero_mul, Addr.add, if_true] at g0 g1 g2
          have HEV : Hid (errV (entE r) = .nilIface) := Lib.hid (by rw [HR.out]; rfl)
          go_wp2_with (first | (go_at_call 85; go_must (refine (entry_any r _ hro).mono ?_); rintro e w2 ⟨rfl, hb2⟩; rw [HEV.out]))
          have hbx := Blk.up (Blk.new wr 107 #[.string r.key, .string r.value, .bool r.dead]) hb2
          have hown2 := own_up (hown.alloc (.cells #[.string r.key, .string r.value, .bool r.dead] 107)) hb2
          have hbel2 := hbel.trans ((((Below.refl wr.heap.size wr).alloc (Nat.le_refl _) (.cells #[.string r.key, .string r.value, .bool r.dead] 107)).trans (hb2.mono (by simp))).mono hbs)
          clear hb2
          obtain ⟨gx, hgx⟩ : ∃ gx, gx = wr.heap.size := ⟨_, rfl⟩
          rw [← hgx] at hbx hvb ⊢
          clear hgx
          go_quiet (fail)
          have hown3 := own_drewN hown2 nq
          have hbx3 := hbx.drewN nq
          have hbel3 := below_drewN hbel2 nq
          generalize w2.drewN nq = w3 at *
          have hn3 := hvb
          have hm3 : ∀ g, u4.ownBlock = some g → g < w3.heap.size := fun g hg => (hown3.lt g hg).2
          clear hown hown2 hbx hbel2
          have hbs3 := hbel3.size
          have hl3 := hbx3.lt
          rcases hdd : r.dead
          · 
            have HDD := Lib.hid hdd
            have x2 := hbx3.cell 2
            simp only [hdd] at x2
            obtain ⟨x0, x1, x3⟩ := cells3 hbx3
            clear hdd
            go_wp2_with fail
            clear x0 x1 x2 x3
            go_region_held3 (fun w' => w'.cell? ⟨gx, 0, none⟩ = some (.string r.key) ∧ w'.cell? ⟨gx, 1, none⟩ = some (.string r.value) ∧ w'.cell? ⟨gx, 2, none⟩ = some (.bool r.dead)) (first | exact cells3 hbx8 | exact cells3 hbx7 | exact cells3 hbx6 | exact cells3 (hbx5.alloc _) | exact cells3 hbx5 | exact cells3 (hbx4.alloc _) | exact cells3 hbx4 | exact cells3 (hbx3.drew.alloc _) | exact cells3 hbx3)
              ((first
                | (go_at_call_of 9 (r.key); go_must (refine (text_any _ _ (by omega)).mono ?_); rintro e w4 ⟨v4, rfl, ho4, hb4⟩; have hl4 : w3.heap.size ≤ w4.heap.size := (by have h := hb4.size; first | exact h | (simp at h; omega)); have hc4 : Below w.heap.size w w4 := (by first | exact hbel3.drew.trans (hb4.mono hbs3) | exact (hbel3.drew.alloc hbs3 _).trans (hb4.mono (by simp; omega))); have hbx4 : Blk w4 gx 107 #[.string r.key, .string r.value, .bool r.dead] := (by first | exact Blk.up hbx3.drew hb4 | exact Blk.up (hbx3.drew.alloc _) hb4); have hown4 := (by first | exact own_up (own_drew hown3) hb4 | exact own_up ((own_drew hown3).alloc _) hb4 : w4.ownsRow _ _ _ _ _ _); (try (have hD4 := Blk.up (Blk.new w3.drew 5 #[.int .u8 0]) hb4)); obtain ⟨A4, c4, rfl, _, _, ha4, r4⟩ := own_form ho4)
                | (with_reducible show (if Region.wanted (⟨some 48, _, _, _, _, _⟩ : Oper) _ = true then _ else _); go_must (first | refine step_rd (.tmp 44) (.tmp 47) el_u8 rfl rfl hown4 rfl r4 rfl (bvs_one _) (by omega) hc4.size ?_ | refine step_rd (.tmp 44) (.tmp 47) el_u8 rfl rfl (hown4.alloc _) rfl (r4.alloc (Nat.le_refl _) _) rfl (bvs_one _) (by omega) (by have := hc4.size; simp; omega) ?_); intro v5 w5 hown5 hb5 hg5 ha5; have hl5 : w4.heap.size ≤ w5.heap.size := (by have h := hb5.size; first | exact h | (simp at h; omega)); have hc5 : Below w.heap.size w w5 := (by first | exact hc4.trans hb5 | exact (hc4.alloc hc4.size _).trans hb5); have hn5 := row_ne (g := gx) ha5 hn3 (by first | omega | (simp; omega)); have hbx5 : Blk w5 gx 107 #[.string r.key, .string r.value, .bool r.dead] := (by first | exact Blk.app hbx4 hg5 hn3 | exact Blk.app (hbx4.alloc _) hg5 hn3); (try (first | (have hD5 := Blk.app hD4 hg5 (fun g hg => by have := hm3 g hg; simp at this ⊢; omega)) | (have hD5 := Blk.app (Blk.new w4 5 #[.int .u8 0]) hg5 (fun g hg => by have := hm3 g hg; omega)))))
                | (with_reducible show (if Region.wanted (⟨some 51, _, _, _, _, _⟩ : Oper) _ = true then _ else _); go_must (first | refine step_new (.tmp 48) (.tmp 50) el_u8 rfl rfl hown5 rfl (m := 1) rfl rfl rfl (by omega) hc5.size ?_ | refine step_rd (.tmp 48) (.tmp 50) el_u8 rfl rfl hown5 rfl (rd_one hD5) rfl (bv1_one _) (by omega) hc5.size ?_); intro v6 w6 hown6 hb6 hg6 ha6; have hl6 := hb6.size; have hc6 := hc5.trans hb6; have hn6 := row_ne (g := gx) ha6 hn5 (by first | omega | (simp; omega)); have hbx6 := Blk.app hbx5 hg6 hn5)
                | (go_at_call_of 9 (r.value); go_must (refine (text_any _ _ (by omega)).mono ?_); rintro e w7 ⟨v7, rfl, ho7, hb7⟩; have hl7 : w6.heap.size ≤ w7.heap.size := hb7.size; have hc7 := hc6.trans (hb7.mono hc6.size); have hbx7 := Blk.up hbx6 hb7; have hown7 := own_up hown6 hb7; obtain ⟨A7, c7, rfl, _, _, ha7, r7⟩ := own_form ho7)
                | (with_reducible show (if Region.wanted (⟨some 55, _, _, _, _, _⟩ : Oper) _ = true then _ else _); go_must (refine step_rd (.tmp 51) (.tmp 54) el_u8 rfl rfl hown7 rfl r7 rfl (bvs_one _) (by omega) hc7.size ?_); intro v8 w8 hown8 hb8 hg8 ha8; have hc8 := hc7.trans hb8; have hbx8 := Blk.app hbx7 hg8 hn6)))
            all_goals
              go_wp2
              go_roundw
              case rel =>
                refine ⟨0 + 1, m + (textB r.key.data.toList).length + 1 + (textB r.value.data.toList).length, by omega, by go_num, by omega, HG.out, ?_, hc8⟩
                rw [ents_step Hx.out]
                have hd2 : [Value.int .u8 0] = [bv (deadB r.dead)] := by rw [HDD.out]; rfl
                have hown9 := hown8
                first | rw [show #[Value.int .u8 0].toList = [bv (deadB r.dead)] from hd2] at hown9 | rw [hd2] at hown9
                simpa only [List.append_assoc, List.map_append, List.map_cons, List.map_nil] using hown9
              case measure => simp [intOf]; omega
          · 
            have HDD := Lib.hid hdd
            have x2 := hbx3.cell 2
            simp only [hdd] at x2
            obtain ⟨x0, x1, x3⟩ := cells3 hbx3
            clear hdd
            go_wp2_with fail
            clear x0 x1 x2 x3
            go_region_held3 (fun w' => w'.cell? ⟨gx, 0, none⟩ = some (.string r.key) ∧ w'.cell? ⟨gx, 1, none⟩ = some (.string r.value) ∧ w'.cell? ⟨gx, 2, none⟩ = some (.bool r.dead)) (first | exact cells3 hbx8 | exact cells3 hbx7 | exact cells3 hbx6 | exact cells3 (hbx5.alloc _) | exact cells3 hbx5 | exact cells3 (hbx4.alloc _) | exact cells3 hbx4 | exact cells3 (hbx3.drew.alloc _) | exact cells3 hbx3)
              ((first
                | (go_at_call_of 9 (r.key); go_must (refine (text_any _ _ (by omega)).mono ?_); rintro e w4 ⟨v4, rfl, ho4, hb4⟩; have hl4 : w3.heap.size ≤ w4.heap.size := (by have h := hb4.size; first | exact h | (simp at h; omega)); have hc4 : Below w.heap.size w w4 := (by first | exact hbel3.drew.trans (hb4.mono hbs3) | exact (hbel3.drew.alloc hbs3 _).trans (hb4.mono (by simp; omega))); have hbx4 : Blk w4 gx 107 #[.string r.key, .string r.value, .bool r.dead] := (by first | exact Blk.up hbx3.drew hb4 | exact Blk.up (hbx3.drew.alloc _) hb4); have hown4 := (by first | exact own_up (own_drew hown3) hb4 | exact own_up ((own_drew hown3).alloc _) hb4 : w4.ownsRow _ _ _ _ _ _); (try (have hD4 := Blk.up (Blk.new w3.drew 5 #[.int .u8 1]) hb4)); obtain ⟨A4, c4, rfl, _, _, ha4, r4⟩ := own_form ho4)
                | (with_reducible show (if Region.wanted (⟨some 48, _, _, _, _, _⟩ : Oper) _ = true then _ else _); go_must (first | refine step_rd (.tmp 44) (.tmp 47) el_u8 rfl rfl hown4 rfl r4 rfl (bvs_one _) (by omega) hc4.size ?_ | refine step_rd (.tmp 44) (.tmp 47) el_u8 rfl rfl (hown4.alloc _) rfl (r4.alloc (Nat.le_refl _) _) rfl (bvs_one _) (by omega) (by have := hc4.size; simp; omega) ?_); intro v5 w5 hown5 hb5 hg5 ha5; have hl5 : w4.heap.size ≤ w5.heap.size := (by have h := hb5.size; first | exact h | (simp at h; omega)); have hc5 : Below w.heap.size w w5 := (by first | exact hc4.trans hb5 | exact (hc4.alloc hc4.size _).trans hb5); have hn5 := row_ne (g := gx) ha5 hn3 (by first | omega | (simp; omega)); have hbx5 : Blk w5 gx 107 #[.string r.key, .string r.value, .bool r.dead] := (by first | exact Blk.app hbx4 hg5 hn3 | exact Blk.app (hbx4.alloc _) hg5 hn3); (try (first | (have hD5 := Blk.app hD4 hg5 (fun g hg => by have := hm3 g hg; simp at this ⊢; omega)) | (have hD5 := Blk.app (Blk.new w4 5 #[.int .u8 1]) hg5 (fun g hg => by have := hm3 g hg; omega)))))
                | (with_reducible show (if Region.wanted (⟨some 51, _, _, _, _, _⟩ : Oper) _ = true then _ else _); go_must (first | refine step_new (.tmp 48) (.tmp 50) el_u8 rfl rfl hown5 rfl (m := 1) rfl rfl rfl (by omega) hc5.size ?_ | refine step_rd (.tmp 48) (.tmp 50) el_u8 rfl rfl hown5 rfl (rd_one hD5) rfl (bv1_one _) (by omega) hc5.size ?_); intro v6 w6 hown6 hb6 hg6 ha6; have hl6 := hb6.size; have hc6 := hc5.trans hb6; have hn6 := row_ne (g := gx) ha6 hn5 (by first | omega | (simp; omega)); have hbx6 := Blk.app hbx5 hg6 hn5)
                | (go_at_call_of 9 (r.value); go_must (refine (text_any _ _ (by omega)).mono ?_); rintro e w7 ⟨v7, rfl, ho7, hb7⟩; have hl7 : w6.heap.size ≤ w7.heap.size := hb7.size; have hc7 := hc6.trans (hb7.mono hc6.size); have hbx7 := Blk.up hbx6 hb7; have hown7 := own_up hown6 hb7; obtain ⟨A7, c7, rfl, _, _, ha7, r7⟩ := own_form ho7)
                | (with_reducible show (if Region.wanted (⟨some 55, _, _, _, _, _⟩ : Oper) _ = true then _ else _); go_must (refine step_rd (.tmp 51) (.tmp 54) el_u8 rfl rfl hown7 rfl r7 rfl (bvs_one _) (by omega) hc7.size ?_); intro v8 w8 hown8 hb8 hg8 ha8; have hc8 := hc7.trans hb8; have hbx8 := Blk.app hbx7 hg8 hn6)))
            all_goals
              go_wp2
              go_roundw
              case rel =>
                refine ⟨0 + 1, m + (textB r.key.data.toList).length + 1 + (textB r.value.data.toList).length, by omega, by go_num, by omega, HG.out, ?_, hc8⟩
                rw [ents_step Hx.out]
                have hd2 : [Value.int .u8 1] = [bv (deadB r.dead)] := by rw [HDD.out]; rfl
                have hown9 := hown8
                first | rw [show #[Value.int .u8 1].toList = [bv (deadB r.dead)] from hd2] at hown9 | rw [hd2] at hown9
                simpa only [List.append_assoc, List.map_append, List.map_cons, List.map_nil] using hown9
              case measure => simp [intOf]; omega
        · have HEV : Hid (errV (entE r) = .nilIface) := Lib.hid (by rw [HR.out]; rfl)
          go_wp2_with (first | (go_at_call 85; go_must (refine (entry_any r _ hro).mono ?_); rintro e w2 ⟨rfl, hb2⟩; rw [HEV.out]))
          have hbx := Blk.up (Blk.new wr 107 #[.string r.key, .string r.value, .bool r.dead]) hb2
          have hown2 := own_up (hown.alloc (.cells #[.string r.key, .string r.value, .bool r.dead] 107)) hb2
          have hbel2 := hbel.trans ((((Below.refl wr.heap.size wr).alloc (Nat.le_refl _) (.cells #[.string r.key, .string r.value, .bool r.dead] 107)).trans (hb2.mono (by simp))).mono hbs)
          clear hb2
          obtain ⟨gx, hgx⟩ : ∃ gx, gx = wr.heap.size := ⟨_, rfl⟩
          rw [← hgx] at hbx hvb ⊢
          clear hgx
          obtain ⟨ad', q, hq', hbq, hxq, p0, p1, p2⟩ := hr.ent_ (k := j) (by omega) (Hn.out).symm hbel2 hB
          injection hq' with hq'
          subst hq'
          have Hxq := Lib.hid hxq
          clear hxq
          have hi0 : (0 : Int) ≤ (j : Int) := by omega
          have hi1 : (j : Int) < (n : Int) := by omega
          have hi2 : IntKind.i64.wrap ((j : Int) + 1 - 1) = (j : Int) := by rw [IntWalk.i64_in _ (by omega)]; omega
          have hi3 : IntKind.i64.wrap (j : Int) = (j : Int) := IntWalk.i64_in _ (by omega)
          obtain ⟨x0, x1, x2⟩ := cells3 hbx
          rcases hcmp : keyLt q.key r.key
          · have HG := Lib.hid (Hgo.out.trans (ego_order Hxq.out Hx.out HR.out hcmp))
            have tc : (Op.bytesLess q.key.toList r.key.toList) = false := hcmp
            clear hcmp
            go_quiet (fail)
            go_wp2_with fail
            go_ret2
            have e1 := entsE_of (l := l) (by have := Hn.out; omega) HG.out
            exact ⟨_, by rw [e1]; rfl, by rw [tabB_bad e1 (by omega)]; exact World.ownsRow_nil _ _ _ _, below_drewN hbel2 _⟩
          · have HG := Lib.hid (Hgo.out.trans (ego_next Hxq.out Hx.out HR.out hcmp))
            have tc : (Op.bytesLess q.key.toList r.key.toList) = true := hcmp
            clear hcmp
            go_quiet (fail)
            have hown3 := own_drewN hown2 nq
            have hbx3 := hbx.drewN nq
            have hbel3 := below_drewN hbel2 nq
            generalize w2.drewN nq = w3 at *
            clear p0 p1 p2 hi2 hi3 x0 x1 x2 tc
            have hn3 := hvb
            have hm3 : ∀ g, u4.ownBlock = some g → g < w3.heap.size := fun g hg => (hown3.lt g hg).2
            clear hown hown2 hbx hbel2
            have hbs3 := hbel3.size
            have hl3 := hbx3.lt
            rcases hdd : r.dead
            · 
              have HDD := Lib.hid hdd
              have x2 := hbx3.cell 2
              simp only [hdd] at x2
              obtain ⟨x0, x1, x3⟩ := cells3 hbx3
              clear hdd
              go_wp2_with fail
              clear x0 x1 x2 x3
              go_region_held3 (fun w' => w'.cell? ⟨gx, 0, none⟩ = some (.string r.key) ∧ w'.cell? ⟨gx, 1, none⟩ = some (.string r.value) ∧ w'.cell? ⟨gx, 2, none⟩ = some (.bool r.dead)) (first | exact cells3 hbx8 | exact cells3 hbx7 | exact cells3 hbx6 | exact cells3 (hbx5.alloc _) | exact cells3 hbx5 | exact cells3 (hbx4.alloc _) | exact cells3 hbx4 | exact cells3 (hbx3.drew.alloc _) | exact cells3 hbx3)
                ((first
                  | (go_at_call_of 9 (r.key); go_must (refine (text_any _ _ (by omega)).mono ?_); rintro e w4 ⟨v4, rfl, ho4, hb4⟩; have hl4 : w3.heap.size ≤ w4.heap.size := (by have h := hb4.size; first | exact h | (simp at h; omega)); have hc4 : Below w.heap.size w w4 := (by first | exact hbel3.drew.trans (hb4.mono hbs3) | exact (hbel3.drew.alloc hbs3 _).trans (hb4.mono (by simp; omega))); have hbx4 : Blk w4 gx 107 #[.string r.key, .string r.value, .bool r.dead] := (by first | exact Blk.up hbx3.drew hb4 | exact Blk.up (hbx3.drew.alloc _) hb4); have hown4 := (by first | exact own_up (own_drew hown3) hb4 | exact own_up ((own_drew hown3).alloc _) hb4 : w4.ownsRow _ _ _ _ _ _); (try (have hD4 := Blk.up (Blk.new w3.drew 5 #[.int .u8 0]) hb4)); obtain ⟨A4, c4, rfl, _, _, ha4, r4⟩ := own_form ho4)
                  | (with_reducible show (if Region.wanted (⟨some 48, _, _, _, _, _⟩ : Oper) _ = true then _ else _); go_must (first | refine step_rd (.tmp 44) (.tmp 47) el_u8 rfl rfl hown4 rfl r4 rfl (bvs_one _) (by omega) hc4.size ?_ | refine step_rd (.tmp 44) (.tmp 47) el_u8 rfl rfl (hown4.alloc _) rfl (r4.alloc (Nat.le_refl _) _) rfl (bvs_one _) (by omega) (by have := hc4.size; simp; omega) ?_); intro v5 w5 hown5 hb5 hg5 ha5; have hl5 : w4.heap.size ≤ w5.heap.size := (by have h := hb5.size; first | exact h | (simp at h; omega)); have hc5 : Below w.heap.size w w5 := (by first | exact hc4.trans hb5 | exact (hc4.alloc hc4.size _).trans hb5); have hn5 := row_ne (g := gx) ha5 hn3 (by first | omega | (simp; omega)); have hbx5 : Blk w5 gx 107 #[.string r.key, .string r.value, .bool r.dead] := (by first | exact Blk.app hbx4 hg5 hn3 | exact Blk.app (hbx4.alloc _) hg5 hn3); (try (first | (have hD5 := Blk.app hD4 hg5 (fun g hg => by have := hm3 g hg; simp at this ⊢; omega)) | (have hD5 := Blk.app (Blk.new w4 5 #[.int .u8 0]) hg5 (fun g hg => by have := hm3 g hg; omega)))))
                  | (with_reducible show (if Region.wanted (⟨some 51, _, _, _, _, _⟩ : Oper) _ = true then _ else _); go_must (first | refine step_new (.tmp 48) (.tmp 50) el_u8 rfl rfl hown5 rfl (m := 1) rfl rfl rfl (by omega) hc5.size ?_ | refine step_rd (.tmp 48) (.tmp 50) el_u8 rfl rfl hown5 rfl (rd_one hD5) rfl (bv1_one _) (by omega) hc5.size ?_); intro v6 w6 hown6 hb6 hg6 ha6; have hl6 := hb6.size; have hc6 := hc5.trans hb6; have hn6 := row_ne (g := gx) ha6 hn5 (by first | omega | (simp; omega)); have hbx6 := Blk.app hbx5 hg6 hn5)
                  | (go_at_call_of 9 (r.value); go_must (refine (text_any _ _ (by omega)).mono ?_); rintro e w7 ⟨v7, rfl, ho7, hb7⟩; have hl7 : w6.heap.size ≤ w7.heap.size := hb7.size; have hc7 := hc6.trans (hb7.mono hc6.size); have hbx7 := Blk.up hbx6 hb7; have hown7 := own_up hown6 hb7; obtain ⟨A7, c7, rfl, _, _, ha7, r7⟩ := own_form ho7)
                  | (with_reducible show (if Region.wanted (⟨some 55, _, _, _, _, _⟩ : Oper) _ = true then _ else _); go_must (refine step_rd (.tmp 51) (.tmp 54) el_u8 rfl rfl hown7 rfl r7 rfl (bvs_one _) (by omega) hc7.size ?_); intro v8 w8 hown8 hb8 hg8 ha8; have hc8 := hc7.trans hb8; have hbx8 := Blk.app hbx7 hg8 hn6)))
              all_goals
                go_wp2
                go_roundw
                case rel =>
                  refine ⟨(j+1) + 1, m + (textB r.key.data.toList).length + 1 + (textB r.value.data.toList).length, by omega, by go_num, by omega, HG.out, ?_, hc8⟩
                  rw [ents_step Hx.out]
                  have hd2 : [Value.int .u8 0] = [bv (deadB r.dead)] := by rw [HDD.out]; rfl
                  have hown9 := hown8
                  first | rw [show #[Value.int .u8 0].toList = [bv (deadB r.dead)] from hd2] at hown9 | rw [hd2] at hown9
                  simpa only [List.append_assoc, List.map_append, List.map_cons, List.map_nil] using hown9
                case measure => simp [intOf]; omega
            · 
              have HDD := Lib.hid hdd
              have x2 := hbx3.cell 2
              simp only [hdd] at x2
              obtain ⟨x0, x1, x3⟩ := cells3 hbx3
              clear hdd
              go_wp2_with fail
              clear x0 x1 x2 x3
              go_region_held3 (fun w' => w'.cell? ⟨gx, 0, none⟩ = some (.string r.key) ∧ w'.cell? ⟨gx, 1, none⟩ = some (.string r.value) ∧ w'.cell? ⟨gx, 2, none⟩ = some (.bool r.dead)) (first | exact cells3 hbx8 | exact cells3 hbx7 | exact cells3 hbx6 | exact cells3 (hbx5.alloc _) | exact cells3 hbx5 | exact cells3 (hbx4.alloc _) | exact cells3 hbx4 | exact cells3 (hbx3.drew.alloc _) | exact cells3 hbx3)
                ((first
                  | (go_at_call_of 9 (r.key); go_must (refine (text_any _ _ (by omega)).mono ?_); rintro e w4 ⟨v4, rfl, ho4, hb4⟩; have hl4 : w3.heap.size ≤ w4.heap.size := (by have h := hb4.size; first | exact h | (simp at h; omega)); have hc4 : Below w.heap.size w w4 := (by first | exact hbel3.drew.trans (hb4.mono hbs3) | exact (hbel3.drew.alloc hbs3 _).trans (hb4.mono (by simp; omega))); have hbx4 : Blk w4 gx 107 #[.string r.key, .string r.value, .bool r.dead] := (by first | exact Blk.up hbx3.drew hb4 | exact Blk.up (hbx3.drew.alloc _) hb4); have hown4 := (by first | exact own_up (own_drew hown3) hb4 | exact own_up ((own_drew hown3).alloc _) hb4 : w4.ownsRow _ _ _ _ _ _); (try (have hD4 := Blk.up (Blk.new w3.drew 5 #[.int .u8 1]) hb4)); obtain ⟨A4, c4, rfl, _, _, ha4, r4⟩ := own_form ho4)
                  | (with_reducible show (if Region.wanted (⟨some 48, _, _, _, _, _⟩ : Oper) _ = true then _ else _); go_must (first | refine step_rd (.tmp 44) (.tmp 47) el_u8 rfl rfl hown4 rfl r4 rfl (bvs_one _) (by omega) hc4.size ?_ | refine step_rd (.tmp 44) (.tmp 47) el_u8 rfl rfl (hown4.alloc _) rfl (r4.alloc (Nat.le_refl _) _) rfl (bvs_one _) (by omega) (by have := hc4.size; simp; omega) ?_); intro v5 w5 hown5 hb5 hg5 ha5; have hl5 : w4.heap.size ≤ w5.heap.size := (by have h := hb5.size; first | exact h | (simp at h; omega)); have hc5 : Below w.heap.size w w5 := (by first | exact hc4.trans hb5 | exact (hc4.alloc hc4.size _).trans hb5); have hn5 := row_ne (g := gx) ha5 hn3 (by first | omega | (simp; omega)); have hbx5 : Blk w5 gx 107 #[.string r.key, .string r.value, .bool r.dead] := (by first | exact Blk.app hbx4 hg5 hn3 | exact Blk.app (hbx4.alloc _) hg5 hn3); (try (first | (have hD5 := Blk.app hD4 hg5 (fun g hg => by have := hm3 g hg; simp at this ⊢; omega)) | (have hD5 := Blk.app (Blk.new w4 5 #[.int .u8 1]) hg5 (fun g hg => by have := hm3 g hg; omega)))))
                  | (with_reducible show (if Region.wanted (⟨some 51, _, _, _, _, _⟩ : Oper) _ = true then _ else _); go_must (first | refine step_new (.tmp 48) (.tmp 50) el_u8 rfl rfl hown5 rfl (m := 1) rfl rfl rfl (by omega) hc5.size ?_ | refine step_rd (.tmp 48) (.tmp 50) el_u8 rfl rfl hown5 rfl (rd_one hD5) rfl (bv1_one _) (by omega) hc5.size ?_); intro v6 w6 hown6 hb6 hg6 ha6; have hl6 := hb6.size; have hc6 := hc5.trans hb6; have hn6 := row_ne (g := gx) ha6 hn5 (by first | omega | (simp; omega)); have hbx6 := Blk.app hbx5 hg6 hn5)
                  | (go_at_call_of 9 (r.value); go_must (refine (text_any _ _ (by omega)).mono ?_); rintro e w7 ⟨v7, rfl, ho7, hb7⟩; have hl7 : w6.heap.size ≤ w7.heap.size := hb7.size; have hc7 := hc6.trans (hb7.mono hc6.size); have hbx7 := Blk.up hbx6 hb7; have hown7 := own_up hown6 hb7; obtain ⟨A7, c7, rfl, _, _, ha7, r7⟩ := own_form ho7)
                  | (with_reducible show (if Region.wanted (⟨some 55, _, _, _, _, _⟩ : Oper) _ = true then _ else _); go_must (refine step_rd (.tmp 51) (.tmp 54) el_u8 rfl rfl hown7 rfl r7 rfl (bvs_one _) (by omega) hc7.size ?_); intro v8 w8 hown8 hb8 hg8 ha8; have hc8 := hc7.trans hb8; have hbx8 := Blk.app hbx7 hg8 hn6)))
              all_goals
                go_wp2
                go_roundw
                case rel =>
                  refine ⟨(j+1) + 1, m + (textB r.key.data.toList).length + 1 + (textB r.value.data.toList).length, by omega, by go_num, by omega, HG.out, ?_, hc8⟩
                  rw [ents_step Hx.out]
                  have hd2 : [Value.int .u8 1] = [bv (deadB r.dead)] := by rw [HDD.out]; rfl
                  have hown9 := hown8
                  first | rw [show #[Value.int .u8 1].toList = [bv (deadB r.dead)] from hd2] at hown9 | rw [hd2] at hown9
                  simpa only [List.append_assoc, List.map_append, List.map_cons, List.map_nil] using hown9
                case measure => simp [intOf]; omega
      · have HEV : Hid (errV (entE r) = .iface 84 (.int .i64 (entE r))) := Lib.hid (by rw [errV, if_neg hrk])
        have HR := Lib.hid hrk
        clear hrk
        go_wp2_with (first | (go_at_call 85; go_must (refine (entry_any r _ hro).mono ?_); rintro e w2 ⟨rfl, hb2⟩; rw [HEV.out]))
        have hbx := Blk.up (Blk.new wr 107 #[.string r.key, .string r.value, .bool r.dead]) hb2
        have hown2 := own_up (hown.alloc (.cells #[.string r.key, .string r.value, .bool r.dead] 107)) hb2
        have hbel2 := hbel.trans ((((Below.refl wr.heap.size wr).alloc (Nat.le_refl _) (.cells #[.string r.key, .string r.value, .bool r.dead] 107)).trans (hb2.mono (by simp))).mono hbs)
        clear hb2
        obtain ⟨gx, hgx⟩ : ∃ gx, gx = wr.heap.size := ⟨_, rfl⟩
        rw [← hgx] at hbx hvb ⊢
        clear hgx
        go_ret2
        have e1 := entsE_of (l := l) (by have := Hn.out; omega) (Hgo.out.trans (ego_bad Hx.out HR.out))
        exact ⟨_, by rw [e1, HEV.out]; rfl, by rw [tabB_bad e1 HR.out]; exact World.ownsRow_nil _ _ _ _, hbel2⟩
    · have e : k = n := by omega
      have e1 := entsE_of (l := l) (by have := Hn.out; omega) (Hgo.out.trans (by rw [List.drop_eq_nil_of_le (by have := Hn.out; omega), entsGo]))
      have hin : (numB n).map bv ++ ((l.take k).flatMap entB).map bv = (tabIn l).map bv := by
        rw [tabIn, List.map_append, ← Hn.out, List.take_of_length_le (by have := Hn.out; omega)]
      rw [hin] at hown
      have hle := tabIn_le e1
      have hown2 := own_b hown rfl
      obtain ⟨A1, c1, rfl, _, _, _, r1⟩ := own_form hown2
      have H1 := Lib.hid e1
      have hse := seal_any A1 c1 wr.heap.size (tabIn l) wr r1 (Nat.le_refl _) (by omega)
      have HSE := Lib.hid hse
      clear hse e1 hin hown hown2 r1 e
      generalize (tabIn l).length = q at *
      go_wp2_with (first
        | (go_at_call 11; go_must (refine HSE.out.mono ?_); rintro e w2 ⟨v2, rfl, ho2, hb2⟩))
      go_ret2
      refine ⟨_, by rw [H1.out]; rfl, ?_, below_up hbel hb2⟩
      rw [tabB_good H1.out]
      exact own_base ho2 hbs
end Go.Proofs.Ytcfijljagohmlaa
