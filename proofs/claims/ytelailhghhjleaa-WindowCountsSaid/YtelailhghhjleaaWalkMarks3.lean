/- The walk of window.Marks. -/
import Derived.Test.YtelailhghhjleaaWalkMarks2
import Derived.Deep.CutBlock
import Derived.Deep.CutRange
namespace Go.Proofs.Ytelailhghhjleaa
open Go.RowKit

set_option maxRecDepth 100000 in
set_option maxHeartbeats 8000000 in
theorem marks_any (A : Option Addr) (c B : Nat) (ls : List (List Rec)) (slack : Int) (w : World) (hr : RdLL w B A ls) (hB : B ≤ w.heap.size) (hok : ∀ l ∈ ls, (∀ r ∈ l, r.Ok) ∧ l.length ≤ 140737488355328) (hl : ls.length ≤ 140737488355328)
    (hs0 : -9223372036854775808 ≤ slack) (hs1 : slack ≤ 9223372036854775807) :
    Calls Try.prog 16 #[.slice A ls.length c, .int .i64 slack] w fun e w' => ∃ v, e = .returned (.tuple #[v, errV (marksE ls slack)]) ∧ w'.ownsRow w.heap.size 3 1 v (marksL ls slack).length ((marksL ls slack).map iv) ∧ Below w.heap.size w w' := by
  obtain ⟨n, hn⟩ : ∃ n, n = ls.length := ⟨_, rfl⟩
  have Hn := Lib.hid hn
  rw [← hn] at hl ⊢
  clear hn
  have hoki : ∀ j, j < n → (∀ r ∈ inp ls j, r.Ok) ∧ (inp ls j).length ≤ 140737488355328 := fun j hj => by
    have hj' : j < ls.length := by have := Hn.out; omega
    have hx : inp ls j ∈ ls := by rw [inp, List.getD_eq_getElem?_getD, List.getElem?_eq_getElem hj']; exact List.getElem_mem hj'
    exact hok _ hx
  by_cases hbig : 4 < n
  · have HE : Hid (marksE ls slack = 4) := Lib.hid (by rw [marksE, if_pos (.inl (by have := Hn.out; omega))])
    go_enter Try.func16, Try.ntmps16
    go_wp2
    go_ret2
    have e0 : marksL ls slack = [] := by rw [marksL, if_neg (by have := HE.out; omega)]
    refine ⟨_, by rw [HE.out]; rfl, by rw [e0]; exact World.ownsRow_nil _ _ _ _, ?_⟩
    exact Below.refl _ _
  go_enter Try.func16, Try.ntmps16
  go_wp2_with fail
  go_loopw [6, 25] (fun x i wr => ∃ k t : Nat, k ≤ n ∧ i = .int .i64 k ∧ x = .int .i64 t ∧ t ≤ 140737488355328 * k ∧ Hid (t + ((ls.drop k).map List.length).sum = totL ls) ∧ w = wr) (fun _ i _ => n - (intOf i).toNat)
  case atStart => exact ⟨0, 0, Nat.zero_le _, rfl, rfl, by omega, Lib.hid (by simp [totL]), rfl⟩
  case round =>
    obtain ⟨k, t, hk, rfl, rfl, ht, HA, rfl⟩ := hrel
    by_cases hlt : k < n
    · obtain ⟨ad, A', c', rfl, cl, _, _, _⟩ := hr.at_ (Below.refl w.heap.size w) hB (i := k) (by have := Hn.out; omega)
      have hlen := (hoki k hlt).2
      have HA2 := Lib.hid ((tot_step (ls := ls) (k := k) (by have := Hn.out; omega) t).symm.trans HA.out)
      obtain ⟨p, hp⟩ : ∃ p, p = (inp ls k).length := ⟨_, rfl⟩
      rw [← hp] at cl hlen HA2
      clear hp hoki
      go_wp2_with fail
      go_roundw
      case rel => exact ⟨k + 1, t + p, by omega, by go_num, by go_num, by omega, HA2, trivial⟩
      case measure => simp [intOf]; omega
    · have e := HA.out
      rw [List.drop_eq_nil_of_le (by have := Hn.out; omega)] at e
      simp only [List.map_nil, List.sum_nil, Nat.add_zero] at e
      have HT := Lib.hid e
      clear e HA
      by_cases ht4 : 400 < t
      · have HE : Hid (marksE ls slack = 4) := Lib.hid (by rw [marksE, if_pos (.inr (by have := HT.out; omega))])
        clear hoki
        go_wp2_with fail
        go_ret2
        have e0 : marksL ls slack = [] := by rw [marksL, if_neg (by have := HE.out; omega)]
        refine ⟨_, by rw [HE.out]; rfl, by rw [e0]; exact World.ownsRow_nil _ _ _ _, ?_⟩
        exact Below.refl _ _
      go_wp2_with fail
      go_loopw [39] (fun i wr => ∃ k : Nat, k ≤ n ∧ i = .int .i64 k ∧ Hid (∀ j, j < k → recsE (inp ls j) = 0) ∧ Below w.heap.size w wr) (fun i _ => n - (intOf i).toNat)
      case atStart => exact ⟨0, Nat.zero_le _, rfl, Lib.hid (fun j hj => by omega), Below.refl _ _⟩
      case round =>
        obtain ⟨k, hk, rfl, HA, hbel⟩ := hrel
        by_cases hlt : k < n
        · obtain ⟨ad, A', c', rfl, cl, _, _, hrl⟩ := hr.at_ hbel hB (i := k) (by have := Hn.out; omega)
          have HC := Lib.hid (fun W (h : Below wr.heap.size wr W) => check_any A' c' B (inp ls k) W (hrl.below h (Nat.le_trans hB hbel.size)) (Nat.le_trans hB (Nat.le_trans hbel.size h.size)) (hoki k hlt).1 (hoki k hlt).2)
          have hp4 : (inp ls k).length ≤ 400 := by have := inp_le (ls := ls) k; have := HT.out; omega
          obtain ⟨p, hp⟩ : ∃ p, p = (inp ls k).length := ⟨_, rfl⟩
          rw [← hp] at cl HC hp4
          by_cases hE : recsE (inp ls k) = 0
          · rw [show errV (recsE (inp ls k)) = .nilIface from by rw [hE]; rfl] at HC
            have HE := Lib.hid hE
            clear hp hoki hrl hE
            go_wp2_with (first | (go_at_call 24; refine (HC.out _ (Below.refl _ _)).mono ?_; rintro e w2 ⟨rfl, hb2⟩))
            go_roundw
            case rel => exact ⟨k + 1, by omega, by go_num, Lib.hid (fun j hj => by
              by_cases hjk : j = k
              · subst hjk; exact HE.out
              · exact HA.out j (by omega)), below_up hbel hb2⟩
            case measure => simp [intOf]; omega
          · obtain ⟨e1, e2⟩ := allOk_not (by have := Hn.out; omega) (by omega) hE
            rw [show errV (recsE (inp ls k)) = .iface 63 (.int .i64 1) from by rw [e2]; rfl] at HC
            have HE : Hid (marksE ls slack = 1) := Lib.hid (by rw [marksE, if_neg (by have := HT.out; have := Hn.out; omega), if_pos e1])
            clear hp hoki hrl hE e1 e2
            go_wp2_with (first | (go_at_call 24; refine (HC.out _ (Below.refl _ _)).mono ?_; rintro e w2 ⟨rfl, hb2⟩))
            go_ret2
            have e0 : marksL ls slack = [] := by rw [marksL, if_neg (by have := HE.out; omega)]
            refine ⟨_, by rw [HE.out]; rfl, by rw [e0]; exact World.ownsRow_nil _ _ _ _, ?_⟩
            exact below_up hbel hb2
        · have hall := allOk_of (ls := ls) (fun j hj => HA.out j (by have := Hn.out; omega))
          have HO := Lib.hid hall
          clear HA hall
          by_cases hsl : slack < 0
          · have HE : Hid (marksE ls slack = 1) := Lib.hid (by rw [marksE, if_neg (by have := HT.out; have := Hn.out; omega), if_neg (by simp [HO.out]), if_pos (.inl hsl)])
            clear hoki
            go_wp2_with fail
            go_ret2
            have e0 : marksL ls slack = [] := by rw [marksL, if_neg (by have := HE.out; omega)]
            refine ⟨_, by rw [HE.out]; rfl, by rw [e0]; exact World.ownsRow_nil _ _ _ _, ?_⟩
            exact hbel
          by_cases hsl2 : 1000000 < slack
          · have HE : Hid (marksE ls slack = 1) := Lib.hid (by rw [marksE, if_neg (by have := HT.out; have := Hn.out; omega), if_neg (by simp [HO.out]), if_pos (.inr hsl2)])
            clear hoki
            go_wp2_with fail
            go_ret2
            have e0 : marksL ls slack = [] := by rw [marksL, if_neg (by have := HE.out; omega)]
            refine ⟨_, by rw [HE.out]; rfl, by rw [e0]; exact World.ownsRow_nil _ _ _ _, ?_⟩
            exact hbel
          have HE : Hid (marksE ls slack = 0) := Lib.hid (by rw [marksE, if_neg (by have := HT.out; have := Hn.out; omega), if_neg (by simp [HO.out]), if_neg (by omega)])
          have hmk := run_make_row' (P := Try.prog) 34 3 (.int .i64 0) 8 Try.underlying34 (by kernel_rfl) rfl .i64 .i64 n (by omega) (by omega) wr
          have hM := Blk.new wr 3 (madeCells #[.int .i64 0] n)
          have hbx := hbel.alloc hbel.size (.cells (madeCells #[.int .i64 0] n) 3)
          have hsm : wr.heap.size < (wr.alloc (.cells (madeCells #[.int .i64 0] n) 3)).heap.size := by simp
          have hws := hbel.size
          go_wp2_with fail
          generalize wr.alloc (.cells (madeCells #[.int .i64 0] n) 3) = wm at *
          obtain ⟨gm, hgm⟩ : ∃ gm, gm = wr.heap.size := ⟨_, rfl⟩
          rw [← hgm] at hM hsm hws ⊢
          clear hgm hbel hmk
          rw [← fCells_zero] at hM
          have h400 : ∀ j, j < n → (inp ls j).length ≤ 400 := fun j _ => by have := inp_le (ls := ls) j; have := HT.out; omega
          go_loopw [13, 14] (fun o v wr => ∃ k q : Nat, k ≤ 400 ∧ v = .int .i64 k ∧ q ≤ t ∧ Hid (q = (outsTo ls slack k).length) ∧ wr.ownsRow (gm + 1) 3 1 o q ((outsTo ls slack k).map iv) ∧ Blk wr gm 3 (fCells (fun j => mk ls slack j k) n) ∧ Below w.heap.size w wr) (fun _ v _ => 400 - (intOf v).toNat)
          case atStart =>
            refine ⟨0, 0, by omega, rfl, Nat.zero_le _, Lib.hid rfl, World.ownsRow_nil _ _ _ _, ?_, hbx⟩
            have e : fCells (fun j => mk ls slack j 0) n = fCells (fun _ => 0) n := fCells_eq fun j _ => mk_zero ls slack j
            rw [e]; exact hM
          case round =>
            clear hM hbx hsm
            obtain ⟨k, q, hk, rfl, hq, HQ, hown, hM, hbel⟩ := hrel
            obtain ⟨Ao, co, rfl, hqo, hco, hbo, hro⟩ := own_form hown
            by_cases hqt : q < t
            · have hk4 : k < 400 := outsTo_more (ls := ls) (slack := slack) (by have := HT.out; omega) (by have := HQ.out; have := HT.out; omega)
              clear hro hbo
              go_wp2_with fail
              go_loopw [13, 67] (fun o v wr => ∃ i m : Nat, i ≤ n ∧ v = .int .i64 i ∧ m ≤ q + i ∧ wr.ownsRow (gm + 1) 3 1 o m ((outsTo ls slack k ++ rowTo ls slack k i).map iv) ∧ Blk wr gm 3 (fCells (midF ls slack k i) n) ∧ Below w.heap.size w wr) (fun _ v _ => n - (intOf v).toNat)
              case atStart =>
                refine ⟨0, q, Nat.zero_le _, rfl, by omega, by simpa [rowTo] using hown, ?_, hbel⟩
                rw [Hn.out, midF_start, ← Hn.out]; exact hM
              case round =>
                clear hown hM hbel
                obtain ⟨i, m, hi, rfl, hm, hown, hM, hbel⟩ := hrel
                by_cases hin : i < n
                · obtain ⟨ad, A', c', rfl, cl, hlc, _, hrl⟩ := hr.at_ hbel hB (i := i) (by have := Hn.out; omega)
                  have hp4 := h400 i hin
                  obtain ⟨p, hp⟩ : ∃ p, p = (inp ls i).length := ⟨_, rfl⟩
                  rw [← hp] at cl hlc hrl hp4
                  have Hp := Lib.hid hp
                  clear hp
                  by_cases hkp : p ≤ k
                  · clear hrl
                    go_wp2_with fail
                    go_roundw
                    case rel =>
                      refine ⟨i + 1, m, by omega, by go_num, by omega, ?_, ?_, hbel⟩
                      · rw [rowTo_succ, outAt, if_neg (by have := Hp.out; omega), List.append_nil]; exact hown
                      · rw [Hn.out, midF_skip (by have := Hp.out; omega), ← Hn.out]; exact hM
                    case measure => simp [intOf]; omega
                  · obtain ⟨Ao9, co9, rfl, hqo9, hco9, hbo9, hro9⟩ := own_form hown
                    clear hro9 hbo9
                    obtain ⟨ad2, r, rfl, hx, g0, g1, g2⟩ := hrl.rec_ (k := k) (by omega) Hp.out.symm (Below.refl _ _) (Nat.le_trans hB hbel.size)
                    have hrt := allOk_inp HO.out i r (List.mem_of_getElem? hx)
                    simp only [recOk, Bool.and_eq_true, decide_eq_true_eq] at hrt
                    obtain ⟨⟨_, ht0⟩, ht1⟩ := hrt
                    have hz := mk_le (slack := slack) HO.out (by omega) i k
                    have mc := (hM.cell i).trans (fCells_at hin)
                    rw [show midF ls slack k i i = mk ls slack i k from by unfold midF; rw [if_neg (by omega)]] at mc
                    have mf := hM.frozen i
                    have hM2 := hM.set_ i (.int .i64 (max (mk ls slack i k) (r.time - slack)))
                    rw [Hn.out, midF_set hx, ← Hn.out] at hM2
                    obtain ⟨z, hze⟩ : ∃ z, z = mk ls slack i k := ⟨_, rfl⟩
                    rw [← hze] at hz mc hM2
                    obtain ⟨tm, htm⟩ : ∃ tm, tm = r.time := ⟨_, rfl⟩
                    rw [← htm] at g2 ht0 ht1 hM2
                    have Hx := Lib.hid hx
                    clear hze htm hx g0 g1 hrl
                    have hwt : IntKind.i64.wrap (tm - slack) = tm - slack := IntWalk.i64_in _ (by omega)
                    have hown2 := ownsRow_setCell_below hown (a := ⟨gm, i, none⟩) (by simp) (.int .i64 (max z (tm - slack)))
                    have hbel2 := hbel.setCell (p := ⟨gm, i, none⟩) hws (.int .i64 (max z (tm - slack)))
                    have hk0 : (0 : Int) ≤ (k : Int) := by omega
                    have hk1 : (k : Int) < (p : Int) := by omega
                    go_upto_region 29 with fail
                    go_cut [] from 68 to 90 (fun wx => wx.ownsRow (gm + 1) 3 1 (.slice Ao9 m co9) m ((outsTo ls slack k ++ rowTo ls slack k i).map iv) ∧ Blk wx gm 3 (fCells (midF ls slack k (i + 1)) n) ∧ Below w.heap.size w wx)
                    case first =>
                      go_still_tail 14, (by kernel_rfl)
                      change wpList _ _ _ _ _ wr.drew
                      go_wp2_with fail
                      all_goals go_meet
                      all_goals first
                        | (rw [show max z (tm - slack) = z from by omega] at hM2 hown2 hbel2; exact ⟨own_drew hown2, hM2.drew, hbel2.drew⟩)
                        | (rw [show max z (tm - slack) = tm - slack from by omega] at hM2 hown2 hbel2; exact ⟨own_drew hown2, hM2.drew, hbel2.drew⟩)
                    case rest =>
                      clear hown hM hbel hM2 hown2 hbel2 mc mf g2
                      obtain ⟨hown, hM, hbel⟩ := hcut
                      rw [midF_came] at hM
                      have hM' := hM
                      obtain ⟨f, hf⟩ : ∃ f : Nat → Int, f = fun j => mk ls slack j (cameAt k i j) := ⟨_, rfl⟩
                      rw [← hf] at hM
                      have hfb : ∀ j, 0 ≤ f j ∧ f j ≤ 1000000 := fun j => by rw [hf]; exact mk_le HO.out (by omega) j _
                      have HF := Lib.hid hf
                      have HFB := Lib.hid hfb
                      clear hf hfb
                      go_wp2_with fail
                      go_loopw [17, 93] (fun x v wx => ∃ j : Nat, ∃ a : Int, j ≤ n ∧ v = .int .i64 j ∧ x = .int .i64 a ∧ -1 ≤ a ∧ a ≤ 1000000 ∧ Hid (leastFrom ls f (n - j) j a = leastM ls f) ∧ wc = wx) (fun _ v _ => n - (intOf v).toNat)
                      case atStart => exact ⟨0, -1, Nat.zero_le _, rfl, rfl, by omega, by omega, Lib.hid (by rw [leastM, ← Hn.out]; rfl), rfl⟩
                      case round =>
                        obtain ⟨j, a, hj, rfl, rfl, ha0, ha1, HA, rfl⟩ := hrel
                        by_cases hjn : j < n
                        · obtain ⟨ad3, A3, c3, e3, cl3, _, _, _⟩ := hr.at_ hbel hB (i := j) (by have := Hn.out; omega)
                          injection e3 with e3
                          subst e3
                          have hp3 := h400 j hjn
                          have hls := leastFrom_succ ls f n j a hjn
                          obtain ⟨fb0, fb1⟩ := HFB.out j
                          obtain ⟨y, hy⟩ : ∃ y, y = f j := ⟨_, rfl⟩
                          have mj := (hM.cell j).trans (fCells_at hjn)
                          rw [← hy] at mj hls fb0 fb1
                          obtain ⟨p3, hp3e⟩ : ∃ p3, p3 = (inp ls j).length := ⟨_, rfl⟩
                          rw [← hp3e] at cl3 hp3 hls
                          rw [hls] at HA
                          clear hls hy hp3e
                          by_cases q0 : p3 = 0
                          · subst q0
                            rw [if_neg (by omega)] at HA
                            go_wp2_with fail
                            go_roundw
                            case rel => exact ⟨j + 1, a, by omega, by go_num, rfl, ha0, ha1, HA, trivial⟩
                            case measure => simp [intOf]; omega
                          have q1 : 0 < p3 := by omega
                          by_cases a0 : a < 0
                          · rw [if_pos ⟨q1, .inl a0⟩] at HA
                            go_wp2_with fail
                            go_roundw
                            case rel => exact ⟨j + 1, y, by omega, by go_num, rfl, by omega, by omega, HA, trivial⟩
                            case measure => simp [intOf]; omega
                          have t0 : decide (a < 0) = false := by simpa using a0
                          by_cases a1 : y < a
                          · rw [if_pos ⟨q1, .inr a1⟩] at HA
                            have t1 : decide (y < a) = true := by simpa using a1
                            go_wp2_with fail
                            go_roundw
                            case rel => exact ⟨j + 1, y, by omega, by go_num, rfl, by omega, by omega, HA, trivial⟩
                            case measure => simp [intOf]; omega
                          · rw [if_neg (by omega)] at HA
                            have t1 : decide (y < a) = false := by simpa using a1
                            go_wp2_with fail
                            go_roundw
                            case rel => exact ⟨j + 1, a, by omega, by go_num, rfl, ha0, ha1, HA, trivial⟩
                            case measure => simp [intOf]; omega
                        · have hae : a = leastM ls f := by
                            have := HA.out
                            rwa [leastFrom_done ls f n j a (by omega)] at this
                          have HAE := Lib.hid hae
                          clear hae HA
                          have hgl := hM.lt
                          go_wp2_with (first
                            | (with_reducible show wpList _ _ _ (⟨some 122, _, _, _, _, _⟩ :: _) _ _; go_must (refine wpList_new (.tmp 119) (.tmp 121) el_int rfl rfl hown rfl rfl rfl rfl (by omega) (by omega) ?_); intro v4 w4 hown4 hb4 hg4 ha4))
                          go_roundw
                          case rel =>
                            refine ⟨i + 1, m + 1, by omega, by go_num, by omega, ?_, ?_, hbel.trans (hb4.mono (by omega))⟩
                            · have e1 : rowTo ls slack k (i + 1) = rowTo ls slack k i ++ [leastM ls f] := by rw [rowTo_succ, outAt, if_pos (by have := Hp.out; omega), HF.out]
                              rw [e1, ← HAE.out, ← List.append_assoc, List.map_append]; exact hown4
                            · rw [midF_came, ← HF.out]; exact hM.own hown hg4 (by omega)
                          case measure => simp [intOf]; omega
                · have hie : i = n := by omega
                  have hro2 : rowTo ls slack k i = rowTo ls slack k ls.length := by rw [hie, Hn.out]
                  obtain ⟨Ao9, co9, rfl, hqo9, hco9, hbo9, hro9⟩ := own_form hown
                  clear hro9 hbo9
                  have hln : m = (outsTo ls slack (k + 1)).length := by
                    have := hown.1
                    rw [List.length_map, hro2, ← outsTo_succ] at this
                    omega
                  have hlt2 := outsTo_le ls slack (k + 1)
                  have HLN := Lib.hid hln
                  have hmt : m ≤ t := by have := HT.out; omega
                  rw [hro2, ← outsTo_succ] at hown
                  rw [hie, Hn.out, midF_end, ← Hn.out] at hM
                  clear hln hlt2 hro2
                  go_wp2_with fail
                  go_roundw
                  case rel => exact ⟨k + 1, m, by omega, by go_num, hmt, HLN, hown, hM, hbel⟩
                  case measure => simp [intOf]; omega
            · clear hro hbo
              go_wp2_with fail
              go_ret2
              have hd := outsTo_done (ls := ls) (slack := slack) (k := k) (by have := HT.out; omega) hk (by have := HQ.out; have := HT.out; omega)
              have eM : marksL ls slack = outsTo ls slack k := by rw [marksL, if_pos HE.out, hd]
              refine ⟨_, by rw [HE.out]; rfl, ?_, hbel⟩
              rw [eM, ← HQ.out]
              exact own_base hown (by omega)
end Go.Proofs.Ytelailhghhjleaa
