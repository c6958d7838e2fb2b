/- The walk of weirref2.Marks. -/
import Derived.Test.YtelailhghhjleaaDoorWalkMarks2
namespace Go.Proofs.YtelailhghhjleaaDoor
open Go.RowKit

theorem allOk_bad {ls : List (List Rec)} {j q : Nat} {r : Rec} (hj : j < ls.length) (h : (inp ls j)[q]? = some r) (hr : recOk r = false) : allOk ls = false := by
  have hx : ls[j]? = some (inp ls j) := by rw [inp, List.getD_eq_getElem?_getD, List.getElem?_eq_getElem hj]; rfl
  rw [allOk, List.all_eq_false]
  refine ⟨_, List.mem_of_getElem? hx, ?_⟩
  rw [Bool.not_eq_true, List.all_eq_false]
  exact ⟨r, List.mem_of_getElem? h, by simp [hr]⟩
theorem allOk_all {ls : List (List Rec)} (h : ∀ j, j < ls.length → ∀ (q : Nat) (r : Rec), (inp ls j)[q]? = some r → recOk r = true) : allOk ls = true := by
  rw [allOk, List.all_eq_true]
  intro l hl
  obtain ⟨j, hj⟩ := List.mem_iff_getElem?.1 hl
  have hjl := (List.getElem?_eq_some_iff.1 hj).1
  have e : inp ls j = l := by rw [inp, List.getD_eq_getElem?_getD, hj]; rfl
  rw [List.all_eq_true]
  intro r hr
  obtain ⟨q, hq⟩ := List.mem_iff_getElem?.1 hr
  exact h j hjl q r (by rw [e]; exact hq)
theorem mk_all {ls : List (List Rec)} {slack : Int} {j q came : Nat} (h : (inp ls j).length ≤ q) (h2 : q ≤ came) : mk ls slack j q = mk ls slack j came := by
  rw [mk, mk, List.take_of_length_le h, List.take_of_length_le (by omega)]

set_option maxRecDepth 100000 in
set_option maxHeartbeats 8000000 in
theorem smarks_any (A : Option Addr) (c B : Nat) (ls : List (List Rec)) (slack : Int) (w : World) (hr : RdLL w B A ls) (hB : B ≤ w.heap.size) (hok : ∀ l ∈ ls, (∀ r ∈ l, r.Ok) ∧ l.length ≤ 140737488355328) (hl : ls.length ≤ 140737488355328)
    (hs0 : -9223372036854775808 ≤ slack) (hs1 : slack ≤ 9223372036854775807) :
    Calls Tryd.prog 10 #[.slice A ls.length c, .int .i64 slack] w fun e w' => ∃ v, e = .returned (.tuple #[v, .int .i64 (marksE ls slack)]) ∧ w'.ownsRow w.heap.size 3 1 v (marksL ls slack).length ((marksL ls slack).map iv) ∧ Below w.heap.size w w' := by
  obtain ⟨n, hn⟩ : ∃ n, n = ls.length := ⟨_, rfl⟩
  have Hn := Lib.hid hn
  rw [← hn] at hl ⊢
  clear hn
  have hoki : ∀ j, j < n → (∀ r ∈ inp ls j, r.Ok) ∧ (inp ls j).length ≤ 140737488355328 := fun j hj => by
    have hj' : j < ls.length := by have := Hn.out; omega
    have hx : inp ls j ∈ ls := by rw [inp, List.getD_eq_getElem?_getD, List.getElem?_eq_getElem hj']; exact List.getElem_mem hj'
    exact hok _ hx
  have HOKI := Lib.hid hoki
  clear hoki hok
  by_cases hbig : 4 < n
  · have HE : Hid (marksE ls slack = 4) := Lib.hid (by rw [marksE, if_pos (.inl (by have := Hn.out; omega))])
    go_enter Tryd.func10, Tryd.ntmps10
    go_wp2_with fail
    go_loopw [6, 7] (fun x i wr => ∃ k : Nat, ∃ z : Int, k ≤ n ∧ i = .int .i64 k ∧ x = .int .i64 z ∧ w = wr) (fun _ i _ => n - (intOf i).toNat)
    case atStart => exact ⟨0, 0, Nat.zero_le _, rfl, rfl, rfl⟩
    case round =>
      obtain ⟨k, z, hk, rfl, rfl, rfl⟩ := hrel
      by_cases hlt : k < n
      · obtain ⟨ad, A', c', rfl, cl, _, _, _⟩ := hr.at_ (Below.refl w.heap.size w) hB (i := k) (by have := Hn.out; omega)
        obtain ⟨p, hp⟩ : ∃ p, p = (inp ls k).length := ⟨_, rfl⟩
        rw [← hp] at cl
        clear hp
        go_wp2_with fail
        go_roundw
        case rel => exact ⟨k + 1, _, by omega, by go_num, rfl, trivial⟩
        case measure => simp [intOf]; omega
      · go_wp2_with fail
        go_ret2
        have e0 : marksL ls slack = [] := by rw [marksL, if_neg (by have := HE.out; omega)]
        refine ⟨_, by rw [HE.out]; rfl, by rw [e0]; exact World.ownsRow_nil _ _ _ _, ?_⟩
        exact Below.refl _ _
  go_enter Tryd.func10, Tryd.ntmps10
  go_wp2_with fail
  go_loopw [6, 7] (fun x i wr => ∃ k t : Nat, k ≤ n ∧ i = .int .i64 k ∧ x = .int .i64 t ∧ t ≤ 140737488355328 * k ∧ Hid (t + ((ls.drop k).map List.length).sum = totL ls) ∧ w = wr) (fun _ i _ => n - (intOf i).toNat)
  case atStart => exact ⟨0, 0, Nat.zero_le _, rfl, rfl, by omega, Lib.hid (by simp [totL]), rfl⟩
  case round =>
    obtain ⟨k, t, hk, rfl, rfl, ht, HA, rfl⟩ := hrel
    by_cases hlt : k < n
    · obtain ⟨ad, A', c', rfl, cl, _, _, _⟩ := hr.at_ (Below.refl w.heap.size w) hB (i := k) (by have := Hn.out; omega)
      have hlen := (HOKI.out k hlt).2
      have HA2 := Lib.hid ((tot_step (ls := ls) (k := k) (by have := Hn.out; omega) t).symm.trans HA.out)
      obtain ⟨p, hp⟩ : ∃ p, p = (inp ls k).length := ⟨_, rfl⟩
      rw [← hp] at cl hlen HA2
      clear hp
      go_wp2_with fail
      go_roundw
      case rel => exact ⟨k + 1, t + p, by omega, by go_num, by go_num, by omega, HA2, trivial⟩
      case measure => simp [intOf]; omega
    · have e := HA.out
      rw [List.drop_eq_nil_of_le (by have := Hn.out; omega)] at e
      simp only [List.map_nil, List.sum_nil, Nat.add_zero] at e
      have HT := Lib.hid e
      clear e HA
      by_cases ht4 : 400 < t
      · have HE : Hid (marksE ls slack = 4) := Lib.hid (by rw [marksE, if_pos (.inr (by have := HT.out; omega))])
        go_wp2_with fail
        go_ret2
        have e0 : marksL ls slack = [] := by rw [marksL, if_neg (by have := HE.out; omega)]
        refine ⟨_, by rw [HE.out]; rfl, by rw [e0]; exact World.ownsRow_nil _ _ _ _, ?_⟩
        exact Below.refl _ _
      go_wp2_with fail
      go_loopw [8] (fun i wr => ∃ k : Nat, k ≤ n ∧ i = .int .i64 k ∧ Hid (∀ j, j < k → ∀ (q : Nat) (r : Rec), (inp ls j)[q]? = some r → recOk r = true) ∧ Below w.heap.size w wr) (fun i _ => n - (intOf i).toNat)
      case atStart => exact ⟨0, Nat.zero_le _, rfl, Lib.hid (fun j hj => by omega), Below.refl _ _⟩
      case round =>
        obtain ⟨k, hk, rfl, HA, hbel⟩ := hrel
        by_cases hlt : k < n
        · have hp4 : (inp ls k).length ≤ 400 := by have := inp_le (ls := ls) k; have := HT.out; omega
          obtain ⟨p, hp⟩ : ∃ p, p = (inp ls k).length := ⟨_, rfl⟩
          rw [← hp] at hp4
          have HP := Lib.hid hp
          clear hp
          go_wp2_with fail
          go_loopw [9] (fun v wx => ∃ q : Nat, q ≤ p ∧ v = .int .i64 q ∧ Hid (∀ (u : Nat) (r : Rec), u < q → (inp ls k)[u]? = some r → recOk r = true) ∧ Below w.heap.size w wx) (fun v _ => p - (intOf v).toNat)
          case atStart => exact ⟨0, Nat.zero_le _, rfl, Lib.hid (fun u r hu _ => by omega), hbel⟩
          case round =>
            clear hbel
            obtain ⟨q, hq, rfl, HQ, hbel⟩ := hrel
            obtain ⟨ad, A', c', rfl, cl, hlc, _, hrl⟩ := hr.at_ hbel hB (i := k) (by have := Hn.out; omega)
            rw [← HP.out] at cl hlc hrl
            by_cases hqp : q < p
            · obtain ⟨ad2, r, rfl, hx, g0, g1, g2⟩ := hrl.rec_ (k := q) hqp HP.out.symm (Below.refl _ _) (Nat.le_trans hB hbel.size)
              have hro := (HOKI.out k hlt).1 r (List.mem_of_getElem? hx)
              have Hx := Lib.hid hx
              have hk0 : (0 : Int) ≤ (q : Int) := by omega
              have hk1 : (q : Int) < (p : Int) := by omega
              clear hx hrl
              rcases hrk : recOk r
              · have HC := Lib.hid (fun W => srecord_is r W hro.1 hrk)
                have HE : Hid (marksE ls slack = 1) := Lib.hid (by rw [marksE, if_neg (by have := HT.out; have := Hn.out; omega), if_pos (allOk_bad (by have := Hn.out; omega) Hx.out hrk)])
                clear hrk hro
                go_wp2_with (first | (go_at_call 35; refine (HC.out _).mono ?_; rintro e w2 ⟨rfl, hb2⟩))
                go_ret2
                have e0 : marksL ls slack = [] := by rw [marksL, if_neg (by have := HE.out; omega)]
                refine ⟨_, by rw [HE.out]; rfl, by rw [e0]; exact World.ownsRow_nil _ _ _ _, ?_⟩
                exact below_up hbel hb2
              · have HR := Lib.hid hrk
                have HC := Lib.hid (fun W => srecord_is r W hro.1 HR.out)
                clear hrk hro
                go_wp2_with (first | (go_at_call 35; refine (HC.out _).mono ?_; rintro e w2 ⟨rfl, hb2⟩))
                go_roundw
                case rel => exact ⟨q + 1, by omega, by go_num, Lib.hid (fun u x hu hx => by
                  by_cases huq : u = q
                  · subst huq; rw [Hx.out] at hx; injection hx with hx; subst hx; exact HR.out
                  · exact HQ.out u x (by omega) hx), below_up hbel hb2⟩
                case measure => simp [intOf]; omega
            · clear hrl
              go_wp2_with fail
              go_roundw
              case rel => exact ⟨k + 1, by omega, by go_num, Lib.hid (fun j hj u r hu => by
                by_cases hjk : j = k
                · subst hjk
                  exact HQ.out u r (by have := (List.getElem?_eq_some_iff.1 hu).1; have := HP.out; omega) hu
                · exact HA.out j (by omega) u r hu), hbel⟩
              case measure => simp [intOf]; omega
        · have hall := allOk_all (ls := ls) (fun j hj => HA.out j (by have := Hn.out; omega))
          have HO := Lib.hid hall
          clear HA hall
          by_cases hsl : slack < 0
          · have HE : Hid (marksE ls slack = 1) := Lib.hid (by rw [marksE, if_neg (by have := HT.out; have := Hn.out; omega), if_neg (by simp [HO.out]), if_pos (.inl hsl)])
            go_wp2_with fail
            go_ret2
            have e0 : marksL ls slack = [] := by rw [marksL, if_neg (by have := HE.out; omega)]
            refine ⟨_, by rw [HE.out]; rfl, by rw [e0]; exact World.ownsRow_nil _ _ _ _, ?_⟩
            exact hbel
          by_cases hsl2 : 1000000 < slack
          · have HE : Hid (marksE ls slack = 1) := Lib.hid (by rw [marksE, if_neg (by have := HT.out; have := Hn.out; omega), if_neg (by simp [HO.out]), if_pos (.inr hsl2)])
            go_wp2_with fail
            go_ret2
            have e0 : marksL ls slack = [] := by rw [marksL, if_neg (by have := HE.out; omega)]
            refine ⟨_, by rw [HE.out]; rfl, by rw [e0]; exact World.ownsRow_nil _ _ _ _, ?_⟩
            exact hbel
          have HE : Hid (marksE ls slack = 0) := Lib.hid (by rw [marksE, if_neg (by have := HT.out; have := Hn.out; omega), if_neg (by simp [HO.out]), if_neg (by omega)])
          have h400 : ∀ j, j < n → (inp ls j).length ≤ 400 := fun j _ => by have := inp_le (ls := ls) j; have := HT.out; omega
          have H400 := Lib.hid h400
          clear h400
          go_wp2_with fail
          go_loopw [11, 12] (fun o v wr => ∃ k q : Nat, k ≤ 400 ∧ v = .int .i64 k ∧ q ≤ 400 ∧ wr.ownsRow w.heap.size 3 1 o q ((outsTo ls slack k).map iv) ∧ Below w.heap.size w wr) (fun _ v _ => 400 - (intOf v).toNat)
          case atStart => exact ⟨0, 0, by omega, rfl, Nat.zero_le _, World.ownsRow_nil _ _ _ _, hbel⟩
          case round =>
            clear hbel
            obtain ⟨k, q, hk, rfl, hq, hown, hbel⟩ := hrel
            by_cases hk4 : k < 400
            · have hk4i : (k : Int) < 400 := by omega
              go_wp2_with fail
              go_loopw [11, 13] (fun o v wr => ∃ i m : Nat, i ≤ n ∧ v = .int .i64 i ∧ m ≤ q + i ∧ wr.ownsRow w.heap.size 3 1 o m ((outsTo ls slack k ++ rowTo ls slack k i).map iv) ∧ Below w.heap.size w wr) (fun _ v _ => n - (intOf v).toNat)
              case atStart => exact ⟨0, q, Nat.zero_le _, rfl, by omega, by simpa [rowTo] using hown, hbel⟩
              case round =>
                clear hown hbel
                obtain ⟨i, m, hi, rfl, hm, hown, hbel⟩ := hrel
                by_cases hin : i < n
                · obtain ⟨ad, A', c', rfl, cl, hlc, _, hrl⟩ := hr.at_ hbel hB (i := i) (by have := Hn.out; omega)
                  have hp4 := H400.out i hin
                  obtain ⟨p, hp⟩ : ∃ p, p = (inp ls i).length := ⟨_, rfl⟩
                  rw [← hp] at cl hlc hrl hp4
                  have Hp := Lib.hid hp
                  clear hp hrl
                  by_cases hkp : p ≤ k
                  · go_wp2_with fail
                    go_roundw
                    case rel =>
                      refine ⟨i + 1, m, by omega, by go_num, by omega, ?_, hbel⟩
                      rw [rowTo_succ, outAt, if_neg (by have := Hp.out; omega), List.append_nil]; exact hown
                    case measure => simp [intOf]; omega
                  · obtain ⟨f, hf⟩ : ∃ f : Nat → Int, f = fun j => mk ls slack j (cameAt k i j) := ⟨_, rfl⟩
                    have HF := Lib.hid hf
                    clear hf
                    have hBr : B ≤ wr.heap.size := Nat.le_trans hB hbel.size
                    go_wp2_with fail
                    go_loopw [14, 15] (fun x v wx => ∃ j : Nat, ∃ a : Int, j ≤ n ∧ v = .int .i64 j ∧ x = .int .i64 a ∧ -1 ≤ a ∧ a ≤ 1000000 ∧ Hid (leastFrom ls f (n - j) j a = leastM ls f) ∧ wr = wx) (fun _ v _ => n - (intOf v).toNat)
                    case atStart => exact ⟨0, -1, Nat.zero_le _, rfl, rfl, by omega, by omega, Lib.hid (by rw [leastM, ← Hn.out]; rfl), rfl⟩
                    case round =>
                      obtain ⟨j, a, hj, rfl, rfl, ha0, ha1, HA, rfl⟩ := hrel
                      by_cases hjn : j < n
                      · obtain ⟨ad3, A3, c3, e3, cl3, hlc3, _, hrl3⟩ := hr.at_ hbel hB (i := j) (by have := Hn.out; omega)
                        injection e3 with e3
                        subst e3
                        have hp3 := H400.out j hjn
                        obtain ⟨p3, hp3e⟩ : ∃ p3, p3 = (inp ls j).length := ⟨_, rfl⟩
                        rw [← hp3e] at cl3 hp3 hlc3 hrl3
                        have HP3 := Lib.hid hp3e
                        clear hp3e
                        by_cases q0 : p3 = 0
                        · subst q0
                          rw [leastFrom_succ ls f n j a hjn, if_neg (by have := HP3.out; omega)] at HA
                          clear hrl3
                          go_wp2_with fail
                          go_roundw
                          case rel => exact ⟨j + 1, a, by omega, by go_num, rfl, ha0, ha1, HA, trivial⟩
                          case measure => simp [intOf]; omega
                        have q1 : 0 < p3 := by omega
                        have q0b : ((p3 : Int) == 0) = false := by simp; omega
                        by_cases hji : j ≤ i
                        · have HCM : Hid (cameAt k i j = k + 1) := Lib.hid (by rw [cameAt, if_pos hji])
                          go_wp2_with fail
                          go_loopw [17, 18] (fun x v wx => ∃ q : Nat, ∃ z : Int, q ≤ (k + 1) ∧ q ≤ p3 ∧ v = .int .i64 q ∧ x = .int .i64 z ∧ 0 ≤ z ∧ z ≤ 1000000 ∧ Hid (z = mk ls slack j q) ∧ wr = wx) (fun _ v _ => (k + 1) - (intOf v).toNat)
                          case atStart => exact ⟨0, 0, Nat.zero_le _, Nat.zero_le _, rfl, rfl, by omega, by omega, Lib.hid (mk_zero _ _ _).symm, rfl⟩
                          case round =>
                            obtain ⟨q, z, hqc, hqp, rfl, rfl, hz0, hz1, HZ, rfl⟩ := hrel
                            by_cases hq1 : q < (k + 1)
                            · by_cases hq2 : q < p3
                              · obtain ⟨ad2, r, rfl, hx, g0, g1, g2⟩ := hrl3.rec_ (k := q) hq2 HP3.out.symm (Below.refl _ _) hBr
                                have hrt := allOk_inp HO.out j r (List.mem_of_getElem? hx)
                                simp only [recOk, Bool.and_eq_true, decide_eq_true_eq] at hrt
                                obtain ⟨⟨_, ht0⟩, ht1⟩ := hrt
                                have HZ2 : Hid (max z (r.time - slack) = mk ls slack j (q + 1)) := Lib.hid (by rw [mk_succ hx, ← HZ.out])
                                obtain ⟨tm, htm⟩ : ∃ tm, tm = r.time := ⟨_, rfl⟩
                                rw [← htm] at g2 ht0 ht1 HZ2
                                clear htm hx g0 g1
                                have hwt : IntKind.i64.wrap (tm - slack) = tm - slack := IntWalk.i64_in _ (by omega)
                                have hk0 : (0 : Int) ≤ (q : Int) := by omega
                                have hk1 : (q : Int) < (p3 : Int) := by omega
                                by_cases hmx : z < tm - slack
                                · rw [show max z (tm - slack) = tm - slack from by omega] at HZ2
                                  go_wp2_with fail
                                  go_roundw
                                  case rel => exact ⟨q + 1, tm - slack, by omega, by omega, by go_num, rfl, by omega, by omega, HZ2, trivial⟩
                                  case measure => simp [intOf]; omega
                                · rw [show max z (tm - slack) = z from by omega] at HZ2
                                  go_wp2_with fail
                                  go_roundw
                                  case rel => exact ⟨q + 1, z, by omega, by omega, by go_num, rfl, hz0, hz1, HZ2, trivial⟩
                                  case measure => simp [intOf]; omega
                              · have hy : z = f j := by
                                  rw [HZ.out, mk_all (by have := HP3.out; omega) hqc, HF.out]
                                  show _ = mk ls slack j (cameAt k i j)
                                  rw [HCM.out]
                                have hls := leastFrom_succ ls f n j a hjn
                                rw [← hy, ← HP3.out] at hls
                                rw [hls] at HA
                                clear hls hy HZ
                                by_cases a0 : a < 0
                                · rw [if_pos ⟨q1, .inl a0⟩] at HA
                                  go_wp2_with fail
                                  go_roundw
                                  case rel => exact ⟨j + 1, z, by omega, by go_num, rfl, by omega, by omega, HA, trivial⟩
                                  case measure => simp [intOf]; omega
                                have t0 : decide (a < 0) = false := by simpa using a0
                                by_cases a1 : z < a
                                · rw [if_pos ⟨q1, .inr a1⟩] at HA
                                  have t1 : decide (z < a) = true := by simpa using a1
                                  go_wp2_with fail
                                  go_roundw
                                  case rel => exact ⟨j + 1, z, by omega, by go_num, rfl, by omega, by omega, HA, trivial⟩
                                  case measure => simp [intOf]; omega
                                · rw [if_neg (by omega)] at HA
                                  have t1 : decide (z < a) = false := by simpa using a1
                                  go_wp2_with fail
                                  go_roundw
                                  case rel => exact ⟨j + 1, a, by omega, by go_num, rfl, ha0, ha1, HA, trivial⟩
                                  case measure => simp [intOf]; omega
                            · have hqe : q = (k + 1) := by omega
                              have hy : z = f j := by
                                rw [HZ.out, hqe, HF.out]
                                show _ = mk ls slack j (cameAt k i j)
                                rw [HCM.out]
                              have hls := leastFrom_succ ls f n j a hjn
                              rw [← hy, ← HP3.out] at hls
                              rw [hls] at HA
                              clear hls hy HZ hqe
                              by_cases a0 : a < 0
                              · rw [if_pos ⟨q1, .inl a0⟩] at HA
                                go_wp2_with fail
                                go_roundw
                                case rel => exact ⟨j + 1, z, by omega, by go_num, rfl, by omega, by omega, HA, trivial⟩
                                case measure => simp [intOf]; omega
                              have t0 : decide (a < 0) = false := by simpa using a0
                              by_cases a1 : z < a
                              · rw [if_pos ⟨q1, .inr a1⟩] at HA
                                have t1 : decide (z < a) = true := by simpa using a1
                                go_wp2_with fail
                                go_roundw
                                case rel => exact ⟨j + 1, z, by omega, by go_num, rfl, by omega, by omega, HA, trivial⟩
                                case measure => simp [intOf]; omega
                              · rw [if_neg (by omega)] at HA
                                have t1 : decide (z < a) = false := by simpa using a1
                                go_wp2_with fail
                                go_roundw
                                case rel => exact ⟨j + 1, a, by omega, by go_num, rfl, ha0, ha1, HA, trivial⟩
                                case measure => simp [intOf]; omega
                        · have HCM : Hid (cameAt k i j = k) := Lib.hid (by rw [cameAt, if_neg hji])
                          go_wp2_with fail
                          go_loopw [17, 18] (fun x v wx => ∃ q : Nat, ∃ z : Int, q ≤ k ∧ q ≤ p3 ∧ v = .int .i64 q ∧ x = .int .i64 z ∧ 0 ≤ z ∧ z ≤ 1000000 ∧ Hid (z = mk ls slack j q) ∧ wr = wx) (fun _ v _ => k - (intOf v).toNat)
                          case atStart => exact ⟨0, 0, Nat.zero_le _, Nat.zero_le _, rfl, rfl, by omega, by omega, Lib.hid (mk_zero _ _ _).symm, rfl⟩
                          case round =>
                            obtain ⟨q, z, hqc, hqp, rfl, rfl, hz0, hz1, HZ, rfl⟩ := hrel
                            by_cases hq1 : q < k
                            · by_cases hq2 : q < p3
                              · obtain ⟨ad2, r, rfl, hx, g0, g1, g2⟩ := hrl3.rec_ (k := q) hq2 HP3.out.symm (Below.refl _ _) hBr
                                have hrt := allOk_inp HO.out j r (List.mem_of_getElem? hx)
                                simp only [recOk, Bool.and_eq_true, decide_eq_true_eq] at hrt
                                obtain ⟨⟨_, ht0⟩, ht1⟩ := hrt
                                have HZ2 : Hid (max z (r.time - slack) = mk ls slack j (q + 1)) := Lib.hid (by rw [mk_succ hx, ← HZ.out])
                                obtain ⟨tm, htm⟩ : ∃ tm, tm = r.time := ⟨_, rfl⟩
                                rw [← htm] at g2 ht0 ht1 HZ2
                                clear htm hx g0 g1
                                have hwt : IntKind.i64.wrap (tm - slack) = tm - slack := IntWalk.i64_in _ (by omega)
                                have hk0 : (0 : Int) ≤ (q : Int) := by omega
                                have hk1 : (q : Int) < (p3 : Int) := by omega
                                by_cases hmx : z < tm - slack
                                · rw [show max z (tm - slack) = tm - slack from by omega] at HZ2
                                  go_wp2_with fail
                                  go_roundw
                                  case rel => exact ⟨q + 1, tm - slack, by omega, by omega, by go_num, rfl, by omega, by omega, HZ2, trivial⟩
                                  case measure => simp [intOf]; omega
                                · rw [show max z (tm - slack) = z from by omega] at HZ2
                                  go_wp2_with fail
                                  go_roundw
                                  case rel => exact ⟨q + 1, z, by omega, by omega, by go_num, rfl, hz0, hz1, HZ2, trivial⟩
                                  case measure => simp [intOf]; omega
                              · have hy : z = f j := by
                                  rw [HZ.out, mk_all (by have := HP3.out; omega) hqc, HF.out]
                                  show _ = mk ls slack j (cameAt k i j)
                                  rw [HCM.out]
                                have hls := leastFrom_succ ls f n j a hjn
                                rw [← hy, ← HP3.out] at hls
                                rw [hls] at HA
                                clear hls hy HZ
                                by_cases a0 : a < 0
                                · rw [if_pos ⟨q1, .inl a0⟩] at HA
                                  go_wp2_with fail
                                  go_roundw
                                  case rel => exact ⟨j + 1, z, by omega, by go_num, rfl, by omega, by omega, HA, trivial⟩
                                  case measure => simp [intOf]; omega
                                have t0 : decide (a < 0) = false := by simpa using a0
                                by_cases a1 : z < a
                                · rw [if_pos ⟨q1, .inr a1⟩] at HA
                                  have t1 : decide (z < a) = true := by simpa using a1
                                  go_wp2_with fail
                                  go_roundw
                                  case rel => exact ⟨j + 1, z, by omega, by go_num, rfl, by omega, by omega, HA, trivial⟩
                                  case measure => simp [intOf]; omega
                                · rw [if_neg (by omega)] at HA
                                  have t1 : decide (z < a) = false := by simpa using a1
                                  go_wp2_with fail
                                  go_roundw
                                  case rel => exact ⟨j + 1, a, by omega, by go_num, rfl, ha0, ha1, HA, trivial⟩
                                  case measure => simp [intOf]; omega
                            · have hqe : q = k := by omega
                              have hy : z = f j := by
                                rw [HZ.out, hqe, HF.out]
                                show _ = mk ls slack j (cameAt k i j)
                                rw [HCM.out]
                              have hls := leastFrom_succ ls f n j a hjn
                              rw [← hy, ← HP3.out] at hls
                              rw [hls] at HA
                              clear hls hy HZ hqe
                              by_cases a0 : a < 0
                              · rw [if_pos ⟨q1, .inl a0⟩] at HA
                                go_wp2_with fail
                                go_roundw
                                case rel => exact ⟨j + 1, z, by omega, by go_num, rfl, by omega, by omega, HA, trivial⟩
                                case measure => simp [intOf]; omega
                              have t0 : decide (a < 0) = false := by simpa using a0
                              by_cases a1 : z < a
                              · rw [if_pos ⟨q1, .inr a1⟩] at HA
                                have t1 : decide (z < a) = true := by simpa using a1
                                go_wp2_with fail
                                go_roundw
                                case rel => exact ⟨j + 1, z, by omega, by go_num, rfl, by omega, by omega, HA, trivial⟩
                                case measure => simp [intOf]; omega
                              · rw [if_neg (by omega)] at HA
                                have t1 : decide (z < a) = false := by simpa using a1
                                go_wp2_with fail
                                go_roundw
                                case rel => exact ⟨j + 1, a, by omega, by go_num, rfl, ha0, ha1, HA, trivial⟩
                                case measure => simp [intOf]; omega
                      · have hae : a = leastM ls f := by
                          have := HA.out
                          rwa [leastFrom_done ls f n j a (by omega)] at this
                        have HAE := Lib.hid hae
                        clear hae HA
                        go_wp2_with (first
                          | (with_reducible show wpList _ _ _ (⟨some 152, _, _, _, _, _⟩ :: _) _ _; go_must (refine wpList_new (.tmp 149) (.tmp 151) el_int rfl rfl hown rfl rfl rfl rfl (by omega) (by exact hbel.size) ?_); intro v4 w4 hown4 hb4 hg4 ha4))
                        go_roundw
                        case rel =>
                          refine ⟨i + 1, m + 1, by omega, by go_num, by omega, ?_, hbel.trans hb4⟩
                          have e1 : rowTo ls slack k (i + 1) = rowTo ls slack k i ++ [leastM ls f] := by rw [rowTo_succ, outAt, if_pos (by have := Hp.out; omega), HF.out]
                          rw [e1, ← HAE.out, ← List.append_assoc, List.map_append]; exact hown4
                        case measure => simp [intOf]; omega
                · have hie : i = n := by omega
                  have hro2 : rowTo ls slack k i = rowTo ls slack k ls.length := by rw [hie, Hn.out]
                  have hln : m = (outsTo ls slack (k + 1)).length := by
                    have := hown.1
                    rw [List.length_map, hro2, ← outsTo_succ] at this
                    omega
                  have hlt2 := outsTo_le ls slack (k + 1)
                  have hmt : m ≤ 400 := by have := HT.out; omega
                  rw [hro2, ← outsTo_succ] at hown
                  clear hln hlt2 hro2
                  go_wp2_with fail
                  go_roundw
                  case rel => exact ⟨k + 1, m, by omega, by go_num, hmt, hown, hbel⟩
                  case measure => simp [intOf]; omega
            · have hk400 : k = 400 := by omega
              subst hk400
              go_wp2_with fail
              go_ret2
              have eM : marksL ls slack = outsTo ls slack 400 := by rw [marksL, if_pos HE.out]
              refine ⟨_, by rw [HE.out]; rfl, ?_, hbel⟩
              rw [eM]
              have e2 : q = (outsTo ls slack 400).length := by have := hown.1; rw [List.length_map] at this; omega
              rw [← e2]
              exact hown
end Go.Proofs.YtelailhghhjleaaDoor
