/- The walk of weirlaw2.LsmOpens. -/
import Derived.Test.YtcfijljagohmlaaLsmWrites
import Derived.Test.YtcfijljagohmlaaWalkDig
import Derived.Test.YtcfijljagohmlaaSteps
import Derived.Test.YtcfijljagohmlaaWalkESame
import Derived.Deep.CutBlock
import Derived.Deep.CutRange
namespace Go.Proofs.Ytcfijljagohmlaa
open Go.RowKit Go.Maps Go.WideMaps

set_option maxRecDepth 100000 in
set_option maxHeartbeats 1000000 in
theorem key_any (n : Int) (w : World) :
    Calls Try.prog 34 #[.int .i64 n] w fun e w' => ∃ d, e = .returned (.string d) ∧ Below w.heap.size w w' := by
  by_cases h0 : n < 0
  · go_enter Try.func34, Try.ntmps34
    go_wp2_with fail
    go_ret
    first | exact ⟨_, rfl, Below.refl _ _⟩ | exact ⟨⟨_, rfl⟩, Below.refl _ _⟩
  · by_cases h9 : 9 < n
    · go_enter Try.func34, Try.ntmps34
      go_wp2_with fail
      go_ret
      exact ⟨⟨_, rfl⟩, Below.refl _ _⟩
    · have hb := (Below.refl w.heap.size w).alloc (Nat.le_refl _) (.cells #[.int .u8 (97 + n)] 5)
      have hr : Rd (w.alloc (.cells #[.int .u8 (97 + n)] 5)) (w.heap.size + 1) 1 (some ⟨w.heap.size, 0, none⟩) 1 ([UInt8.ofNat (97 + n).toNat].map bv) := ⟨rfl, fun _ => ⟨_, rfl, by simp, fun j u hj => by
        rcases j with _ | j
        · have h1 := (Blk.new w 5 #[.int .u8 (97 + n)]).cell 0
          have e : bv (UInt8.ofNat (97 + n).toNat) = .int .u8 (97 + n) := by
            unfold bv
            congr 1
            rw [UInt8.toNat_ofNat']
            omega
          simp at hj
          rw [← hj, e]
          exact h1
        · simp at hj⟩⟩
      have q1 := run_string_rd (P := Try.prog) (c := 1) Try.underlying22 Try.underlying5 Try.underlying9 hr
      go_enter Try.func34, Try.ntmps34
      go_wp2_with fail
      go_ret
      first | exact ⟨_, rfl, hb⟩ | exact ⟨⟨_, rfl⟩, hb⟩
theorem live_of {s t : Lsm} (h : t.all = s.all) : t.live = s.live := by unfold Lsm.live; rw [h]
theorem live_open (LS : List (List Ent)) : (Lsm.all ⟨[], LS⟩) = mixL LS.flatten := rfl
theorem live_live {s t : Lsm} (h : t.all = s.live) : t.live = s.live := by
  unfold Lsm.live at h ⊢
  rw [h, List.filter_filter]
  exact List.filter_congr fun x _ => by simp
theorem flush_none (s : Lsm) : (lsmFlush s).F = [] := by
  unfold lsmFlush
  split
  · assumption
  · rfl
theorem flush_lists (s : Lsm) : (lsmFlush s).LS.length ≤ s.LS.length + 1 := by
  unfold lsmFlush
  split
  · omega
  · simp
theorem put_lists (lim : Int) (s : Lsm) (e : Ent) : (lsmPut lim s e).LS.length ≤ s.LS.length + 1 := by
  unfold lsmPut
  split
  · split
    · exact flush_lists (lsmSet s e)
    · exact Nat.le_succ _
  · exact Nat.le_succ _
theorem compact_lists (s : Lsm) : (lsmCompact s).LS.length ≤ 1 := by
  unfold lsmCompact
  simp only
  split <;> simp
def eA : Ent := ⟨⟨#[97]⟩, ⟨#[98]⟩, false⟩
theorem put_eA : lsmPutE lsmNone eA = 0 ∧ lsmPut 2 lsmNone eA = ⟨[eA], []⟩ := ⟨by kernel_rfl, by kernel_rfl⟩
theorem get_eA : lsmGetV ⟨[eA], []⟩ ⟨#[97]⟩ = ⟨#[98]⟩ ∧ lsmGetE ⟨[eA], []⟩ ⟨#[97]⟩ = 0 := ⟨by kernel_rfl, by kernel_rfl⟩
theorem flush_all_lists (S : Lsm) : (lsmFlush S).all = mixL (lsmFlush S).LS.flatten := by
  unfold Lsm.all
  rw [flush_none]; rfl
theorem compact_all_lists (S : Lsm) : mixL (lsmCompact S).LS.flatten = S.live := by
  have h1 := lsmCompact_all S
  unfold Lsm.all at h1
  rw [show (lsmCompact S).F = [] from rfl, List.nil_append] at h1
  rw [h1]; rfl
/-- A list of the call's own reads as one. -/
theorem own_ents {w : World} {b : Nat} {v : Value} {l : List Ent} (h : w.ownsRow b 107 3 v l.length (entCells l)) : ∃ A c, v = .slice A l.length c ∧ Rd w w.heap.size 3 A l.length (entCells l) := by
  obtain ⟨A, c, e, _, _, _, hr⟩ := own_form h
  exact ⟨A, c, e, hr⟩
set_option maxRecDepth 100000 in
set_option maxHeartbeats 16000000 in
theorem lawopens_any (lim other : Int) (A : Option Addr) (c n : Nat) (ls : List (List Int)) (w : World) (hr : RdII w w.heap.size A ls) (hln : ls.length = n) (hbd : ∀ l ∈ ls, ∀ z ∈ l, -9223372036854775808 ≤ z ∧ z ≤ 9223372036854775807) :
    Calls Try.prog 6 #[.int .i64 lim, .int .i64 other, .slice A n c] w fun e w' => e = .returned (.bool true) ∧ Below w.heap.size w w' := by
  have HLN := Lib.hid hln
  have HBD := Lib.hid hbd
  clear hln hbd
  have h1 := lnew_any 2 w (by decide) (by decide)
  have HPU := Lib.hid (fun (g M : Nat) (W : World) (h : LsmIn W w.heap.size g M 2 lsmNone) (hb : w.heap.size ≤ W.heap.size) => lPut_any w.heap.size g M 2 lsmNone ⟨#[97]⟩ ⟨#[98]⟩ W h (Nat.zero_le _) hb)
  have HGE := Lib.hid (fun (g M : Nat) (W : World) (h : LsmIn W w.heap.size g M 2 ⟨[eA], []⟩) => lget_any w.heap.size g M 2 ⟨[eA], []⟩ ⟨#[97]⟩ W h (Nat.zero_le _))
  rw [get_eA.1, get_eA.2, errV_zero] at HGE
  rw [show (⟨⟨#[97]⟩, ⟨#[98]⟩, false⟩ : Ent) = eA from rfl, put_eA.1, put_eA.2, errV_zero] at HPU
  go_enter Try.func6, Try.ntmps6
  go_upto_region 8 with (first
    | (go_at_call 30; go_must (refine h1.mono ?_); rintro e w1 ⟨g1, M1, rfl, hin1, hb1⟩; have hpu := HPU.out g1 M1 w1 hin1 hb1.size)
    | (go_at_call 31; go_must (refine hpu.mono ?_); rintro e w2 ⟨rfl, hin2, hb2, _⟩; have hge := HGE.out g1 M1 w2 hin2)
    | (go_at_call 32; go_must (refine hge.mono ?_); rintro e w3 ⟨rfl, hb3⟩))
  have hbel3 : Below w.heap.size w w3 := (hb1.trans hb2).trans (hb3.mono (hb1.trans hb2).size)
  have hs3 := hbel3.size
  clear h1 hpu hge HPU HGE hin1 hin2 hb1 hb2 hb3
  by_cases hlim : 1 ≤ lim ∧ lim ≤ 400
  · obtain ⟨hl1, hl4⟩ := hlim
    have hnw := lnew_any lim w3 hl1 hl4
    obtain ⟨B, hB⟩ : ∃ B, B = w3.heap.size := ⟨_, rfl⟩
    rw [← hB] at hnw
    have hBw : w.heap.size ≤ B := by omega
    go_upto_region 11 with (go_at_call 30; go_must (refine hnw.mono ?_); rintro e w4 ⟨g, M, rfl, hin4, hb4⟩)
    have hbel4 := hbel3.trans (hb4.mono hBw)
    have hBs4 : B ≤ w4.heap.size := by rw [hB]; exact hb4.size
    clear hnw hbel3 hs3 hb4 hB
    go_upto_block 0 with fail
    go_cut [] from 60 to 108 (fun wr => ∃ S, LsmIn wr B g M lim S ∧ S.LS.length ≤ 120 ∧ B ≤ wr.heap.size ∧ Below w.heap.size w wr)
    case first =>
      go_wp2_with fail
      go_loopw [13] (fun x wr => ∃ (i : Nat) (S : Lsm), i ≤ n ∧ i ≤ 120 ∧ x = .int .i64 i ∧ LsmIn wr B g M lim S ∧ S.LS.length ≤ i ∧ B ≤ wr.heap.size ∧ Below w.heap.size w wr) (fun x _ => n - (intOf x).toNat)
      case atStart => exact ⟨0, lsmNone, Nat.zero_le _, Nat.zero_le _, rfl, hin4, Nat.zero_le _, hBs4, hbel4⟩
      clear hin4 hbel4 hBs4
      obtain ⟨i, S, hi, hi120, rfl, hin, hLS, hBs, hbel⟩ := hrel
      have hws := hbel.size
      by_cases hlt : i < n ∧ i < 120
      · obtain ⟨hlt, hlt8⟩ := hlt
        obtain ⟨ad, A', c', rfl, cl, hlc, hcm, hrl⟩ := hr.at_ (Below.refl _ _) (i := i) (by have := HLN.out; omega)
        have hbl := HBD.out (ls.getD i []) (by
          have hx : ls[i]? = some (ls.getD i []) := by rw [List.getD_eq_getElem?_getD, List.getElem?_eq_getElem (by have := HLN.out; omega)]; rfl
          exact List.mem_of_getElem? hx)
        have hadb : (ad.add i).block < w.heap.size := by
          obtain ⟨ad2, e2, hlt2, _⟩ := hr (by have := HLN.out; omega)
          injection e2 with e2; subst e2
          rw [block_add]; exact hlt2
        obtain ⟨l, hl9⟩ : ∃ l, l = ls.getD i [] := ⟨_, rfl⟩
        rw [← hl9] at cl hlc hrl hbl
        clear hl9
        obtain ⟨q, hq⟩ : ∃ q, q = l.length := ⟨_, rfl⟩
        rw [← hq] at cl hlc hrl
        have Hq := Lib.hid hq
        clear hq
        have CL := Lib.hid (fun (W : World) (h : Below w.heap.size w W) => (h.cell hadb).trans cl)
        have HG0 := Lib.hid (getD_in hbl)
        have hV := Blk.new wr 68 (cells3_ l 0)
        have hba := (Below.refl wr.heap.size wr).alloc (Nat.le_refl _) (.cells (cells3_ l 0) 68)
        have hin2 := hin.up hba
        have hbel2 := hbel.trans (hba.mono hws)
        obtain ⟨vb, hvb⟩ : ∃ vb, vb = wr.heap.size := ⟨_, rfl⟩
        have hvw : w.heap.size ≤ vb := by omega
        have hvB : B ≤ vb := by omega
        have hs2 := hba.size
        rw [← hvb] at hV
        rw [cells3_zero] at hin2 hbel2 hs2
        have hV2 : Blk (wr.alloc (.cells #[.int .i64 0, .int .i64 0, .int .i64 0] 68)) vb 68 (cells3_ l 0) := hV
        have hBs2 : B ≤ (wr.alloc (.cells #[.int .i64 0, .int .i64 0, .int .i64 0] 68)).heap.size := Nat.le_trans hBs hs2
        have hi0 : (0 : Int) ≤ (i : Int) := by omega
        have hi1 : (i : Int) < (n : Int) := by omega
        have hi2 : (i : Int) < 120 := by omega
        clear hV hin hbl cl hba hbel hs2
        go_upto_block 2 with fail
        rw [← hvb]
        clear hvb
        generalize wr.alloc (.cells #[.int .i64 0, .int .i64 0, .int .i64 0] 68) = wv at *
        go_cut [] from 70 to 91 (fun wx => Blk wx vb 68 #[.int .i64 (l.getD 0 0), .int .i64 (l.getD 1 0), .int .i64 (l.getD 2 0)] ∧ LsmIn wx B g M lim S ∧ B ≤ wx.heap.size ∧ Below w.heap.size w wx)
        case first =>
          go_wp2_with fail
          go_loopw [15] (fun v wr => ∃ j : Nat, j ≤ 3 ∧ j ≤ q ∧ v = .int .i64 j ∧ Blk wr vb 68 (cells3_ l j) ∧ LsmIn wr B g M lim S ∧ B ≤ wr.heap.size ∧ Below w.heap.size w wr) (fun v _ => 3 - (intOf v).toNat)
          case atStart => exact ⟨0, by omega, by omega, rfl, hV2, hin2, hBs2, hbel2⟩
          clear hV2 hin2 hbel2 hBs2
          obtain ⟨j, hj3, hjq, rfl, hV, hin, hBs3, hbel⟩ := hrel
          have cl := CL.out _ hbel
          have HIN := Lib.hid hin
          clear hin
          by_cases hjl : j < q
          · by_cases hj : j < 3
            · obtain ⟨ad2, rfl, _, cj⟩ := (hrl.below hbel (Nat.le_refl _)).intc hjl
              obtain ⟨cu, hcu⟩ : ∃ u, wr.cell? ⟨vb, j, none⟩ = some u := ⟨_, (hV.cell j).trans (Array.getElem?_eq_getElem (by simp [cells3_]; omega))⟩
              have fv := hV.frozen j
              have hst := hV.set_ j (.int .i64 (l.getD j 0))
              rw [cells3_step l hj] at hst
              obtain ⟨z, hz⟩ : ∃ z, z = l.getD j 0 := ⟨_, rfl⟩
              rw [← hz] at cj hst
              have HV3 := Lib.hid (keepT_set hV j (.int .i64 z))
              have hj0 : (0 : Int) ≤ (j : Int) := by omega
              have hj1 : (j : Int) < (q : Int) := by omega
              have hj2 : (j : Int) < 3 := by omega
              clear hz
              go_wp2_with fail
              go_roundw
              case rel => exact ⟨j + 1, by omega, by omega, by go_num, hst, HIN.out.keep HV3.out (fun _ => rfl) (fun _ => rfl) (fun _ => rfl) (fun _ => rfl) (fun _ => rfl) (fun _ _ => rfl), by simpa [World.setCell] using hBs3, hbel.setCell hvw _⟩
              case measure => simp [intOf]; omega
            · have hV3 := hV
              rw [cells3_end l (.inl (by omega))] at hV3
              have hj1 : (j : Int) < (q : Int) := by omega
              have hj2 : ¬ (j : Int) < 3 := by omega
              have HV3 := Lib.hid hV3
              clear hV hV3
              go_wp2_with fail
              go_meet
              exact ⟨HV3.out, HIN.out, hBs3, hbel⟩
          · have hV3 := hV
            rw [cells3_end l (.inr (by have := Hq.out; omega))] at hV3
            have hj1 : ¬ (j : Int) < (q : Int) := by omega
            have HV3 := Lib.hid hV3
            clear hV hV3
            go_wp2_with fail
            go_meet
            exact ⟨HV3.out, HIN.out, hBs3, hbel⟩
        case rest =>
          obtain ⟨hV, hin, hBs3, hbel⟩ := hcut
          have x0 := hV.cell 0
          have x1 := hV.cell 1
          have x2 := hV.cell 2
          simp only [List.getElem?_toArray, List.getElem?_cons_zero, List.getElem?_cons_succ] at x0 x1 x2
          have hd := HG0.out 2
          have hS8 : S.LS.length ≤ 199999 := by omega
          have HDEL := Lib.hid (fun k W (h : LsmIn W B g M lim S) (hb : B ≤ W.heap.size) => lDel_any B g M lim S k W h hS8 hb)
          have HPUT := Lib.hid (fun k v W (h : LsmIn W B g M lim S) (hb : B ≤ W.heap.size) => lPut_any B g M lim S k v W h hS8 hb)
          have HPL := Lib.hid (fun e => put_lists lim S e)
          obtain ⟨a, ha⟩ : ∃ a, a = l.getD 0 0 := ⟨_, rfl⟩
          obtain ⟨b, hb⟩ : ∃ b, b = l.getD 1 0 := ⟨_, rfl⟩
          obtain ⟨d, hd'⟩ : ∃ d, d = l.getD 2 0 := ⟨_, rfl⟩
          rw [← ha] at x0
          rw [← hb] at x1
          rw [← hd'] at x2 hd
          have HVV := Lib.hid hV
          have hlv := hV.lt
          have hws3 := hbel.size
          clear ha hb hd' hV
          by_cases ha3 : a = 3
          · have hk := key_any b wc
            subst ha3
            go_wp2_with (first
              | (go_at_call 34; go_must (refine hk.mono ?_); rintro e w5 ⟨kk, rfl, hb5⟩; have hdl := HDEL.out kk w5 (hin.up hb5) (Nat.le_trans hBs3 hb5.size))
              | (go_at_call 33; go_must (refine hdl.mono ?_); rintro e w6 ⟨rfl, hin6, hb6, _⟩))
            go_roundw
            case rel => exact ⟨i + 1, _, by omega, by omega, by go_num, hin6, by have := HPL.out ⟨kk, ⟨#[]⟩, true⟩; omega, Nat.le_trans (Nat.le_trans hBs3 hb5.size) hb6.size, (hbel.trans (hb5.mono hws3)).trans (hb6.mono hBw)⟩
            case measure => simp [intOf]; omega
          · have ha4 : (a == 3) = false := by simpa using ha3
            have hdg := digits_any d wc hd.1 hd.2
            clear ha3
            go_upto_region 22 with (go_at_call 35; go_must (refine hdg.mono ?_); rintro e w5 ⟨dd, rfl, hb5⟩)
            have x1' := (hb5.cell (p := ⟨vb, 1, none⟩) hlv).trans x1
            have hk := key_any b w5
            have hbel5 := hbel.trans (hb5.mono hws3)
            have hin5 := hin.up hb5
            have hB5 := Nat.le_trans hBs3 hb5.size
            have hs5 := hbel5.size
            clear hdg x0 x1 x2 hin hBs3 hb5 hbel hws3
            go_wp2_with (first
              | (go_at_call 34; go_must (refine hk.mono ?_); rintro e w6 ⟨kk, rfl, hb6⟩; have hpl := HPUT.out kk dd w6 (hin5.up hb6) (Nat.le_trans hB5 hb6.size))
              | (go_at_call 31; go_must (refine hpl.mono ?_); rintro e w7 ⟨rfl, hin7, hb7, _⟩))
            go_roundw
            case rel => exact ⟨i + 1, _, by omega, by omega, by go_num, hin7, by have := HPL.out ⟨kk, dd, false⟩; omega, Nat.le_trans (Nat.le_trans hB5 hb6.size) hb7.size, (hbel5.trans (hb6.mono hs5)).trans (hb7.mono hBw)⟩
            case measure => simp [intOf]; omega
      · have HIN := Lib.hid hin
        clear hin
        have hi8 : S.LS.length ≤ 120 := by omega
        by_cases hin' : i < n
        · have hx1 : (i : Int) < (n : Int) := by omega
          have hx2 : ¬ ((i : Int) < 120) := by omega
          go_wp2_with fail
          go_meet
          exact ⟨S, HIN.out, hi8, hBs, hbel⟩
        · have hx1 : ¬ ((i : Int) < (n : Int)) := by omega
          go_wp2_with fail
          go_meet
          exact ⟨S, HIN.out, hi8, hBs, hbel⟩
    case rest =>
      obtain ⟨S, hin, hLS, hBs, hbel⟩ := hcut
      have hws := hbel.size
      have hsc := lscan_any B g M lim S ⟨#[]⟩ ⟨#[]⟩ wc hin (by omega)
      have HLV : Hid ((partE ⟨#[]⟩ ⟨#[]⟩ S.live).length ≤ 400) := Lib.hid (Nat.le_trans (List.length_filter_le _ _) (Nat.le_trans (List.length_filter_le _ _) hin.ok.few))
      have HT1 : Hid (partE ⟨#[]⟩ ⟨#[]⟩ (Lsm.live ⟨[], (lsmFlush S).LS⟩) = partE ⟨#[]⟩ ⟨#[]⟩ S.live) := Lib.hid (by
        rw [live_of (s := S) (t := ⟨[], (lsmFlush S).LS⟩) (by rw [live_open, ← flush_all_lists, lsmFlush_all])])
      have HT2 : Hid (partE ⟨#[]⟩ ⟨#[]⟩ (Lsm.live ⟨[], (lsmCompact (lsmFlush S)).LS⟩) = partE ⟨#[]⟩ ⟨#[]⟩ S.live) := Lib.hid (by
        rw [live_live (s := lsmFlush S) (t := ⟨[], (lsmCompact (lsmFlush S)).LS⟩) (by rw [live_open, compact_all_lists]), live_of (s := S) (t := lsmFlush S) (lsmFlush_all S)])
      generalize partE ⟨#[]⟩ ⟨#[]⟩ S.live = PL at *
      have HFN := Lib.hid (flush_none S)
      have HFA := Lib.hid (flush_all_lists S)
      have hf1 := flush_lists S
      have HIN := Lib.hid hin
      clear hin4 hbel4 hBs4 hr hin
      go_upto_region 24 with (go_at_call 36; go_must (refine hsc.mono ?_); rintro e w5 ⟨v5, rfl, own5, hb5⟩)
      have hin5 := HIN.out.up hb5
      have hB5 : B ≤ w5.heap.size := Nat.le_trans hBs hb5.size
      have hbel5 := hbel.trans (hb5.mono hws)
      have hfl := lflush_any B g M lim S w5 hin5 (by omega) hB5
      clear hsc hb5 hbel hBs hws HIN hin5
      obtain ⟨S1, hS1⟩ : ∃ S1, S1 = lsmFlush S := ⟨_, rfl⟩
      rw [← hS1] at HT1 HT2 HFN HFA hf1 hfl
      have hS1l : S1.LS.length ≤ 121 := by omega
      clear hf1
      go_upto_region 25 with (go_at_call 37; go_must (refine hfl.mono ?_); rintro e w6 ⟨rfl, hin6, hb6, hk6⟩)
      have own6 := hk6.own own5 (fun _ => rfl)
      have hB6 : B ≤ w6.heap.size := Nat.le_trans hB5 hb6.size
      have hbel6 := hbel5.trans (hb6.mono hBw)
      have htb := ltables_any B g M lim S1 w6 hin6 (by omega)
      have hFZ := Lib.hid (show S1.F.length = 0 from by rw [HFN.out]; rfl)
      clear hfl own5 hB5 hb6 hk6 hbel5 hS1
      by_cases ho : 1 ≤ other ∧ other ≤ 400
      · obtain ⟨ho1, ho4⟩ := ho
        have hfew1 : (mixL S1.LS.flatten).length ≤ 400 := by rw [← HFA.out]; exact hin6.ok.few
        have hls1 := hin6.ok.lists
        have HOKS := Lib.hid hin6.ok
        have HOP := Lib.hid (fun (A : Option Addr) (c k : Nat) (W : World) (hr : RdBB W W.heap.size A (S1.LS.map tabB)) (hk : S1.LS.length = k) => lopen_any A c k W.heap.size S1.LS other W hr hk (Nat.le_refl _) (by omega) hls1 hfew1 ho1 ho4)
        have hoi1 : ¬ (other < 1) := by omega
        have hoi4 : ¬ (400 < other) := by omega
        have HSM := Lib.hid (fun (A A' : Option Addr) (c c' : Nat) (W : World) (hx : Rd W W.heap.size 3 A PL.length (entCells PL)) (hy : Rd W W.heap.size 3 A' PL.length (entCells PL)) => ents_same A A' c c' W.heap.size PL W hx hy (by have := HLV.out; omega))
        clear hfew1 hls1
        go_upto_region 26 with (first
          | (go_at_call 39; go_must (refine htb.mono ?_); rintro e w7 ⟨v7, bs7, rfl, hO7, hbs7, hb7⟩; obtain ⟨A7, c7, rfl, _, _, hrd7⟩ := hO7.rd; rw [hbs7] at hrd7; have hl7 : S1.LS.length = bs7.length := by have := congrArg List.length hbs7; simpa using this.symm)
          | (go_at_call 38; go_must (refine (HOP.out _ c7 _ w7 hrd7 hl7).mono ?_); rintro e w8 ⟨g8, M8, rfl, hin8, hb8⟩))
        have hb68 := below_up hb7 hb8
        have hinS8 := hin6.up hb68
        have own8 := own_up own6 hb68
        have hbel8 := hbel6.trans (hb68.mono hbel6.size)
        have hB8 : B ≤ w8.heap.size := Nat.le_trans hB6 hb68.size
        have hfr := lfresh_any B g M lim S1 w8 hinS8
        have HS1L := Lib.hid hS1l
        rw [hFZ.out] at hfr
        have hs8 : w.heap.size ≤ w8.heap.size := hbel8.size
        have htl7 : w7.heap.size ≤ w8.heap.size := hb8.size
        have hscT := fun W (hb : Below w8.heap.size w8 W) => lscan_any w7.heap.size g8 M8 other ⟨[], S1.LS⟩ ⟨#[]⟩ ⟨#[]⟩ W (hin8.up hb) (by show S1.LS.length ≤ 200000; omega)
        rw [HT1.out] at hscT
        have HSCT := Lib.hid hscT
        clear htb hin6 own6 hb7 hb8 hb68 hbel6 hB6 hO7 hbs7 hrd7 hin8 hscT
        go_upto_region 30 with (go_at_call 40; go_must (refine hfr.mono ?_); rintro e w9 ⟨rfl, hq9⟩)
        have hb89 : Below w8.heap.size w8 w9 := by
          obtain ⟨q, rfl⟩ := hq9
          exact below_drewN (Below.refl _ _) q
        have hscT := HSCT.out w9 hb89
        have hinS9 := hinS8.up hb89
        have own9 := own_up own8 hb89
        have hbel9 := hbel8.trans (hb89.mono hs8)
        have hB9 : B ≤ w9.heap.size := Nat.le_trans hB8 hb89.size
        obtain ⟨A9, c9, hv9, r9⟩ := own_ents own9
        subst hv9
        have HR9 := Lib.hid r9
        clear hq9 hb89 hinS8 own8 hbel8 hB8 hfr HSCT r9
        go_upto_region 31 with (first
          | (go_at_call 36; go_must (refine hscT.mono ?_); rintro e w10 ⟨v10, rfl, own10, hb10⟩; obtain ⟨A10, c10, rfl, r10⟩ := own_ents own10; have hsm := HSM.out A10 A9 c10 c9 w10 r10 ((HR9.out.below hb10 (Nat.le_refl _)).more hb10.size))
          | (go_at_call 41; go_must (refine hsm.mono ?_); rintro e w11 ⟨rfl, hq11⟩))
        have hb911 : Below w9.heap.size w9 w11 := by
          obtain ⟨q, rfl⟩ := hq11
          exact below_drewN hb10 q
        have hinS11 := hinS9.up hb911
        have own11 := own_up own9 hb911
        have hbel11 := hbel9.trans (hb911.mono hbel9.size)
        have hB11 : B ≤ w11.heap.size := Nat.le_trans hB9 hb911.size
        have hcm := lcompact_any B g M lim S1 w11 hinS11 (by omega) hB11
        clear hq11 hb911 hinS9 own9 hbel9 hB9 hscT own10 hb10 r10 hsm HR9 hinS11
        have hcl := compact_lists S1
        have hca := compact_all_lists S1
        have hlv : S1.live.length ≤ 400 := by
          have := (live_ents (s := S1) (by exact HOKS.out)).2
          exact this
        obtain ⟨S2, hS2⟩ : ∃ S2, S2 = lsmCompact S1 := ⟨_, rfl⟩
        rw [← hS2] at HT2 hcm hcl hca
        clear hS2
        go_upto_region 32 with (go_at_call 42; go_must (refine hcm.mono ?_); rintro e w12 ⟨rfl, hin12, hb12, hk12⟩)
        have own12 := hk12.own own11 (fun _ => rfl)
        have hbel12 := hbel11.trans (hb12.mono hBw)
        have htb := ltables_any B g M lim S2 w12 hin12 (by omega)
        have hls2 := hin12.ok.lists
        have hfew2 : (mixL S2.LS.flatten).length ≤ 400 := by rw [hca]; exact hlv
        have HOP2 := Lib.hid (fun (A : Option Addr) (c k : Nat) (W : World) (hr : RdBB W W.heap.size A (S2.LS.map tabB)) (hk : S2.LS.length = k) => lopen_any A c k W.heap.size S2.LS other W hr hk (Nat.le_refl _) (by omega) hls2 hfew2 ho1 ho4)
        clear own11 hbel11 hB11 hcm hb12 hk12 hca hlv hls2 hfew2
        go_upto_region 33 with (first
          | (go_at_call 39; go_must (refine htb.mono ?_); rintro e w13 ⟨v13, bs13, rfl, hO13, hbs13, hb13⟩; obtain ⟨A13, c13, rfl, _, _, hrd13⟩ := hO13.rd; rw [hbs13] at hrd13; have hl13 : S2.LS.length = bs13.length := by have := congrArg List.length hbs13; simpa using this.symm)
          | (go_at_call 38; go_must (refine (HOP2.out _ c13 _ w13 hrd13 hl13).mono ?_); rintro e w14 ⟨g14, M14, rfl, hin14, hb14⟩))
        have hb1214 := below_up hb13 hb14
        have hinS14 := hin12.up hb1214
        have own14 := own_up own12 hb1214
        have hbel14 := hbel12.trans (hb1214.mono hbel12.size)
        have htb2 := ltables_any B g M lim S2 w14 hinS14 (by omega)
        have hscU := fun W (hb : Below w14.heap.size w14 W) => lscan_any w13.heap.size g14 M14 other ⟨[], S2.LS⟩ ⟨#[]⟩ ⟨#[]⟩ W (hin14.up hb) (by show S2.LS.length ≤ 200000; omega)
        rw [HT2.out] at hscU
        have HSCU := Lib.hid hscU
        clear htb hin12 own12 hbel12 hb13 hb14 hb1214 hO13 hbs13 hrd13 hl13 hin14 hscU hinS14
        go_upto_region 34 with (go_at_call 39; go_must (refine htb2.mono ?_); rintro e w15 ⟨v15, bs15, rfl, hO15, hbs15, hb15⟩; obtain ⟨A15, c15, rfl, _, _, _⟩ := hO15.rd; have hl15 : bs15.length = S2.LS.length := by have := congrArg List.length hbs15; simpa using this)
        have hl16 : ¬ (1 : Int) < (bs15.length : Int) := by omega
        have hscU := HSCU.out w15 hb15
        have own15 := own_up own14 hb15
        have hbel15 := hbel14.trans (hb15.mono hbel14.size)
        obtain ⟨A9', c9', hv9, r9⟩ := own_ents own15
        injection hv9 with e1 _ e2
        subst e1 e2
        have HR9 := Lib.hid r9
        clear own14 hbel14 htb2 hO15 hbs15 hb15 HSCU own15 r9
        go_wp2_with (first
          | (go_at_call 36; go_must (refine hscU.mono ?_); rintro e w16 ⟨v16, rfl, own16, hb16⟩; obtain ⟨A16, c16, rfl, r16⟩ := own_ents own16; have hsm := HSM.out A16 A9 c16 c9 w16 r16 ((HR9.out.below hb16 (Nat.le_refl _)).more hb16.size))
          | (go_at_call 41; go_must (refine hsm.mono ?_); rintro e w17 ⟨rfl, hq17⟩))
        go_ret
        obtain ⟨q, rfl⟩ := hq17
        exact ⟨rfl, below_drewN (hbel15.trans (hb16.mono hbel15.size)) q⟩
      · have hbad : other < 1 ∨ 400 < other := by omega
        have HOP := Lib.hid (fun (A : Option Addr) (c n : Nat) (W : World) => lopen_bad A c n other W hbad)
        rw [show errV 1 = .iface 84 (.int .i64 1) from rfl] at HOP
        clear ho
        by_cases h1 : other < 1
        · clear hbad
          go_wp2_with (first
            | (go_at_call 39; go_must (refine htb.mono ?_); rintro e w7 ⟨v7, bs7, rfl, hO7, _, hb7⟩; obtain ⟨A7, c7, rfl, _⟩ := hO7.rd)
            | (go_at_call 38; go_must (refine (HOP.out _ _ _ w7).mono ?_); rintro e w8 ⟨rfl, hb8⟩))
          go_ret
          exact ⟨rfl, below_up (below_up hbel6 hb7) hb8⟩
        · have h4 : 400 < other := by omega
          clear hbad
          go_wp2_with (first
            | (go_at_call 39; go_must (refine htb.mono ?_); rintro e w7 ⟨v7, bs7, rfl, hO7, _, hb7⟩; obtain ⟨A7, c7, rfl, _⟩ := hO7.rd)
            | (go_at_call 38; go_must (refine (HOP.out _ _ _ w7).mono ?_); rintro e w8 ⟨rfl, hb8⟩))
          go_ret
          exact ⟨rfl, below_up (below_up hbel6 hb7) hb8⟩
  · have hbad : lim < 1 ∨ 400 < lim := by omega
    have hnw := lnew_bad lim w3 hbad
    rw [show errV 1 = .iface 84 (.int .i64 1) from rfl] at hnw
    clear hlim
    by_cases h1 : lim < 1
    · clear hbad
      go_wp2_with (go_at_call 30; go_must (refine hnw.mono ?_); rintro e w4 ⟨rfl, hb4⟩)
      go_ret
      exact ⟨rfl, hbel3.trans (hb4.mono hs3)⟩
    · have h4 : 400 < lim := by omega
      clear hbad
      go_wp2_with (go_at_call 30; go_must (refine hnw.mono ?_); rintro e w4 ⟨rfl, hb4⟩)
      go_ret
      exact ⟨rfl, hbel3.trans (hb4.mono hs3)⟩
end Go.Proofs.Ytcfijljagohmlaa
