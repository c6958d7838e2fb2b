/- The walk of weirlaw2.KeyedWholes. -/
import Derived.Test.YtcfijljagohmlaaGreatDoorPlainWholes
import Derived.Test.YtcfijljagohmlaaGreatDoorHeldLL
import Derived.Test.YtcfijljagohmlaaGreatDoorWalkPlace
import Derived.Test.YtcfijljagohmlaaGreatDoorKeyedCalls
import Derived.Test.YtcfijljagohmlaaGreatDoorWalkSReadH
import Derived.Test.YtcfijljagohmlaaGreatDoorWalkBig7
import Derived.Test.YtcfijljagohmlaaGreatDoorWalkSame
import Derived.Test.YtcfijljagohmlaaGreatDoorWalkAs
import Derived.Deep.CutBlock
import Derived.Deep.CutRange
namespace Go.Proofs.YtcfijljagohmlaaGreatDoor
open Go.RowKit Go.Maps

/-- The state of the outer loop. -/
structure KS (w wr : World) (ls : List (List Hld)) (i k : Nat) (o a e : Value) (bs : List Bl) (L : List Hld) : Prop where
  tab : OwnBB wr w.heap.size o bs
  all_ : wr.ownsRow w.heap.size 29 4 a L.length (hldCells L)
  isL : L = sortH (hldsTo ls i k)
  isE : e = .int .i64 (eW (hldsTo ls i k) : Nat)
  few : L.length ≤ 400 * i + k
  bel : Below w.heap.size w wr
theorem spanB_no {lo hi : Int} (h : lo < 0 ∨ hi < lo ∨ 16 < hi) : spanB lo hi = false := by
  unfold spanB
  simp only [Bool.and_eq_false_iff, decide_eq_false_iff_not]
  omega
theorem spanB_yes {lo hi : Int} (h1 : ¬ lo < 0) (h2 : ¬ hi < lo) (h3 : ¬ 16 < hi) : spanB lo hi = true := by
  unfold spanB
  simp only [Bool.and_eq_true, decide_eq_true_eq]
  omega
theorem own_ne_map {w : World} {g M base size n : Nat} {S : List Hld} {e : TypeId} {v : Value} {xs : List Value} (hk : KIn w g M S) (ho : w.ownsRow base e size v n xs) : ∀ j, v.ownBlock = some j → some M ≠ some j := by
  intro j hj e1
  injection e1 with e1
  subst e1
  obtain ⟨D, ⟨es, cl, h1, _⟩, _⟩ := hk.own
  rcases ho.2 with ⟨rfl, _⟩ | ⟨g1, c1, u1, rfl, _, k1, _⟩
  · cases hj
  · simp [Value.ownBlock] at hj
    subst hj
    rw [k1] at h1
    cases h1
/-- What the import's look-alike has behind j. -/
def PR (we wr : World) (lo hi : Int) (TR : List Hld) (j : Nat) (h : Value) : Prop := ∃ S2 : List Hld, wr.ownsRow 0 29 4 h S2.length (hldCells S2) ∧ Hid (S2 = putAll [hB0] lo hi (TR.take j)) ∧ S2.length ≤ j + 1 ∧ Below we.heap.size we wr
theorem OwnBB.drewN {w : World} {base : Nat} {v : Value} {es : List Bl} (h : OwnBB w base v es) (q : Nat) : OwnBB (w.drewN q) base v es := ⟨own_drewN h.row q, fun e he => own_drewN (h.ok e he) q⟩
/-- The fault behind a look at some. -/
def seenE (r : Hld) (L : List Hld) (E j : Nat) : Nat := if hasH r.node r.key (L.take j) = true then 8 else E
theorem seenE_zero (r : Hld) (L : List Hld) (E : Nat) : seenE r L E 0 = E := rfl
theorem hasH_snoc {n : Int} {k : ByteArray} {L : List Hld} {y : Hld} : hasH n k (L ++ [y]) = (hasH n k L || decide (y.node = n ∧ y.key = k)) := by
  rw [hasH, List.any_append]; simp [hasH]
theorem seenE_same {r y : Hld} {L : List Hld} {E j : Nat} (h : L[j]? = some y) (hs : y.node = r.node ∧ y.key = r.key) : seenE r L E (j + 1) = 8 := by
  have e : hasH r.node r.key (L.take (j + 1)) = true := by
    rw [List.take_add_one, h, Option.toList_some, hasH_snoc, decide_eq_true hs, Bool.or_true]
  rw [seenE, e]; rfl
theorem seenE_other {r y : Hld} {L : List Hld} {E j : Nat} (h : L[j]? = some y) (hs : ¬ (y.node = r.node ∧ y.key = r.key)) : seenE r L E (j + 1) = seenE r L E j := by
  have e : hasH r.node r.key (L.take (j + 1)) = hasH r.node r.key (L.take j) := by
    rw [List.take_add_one, h, Option.toList_some, hasH_snoc, decide_eq_false hs, Bool.or_false]
  rw [seenE, e, seenE]
theorem seenE_all {r : Hld} {M : List Hld} {L : List Hld} (hL : L = sortH M) : seenE r L (eW M) L.length = eW (M ++ [r]) := by
  rw [seenE, List.take_length, eW_next, hL]
set_option maxRecDepth 100000 in
set_option maxHeartbeats 16000000 in
theorem lawwholes_any (A Ab : Option Addr) (c n cb : Nat) (ls : List (List Hld)) (b : List UInt8) (lo hi : Int) (w : World) (hg : HasErr w) (hr : RdHH w w.heap.size A ls) (hln : ls.length = n) (hn : n ≤ 140737488355328) (hok : ∀ l ∈ ls, l.length ≤ 140737488355328 ∧ ∀ r ∈ l, r.Ok)
    (hrb : Rd w w.heap.size 1 Ab b.length (b.map bv)) (hbl : b.length ≤ 140737488355328) (hbc : b.length ≤ cb) :
    Calls Tryz.prog 3 #[.slice A n c, .slice Ab b.length cb, .int .i64 lo, .int .i64 hi] w fun e w' => e = .returned (.bool true) ∧ Below w.heap.size w w' := by
  have HLN := Lib.hid hln
  have HOK := Lib.hid hok
  clear hln hok
  go_enter Tryz.func3, Tryz.ntmps3
  go_upto_block 0 with fail
  go_cut [9, 10, 11] from 28 to 105 (fun o a e wr => ∃ (i : Nat) (bs : List Bl) (L : List Hld), i ≤ 10 ∧ bs.length = i ∧ KS w wr ls i 0 o a e bs L ∧ Hid (bs.map Bl.b = (ls.take i).map heldsB) ∧ Hid (∀ l ∈ ls.take i, heldsE l = 0))
  case first =>
    go_wp2_with fail
    go_loopw [9, 10, 11, 12] (fun o a e x wr => ∃ (i : Nat) (bs : List Bl) (L : List Hld), i ≤ n ∧ i ≤ 10 ∧ x = .int .i64 i ∧ bs.length = i ∧ KS w wr ls i 0 o a e bs L ∧ Hid (bs.map Bl.b = (ls.take i).map heldsB) ∧ Hid (∀ l ∈ ls.take i, heldsE l = 0)) (fun _ _ _ x _ => n - (intOf x).toNat)
    case atStart => exact ⟨0, [], [], Nat.zero_le _, by omega, rfl, rfl, ⟨OwnBB.start _ _, World.ownsRow_nil _ _ _ _, by rw [hldsTo_zero]; rfl, by rw [hldsTo_zero]; rfl, Nat.zero_le _, Below.refl _ _⟩, Lib.hid rfl, Lib.hid (fun l hl => by cases hl)⟩
    obtain ⟨i, bs, L, hi, hi10, rfl, hbs, hT, HB, HS⟩ := hrel
    have hbel := hT.bel
    have hws := hbel.size
    by_cases hlt : i < n ∧ i < 10
    · obtain ⟨hlt, hlt8⟩ := hlt
      obtain ⟨ad, rfl, hab, hcell⟩ := hr (by rw [HLN.out]; omega)
      obtain ⟨l, hl⟩ : ∃ l, ls[i]? = some l := ⟨_, List.getElem?_eq_getElem (by rw [HLN.out]; exact hlt)⟩
      obtain ⟨A1, c1, g0w, hlc, hcm, hrd⟩ := hcell i l hl
      have hbw : (ad.add i).block < w.heap.size := by rw [block_add]; exact hab
      have g0 := (hbel.cell hbw).trans g0w
      have HL := Lib.hid hl
      have hlok := HOK.out l (List.mem_of_getElem? hl)
      have hsh := shelds_any A1 c1 w.heap.size l wr (hrd.below hbel (Nat.le_refl _)) hws hlok.2 hlok.1
      obtain ⟨m, hm⟩ : ∃ m, m = l.length := ⟨_, rfl⟩
      have Hm := Lib.hid hm
      rw [← hm] at g0 hlc hrd hsh
      clear hl hcell hm
      have hi0 : (0 : Int) ≤ (i : Int) := by omega
      have hi1 : (i : Int) < (n : Int) := by omega
      have hi2 : (i : Int) < 10 := by omega
      by_cases hE : heldsE l = 0
      · rw [hE] at hsh
        have HE := Lib.hid hE
        have hm4 : m ≤ 400 := by rw [Hm.out]; exact (helds_riseH hE).2.2
        have HKK := Lib.hid hlok.2
        clear hE hlok
        have hrowT := hT.tab.row
        have hby : (bs.length + 1) * 24 ≤ 140737488355328 := by rw [hbs]; omega
        have HTT := Lib.hid hT
        have hisE := hT.isE
        clear hT
        subst hisE
        go_upto_region 11 with (first
          | (go_at_call 6; go_must (refine hsh.mono ?_); rintro e w2 ⟨v2, rfl, ho2, hb2⟩; obtain ⟨A2, c2, rfl, _, _, _, _⟩ := own_form ho2; have hbel2 := hbel.trans (hb2.mono hws); have hs2 := hbel2.size; have hrow2 := own_up hrowT hb2)
          | (with_reducible show wpList _ _ _ (⟨some 51, _, _, _, _, _⟩ :: _) _ _; go_must (refine wpList_newg (.tmp 48) (.tmp 50) el_slB rfl rfl hrow2 rfl rfl rfl rfl rfl hby hs2 ?_); intro v4 w4 hown4 hb4 hg4 ha4))
        have htab4 := (HTT.out.tab.up hb2).push (x := ⟨heldsB l, A2, c2⟩) (own_base ho2 hws) hown4 hg4
        have hall2 := own_up HTT.out.all_ hb2
        have hall4 := own_far hall2 hg4 (own_ne hall2 (HTT.out.tab.up hb2).row (by decide))
        have hbel4 := hbel2.trans hb4
        have hTS4 : KS w w4 ls i 0 v4 _ (.int .i64 (eW (hldsTo ls i 0) : Nat)) (bs ++ [⟨heldsB l, A2, c2⟩]) L := ⟨htab4, hall4, HTT.out.isL, rfl, HTT.out.few, hbel4⟩
        clear htab4 hall2 hall4 hown4 ho2 hrow2 hrowT hsh
        go_wp2_with fail
        go_loopw [10, 11, 15] (fun a e x wz => ∃ (k : Nat) (L : List Hld), k ≤ m ∧ x = .int .i64 k ∧ KS w wz ls i k v4 a e (bs ++ [⟨heldsB l, A2, c2⟩]) L) (fun _ _ x _ => m - (intOf x).toNat)
        case atStart => exact ⟨0, L, Nat.zero_le _, rfl, hTS4⟩
        clear hTS4 hbel4 hbel2
        obtain ⟨k, L2, hk, rfl, hT2⟩ := hrel
        have hbz := hT2.bel
        have hwz := hbz.size
        have y0 := (hbz.cell hbw).trans g0w
        rw [← Hm.out] at y0
        have hE2 := hT2.isE
        subst hE2
        by_cases hkm : k < m
        · obtain ⟨ad1, x, rfl, hbk1, hx, x0, x1, x2, x3⟩ := hrd.hld_ hkm Hm.out.symm hbz (Nat.le_refl _)
          have HN := Lib.hid (hldsTo_next HL.out hx)
          obtain ⟨Aa, ca, ha, _, _, _, hra⟩ := own_form hT2.all_
          have hfew := hT2.few
          have HISL := Lib.hid hT2.isL
          have hput := fun q => place_put Aa ca L2.length wr.heap.size L2 x (wr.drewN q) (hra.drewN q) rfl (Nat.le_refl _) (by omega) (by rw [HISL.out]; exact sortH_rise _)
          unfold Hld.val at hput
          have HT2 := Lib.hid hT2
          have hk0 : (0 : Int) ≤ (k : Int) := by omega
          have hk1 : (k : Int) < (m : Int) := by omega
          have HNE := Lib.hid (seenE_all (r := x) HISL.out)
          clear hx hT2
          subst ha
          obtain ⟨E, hE⟩ : ∃ E, E = eW (hldsTo ls i k) := ⟨_, rfl⟩
          have HEE := Lib.hid hE
          rw [← hE] at HNE ⊢
          clear hE
          go_wp2_with fail
          go_loopw [11, 16] (fun e y wy => ∃ (j q : Nat), j ≤ L2.length ∧ y = .int .i64 j ∧ e = .int .i64 (seenE x L2 E j : Nat) ∧ wy = wr.drewN q) (fun _ y _ => L2.length - (intOf y).toNat)
          case atStart => exact ⟨0, 0, Nat.zero_le _, rfl, by rw [seenE_zero], rfl⟩
          obtain ⟨j, q, hj, rfl, rfl, rfl⟩ := hrel
          by_cases hjl : j < L2.length
          · obtain ⟨ada, y, hAa, hbka, hy, z0, z1, z2, z3⟩ := hra.hld_ hjl rfl (Below.refl _ _) (Nat.le_refl _)
            subst hAa
            have hj0 : (0 : Int) ≤ (j : Int) := by omega
            have hj1 : (j : Int) < (L2.length : Int) := by omega
            by_cases hs : y.node = x.node ∧ y.key = x.key
            · have HSN := Lib.hid (seenE_same (E := E) hy hs)
              rw [hs.1] at z0
              rw [hs.2] at z1
              clear hs hy
              go_wp2_with fail
              go_quiet (fail)
              go_wp2_with fail
              exact ⟨⟨j + 1, _, Nat.succ_le_of_lt hjl, by go_num, by rw [HSN.out]; rfl, rfl⟩, by simp [intOf]; omega⟩
            · have HSN := Lib.hid (seenE_other (E := E) hy hs)
              by_cases h1 : y.node = x.node
              · have h2 : ¬ y.key = x.key := fun e => hs ⟨h1, e⟩
                have h3 : (y.key.toList == x.key.toList) = false := by rw [beq_eq_false_iff_ne]; exact fun e => h2 (ba_same e)
                rw [h1] at z0
                clear hs hy h1 h2
                go_wp2_with fail
                go_quiet (fail)
                go_wp2_with fail
                exact ⟨⟨j + 1, _, Nat.succ_le_of_lt hjl, by go_num, by rw [HSN.out], rfl⟩, by simp [intOf]; omega⟩
              · have h2 : (y.node == x.node) = false := by simpa using h1
                clear hs hy h1
                go_wp2_with fail
                go_quiet (fail)
                go_wp2_with fail
                exact ⟨⟨j + 1, _, Nat.succ_le_of_lt hjl, by go_num, by rw [HSN.out], rfl⟩, by simp [intOf]; omega⟩
          · obtain rfl : j = L2.length := by omega
            have hput := hput q
            go_wp2_with (first
              | (go_at_call 7; go_must (refine hput.mono ?_); rintro e w5 ⟨v5, rfl, ho5, hb5⟩))
            have hTS5 : KS w w5 ls i (k + 1) v4 v5 (.int .i64 (seenE x L2 E L2.length : Nat)) (bs ++ [⟨heldsB l, A2, c2⟩]) (hldPut x L2) := ⟨(HT2.out.tab.drewN q).up hb5, own_base ho5 hwz, by rw [HN.out, sortH_next, ← HISL.out], by rw [HN.out, ← HNE.out], by have := hldPut_len (h := x) L2; omega, (below_drewN hbz q).trans (hb5.mono hwz)⟩
            clear ho5 hput
            go_roundw
            case rel => exact ⟨k + 1, _, Nat.succ_le_of_lt hkm, by go_num, hTS5⟩
            case measure => simp [intOf]; omega
        · obtain rfl : k = m := by omega
          have hline : hldsTo ls i k = hldsTo ls (i + 1) 0 := by rw [Hm.out]; exact hldsTo_line HL.out
          have hTS6 : KS w wr ls (i + 1) 0 v4 _ (.int .i64 (eW (hldsTo ls i k) : Nat)) (bs ++ [⟨heldsB l, A2, c2⟩]) L2 := ⟨hT2.tab, hT2.all_, by rw [← hline]; exact hT2.isL, by rw [← hline], by have := hT2.few; omega, hT2.bel⟩
          have HTS6 := Lib.hid hTS6
          have HB2 : Hid ((bs ++ [(⟨heldsB l, A2, c2⟩ : Bl)]).map Bl.b = (ls.take (i + 1)).map heldsB) := Lib.hid (by rw [List.take_add_one, HL.out, List.map_append, List.map_append, HB.out]; rfl)
          have HS2 : Hid (∀ l ∈ ls.take (i + 1), heldsE l = 0) := Lib.hid (fun l' hl' => by
            rw [List.take_add_one, HL.out] at hl'
            rcases List.mem_append.1 hl' with h | h
            · exact HS.out l' h
            · have h2 : l' = l := by simpa using h
              rw [h2]; exact HE.out)
          clear hTS6 hT2
          go_wp2_with fail
          go_roundw
          case rel => exact ⟨i + 1, _, L2, by omega, by omega, by go_num, by rw [List.length_append, hbs]; rfl, HTS6.out, HB2, HS2⟩
          case measure => simp [intOf]; omega
      · generalize heldsE l = E at *
        have hE2 : ¬ ((E : Int) = 0) := by omega
        have hE3 : ((E : Int) != 0) = true := by rw [bne_iff_ne]; exact hE2
        go_wp2_with (first
          | (go_at_call 6; go_must (refine hsh.mono ?_); rintro e w2 ⟨v2, rfl, ho2, hb2⟩; have hbel2 := hbel.trans (hb2.mono hws)))
        go_ret
        exact ⟨rfl, hbel2⟩
    · have hex : ¬ i < n ∨ ¬ i < 10 := by omega
      have HTT := Lib.hid hT
      clear hT
      by_cases hin : i < n
      · have hx1 : (i : Int) < (n : Int) := by omega
        have hx2 : ¬ ((i : Int) < 10) := by omega
        go_wp2_with fail
        go_meet
        exact ⟨i, bs, L, hi10, hbs, HTT.out, HB, HS⟩
      · have hx1 : ¬ ((i : Int) < (n : Int)) := by omega
        go_wp2_with fail
        go_meet
        exact ⟨i, bs, L, hi10, hbs, HTT.out, HB, HS⟩
  case rest =>
    obtain ⟨i, bs, L, hi10, hbs, hT, HB, HS⟩ := hcut
    have hLS : hldsTo ls i 0 = (ls.take i).flatten := by simp [hldsTo]
    have hisL := hT.isL
    have hisE := hT.isE
    rw [hLS] at hisL hisE
    have hwh := whole_is HB.out HS.out (fun l hl => (HOK.out l (List.mem_of_mem_take hl)).2)
    have hokL : ∀ r ∈ L, r.Ok := fun r hr => by
      rw [hisL] at hr
      obtain ⟨l, hl, hrl⟩ := List.mem_flatten.1 (sortH_mem hr)
      exact (HOK.out l (List.mem_of_mem_take hl)).2 r hrl
    rw [← hisL] at hwh
    have hfew := hT.few
    have htab := hT.tab
    have hall := hT.all_
    have hbel := hT.bel
    have hws := hbel.size
    obtain ⟨BS, hBS⟩ : ∃ BS, BS = bs.map Bl.b := ⟨_, rfl⟩
    have hBL : ∀ b ∈ BS, b.length ≤ 140737488355328 := fun b hb => by
      rw [hBS, HB.out] at hb
      obtain ⟨l, _, rfl⟩ := List.mem_map.1 hb
      exact Nat.le_trans (heldsB_le l) (by decide)
    rw [← hBS] at hwh
    have hE2 : eW (ls.take i).flatten = 0 ∨ eW (ls.take i).flatten = 8 := by unfold eW; split <;> simp
    generalize eW (ls.take i).flatten = E at *
    obtain ⟨T, hT2⟩ : ∃ T, T = whE BS := ⟨_, rfl⟩
    obtain ⟨WB, hWB⟩ : ∃ WB, WB = whB BS := ⟨_, rfl⟩
    have hTE : T = if E = 0 then (if 400 < L.length then 4 else 0) else 8 := hT2.trans hwh.1
    have HW0 : Hid (T = 0 → heldsE L = 0 ∧ WB = heldsB L) := Lib.hid (by rw [hT2, hWB]; exact hwh.2)
    have HWB : Hid (T ≠ 0 → WB = []) := Lib.hid (fun h => by rw [hWB]; exact whB_bad hT2.symm h)
    have HWH := Lib.hid (fun (Av : Option Addr) (cv : Nat) W (h : RdBB W W.heap.size Av BS) => kwhole_any Av cv W.heap.size bs.length BS W h (by rw [hBS, List.length_map]) (Nat.le_refl _) (by omega) hBL)
    rw [← hT2, ← hWB] at HWH
    have HBS := Lib.hid hBS
    have HOKL := Lib.hid hokL
    have HAL := Lib.hid hall
    have HTAB := Lib.hid htab
    clear hT HB HS hLS hwh hBS hBL hT2 hWB hisL hokL hall htab
    subst hisE
    obtain ⟨Aa, ca, ha, _, _, _, hra⟩ := own_form HAL.out
    subst ha
    clear HOK
    go_upto_region 20 with fail
    go_cut [112] from 106 to 112 (fun s wx => s = .bool (decide (E = 0 ∧ 400 < L.length)) ∧ wc = wx)
    case first =>
      rcases hE2 with rfl | rfl
      · by_cases h4 : 400 < L.length
        · have h4i : (400 : Int) < (L.length : Int) := by omega
          go_wp2_with fail
          go_meet
          exact ⟨by simp [h4], rfl⟩
        · have h4i : ¬ ((400 : Int) < (L.length : Int)) := by omega
          go_wp2_with fail
          go_meet
          exact ⟨by simp [h4], rfl⟩
      · go_wp2_with fail
        go_meet
        exact ⟨by simp, rfl⟩
    case rest =>
      obtain ⟨rfl, rfl⟩ := hcut
      go_upto_if 112 with fail
      go_cut [11] from 106 to 112 (fun e wx => e = .int .i64 T ∧ wc = wx)
      case first =>
        by_cases hc : E = 0 ∧ 400 < L.length
        · have HT4 : Hid (T = 4) := Lib.hid (by rw [hTE, if_pos hc.1, if_pos hc.2])
          rw [decide_eq_true hc]
          go_wp2_with fail
          go_meet
          exact ⟨by rw [HT4.out]; rfl, rfl⟩
        · have HT4 : Hid (T = E) := Lib.hid (by
            rw [hTE]
            split
            · rw [if_neg (by omega)]; omega
            · omega)
          rw [decide_eq_false hc]
          go_wp2_with fail
          go_meet
          exact ⟨by rw [HT4.out], rfl⟩
      case rest =>
        obtain ⟨rfl, rfl⟩ := hcut
        have hshl := shelds_any Aa ca wc.heap.size L wc hra (Nat.le_refl _) HOKL.out (by omega)
        clear hTE hE2
        go_upto_if 114 with fail
        go_cut [11, 17] from 113 to 119 (fun e v wx => e = .int .i64 T ∧ wx.ownsRow wc.heap.size 5 1 v WB.length (WB.map bv) ∧ Below wc.heap.size wc wx)
        case first =>
          by_cases hT0 : T = 0
          · have HE0 := Lib.hid (HW0.out hT0)
            rw [HE0.out.1, ← HE0.out.2] at hshl
            subst hT0
            go_wp2_with (first
              | (go_at_call 6; go_must (refine hshl.mono ?_); rintro e w2 ⟨v2, rfl, ho2, hb2⟩))
            go_meet
            exact ⟨rfl, ho2, hb2⟩
          · have HE0 := Lib.hid (HWB.out hT0)
            have hTi : ((T : Int) == 0) = false := by rw [beq_eq_false_iff_ne]; omega
            clear hT0 hshl
            go_wp2_with fail
            go_meet
            exact ⟨rfl, by rw [HE0.out]; exact World.ownsRow_nil _ _ _ _, Below.refl _ _⟩
        case rest =>
          obtain ⟨rfl, hov, hbv⟩ := hcut
          have htb := HTAB.out.up hbv
          obtain ⟨At, ct, hot, _, _, hbb⟩ := htb.rd
          rw [← HBS.out] at hbb
          have hwl := HWH.out At ct wc hbb
          obtain ⟨Av, cv, hvv, _, _, _, hrv⟩ := own_form hov
          have hbel1 := hbel.trans (hbv.mono hws)
          have hs1 := hbel1.size
          have hgw := hg.below hbel1 hg.2
          have hse := fun W (h : Below wc.heap.size wc W) => same_err T T W (hgw.up h)
          simp only [decide_true] at hse
          subst hot hvv
          have HOV := Lib.hid hov
          have HEV := Lib.hid hse
          clear hse hbs hbel hws
          clear hov htb hbb HTAB HWH hra HAL hshl HOKL HW0 HWB
          generalize errV T = eT at *
          go_upto_region 27 with (first
            | (go_at_call 8; go_must (refine hwl.mono ?_); rintro e w6 ⟨v6, rfl, ho6, hb6⟩; obtain ⟨A6, c6, rfl, _, _, _, r6⟩ := own_form ho6)
            | (go_at_call 9; go_must (refine (HEV.out _ hb6).mono ?_); rintro e w7 ⟨rfl, hb7⟩))
          have hb67 := hb6.trans (hb7.mono hb6.size)
          have q1 := run_string_rd (P := Tryz.prog) (c := c6) Tryz.underlying23 Tryz.underlying5 Tryz.underlying9 (r6.below hb7 (Nat.le_refl _))
          have q2 := run_string_rd (P := Tryz.prog) (c := cv) Tryz.underlying23 Tryz.underlying5 Tryz.underlying9 (hrv.below hb67 (Nat.le_refl _))
          have hbel7 := hbel1.trans (hb67.mono hs1)
          have hsr := fun W (h : Below w.heap.size w W) => sreadhelds_any Ab cb w.heap.size b W (hrb.below h (Nat.le_refl _)) h.size hbl hbc
          clear hb6 hb7 hb67 ho6 r6 hrv hwl hbel1 hs1 hgw hbv HBS HOV
          go_upto_region 29 with fail
          clear q1 q2
          have hsr7 := hsr _ hbel7
          go_upto_region 31 with (first
            | (go_at_call 10; go_must (refine hsr7.mono ?_); rintro e w8 ⟨v8, rfl, ho8, hb8⟩; have hw9 := knew_any w8)
            | (go_at_call 11; go_must (refine hw9.mono ?_); rintro e w9 ⟨rfl, hk9, hb9, hz9⟩))
          have hbel8 := hbel7.trans (hb8.mono hbel7.size)
          have hbel9 := hbel8.trans (hb9.mono hbel8.size)
          have hm9 : w.heap.size ≤ w8.heap.size := hbel8.size
          have ho9 := own_base (own_up ho8 hb9) (Nat.zero_le _)
          obtain ⟨gk, hgk⟩ : ∃ gk, gk = w8.heap.size + 1 := ⟨_, rfl⟩
          obtain ⟨mk, hmk⟩ : ∃ mk, mk = w8.heap.size := ⟨_, rfl⟩
          have hmkw : w.heap.size ≤ mk := by omega
          rw [← hgk, ← hmk] at hk9
          rw [← hgk]
          have hv8 : ∀ j, v8.ownBlock = some j → j < mk := fun j hj => by have := (ho8.lt j hj).2; omega
          clear hgk hmk hz9 hsr7 hw9 hbel7 hbel8 hm9 ho8
          have hpu := kput_any gk mk [] hB0 w9 hk9 hB0_ok (by simp)
          rw [hB0_put.1, hB0_put.2, errV_zero] at hpu
          unfold hB0 Hld.val at hpu
          go_upto_region 33 with (go_at_call 12; go_must (refine hpu.mono ?_); rintro e w10 ⟨rfl, hk10, hg10⟩)
          have hbel10 := hbel9.grown hg10 hbel9.size (fun j hj => by cases hj; exact hmkw)
          have ho10 := own_far ho9 hg10 (fun j hj e => by
            injection e with e
            have := hv8 j hj
            omega)
          clear hbel9 hg10 ho9 hpu hk9 hb9 hb8
          obtain ⟨A8, c8, hv8e, _, _, _, r8⟩ := own_form ho10
          subst hv8e
          clear ho10 hv8
          have HRM : Hid ((readHelds b).getD [] = rdL b) := Lib.hid rfl
          rw [HRM.out] at r8 ⊢
          have hRl := (rdL_fine b).2.2
          have HRF := Lib.hid (rdL_fine b)
          have HSP : Hid (spE lo hi b = if spanB lo hi = true then (if (readHelds b).isSome = true then 0 else 9) else 1) := Lib.hid rfl
          have HTR : Hid (toR lo hi b = if spE lo hi b = 0 then rdL b else []) := Lib.hid rfl
          have HIM := Lib.hid (imp_is (lo := lo) (hi := hi) (b := b))
          have HKI := Lib.hid (fun W (h : KIn W gk mk [hB0]) (hb : Below w.heap.size w W) => kimport_any gk mk [hB0] Ab cb w.heap.size b lo hi W h (hrb.below hb (Nat.le_refl _)) hb.size (by omega) (by omega) (by simp))
          generalize rdL b = RM at *
          generalize spE lo hi b = E3 at *
          generalize toR lo hi b = TR at *
          generalize (readHelds b).isSome = okb at *
          go_cut [156] from 146 to 158 (fun s wx => s = .bool (!spanB lo hi) ∧ w10 = wx)
          case first =>
            by_cases c1 : lo < 0
            · have HE1 := Lib.hid (spanB_no (lo := lo) (hi := hi) (.inl c1))
              go_wp2_with fail
              go_meet
              exact ⟨by rw [HE1.out]; rfl, rfl⟩
            · by_cases c2 : hi < lo
              · have HE1 := Lib.hid (spanB_no (lo := lo) (hi := hi) (.inr (.inl c2)))
                go_wp2_with fail
                go_meet
                exact ⟨by rw [HE1.out]; rfl, rfl⟩
              · by_cases c3 : 16 < hi
                · have HE1 := Lib.hid (spanB_no (lo := lo) (hi := hi) (.inr (.inr c3)))
                  go_wp2_with fail
                  go_meet
                  exact ⟨by rw [HE1.out]; rfl, rfl⟩
                · have HE1 := Lib.hid (spanB_yes c1 c2 c3)
                  go_wp2_with fail
                  go_meet
                  exact ⟨by rw [HE1.out]; rfl, rfl⟩
          case rest =>
            obtain ⟨rfl, rfl⟩ := hcut
            rename World => wd
            go_upto_if 156 with fail
            go_cut [11] from 146 to 158 (fun e wx => e = .int .i64 E3 ∧ wd = wx)
            case first =>
              rcases hsp : spanB lo hi
              · have HE1 : Hid (E3 = 1) := Lib.hid (by rw [HSP.out, hsp]; rfl)
                clear hsp
                go_wp2_with fail
                go_meet
                exact ⟨by rw [HE1.out]; rfl, rfl⟩
              · have HE1 : Hid (E3 = if okb = true then 0 else 9) := Lib.hid (by rw [HSP.out, hsp]; rfl)
                clear hsp
                rcases okb with _ | _
                · go_wp2_with fail
                  go_meet
                  exact ⟨by rw [HE1.out]; rfl, rfl⟩
                · go_wp2_with fail
                  go_meet
                  exact ⟨by rw [HE1.out]; rfl, rfl⟩
            case rest =>
              obtain ⟨rfl, rfl⟩ := hcut
              have hk11 : KIn wd gk mk [hB0] := hk10
              have hlit := World.ownsRow_lit (base := wd.heap.size) (e := 29) (size := 4) wd #[.int .i64 0, .string ⟨#[97]⟩, .int .i64 1, .int .i64 0] 1 (Nat.le_refl _) (by unfold maxLen; omega) rfl
              have hb12 := (Below.refl wd.heap.size wd).alloc (Nat.le_refl _) (.cells #[.int .i64 0, .string ⟨#[97]⟩, .int .i64 1, .int .i64 0] 29)
              go_upto_block 6 with fail
              generalize wd.alloc (.cells #[.int .i64 0, .string ⟨#[97]⟩, .int .i64 1, .int .i64 0] 29) = we at *
              have hk12 := hk11.up hb12
              have hbel12 := hbel10.trans (hb12.mono hbel10.size)
              have r12 := (r8.below hb12 (Nat.le_refl _)).more hb12.size
              have hl12 : we.ownsRow 0 29 4 _ [hB0].length (hldCells [hB0]) := own_base hlit (Nat.zero_le _)
              have hs12 := hb12.size
              clear hk10 hk11 hlit hb12 r8
              go_cut [24] from 161 to 190 (fun h wr => PR we wr lo hi TR TR.length h)
              case first =>
                go_wp2_with fail
                go_loopw [24, 25] (fun h x wr => ∃ (j : Nat), j ≤ TR.length ∧ x = .int .i64 j ∧ PR we wr lo hi TR j h) (fun _ x _ => TR.length - (intOf x).toNat)
                case atStart => exact ⟨0, Nat.zero_le _, rfl, [hB0], hl12, Lib.hid rfl, by simp, Below.refl _ _⟩
                obtain ⟨j, hj, rfl, S2, ho, HS2, hSl, hbj⟩ := hrel
                have hwj := hbj.size
                by_cases hE3 : E3 = 0
                · have HTE : Hid (TR = RM) := Lib.hid (by rw [HTR.out, if_pos hE3])
                  have hTl : TR.length = RM.length := by rw [HTE.out]
                  have hEi : ((E3 : Int) == 0) = true := by rw [hE3]; rfl
                  clear hE3
                  by_cases hjl : j < RM.length
                  · obtain ⟨ad, x, rfl, hbk, hx, g0, g1, g2, g3⟩ := r12.hld_ hjl rfl hbj (Nat.le_refl _)
                    have hj0 : (0 : Int) ≤ (j : Int) := by omega
                    have hj1 : (j : Int) < (RM.length : Int) := by omega
                    obtain ⟨Ah, ch, hhe, _, _, _, rh⟩ := own_form ho
                    subst hhe
                    have hxk := (HRF.out.2.1 x (List.mem_of_getElem? hx)).1
                    have hgr := rgroup_any x.key wr (by have := hldOk_key hxk; omega)
                    have HPN := Lib.hid (putAll_next (S := [hB0]) (lo := lo) (hi := hi) (show TR[j]? = some x from by rw [HTE.out]; exact hx))
                    have HPR : Hid (riseH S2) := Lib.hid (by rw [HS2.out]; exact putAll_rise _ _ (List.pairwise_singleton _ _))
                    have HO := Lib.hid ho
                    have HIX : Hid (inG lo hi x = (decide (lo ≤ (gOf x.key : Int)) && decide ((gOf x.key : Int) < hi))) := Lib.hid rfl
                    clear hx ho hxk
                    generalize gOf x.key = G at *
                    go_upto_region 42 with (go_at_call 13; go_must (refine hgr.mono ?_); rintro e w13 ⟨rfl, hb13⟩)
                    have hbj3 := hbj.trans (hb13.mono hwj)
                    have hwj3 := hbj3.size
                    have ho3 := own_up HO.out hb13
                    have rh3 := (rh.below hb13 (Nat.le_refl _)).more hb13.size
                    obtain ⟨g0, g1, g2, g3⟩ := keep4 hb13 (by have := hbj.size; omega) g0 g1 g2 g3
                    have hpl := place_put Ah ch S2.length w13.heap.size S2 x w13 rh3 rfl (Nat.le_refl _) (by omega) HPR.out
                    unfold Hld.val at hpl
                    have HO3 := Lib.hid ho3
                    clear ho3 hgr rh rh3 HO hbj hb13
                    by_cases c1 : lo ≤ (G : Int)
                    · by_cases c2 : (G : Int) < hi
                      · have HIN : Hid (inG lo hi x = true) := Lib.hid (by rw [HIX.out, decide_eq_true c1, decide_eq_true c2]; rfl)
                        go_wp2_with (first
                          | (go_at_call 7; go_must (refine hpl.mono ?_); rintro e w14 ⟨v14, rfl, ho14, hb14⟩))
                        go_roundw
                        case rel => exact ⟨j + 1, by omega, by go_num, hldPut x S2, own_base ho14 (Nat.zero_le _), Lib.hid (by rw [HPN.out, if_pos HIN.out, HS2.out]), by have := hldPut_len (h := x) S2; omega, hbj3.trans (hb14.mono hwj3)⟩
                        case measure => simp [intOf]; omega
                      · have HIN : Hid (inG lo hi x = false) := Lib.hid (by rw [HIX.out, decide_eq_true c1, decide_eq_false c2]; rfl)
                        go_wp2_with fail
                        go_roundw
                        case rel => exact ⟨j + 1, by omega, by go_num, S2, HO3.out, Lib.hid (by rw [HPN.out, HIN.out, if_neg (by simp), HS2.out]), by omega, hbj3⟩
                        case measure => simp [intOf]; omega
                    · have HIN : Hid (inG lo hi x = false) := Lib.hid (by rw [HIX.out, decide_eq_false c1]; rfl)
                      go_wp2_with fail
                      go_roundw
                      case rel => exact ⟨j + 1, by omega, by go_num, S2, HO3.out, Lib.hid (by rw [HPN.out, HIN.out, if_neg (by simp), HS2.out]), by omega, hbj3⟩
                      case measure => simp [intOf]; omega
                  · obtain rfl : j = RM.length := by omega
                    have HPR : Hid (PR we wr lo hi TR TR.length _) := Lib.hid (by rw [hTl]; exact ⟨S2, ho, HS2, hSl, hbj⟩)
                    clear ho
                    go_wp2_with fail
                    go_meet
                    exact HPR.out
                · have HTE : Hid (TR = []) := Lib.hid (by rw [HTR.out, if_neg hE3])
                  have hEi : ((E3 : Int) == 0) = false := by rw [beq_eq_false_iff_ne]; omega
                  have hj0 : j = 0 := by rw [HTE.out] at hj; simpa using hj
                  have hPR : PR we wr lo hi TR TR.length _ := ⟨S2, ho, Lib.hid (by rw [HS2.out, HTE.out, hj0]; rfl), by rw [HTE.out]; simp; omega, hbj⟩
                  have HPR := Lib.hid hPR
                  subst hj0
                  clear ho hE3 hPR
                  by_cases hRM : 0 < RM.length
                  · have hRi : (0 : Int) < (RM.length : Int) := by omega
                    go_wp2_with fail
                    go_meet
                    exact HPR.out
                  · have hRi : ¬ (0 : Int) < (RM.length : Int) := by omega
                    go_wp2_with fail
                    go_meet
                    exact HPR.out
              case rest =>
                obtain ⟨S2, ho, HS2, hSl, hbj⟩ := hcut
                have hk13 := hk12.up hbj
                have hbel13 := hbel12.trans (hbj.mono hbel12.size)
                obtain ⟨Ah, ch, hhe, _, _, _, _⟩ := own_form ho
                subst hhe
                have HTL : Hid (TR.length ≤ 400) := Lib.hid (by rw [HTR.out]; split <;> first | exact hRl | exact Nat.zero_le _)
                rw [List.take_length] at HS2
                by_cases h4 : 400 < S2.length
                · have h4i : (400 : Int) < (S2.length : Int) := by omega
                  clear ho
                  go_wp2_with fail
                  go_ret
                  exact ⟨rfl, hbel13⟩
                · have h4i : ¬ (400 : Int) < (S2.length : Int) := by omega
                  have hI := HIM.out (by rw [← HS2.out]; omega)
                  rw [← HS2.out] at hI
                  have hki := HKI.out _ hk13 hbel13
                  rw [hI.1, hI.2] at hki
                  have HNM := Lib.hid (own_ne_map hk13 ho)
                  have HO := Lib.hid ho
                  have HKA := Lib.hid (fun W (hk : KIn W gk mk S2) => kall_any gk mk S2 W hk (by omega))
                  have HSA := Lib.hid (fun (A A' : Option Addr) (c c' : Nat) (W : World) (hx : Rd W W.heap.size 4 A S2.length (hldCells S2)) (hy : Rd W W.heap.size 4 A' S2.length (hldCells S2)) => (show Calls Tryz.prog 15 #[.slice A S2.length c, .slice A' S2.length c'] W fun e w' => e = .returned (.bool true) ∧ Below W.heap.size W w' from by
                    have h := samehelds_any A A' c c' W.heap.size S2 S2 W hx hy (Nat.le_refl _) (by omega) (by omega)
                    exact h.mono fun e w' ⟨b, he, hb, hbel⟩ => ⟨by rw [he, hb.2 rfl], hbel⟩))
                  have HSE := Lib.hid (fun W (h : Below w.heap.size w W) => same_err E3 E3 W (hg.below h hg.2))
                  have hsz := hbel13.size
                  clear hI ho HIM HKI HSP HTR HRF
                  generalize errV E3 = eE at *
                  go_upto_region 47 with (first
                    | (go_at_call 14; go_must (refine hki.mono ?_); rintro e w15 ⟨rfl, hk15, hg15⟩; have hbel15 := hbel13.grown hg15 hsz (fun j hj => by cases hj; exact hmkw))
                    | (go_at_call 9; go_must (refine (HSE.out _ hbel15).mono ?_); rintro e w16 ⟨rfl, hb16⟩))
                  have hbel16 := hbel15.trans (hb16.mono hbel15.size)
                  have ho15 := own_far HO.out hg15 HNM.out
                  have ho16 := own_up ho15 hb16
                  obtain ⟨_, _, hh, _, _, _, rh16⟩ := own_form ho16
                  injection hh with hh1 _ hh2
                  subst hh1 hh2
                  have hal := HKA.out _ (hk15.up hb16)
                  have HR16 := Lib.hid rh16
                  clear ho15 ho16 HO hg15 hk15 hk13 hbel15 hb16 rh16 HNM hki
                  go_wp2_with (first
                    | (go_at_call 16; go_must (refine hal.mono ?_); rintro e w17 ⟨A17, c17, rfl, _, _, r17, hb17⟩; have hsa := HSA.out A17 Ah c17 ch w17 r17 ((HR16.out.below hb17 (Nat.le_refl _)).more hb17.size))
                    | (go_at_call 15; go_must (refine hsa.mono ?_); rintro e w18 ⟨rfl, hb18⟩))
                  go_ret
                  exact ⟨by simp, below_up (below_up hbel16 hb17) hb18⟩
end Go.Proofs.YtcfijljagohmlaaGreatDoor
