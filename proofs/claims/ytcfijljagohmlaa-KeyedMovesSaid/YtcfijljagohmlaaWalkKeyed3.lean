/- The walk of keyed.Import. -/
import Derived.Test.YtcfijljagohmlaaWalkKeyed2
namespace Go.Proofs.Ytcfijljagohmlaa
open Go.RowKit Go.Maps Go.WideMaps Go.Sort

/-- How many of some are not there yet, of some groups. -/
def moreH (S : List Hld) (lo hi : Int) (l : List Hld) : Nat := (l.filter fun h => !hasH h.node h.key S && inG lo hi h).length
def putAll (S : List Hld) (lo hi : Int) (l : List Hld) : List Hld := l.foldl (fun S h => if inG lo hi h = true then hldPut h S else S) S
theorem moreH_next {S l : List Hld} {lo hi : Int} {k : Nat} {h : Hld} (hx : l[k]? = some h) : moreH S lo hi (l.take (k + 1)) = moreH S lo hi (l.take k) + if hasH h.node h.key S = false ∧ inG lo hi h = true then 1 else 0 := by
  unfold moreH
  rw [List.take_add_one, hx, List.filter_append, List.length_append]
  congr 1
  simp only [Option.toList_some, List.filter_cons, List.filter_nil]
  rcases hasH h.node h.key S <;> rcases inG lo hi h <;> rfl
theorem moreH_le (S l : List Hld) (lo hi : Int) : moreH S lo hi l ≤ l.length := List.length_filter_le _ _
theorem putAll_next {S l : List Hld} {lo hi : Int} {k : Nat} {h : Hld} (hx : l[k]? = some h) : putAll S lo hi (l.take (k + 1)) = if inG lo hi h = true then hldPut h (putAll S lo hi (l.take k)) else putAll S lo hi (l.take k) := by
  unfold putAll
  rw [List.take_add_one, hx, List.foldl_append]; rfl
theorem putAll_len {lo hi : Int} : ∀ (l S : List Hld), (putAll S lo hi l).length ≤ S.length + l.length := by
  intro l
  induction l with
  | nil => intro S; exact Nat.le_refl _
  | cons x xs ih =>
    intro S
    have h1 := ih (if inG lo hi x = true then hldPut x S else S)
    have h2 : (if inG lo hi x = true then hldPut x S else S).length ≤ S.length + 1 := by
      split
      · exact hldPut_len S
      · omega
    unfold putAll at h1 ⊢
    rw [List.foldl_cons, List.length_cons]
    omega
/-- What Import gives: the fault, the states. -/
def impE (S : List Hld) (b : List UInt8) (lo hi : Int) : Nat := if spanB lo hi = true then (match readHelds b with
  | none => 9
  | some l => if 400 < S.length + moreH S lo hi l then 4 else 0) else 1
def impS (S : List Hld) (b : List UInt8) (lo hi : Int) : List Hld := if impE S b lo hi = 0 then putAll S lo hi ((readHelds b).getD []) else S
theorem impS_bad {S : List Hld} {b : List UInt8} {lo hi : Int} {e : Nat} (h : impE S b lo hi = e) (h0 : e ≠ 0) : impS S b lo hi = S := by rw [impS, if_neg (by omega)]

set_option maxRecDepth 100000 in
set_option maxHeartbeats 4000000 in
theorem kimport_any (g M : Nat) (S : List Hld) (A : Option Addr) (c B : Nat) (b : List UInt8) (lo hi : Int) (w : World) (hk : KIn w g M S) (hr : Rd w B 1 A b.length (b.map bv)) (hB : B ≤ w.heap.size) (hl : b.length ≤ 140737488355328) (hc : b.length ≤ c) (hS : S.length ≤ 1000000) :
    Calls Try.prog 26 #[.pointer (some ⟨g, 0, none⟩), .slice A b.length c, .int .i64 lo, .int .i64 hi] w fun e w' => e = .returned (errV (impE S b lo hi)) ∧ KIn w' g M (impS S b lo hi) ∧ w.grownBy w' (some M) := by
  have hsp := kspan_any lo hi w
  have hrh := readhelds_any A c B b w hr hB hl hc
  obtain ⟨E, hE⟩ : ∃ E, E = impE S b lo hi := ⟨_, rfl⟩
  obtain ⟨SS, hSS⟩ : ∃ SS, SS = impS S b lo hi := ⟨_, rfl⟩
  rw [← hE, ← hSS]
  have HE := Lib.hid hE
  have HSS := Lib.hid hSS
  clear hE hSS hr
  rcases hs : spanB lo hi
  · have h1 : impE S b lo hi = 1 := by rw [impE, hs]; rfl
    have H1 : Hid (E = 1) := Lib.hid (by rw [HE.out, h1])
    have H2 : Hid (SS = S) := Lib.hid (by rw [HSS.out, impS_bad h1 (by omega)])
    rw [hs] at hsp
    clear hs hrh h1
    generalize b.length = bl at *
    go_enter Try.func26, Try.ntmps26
    go_wp2_with (first | (go_at_call 54; go_must (refine hsp.mono ?_); rintro e w' ⟨rfl, rfl⟩))
    go_ret
    exact ⟨by rw [H1.out]; rfl, by rw [H2.out]; exact hk, only_refl _ _⟩
  · rw [hs] at hsp
    rcases hrb : readHelds b with _ | l
    · have h1 : impE S b lo hi = 9 := by rw [impE, hs, hrb]; rfl
      have H1 : Hid (E = 9) := Lib.hid (by rw [HE.out, h1])
      have H2 : Hid (SS = S) := Lib.hid (by rw [HSS.out, impS_bad h1 (by omega)])
      rw [rhE_none hrb, hrb, show errV 9 = .iface 84 (.int .i64 9) from rfl] at hrh
      clear hs hrb h1
      generalize b.length = bl at *
      go_enter Try.func26, Try.ntmps26
      go_wp2_with (first
        | (go_at_call 54; go_must (refine hsp.mono ?_); rintro e w' ⟨rfl, rfl⟩)
        | (go_at_call 17; go_must (refine hrh.mono ?_); rintro e w2 ⟨v2, rfl, _, hb2⟩))
      go_ret
      exact ⟨by rw [H1.out]; rfl, by rw [H2.out]; exact hk.up hb2, up_grown hb2 _⟩
    · obtain ⟨hrise, hfine, hlen⟩ := readHelds_fine hrb
      rw [rhE_some hrb, hrb, Option.getD_some, errV_zero] at hrh
      have HX : Hid (impE S b lo hi = if 400 < S.length + moreH S lo hi l then 4 else 0) := Lib.hid (by rw [impE, hs, hrb]; rfl)
      have HY : Hid (impE S b lo hi = 0 → SS = putAll S lo hi l) := Lib.hid (fun e => by rw [HSS.out, impS, if_pos e, hrb]; rfl)
      have HFI := Lib.hid hfine
      clear hs hrb hrise hfine
      generalize b.length = bl at *
      obtain ⟨n, hn⟩ : ∃ n, n = l.length := ⟨_, rfl⟩
      have Hn := Lib.hid hn
      rw [← hn] at hlen hrh
      clear hn
      go_enter Try.func26, Try.ntmps26
      go_wp2_with (first
        | (go_at_call 54; go_must (refine hsp.mono ?_); rintro e w' ⟨rfl, rfl⟩)
        | (go_at_call 17; go_must (refine hrh.mono ?_); rintro e w2 ⟨v2, rfl, ho2, hb2⟩; obtain ⟨A2, c2, rfl, h1, h2, _, r2⟩ := own_form ho2))
      have hk2 := hk.up hb2
      have hg02 := up_grown hb2 (some M)
      clear ho2 hb2 hrh hsp hk
      go_loopw [11, 33] (fun m x wr => ∃ i : Nat, i ≤ n ∧ x = .int .i64 i ∧ m = .int .i64 (moreH S lo hi (l.take i)) ∧ Below w2.heap.size w2 wr) (fun _ x _ => n - (intOf x).toNat)
      case atStart => exact ⟨0, Nat.zero_le _, rfl, rfl, Below.refl _ _⟩
      obtain ⟨i, hile, rfl, rfl, hbel⟩ := hrel
      have hmo : moreH S lo hi (l.take i) ≤ i := Nat.le_trans (moreH_le _ _ _ _) (List.length_take_le _ _)
      by_cases hlt : i < n
      · obtain ⟨ad, x, rfl, hbk, hx, g0, g1, g2, g3⟩ := r2.hld_ hlt Hn.out.symm hbel (Nat.le_refl _)
        have HMN := Lib.hid (moreH_next (S := S) (lo := lo) (hi := hi) hx)
        obtain ⟨hxo, hxk⟩ := HFI.out x (List.mem_of_getElem? hx)
        have hi0 : (0 : Int) ≤ (i : Int) := by omega
        have hi1 : (i : Int) < (n : Int) := by omega
        clear hx
        generalize moreH S lo hi (l.take i) = m at *
        have hbx := Blk.new wr 47 #[.int .i64 x.node, .string x.key, .int .i64 x.a, .int .i64 x.b]
        have hbel1 := hbel.alloc hbel.size (.cells #[.int .i64 x.node, .string x.key, .int .i64 x.a, .int .i64 x.b] 47)
        have hk1 := hk2.up hbel1
        go_upto_region 10 with fail
        obtain ⟨gx, hgx⟩ : ∃ gx, gx = wr.heap.size := ⟨_, rfl⟩
        rw [← hgx] at hbx
        rw [← hgx]
        clear hgx g0 g1 g2 g3
        generalize wr.alloc (.cells #[.int .i64 x.node, .string x.key, .int .i64 x.a, .int .i64 x.b] 47) = w3 at *
        obtain ⟨D, hown, hD⟩ := hk1.own
        have hhas := mapL_has hD (fun x hx => (hk1.fine x hx).2) (hld_ok_key hxk).1 (hld_ok_key hxk).2
        have hkey := keyOf_at (hld_ok_key hxk).1 (hld_ok_key hxk).2
        have c0 := hk1.blk.cell 0
        have x0 := hbx.cell 0
        have x1 := hbx.cell 1
        simp at c0 x0 x1
        have hlg := hk1.ltg
        have hlx := hbx.lt
        obtain ⟨y, hy, hrun⟩ := runs_lookup_hld w3 kat Try.underlying93 zhld hown hkey
        have hr1 := hrun w3.drew rfl
        have hr2 := fun o => hrun (w3.alloc o).drew (Below.heap_alloc w3 o M hown.lt)
        rw [hhas] at hr1 hr2
        obtain ⟨bh, hbh⟩ : ∃ bh, bh = hasH x.node x.key S := ⟨_, rfl⟩
        rw [← hbh] at hr1 hr2
        have HBH := Lib.hid hbh
        clear hrun hhas hy hbh
        go_region
        have hbel4 := below_drewN (hbel1.alloc hbel1.size (.cells #[.int .i64 y.node, .string y.key, .int .i64 y.a, .int .i64 y.b] 47)) 1
        have hbx4 := (hbx.alloc (.cells #[.int .i64 y.node, .string y.key, .int .i64 y.a, .int .i64 y.b] 47)).drew
        rw [show (w3.alloc (.cells #[.int .i64 y.node, .string y.key, .int .i64 y.a, .int .i64 y.b] 47)).drewN 1 = (w3.alloc (.cells #[.int .i64 y.node, .string y.key, .int .i64 y.a, .int .i64 y.b] 47)).drew from rfl] at hbel4
        generalize (w3.alloc (.cells #[.int .i64 y.node, .string y.key, .int .i64 y.a, .int .i64 y.b] 47)).drew = w4 at *
        clear hr1 hr2 c0 x0 x1 hlg hlx hbx hk1 hown hD hbel1 hkey
        have x0 := hbx4.cell 0
        have x1 := hbx4.cell 1
        have x2 := hbx4.cell 2
        have x3 := hbx4.cell 3
        simp at x0 x1 x2 x3
        rcases bh
        · have hin := kin_any x lo hi w4 (by have := hldOk_key hxo; omega)
          rcases hb : inG lo hi x
          · rw [hb] at hin
            have HM2 : Hid (moreH S lo hi (l.take (i + 1)) = m) := Lib.hid (by rw [HMN.out, ← HBH.out, hb]; simp)
            clear hb
            go_wp2_with (first
              | (go_at_call 57; go_must (refine hin.mono ?_); rintro e w5 ⟨rfl, hb5⟩))
            refine ⟨⟨i + 1, hlt, by go_num, by rw [HM2.out], below_up hbel4 hb5⟩, by simp [intOf]; omega⟩
          · rw [hb] at hin
            have HM2 : Hid (moreH S lo hi (l.take (i + 1)) = m + 1) := Lib.hid (by rw [HMN.out, ← HBH.out, hb]; simp)
            clear hb
            go_wp2_with (first
              | (go_at_call 57; go_must (refine hin.mono ?_); rintro e w5 ⟨rfl, hb5⟩))
            refine ⟨⟨i + 1, hlt, by go_num, by rw [HM2.out]; go_num, below_up hbel4 hb5⟩, by simp [intOf]; omega⟩
        · have HM2 : Hid (moreH S lo hi (l.take (i + 1)) = m) := Lib.hid (by rw [HMN.out, ← HBH.out]; simp)
          go_wp2_with fail
          refine ⟨⟨i + 1, hlt, by go_num, by rw [HM2.out], hbel4⟩, by simp [intOf]; omega⟩
      · obtain rfl : i = n := by omega
        have htk : l.take i = l := List.take_of_length_le (by have := Hn.out; omega)
        rw [htk] at hmo
        obtain ⟨m, hm⟩ : ∃ m, m = moreH S lo hi l := ⟨_, rfl⟩
        have HM : Hid (moreH S lo hi (l.take i) = m) := Lib.hid (by rw [htk, hm])
        rw [HM.out]
        rw [← hm] at hmo HX
        have hkr := hk2.up hbel
        have r3 := r2.below hbel (Nat.le_refl _)
        have hg0r := only_trans hg02 (up_grown hbel (some M))
        clear hm htk hbel hk2 r2 hg02
        obtain ⟨D, hown, hD⟩ := hkr.own
        have hszd := Lib.hid hD.size
        have c0 := hkr.blk.cell 0
        simp at c0
        by_cases hfull : 400 < S.length + m
        · have H0 : Hid (impE S b lo hi = 4) := Lib.hid (by rw [HX.out, if_pos hfull])
          have H1 : Hid (E = 4) := Lib.hid (by rw [HE.out, H0.out])
          have H2 : Hid (SS = S) := Lib.hid (by rw [HSS.out, impS_bad H0.out (by omega)])
          have hf2 : (400 : Int) < (S.length : Int) + (m : Int) := by omega
          go_wp2_with (first
            | (with_reducible show wpList _ _ _ (⟨some 65, _, _, _, _, _⟩ :: _) _ _; go_must (refine wpList_len_own _ rfl _ 93 rfl 97 47 Try.underlying93 hldR M S.length D rfl hown ?_); rw [hszd.out]))
          go_ret
          exact ⟨by rw [H1.out]; rfl, by rw [H2.out]; exact hkr, hg0r⟩
        · have H0 : Hid (impE S b lo hi = 0) := Lib.hid (by rw [HX.out, if_neg hfull])
          have H1 : Hid (E = 0) := Lib.hid (by rw [HE.out, H0.out])
          have H2 : Hid (SS = putAll S lo hi l) := Lib.hid (HY.out H0.out)
          have hf2 : ¬ (400 : Int) < (S.length : Int) + (m : Int) := by omega
          rename World => wo
          go_wp2_with (first
            | (with_reducible show wpList _ _ _ (⟨some 65, _, _, _, _, _⟩ :: _) _ _; go_must (refine wpList_len_own _ rfl _ 93 rfl 97 47 Try.underlying93 hldR M S.length D rfl hown ?_); rw [hszd.out]))
          go_loopw [72] (fun x wr => ∃ i' : Nat, i' ≤ i ∧ x = .int .i64 i' ∧ KIn wr g M (putAll S lo hi (l.take i')) ∧ wo.grownBy wr (some M)) (fun x _ => i - (intOf x).toNat)
          case atStart => exact ⟨0, Nat.zero_le _, rfl, hkr, only_refl _ _⟩
          clear hown hD c0 hszd
          obtain ⟨j, hjle, rfl, hkj, hgj⟩ := hrel
          by_cases hlt2 : j < i
          · obtain ⟨D, hown, hD⟩ := hkj.own
            have r4 := r3.map_ hkr.own.choose_spec.1 hgj
            obtain ⟨ad, x, rfl, hbk, hx, g0, g1, g2, g3⟩ := r4.hld_ hlt2 Hn.out.symm (Below.refl w2.heap.size wr) (Nat.le_refl _)
            have HPN := Lib.hid (putAll_next (S := S) (lo := lo) (hi := hi) hx)
            obtain ⟨hxo, hxk⟩ := HFI.out x (List.mem_of_getElem? hx)
            have hkey := keyOf_at (hld_ok_key hxk).1 (hld_ok_key hxk).2
            have hi0 : (0 : Int) ≤ (j : Int) := by omega
            have hi1 : (j : Int) < (i : Int) := by omega
            have hPl : (putAll S lo hi (l.take j)).length ≤ 2000000 := Nat.le_trans (putAll_len _ _) (by rw [List.length_take]; omega)
            clear hx r4
            generalize putAll S lo hi (l.take j) = T at *
            have hbx := Blk.new wr 47 #[.int .i64 x.node, .string x.key, .int .i64 x.a, .int .i64 x.b]
            have hgn := World.grownBy_alloc wr (.cells #[.int .i64 x.node, .string x.key, .int .i64 x.a, .int .i64 x.b] 47) none
            have hin := kin_any x lo hi (wr.alloc (.cells #[.int .i64 x.node, .string x.key, .int .i64 x.a, .int .i64 x.b] 47)) (by have := hldOk_key hxo; omega)
            rcases hb : inG lo hi x
            · rw [hb] at hin
              have HP2 : Hid (putAll S lo hi (l.take (j + 1)) = T) := Lib.hid (by rw [HPN.out, hb]; rfl)
              clear hb
              go_wp2_with (first
                | (go_at_call 57; go_must (refine hin.mono ?_); rintro e w5 ⟨rfl, hb5⟩))
              have hgx := only_trans (hgn.but (some M)) (up_grown hb5 (some M))
              have hb6 : Below wr.heap.size wr w5 := ((Below.refl wr.heap.size wr).alloc (Nat.le_refl _) _).trans (hb5.mono (by simp))
              refine ⟨⟨j + 1, hlt2, by go_num, by rw [HP2.out]; exact hkj.up hb6, only_trans hgj hgx⟩, by simp [intOf]; omega⟩
            · rw [hb] at hin
              have HP2 : Hid (putAll S lo hi (l.take (j + 1)) = hldPut x T) := Lib.hid (by rw [HPN.out, hb]; rfl)
              clear hb
              go_upto_region 20 with (first
                | (go_at_call 57; go_must (refine hin.mono ?_); rintro e w5 ⟨rfl, hb5⟩))
              have hgx := only_trans (hgn.but (some M)) (up_grown hb5 (some M))
              have hb6 : Below wr.heap.size wr w5 := ((Below.refl wr.heap.size wr).alloc (Nat.le_refl _) _).trans (hb5.mono (by simp))
              have hk5 := hkj.up hb6
              have hbx5 := hbx.up hb5
              obtain ⟨gx, hgxx⟩ : ∃ gx, gx = wr.heap.size := ⟨_, rfl⟩
              rw [← hgxx] at hbx5 ⊢
              clear hgxx hbx hb6 hb5 g0 g1 g2 g3 hin
              obtain ⟨D5, hown5, hD5⟩ := hk5.own
              have c0 := hk5.blk.cell 0
              have x0 := hbx5.cell 0
              have x1 := hbx5.cell 1
              have x2 := hbx5.cell 2
              have x3 := hbx5.cell 3
              simp at c0 x0 x1 x2 x3
              go_still_tail 10, (by kernel_rfl)
              change wpList _ _ _ _ _ w5.drew
              go_wp2_with (first
                | (at_mapUpdate; go_must (refine wpList_mapUpdate_own _ rfl _ _ _ 93 rfl 97 47 kat Try.underlying93 hldR M T.length D5 rfl hown5.drew (by unfold maxLen; omega) _ _ (klA x.node x.key) rfl rfl hkey (hldD x) [] rfl ?_); intro w9 hown9 hgr9))
              refine ⟨⟨j + 1, hlt2, by go_num, by rw [HP2.out]; exact hk5.put hD5 hxo hxk hown9 (grown_undrew hgr9), only_trans hgj (only_trans hgx (grown_undrew hgr9))⟩, by simp [intOf]; omega⟩
          · obtain rfl : j = i := by omega
            have htk : l.take j = l := List.take_of_length_le (by have := Hn.out; omega)
            rw [htk] at hkj
            go_wp2_with fail
            go_ret
            exact ⟨by rw [H1.out]; rfl, by rw [H2.out]; exact hkj, only_trans hg0r hgj⟩
end Go.Proofs.Ytcfijljagohmlaa
