/- WalkKeyed3 WalkKeyed4 WalkKeyed5 in one text. -/
import Derived.Test.YtcfijljagohmlaaGreatDoorWalkKeyed2
import Derived.Test.YtcfijljagohmlaaGreatDoorMemBB
/- The walk of keyed.Import. -/
namespace Go.Proofs.YtcfijljagohmlaaGreatDoor
open Go.RowKit Go.Maps Go.WideMaps Go.Sort

/-- How many of some are not there yet, of some groups. -/
def moreH (S : List Hld) (lo hi : Int) (l : List Hld) : Nat := (l.filter fun h => !hasH h.node h.key S && inG lo hi h).length
def putAll (S : List Hld) (lo hi : Int) (l : List Hld) : List Hld := l.foldl (fun S h => if inG lo hi h = true then hldPut h S else S) S
theorem moreH_next {S l : List Hld} {lo hi : Int} {k : Nat} {h : Hld} (hx : l[k]? = some h) : moreH S lo hi (l.take (k + 1)) = moreH S lo hi (l.take k) + if hasH h.node h.key S = false ∧ inG lo hi h = true then 1 else 0 := by
  unfold moreH
  rw [List.take_add_one, hx, List.filter_append, List.length_append]
  congr 1
  simp only [Option.toList_some, List.filter_cons, List.filter_nil]
  rcases hasH h.node h.key S <;> rcases inG lo hi h <;> rfl
theorem moreH_le (S l : List Hld) (lo hi : Int) : moreH S lo hi l ≤ l.length := List.length_filter_le _ _
theorem putAll_next {S l : List Hld} {lo hi : Int} {k : Nat} {h : Hld} (hx : l[k]? = some h) : putAll S lo hi (l.take (k + 1)) = if inG lo hi h = true then hldPut h (putAll S lo hi (l.take k)) else putAll S lo hi (l.take k) := by
  unfold putAll
  rw [List.take_add_one, hx, List.foldl_append]; rfl
theorem putAll_len {lo hi : Int} : ∀ (l S : List Hld), (putAll S lo hi l).length ≤ S.length + l.length := by
  intro l
  induction l with
  | nil => intro S; exact Nat.le_refl _
  | cons x xs ih =>
    intro S
    have h1 := ih (if inG lo hi x = true then hldPut x S else S)
    have h2 : (if inG lo hi x = true then hldPut x S else S).length ≤ S.length + 1 := by
      split
      · exact hldPut_len S
      · omega
    unfold putAll at h1 ⊢
    rw [List.foldl_cons, List.length_cons]
    omega
/-- What Import gives: the fault, the states. -/
def impE (S : List Hld) (b : List UInt8) (lo hi : Int) : Nat := if spanB lo hi = true then (match readHelds b with
  | none => 9
  | some l => if 400 < S.length + moreH S lo hi l then 4 else 0) else 1
def impS (S : List Hld) (b : List UInt8) (lo hi : Int) : List Hld := if impE S b lo hi = 0 then putAll S lo hi ((readHelds b).getD []) else S
theorem impS_bad {S : List Hld} {b : List UInt8} {lo hi : Int} {e : Nat} (h : impE S b lo hi = e) (h0 : e ≠ 0) : impS S b lo hi = S := by rw [impS, if_neg (by omega)]

set_option maxRecDepth 100000 in
set_option maxHeartbeats 4000000 in
theorem kimport_any (g M : Nat) (S : List Hld) (A : Option Addr) (c B : Nat) (b : List UInt8) (lo hi : Int) (w : World) (hk : KIn w g M S) (hr : Rd w B 1 A b.length (b.map bv)) (hB : B ≤ w.heap.size) (hl : b.length ≤ 140737488355328) (hc : b.length ≤ c) (hS : S.length ≤ 1000000) :
    Calls Tryz.prog 14 #[.pointer (some ⟨g, 0, none⟩), .slice A b.length c, .int .i64 lo, .int .i64 hi] w fun e w' => e = .returned (errV (impE S b lo hi)) ∧ KIn w' g M (impS S b lo hi) ∧ w.grownBy w' (some M) := by
  have hsp := kspan_any lo hi w
  have hrh := readhelds_any A c B b w hr hB hl hc
  obtain ⟨E, hE⟩ : ∃ E, E = impE S b lo hi := ⟨_, rfl⟩
  obtain ⟨SS, hSS⟩ : ∃ SS, SS = impS S b lo hi := ⟨_, rfl⟩
  rw [← hE, ← hSS]
  have HE := Lib.hid hE
  have HSS := Lib.hid hSS
  clear hE hSS hr
  rcases hs : spanB lo hi
  · have h1 : impE S b lo hi = 1 := by rw [impE, hs]; rfl
    have H1 : Hid (E = 1) := Lib.hid (by rw [HE.out, h1])
    have H2 : Hid (SS = S) := Lib.hid (by rw [HSS.out, impS_bad h1 (by omega)])
    rw [hs] at hsp
    clear hs hrh h1
    generalize b.length = bl at *
    go_enter Tryz.func14, Tryz.ntmps14
    go_wp2_with (first | (go_at_call 55; go_must (refine hsp.mono ?_); rintro e w' ⟨rfl, rfl⟩))
    go_ret
    exact ⟨by rw [H1.out]; rfl, by rw [H2.out]; exact hk, only_refl _ _⟩
  · rw [hs] at hsp
    rcases hrb : readHelds b with _ | l
    · have h1 : impE S b lo hi = 9 := by rw [impE, hs, hrb]; rfl
      have H1 : Hid (E = 9) := Lib.hid (by rw [HE.out, h1])
      have H2 : Hid (SS = S) := Lib.hid (by rw [HSS.out, impS_bad h1 (by omega)])
      rw [rhE_none hrb, hrb, show errV 9 = .iface 86 (.int .i64 9) from rfl] at hrh
      clear hs hrb h1
      generalize b.length = bl at *
      go_enter Tryz.func14, Tryz.ntmps14
      go_wp2_with (first
        | (go_at_call 55; go_must (refine hsp.mono ?_); rintro e w' ⟨rfl, rfl⟩)
        | (go_at_call 41; go_must (refine hrh.mono ?_); rintro e w2 ⟨v2, rfl, _, hb2⟩))
      go_ret
      exact ⟨by rw [H1.out]; rfl, by rw [H2.out]; exact hk.up hb2, up_grown hb2 _⟩
    · obtain ⟨hrise, hfine, hlen⟩ := readHelds_fine hrb
      rw [rhE_some hrb, hrb, Option.getD_some, errV_zero] at hrh
      have HX : Hid (impE S b lo hi = if 400 < S.length + moreH S lo hi l then 4 else 0) := Lib.hid (by rw [impE, hs, hrb]; rfl)
      have HY : Hid (impE S b lo hi = 0 → SS = putAll S lo hi l) := Lib.hid (fun e => by rw [HSS.out, impS, if_pos e, hrb]; rfl)
      have HFI := Lib.hid hfine
      clear hs hrb hrise hfine
      generalize b.length = bl at *
      obtain ⟨n, hn⟩ : ∃ n, n = l.length := ⟨_, rfl⟩
      have Hn := Lib.hid hn
      rw [← hn] at hlen hrh
      clear hn
      go_enter Tryz.func14, Tryz.ntmps14
      go_wp2_with (first
        | (go_at_call 55; go_must (refine hsp.mono ?_); rintro e w' ⟨rfl, rfl⟩)
        | (go_at_call 41; go_must (refine hrh.mono ?_); rintro e w2 ⟨v2, rfl, ho2, hb2⟩; obtain ⟨A2, c2, rfl, h1, h2, _, r2⟩ := own_form ho2))
      have hk2 := hk.up hb2
      have hg02 := up_grown hb2 (some M)
      clear ho2 hb2 hrh hsp hk
      go_loopw [11, 33] (fun m x wr => ∃ i : Nat, i ≤ n ∧ x = .int .i64 i ∧ m = .int .i64 (moreH S lo hi (l.take i)) ∧ Below w2.heap.size w2 wr) (fun _ x _ => n - (intOf x).toNat)
      case atStart => exact ⟨0, Nat.zero_le _, rfl, rfl, Below.refl _ _⟩
      obtain ⟨i, hile, rfl, rfl, hbel⟩ := hrel
      have hmo : moreH S lo hi (l.take i) ≤ i := Nat.le_trans (moreH_le _ _ _ _) (List.length_take_le _ _)
      by_cases hlt : i < n
      · obtain ⟨ad, x, rfl, hbk, hx, g0, g1, g2, g3⟩ := r2.hld_ hlt Hn.out.symm hbel (Nat.le_refl _)
        have HMN := Lib.hid (moreH_next (S := S) (lo := lo) (hi := hi) hx)
        obtain ⟨hxo, hxk⟩ := HFI.out x (List.mem_of_getElem? hx)
        have hi0 : (0 : Int) ≤ (i : Int) := by omega
        have hi1 : (i : Int) < (n : Int) := by omega
        clear hx
        generalize moreH S lo hi (l.take i) = m at *
        have hbx := Blk.new wr 29 #[.int .i64 x.node, .string x.key, .int .i64 x.a, .int .i64 x.b]
        have hbel1 := hbel.alloc hbel.size (.cells #[.int .i64 x.node, .string x.key, .int .i64 x.a, .int .i64 x.b] 29)
        have hk1 := hk2.up hbel1
        go_upto_region 10 with fail
        obtain ⟨gx, hgx⟩ : ∃ gx, gx = wr.heap.size := ⟨_, rfl⟩
        rw [← hgx] at hbx
        rw [← hgx]
        clear hgx g0 g1 g2 g3
        generalize wr.alloc (.cells #[.int .i64 x.node, .string x.key, .int .i64 x.a, .int .i64 x.b] 29) = w3 at *
        obtain ⟨D, hown, hD⟩ := hk1.own
        have hhas := mapL_has hD (fun x hx => (hk1.fine x hx).2) (hld_ok_key hxk).1 (hld_ok_key hxk).2
        have hkey := keyOf_at (hld_ok_key hxk).1 (hld_ok_key hxk).2
        have c0 := hk1.blk.cell 0
        have x0 := hbx.cell 0
        have x1 := hbx.cell 1
        simp at c0 x0 x1
        have hlg := hk1.ltg
        have hlx := hbx.lt
        obtain ⟨y, hy, hrun⟩ := runs_lookup_hld w3 kat Tryz.underlying93 zhld hown hkey
        have hr1 := hrun w3.drew rfl
        have hr2 := fun o => hrun (w3.alloc o).drew (Below.heap_alloc w3 o M hown.lt)
        rw [hhas] at hr1 hr2
        obtain ⟨bh, hbh⟩ : ∃ bh, bh = hasH x.node x.key S := ⟨_, rfl⟩
        rw [← hbh] at hr1 hr2
        have HBH := Lib.hid hbh
        clear hrun hhas hy hbh
        go_region
        have hbel4 := below_drewN (hbel1.alloc hbel1.size (.cells #[.int .i64 y.node, .string y.key, .int .i64 y.a, .int .i64 y.b] 29)) 1
        have hbx4 := (hbx.alloc (.cells #[.int .i64 y.node, .string y.key, .int .i64 y.a, .int .i64 y.b] 29)).drew
        rw [show (w3.alloc (.cells #[.int .i64 y.node, .string y.key, .int .i64 y.a, .int .i64 y.b] 29)).drewN 1 = (w3.alloc (.cells #[.int .i64 y.node, .string y.key, .int .i64 y.a, .int .i64 y.b] 29)).drew from rfl] at hbel4
        generalize (w3.alloc (.cells #[.int .i64 y.node, .string y.key, .int .i64 y.a, .int .i64 y.b] 29)).drew = w4 at *
        clear hr1 hr2 c0 x0 x1 hlg hlx hbx hk1 hown hD hbel1 hkey
        have x0 := hbx4.cell 0
        have x1 := hbx4.cell 1
        have x2 := hbx4.cell 2
        have x3 := hbx4.cell 3
        simp at x0 x1 x2 x3
        rcases bh
        · have hin := kin_any x lo hi w4 (by have := hldOk_key hxo; omega)
          rcases hb : inG lo hi x
          · rw [hb] at hin
            have HM2 : Hid (moreH S lo hi (l.take (i + 1)) = m) := Lib.hid (by rw [HMN.out, ← HBH.out, hb]; simp)
            clear hb
            go_wp2_with (first
              | (go_at_call 56; go_must (refine hin.mono ?_); rintro e w5 ⟨rfl, hb5⟩))
            refine ⟨⟨i + 1, hlt, by go_num, by rw [HM2.out], below_up hbel4 hb5⟩, by simp [intOf]; omega⟩
          · rw [hb] at hin
            have HM2 : Hid (moreH S lo hi (l.take (i + 1)) = m + 1) := Lib.hid (by rw [HMN.out, ← HBH.out, hb]; simp)
            clear hb
            go_wp2_with (first
              | (go_at_call 56; go_must (refine hin.mono ?_); rintro e w5 ⟨rfl, hb5⟩))
            refine ⟨⟨i + 1, hlt, by go_num, by rw [HM2.out]; go_num, below_up hbel4 hb5⟩, by simp [intOf]; omega⟩
        · have HM2 : Hid (moreH S lo hi (l.take (i + 1)) = m) := Lib.hid (by rw [HMN.out, ← HBH.out]; simp)
          go_wp2_with fail
          refine ⟨⟨i + 1, hlt, by go_num, by rw [HM2.out], hbel4⟩, by simp [intOf]; omega⟩
      · obtain rfl : i = n := by omega
        have htk : l.take i = l := List.take_of_length_le (by have := Hn.out; omega)
        rw [htk] at hmo
        obtain ⟨m, hm⟩ : ∃ m, m = moreH S lo hi l := ⟨_, rfl⟩
        have HM : Hid (moreH S lo hi (l.take i) = m) := Lib.hid (by rw [htk, hm])
        rw [HM.out]
        rw [← hm] at hmo HX
        have hkr := hk2.up hbel
        have r3 := r2.below hbel (Nat.le_refl _)
        have hg0r := only_trans hg02 (up_grown hbel (some M))
        clear hm htk hbel hk2 r2 hg02
        obtain ⟨D, hown, hD⟩ := hkr.own
        have hszd := Lib.hid hD.size
        have c0 := hkr.blk.cell 0
        simp at c0
        by_cases hfull : 400 < S.length + m
        · have H0 : Hid (impE S b lo hi = 4) := Lib.hid (by rw [HX.out, if_pos hfull])
          have H1 : Hid (E = 4) := Lib.hid (by rw [HE.out, H0.out])
          have H2 : Hid (SS = S) := Lib.hid (by rw [HSS.out, impS_bad H0.out (by omega)])
          have hf2 : (400 : Int) < (S.length : Int) + (m : Int) := by omega
          go_wp2_with (first
            | (with_reducible show wpList _ _ _ (⟨some 65, _, _, _, _, _⟩ :: _) _ _; go_must (refine wpList_len_own _ rfl _ 93 rfl 97 29 Tryz.underlying93 hldR M S.length D rfl hown ?_); rw [hszd.out]))
          go_ret
          exact ⟨by rw [H1.out]; rfl, by rw [H2.out]; exact hkr, hg0r⟩
        · have H0 : Hid (impE S b lo hi = 0) := Lib.hid (by rw [HX.out, if_neg hfull])
          have H1 : Hid (E = 0) := Lib.hid (by rw [HE.out, H0.out])
          have H2 : Hid (SS = putAll S lo hi l) := Lib.hid (HY.out H0.out)
          have hf2 : ¬ (400 : Int) < (S.length : Int) + (m : Int) := by omega
          rename World => wo
          go_wp2_with (first
            | (with_reducible show wpList _ _ _ (⟨some 65, _, _, _, _, _⟩ :: _) _ _; go_must (refine wpList_len_own _ rfl _ 93 rfl 97 29 Tryz.underlying93 hldR M S.length D rfl hown ?_); rw [hszd.out]))
          go_loopw [72] (fun x wr => ∃ i' : Nat, i' ≤ i ∧ x = .int .i64 i' ∧ KIn wr g M (putAll S lo hi (l.take i')) ∧ wo.grownBy wr (some M)) (fun x _ => i - (intOf x).toNat)
          case atStart => exact ⟨0, Nat.zero_le _, rfl, hkr, only_refl _ _⟩
          clear hown hD c0 hszd
          obtain ⟨j, hjle, rfl, hkj, hgj⟩ := hrel
          by_cases hlt2 : j < i
          · obtain ⟨D, hown, hD⟩ := hkj.own
            have r4 := r3.map_ hkr.own.choose_spec.1 hgj
            obtain ⟨ad, x, rfl, hbk, hx, g0, g1, g2, g3⟩ := r4.hld_ hlt2 Hn.out.symm (Below.refl w2.heap.size wr) (Nat.le_refl _)
            have HPN := Lib.hid (putAll_next (S := S) (lo := lo) (hi := hi) hx)
            obtain ⟨hxo, hxk⟩ := HFI.out x (List.mem_of_getElem? hx)
            have hkey := keyOf_at (hld_ok_key hxk).1 (hld_ok_key hxk).2
            have hi0 : (0 : Int) ≤ (j : Int) := by omega
            have hi1 : (j : Int) < (i : Int) := by omega
            have hPl : (putAll S lo hi (l.take j)).length ≤ 2000000 := Nat.le_trans (putAll_len _ _) (by rw [List.length_take]; omega)
            clear hx r4
            generalize putAll S lo hi (l.take j) = T at *
            have hbx := Blk.new wr 29 #[.int .i64 x.node, .string x.key, .int .i64 x.a, .int .i64 x.b]
            have hgn := World.grownBy_alloc wr (.cells #[.int .i64 x.node, .string x.key, .int .i64 x.a, .int .i64 x.b] 29) none
            have hin := kin_any x lo hi (wr.alloc (.cells #[.int .i64 x.node, .string x.key, .int .i64 x.a, .int .i64 x.b] 29)) (by have := hldOk_key hxo; omega)
            rcases hb : inG lo hi x
            · rw [hb] at hin
              have HP2 : Hid (putAll S lo hi (l.take (j + 1)) = T) := Lib.hid (by rw [HPN.out, hb]; rfl)
              clear hb
              go_wp2_with (first
                | (go_at_call 56; go_must (refine hin.mono ?_); rintro e w5 ⟨rfl, hb5⟩))
              have hgx := only_trans (hgn.but (some M)) (up_grown hb5 (some M))
              have hb6 : Below wr.heap.size wr w5 := ((Below.refl wr.heap.size wr).alloc (Nat.le_refl _) _).trans (hb5.mono (by simp))
              refine ⟨⟨j + 1, hlt2, by go_num, by rw [HP2.out]; exact hkj.up hb6, only_trans hgj hgx⟩, by simp [intOf]; omega⟩
            · rw [hb] at hin
              have HP2 : Hid (putAll S lo hi (l.take (j + 1)) = hldPut x T) := Lib.hid (by rw [HPN.out, hb]; rfl)
              clear hb
              go_upto_region 20 with (first
                | (go_at_call 56; go_must (refine hin.mono ?_); rintro e w5 ⟨rfl, hb5⟩))
              have hgx := only_trans (hgn.but (some M)) (up_grown hb5 (some M))
              have hb6 : Below wr.heap.size wr w5 := ((Below.refl wr.heap.size wr).alloc (Nat.le_refl _) _).trans (hb5.mono (by simp))
              have hk5 := hkj.up hb6
              have hbx5 := hbx.up hb5
              obtain ⟨gx, hgxx⟩ : ∃ gx, gx = wr.heap.size := ⟨_, rfl⟩
              rw [← hgxx] at hbx5 ⊢
              clear hgxx hbx hb6 hb5 g0 g1 g2 g3 hin
              obtain ⟨D5, hown5, hD5⟩ := hk5.own
              have c0 := hk5.blk.cell 0
              have x0 := hbx5.cell 0
              have x1 := hbx5.cell 1
              have x2 := hbx5.cell 2
              have x3 := hbx5.cell 3
              simp at c0 x0 x1 x2 x3
              go_still_tail 10, (by kernel_rfl)
              change wpList _ _ _ _ _ w5.drew
              go_wp2_with (first
                | (at_mapUpdate; go_must (refine wpList_mapUpdate_own _ rfl _ _ _ 93 rfl 97 29 kat Tryz.underlying93 hldR M T.length D5 rfl hown5.drew (by unfold maxLen; omega) _ _ (klA x.node x.key) rfl rfl hkey (hldD x) [] rfl ?_); intro w9 hown9 hgr9))
              refine ⟨⟨j + 1, hlt2, by go_num, by rw [HP2.out]; exact hk5.put hD5 hxo hxk hown9 (grown_undrew hgr9), only_trans hgj (only_trans hgx (grown_undrew hgr9))⟩, by simp [intOf]; omega⟩
          · obtain rfl : j = i := by omega
            have htk : l.take j = l := List.take_of_length_le (by have := Hn.out; omega)
            rw [htk] at hkj
            go_wp2_with fail
            go_ret
            exact ⟨by rw [H1.out]; rfl, by rw [H2.out]; exact hkj, only_trans hg0r hgj⟩
end Go.Proofs.YtcfijljagohmlaaGreatDoor

/- The walk of keyed.Whole. -/
namespace Go.Proofs.YtcfijljagohmlaaGreatDoor
open Go.RowKit Go.Maps Go.WideMaps Go.Sort

def readsH (bs : List (List UInt8)) : List Hld := (bs.map fun b => (readHelds b).getD []).flatten
/-- What Whole gives: the fault, the bytes. -/
def whE (bs : List (List UInt8)) : Nat := if bs.all (fun b => (readHelds b).isSome) = true then (if dupB (readsH bs) = true then 8 else heldsE (sortH (readsH bs))) else 9
def whB (bs : List (List UInt8)) : List UInt8 := if whE bs = 0 then heldsB (sortH (readsH bs)) else []
theorem whB_bad {bs : List (List UInt8)} {e : Nat} (h : whE bs = e) (h0 : e ≠ 0) : whB bs = [] := by rw [whB, if_neg (by omega)]
theorem readsH_next {bs : List (List UInt8)} {i : Nat} {b : List UInt8} {l : List Hld} (h : bs[i]? = some b) (hl : readHelds b = some l) : readsH (bs.take (i + 1)) = readsH (bs.take i) ++ l := by
  unfold readsH
  rw [List.take_add_one, h, List.map_append, List.flatten_append]
  simp [hl]
theorem hldCells_app (a b : List Hld) : hldCells (a ++ b) = hldCells a ++ hldCells b := by simp [hldCells]
theorem hldCells_one (l : List Hld) : ∀ u ∈ hldCells l, u.oneCell' = true := by
  intro u hu
  obtain ⟨x, _, hx⟩ := List.mem_flatMap.1 hu
  exact hldK1 x u hx
set_option maxRecDepth 100000 in
set_option maxHeartbeats 4000000 in
theorem kwhole_any (A : Option Addr) (c B n : Nat) (bs : List (List UInt8)) (w : World) (hr : RdBB w B A bs) (hln : bs.length = n) (hB : B ≤ w.heap.size) (hn : n ≤ 100000) (hb : ∀ b ∈ bs, b.length ≤ 140737488355328) :
    Calls Tryz.prog 8 #[.slice A n c] w fun e w' => ∃ v, e = .returned (.tuple #[v, errV (whE bs)]) ∧ w'.ownsRow w.heap.size 5 1 v (whB bs).length ((whB bs).map bv) ∧ Below w.heap.size w w' := by
  have HLN := Lib.hid hln
  have HBL := Lib.hid hb
  obtain ⟨TE, hTE⟩ : ∃ x, x = whE bs := ⟨_, rfl⟩
  obtain ⟨TB, hTB⟩ : ∃ x, x = whB bs := ⟨_, rfl⟩
  have HTE := Lib.hid hTE
  have HTB := Lib.hid hTB
  rw [← hTE, ← hTB]
  clear hln hb hTE hTB
  go_enter Tryz.func8, Tryz.ntmps8
  go_wp2_with fail
  go_loopw [4, 12] (fun o x wr => ∃ (i : Nat) (L : List Hld), i ≤ n ∧ x = .int .i64 i ∧ wr.ownsRow w.heap.size 29 4 o L.length (hldCells L) ∧ L.length ≤ 400 * i ∧ Hid (L = readsH (bs.take i)) ∧ Hid (∀ x ∈ L, hldOk x = true ∧ x.Ok) ∧ Hid (∀ (j : Nat) (b : List UInt8), j < i → bs[j]? = some b → (readHelds b).isSome = true) ∧ Below w.heap.size w wr) (fun _ x _ => n - (intOf x).toNat)
  case atStart => exact ⟨0, [], Nat.zero_le _, rfl, World.ownsRow_nil _ _ _ _, Nat.zero_le _, Lib.hid rfl, Lib.hid (fun _ h => by cases h), Lib.hid (fun j _ hj => absurd hj (by omega)), Below.refl _ _⟩
  obtain ⟨i, L, hi, rfl, hro, hLl, HL, HF, HS, hbel⟩ := hrel
  have hws := hbel.size
  by_cases hlq : i < n
  · obtain ⟨ad, rfl, hab, hcell⟩ := hr (by rw [HLN.out]; omega)
    obtain ⟨b, hbi⟩ : ∃ b, bs[i]? = some b := ⟨_, List.getElem?_eq_getElem (by rw [HLN.out]; exact hlq)⟩
    obtain ⟨A1, c1, g0w, hlc, hcm, hrd⟩ := hcell i b hbi
    have hbw : (ad.add i).block < w.heap.size := by rw [block_add]; omega
    have g0 := (hbel.cell hbw).trans g0w
    have HBI := Lib.hid hbi
    have hrt := Lib.hid (readhelds_any A1 c1 B b wr (hrd.below hbel hB) (Nat.le_trans hB hws) (HBL.out b (List.mem_of_getElem? hbi)) hlc)
    obtain ⟨m, hm⟩ : ∃ m, m = b.length := ⟨_, rfl⟩
    rw [← hm] at g0 hlc hrd hrt
    clear hbi hcell g0w hm hrd
    have hi0 : (0 : Int) ≤ (i : Int) := by omega
    have hi1 : (i : Int) < (n : Int) := by omega
    rcases hrb : readHelds b with _ | l
    · have hrt2 := hrt.out
      rw [rhE_none hrb, hrb, show errV 9 = .iface 86 (.int .i64 9) from rfl] at hrt2
      have HX : Hid (bs.all (fun b => (readHelds b).isSome) = false) := Lib.hid (by
        rw [List.all_eq_false]
        exact ⟨b, List.mem_of_getElem? HBI.out, by rw [hrb]; simp⟩)
      have h9 : whE bs = 9 := by rw [whE, HX.out]; rfl
      have HT1 : Hid (TE = 9) := Lib.hid (by rw [HTE.out, h9])
      have HT2 : Hid (TB = []) := Lib.hid (by rw [HTB.out, whB_bad h9 (by omega)])
      clear hrb h9
      go_wp2_with (first
        | (go_at_call 41; go_must (refine hrt2.mono ?_); rintro e w2 ⟨v2, rfl, _, hb2⟩))
      go_ret2
      exact ⟨.slice none 0 0, by rw [HT1.out]; rfl, by rw [HT2.out]; exact World.ownsRow_nil _ _ _ _, hbel.trans (hb2.mono hws)⟩
    · have hrt2 := hrt.out
      rw [rhE_some hrb, hrb, Option.getD_some, errV_zero] at hrt2
      obtain ⟨_, hfl, hll⟩ := readHelds_fine hrb
      have HRD := Lib.hid (readsH_next HBI.out hrb)
      have HS2 : Hid (∀ (j : Nat) (b : List UInt8), j < i + 1 → bs[j]? = some b → (readHelds b).isSome = true) := Lib.hid fun j b' hj hb' => by
        by_cases hji : j < i
        · exact HS.out j b' hji hb'
        · obtain rfl : j = i := by omega
          rw [HBI.out] at hb'
          injection hb' with hb'
          rw [← hb', hrb]; rfl
      have HF2 : Hid (∀ x ∈ L ++ l, hldOk x = true ∧ x.Ok) := Lib.hid fun x hx => by
        rcases List.mem_append.1 hx with hx | hx
        · exact HF.out x hx
        · exact hfl x hx
      have hby : (L.length + l.length) * 40 ≤ 140737488355328 := by omega
      clear hrb hfl
      go_wp2_with (first
        | (go_at_call 41; go_must (refine hrt2.mono ?_); rintro e w2 ⟨v2, rfl, ho2, hb2⟩; obtain ⟨A2, c2, rfl, k1, k2, _, k3⟩ := own_form ho2; have hro2 := own_up hro hb2; have hbel2 := hbel.trans (hb2.mono hws); have hs2 := hbel2.size)
        | (with_reducible show wpList _ _ _ (⟨some 26, _, _, _, _, _⟩ :: _) _ _; go_must (refine wpList_rd (.tmp 24) (.tmp 25) el_held rfl rfl hro2 rfl k3 rfl (hldCells_one l) hby hs2 ?_); intro v4 w4 hown4 hb4 hg4 ha4))
      have hbel4 := hbel2.trans hb4
      clear ho2 k3 hro2 hrt2
      go_roundw
      case rel => exact ⟨i + 1, L ++ l, by omega, by go_num, by rw [List.length_append, hldCells_app]; exact hown4, by rw [List.length_append]; omega, Lib.hid (by rw [HRD.out, HL.out]), HF2, HS2, hbel4⟩
      case measure => simp [intOf]; omega
  · obtain rfl : i = n := by omega
    have htk : bs.take i = bs := List.take_of_length_le (by rw [HLN.out]; exact Nat.le_refl _)
    have hall : bs.all (fun b => (readHelds b).isSome) = true := by
      rw [List.all_eq_true]
      intro b hb
      obtain ⟨j, hj⟩ := List.mem_iff_getElem?.1 hb
      exact HS.out j b (by have := (List.getElem?_eq_some_iff.1 hj).1; rw [HLN.out] at this; exact this) hj
    have hL := HL.out
    rw [htk] at hL
    have HW : Hid (whE bs = if dupB L = true then 8 else heldsE (sortH L)) := Lib.hid (by rw [whE, hall, if_pos rfl, hL])
    have HV : Hid (whE bs = 0 → TB = heldsB (sortH L)) := Lib.hid (fun e => by rw [HTB.out, whB, if_pos e, hL])
    clear htk hall hL
    obtain ⟨A5, c5, rfl, hnc, hcm, hsort⟩ := hld_sort hro rfl (by omega) hws
    have hlt2 : ¬ i < i := by omega
    clear hro
    have HSO := Lib.hid hsort
    clear hsort
    go_wp2_with (first
      | (go_at_call 42; go_must (refine HSO.out.mono ?_); rintro e w5 ⟨rfl, s, hsp, hsu, hrd5, hb5⟩))
    have HSP := Lib.hid hsp
    have HSU : Hid (s.Pairwise fun a b => hlt b a = false) := Lib.hid (List.Pairwise.imp (fun {a b} (h : ltOf cmpH b a = false) => h) hsu)
    have HSL := Lib.hid hsp.length_eq
    have hbel5 := hbel.trans (hb5.mono (by omega))
    obtain ⟨N, hN⟩ : ∃ N, N = L.length := ⟨_, rfl⟩
    have HN : Hid (s.length = N) := Lib.hid (by rw [HSL.out, hN])
    rw [← hN] at hrd5 hLl ⊢
    clear hsp hsu hb5 hN hbel
    go_loopw [32] (fun x wr => ∃ k : Nat, k ≤ N ∧ x = .int .i64 k ∧ Hid (∀ (j : Nat) (x y : Hld), j + 1 < k → s[j]? = some x → s[j + 1]? = some y → ¬ sameH x y) ∧ Below w5.heap.size w5 wr) (fun x _ => N - (intOf x).toNat)
    case atStart => exact ⟨0, Nat.zero_le _, rfl, Lib.hid (fun j _ _ h => absurd h (by omega)), Below.refl _ _⟩
    obtain ⟨k, hk, rfl, HD, hbel⟩ := hrel
    have hbs := hbel.size
    by_cases hkl : k < N
    · obtain ⟨ad, r, rfl, hbk, hx, g0, g1, g2, g3⟩ := hrd5.hld_ hkl HN.out hbel (Nat.le_refl _)
      have Hx := Lib.hid hx
      clear hx
      rcases k with _ | j
      · simp only [Nat.zero_mul, Addr.add, if_true] at g0 g1 g2 g3
        have HD2 : Hid (∀ (j : Nat) (x y : Hld), j + 1 < 0 + 1 → s[j]? = some x → s[j + 1]? = some y → ¬ sameH x y) := Lib.hid (fun j _ _ h => absurd h (by omega))
        go_upto_region 14 with fail
        go_quiet (fail)
        go_wp2_with fail
        refine ⟨⟨1, hkl, by go_num, HD2, below_drewN hbel _⟩, by simp [intOf]; omega⟩
      · obtain ⟨ad', q, hq', hbq, hxq, p0, p1, p2, p3⟩ := hrd5.hld_ (k := j) (by omega) HN.out hbel (Nat.le_refl _)
        injection hq' with hq'
        subst hq'
        have Hxq := Lib.hid hxq
        clear hxq
        have hi0 : (0 : Int) ≤ (j : Int) := by omega
        have hi1 : (j : Int) < (N : Int) := by omega
        have hi2 : IntKind.i64.wrap ((j : Int) + 1 - 1) = (j : Int) := by rw [IntWalk.i64_in _ (by omega)]; omega
        have hi3 : IntKind.i64.wrap (j : Int) = (j : Int) := IntWalk.i64_in _ (by omega)
        have hi4 : (j : Int) + 1 < (N : Int) := by omega
        have hi5 : (0 : Int) ≤ (j : Int) + 1 := by omega
        have hi6 : IntKind.i64.wrap ((j : Int) + 1) = (j : Int) + 1 := IntWalk.i64_in _ (by omega)
        have hi7 : ((j : Int) + 1).toNat = j + 1 := by omega
        by_cases hcmp : cmpH q r = 0
        · have tc : (cmpH q r == 0) = true := by simpa using hcmp
          have hd : dupB s = true := dup_at Hxq.out Hx.out (cmpH_zero.1 hcmp)
          have H8 : Hid (whE bs = 8) := Lib.hid (by rw [HW.out, ← dup_perm HSP.out, hd]; rfl)
          have HT1 : Hid (TE = 8) := Lib.hid (by rw [HTE.out, H8.out])
          have HT2 : Hid (TB = []) := Lib.hid (by rw [HTB.out, whB_bad H8.out (by omega)])
          clear hcmp hd
          go_upto_region 14 with fail
          go_region_held3 (fun w' => (w'.cell? (ad.add (j * 4)) = some (.int .i64 q.node) ∧ w'.cell? ⟨(ad.add (j * 4)).block, (ad.add (j * 4)).off + 1, none⟩ = some (.string q.key) ∧ w'.cell? ⟨(ad.add (j * 4)).block, (ad.add (j * 4)).off + 2, none⟩ = some (.int .i64 q.a) ∧ w'.cell? ⟨(ad.add (j * 4)).block, (ad.add (j * 4)).off + 3, none⟩ = some (.int .i64 q.b)) ∧ w'.cell? (ad.add ((j + 1) * 4)) = some (.int .i64 r.node) ∧ w'.cell? ⟨(ad.add ((j + 1) * 4)).block, (ad.add ((j + 1) * 4)).off + 1, none⟩ = some (.string r.key) ∧ w'.cell? ⟨(ad.add ((j + 1) * 4)).block, (ad.add ((j + 1) * 4)).off + 2, none⟩ = some (.int .i64 r.a) ∧ w'.cell? ⟨(ad.add ((j + 1) * 4)).block, (ad.add ((j + 1) * 4)).off + 3, none⟩ = some (.int .i64 r.b)) (first | exact ⟨pc, gc⟩ | exact ⟨⟨p0, p1, p2, p3⟩, g0, g1, g2, g3⟩)
            ((first
              | (go_at_call 43; go_must (refine (compare_any q r _).mono ?_); rintro e w2 ⟨rfl, hb3⟩; have hbel2 := below_up hbel.drew hb3; have pc := keep4 hb3 (Nat.lt_of_lt_of_le hbq hbs) p0 p1 p2 p3; have gc := keep4 hb3 (Nat.lt_of_lt_of_le hbk hbs) g0 g1 g2 g3)))
          go_wp2_with fail
          go_ret2
          exact ⟨.slice none 0 0, by rw [HT1.out]; rfl, by rw [HT2.out]; exact World.ownsRow_nil _ _ _ _, hbel5.trans (hbel2.mono hbel5.size)⟩
        · have tc : (cmpH q r == 0) = false := by simpa using hcmp
          have HD2 : Hid (∀ (i : Nat) (x y : Hld), i + 1 < j + 1 + 1 → s[i]? = some x → s[i + 1]? = some y → ¬ sameH x y) := Lib.hid fun i x y hi h1 h2 => by
            by_cases hij : i = j
            · subst hij
              rw [Hxq.out] at h1
              rw [Hx.out] at h2
              injection h1 with h1
              injection h2 with h2
              rw [← h1, ← h2]
              exact fun e => hcmp (cmpH_zero.2 e)
            · exact HD.out i x y (by omega) h1 h2
          clear hcmp
          go_upto_region 14 with fail
          go_region_held3 (fun w' => (w'.cell? (ad.add (j * 4)) = some (.int .i64 q.node) ∧ w'.cell? ⟨(ad.add (j * 4)).block, (ad.add (j * 4)).off + 1, none⟩ = some (.string q.key) ∧ w'.cell? ⟨(ad.add (j * 4)).block, (ad.add (j * 4)).off + 2, none⟩ = some (.int .i64 q.a) ∧ w'.cell? ⟨(ad.add (j * 4)).block, (ad.add (j * 4)).off + 3, none⟩ = some (.int .i64 q.b)) ∧ w'.cell? (ad.add ((j + 1) * 4)) = some (.int .i64 r.node) ∧ w'.cell? ⟨(ad.add ((j + 1) * 4)).block, (ad.add ((j + 1) * 4)).off + 1, none⟩ = some (.string r.key) ∧ w'.cell? ⟨(ad.add ((j + 1) * 4)).block, (ad.add ((j + 1) * 4)).off + 2, none⟩ = some (.int .i64 r.a) ∧ w'.cell? ⟨(ad.add ((j + 1) * 4)).block, (ad.add ((j + 1) * 4)).off + 3, none⟩ = some (.int .i64 r.b)) (first | exact ⟨pc, gc⟩ | exact ⟨⟨p0, p1, p2, p3⟩, g0, g1, g2, g3⟩)
            ((first
              | (go_at_call 43; go_must (refine (compare_any q r _).mono ?_); rintro e w2 ⟨rfl, hb3⟩; have hbel2 := below_up hbel.drew hb3; have pc := keep4 hb3 (Nat.lt_of_lt_of_le hbq hbs) p0 p1 p2 p3; have gc := keep4 hb3 (Nat.lt_of_lt_of_le hbk hbs) g0 g1 g2 g3)))
          go_wp2_with fail
          refine ⟨⟨j + 1 + 1, hkl, by go_num, HD2, hbel2⟩, by simp [intOf]; omega⟩
    · obtain rfl : k = N := by omega
      have hrise : riseH s := sorted_rise HSU.out fun i x y h1 h2 => HD.out i x y (by have := (List.getElem?_eq_some_iff.1 h2).1; rw [HN.out] at this; exact this) h1 h2
      have hnd : dupB L = false := by rw [← dup_perm HSP.out]; exact riseH_nodup' hrise
      have hss : sortH L = s := sortH_of HSP.out.symm hrise
      have HW2 : Hid (whE bs = heldsE s) := Lib.hid (by rw [HW.out, hnd, hss]; rfl)
      have HT1 : Hid (TE = heldsE s) := Lib.hid (by rw [HTE.out, HW2.out])
      have HT2 : Hid (TB = heldsB s) := Lib.hid (by
        by_cases h0 : heldsE s = 0
        · rw [HV.out (by rw [HW2.out, h0]), hss]
        · rw [HTB.out, whB_bad HW2.out h0, hldE_bad rfl h0])
      have hh := helds_any A5 c5 w5.heap.size s wr (by rw [HN.out]; exact hrd5.below hbel (Nat.le_refl _)) hbs (fun x hx => (HF.out x (HSP.out.mem_iff.1 hx)).2) (by rw [HN.out]; omega)
      rw [HN.out] at hh
      clear hrise hnd hss hrd5
      go_wp2_with (first
        | (go_at_call 44; go_must (refine hh.mono ?_); rintro e w7 ⟨v7, rfl, ho7, hb7⟩))
      go_ret2
      have hb57 := below_up hbel hb7
      exact ⟨v7, by rw [HT1.out]; rfl, by rw [HT2.out]; exact own_base ho7 (Nat.le_trans hbel5.size hbs), hbel5.trans (hb57.mono hbel5.size)⟩
end Go.Proofs.YtcfijljagohmlaaGreatDoor

/- The walk of keyed.Get. -/
namespace Go.Proofs.YtcfijljagohmlaaGreatDoor
open Go.RowKit Go.Maps Go.WideMaps Go.Sort

theorem results_cell_k {P : Program} {fn : Func} {p u : Tmp} {ty : TypeId} (h : fn.results = #[.cell p ty, .tmp u]) (tmps : Array Value) (w : World) (g : Nat) (t : TypeId) (cs : Array Value) (fr : Nat × Nat) (d : TypeDesc)
    (hp : tmps.getD p undef = .pointer (some ⟨g, 0, none⟩)) (hg : w.heap[g]? = some (.cells cs t fr))
    (hu : P.underlying ty = some d) (hd : (match d with | .struct _ | .array _ _ => true | _ => false) = true) (hi : (P.info? ty).map (·.size) = some cs.size) :
    (results fn tmps).run P w = .ok (.tuple #[.agg cs, tmps.getD u undef]) w := by
  have hp' : tmps[p]?.getD undef = .pointer (some ⟨g, 0, none⟩) := by simpa using hp
  simp [results, h, hp', asAddr, run_loadVar_row w g t ty cs fr d hg hu hd hi]
theorem blk_set4 {w : World} {g : Nat} {t : TypeId} {x y z u a b c d : Value} (h : Blk w g t #[x, y, z, u]) : Blk ((((w.setCell ⟨g, 0, none⟩ a).setCell ⟨g, 1, none⟩ b).setCell ⟨g, 2, none⟩ c).setCell ⟨g, 3, none⟩ d) g t #[a, b, c, d] := by
  have := (((h.set_ 0 a).set_ 1 b).set_ 2 c).set_ 3 d
  simpa using this
/-- What stands at a node and key. -/
def getH (n : Int) (k : ByteArray) (S : List Hld) : Hld := (S.find? fun x => decide (x.node = n ∧ x.key = k)).getD hld0
def getHE (n : Int) (k : ByteArray) (S : List Hld) : Nat := if hasH n k S = true then 0 else 6
theorem getH_none {n : Int} {k : ByteArray} {S : List Hld} (h : hasH n k S = false) : getH n k S = hld0 := by
  have : (S.find? fun x => decide (x.node = n ∧ x.key = k)) = none := by
    rw [List.find?_eq_none]
    intro x hx
    have := hasH_no h x hx
    simpa using this
  rw [getH, this]; rfl
theorem getH_some {n : Int} {k : ByteArray} {S : List Hld} (h : hasH n k S = true) : getH n k S ∈ S ∧ (getH n k S).node = n ∧ (getH n k S).key = k := by
  obtain ⟨x, hx, e⟩ := hasH_iff.1 h
  rcases hf : (S.find? fun x => decide (x.node = n ∧ x.key = k)) with _ | y
  · rw [List.find?_eq_none] at hf
    exact absurd (by simpa using e) (hf x hx)
  · rw [getH, hf]
    have h1 := List.find?_some hf
    have h2 := List.mem_of_find?_eq_some hf
    simp only [decide_eq_true_eq] at h1
    exact ⟨h2, h1⟩
set_option maxRecDepth 100000 in
set_option maxHeartbeats 1000000 in
theorem kget_any (g M : Nat) (S : List Hld) (n : Int) (k : ByteArray) (w : World) (hk : KIn w g M S) (hn : i64ok n) (hkk : k.size ≤ maxLen) :
    Calls Tryz.prog 18 #[.pointer (some ⟨g, 0, none⟩), .int .i64 n, .string k] w fun e w' => e = .returned (.tuple #[(getH n k S).val, errV (getHE n k S)]) ∧ Below w.heap.size w w' := by
  have hkey := keyOf_at hn hkk
  have hb0 := (Below.refl w.heap.size w).alloc (Nat.le_refl _) (.cells #[.int .i64 0, .string ⟨#[]⟩, .int .i64 0, .int .i64 0] 29)
  have hG0 := Blk.new w 29 #[.int .i64 0, .string ⟨#[]⟩, .int .i64 0, .int .i64 0]
  have hk0 := hk.up hb0
  have hbv : Hid (hasH n k S = hasH n k S) := Lib.hid rfl
  go_enter Tryz.func18, Tryz.ntmps18
  go_upto_region 1 with fail
  have hsz0 : (w.alloc (.cells #[.int .i64 0, .string ⟨#[]⟩, .int .i64 0, .int .i64 0] 29)).heap.size = w.heap.size + 1 := by simp
  obtain ⟨gw, hgw⟩ : ∃ gw, gw = w.heap.size := ⟨_, rfl⟩
  rw [← hgw] at hG0 hsz0 ⊢
  have HGW := Lib.hid hgw
  clear hgw
  generalize w.alloc (.cells #[.int .i64 0, .string ⟨#[]⟩, .int .i64 0, .int .i64 0] 29) = w0 at *
  have HSZ := Lib.hid hsz0
  obtain ⟨D, hown, hD⟩ := hk0.own
  have hhas := mapL_has hD (fun x hx => (hk.fine x hx).2) hn hkk
  have HHAS := Lib.hid hhas
  have HD := Lib.hid hD
  have HF := Lib.hid hk.fine
  have c0 := hk0.blk.cell 0
  simp at c0
  have hG0s := hG0
  have hl0 := hG0.lt
  have f0 := hG0.frozen 0
  have f1 := hG0.frozen 1
  have f2 := hG0.frozen 2
  have f3 := hG0.frozen 3
  obtain ⟨y0, y1, y2, y3⟩ := cells4 hG0
  have hbv0 := Lib.hid hb0
  clear hsz0 hhas hD hk0 hk hb0
  obtain ⟨bh, hbh⟩ : ∃ bh, bh = hasH n k S := ⟨_, rfl⟩
  have HBH := Lib.hid hbh
  rw [← hbh] at HHAS
  clear hbh
  rcases bh
  · have E1 : Hid ((getH n k S).val = .agg #[.int .i64 0, .string ⟨#[]⟩, .int .i64 0, .int .i64 0]) := Lib.hid (by rw [getH_none HBH.out.symm]; rfl)
    have E2 : Hid (getHE n k S = 6) := Lib.hid (by rw [getHE, ← HBH.out]; rfl)
    go_wp2_with (first
      | (with_reducible show wpList _ _ _ (⟨some 18, _, _, _, _, _⟩ :: _) _ _; go_must (refine wpList_lookup_hld _ rfl _ _ 93 rfl 97 29 kat Tryz.underlying93 (zhld _) M S.length D rfl hown (.agg #[.int .i64 n, .string k]) (klA n k) rfl hkey ?_); intro y hy; clear hy; rw [HHAS.out]))
    have yb := (blk_set4 (a := .int .i64 0) (b := .string ⟨#[]⟩) (c := .int .i64 0) (d := .int .i64 0) hG0s).alloc (.cells #[.int .i64 y.node, .string y.key, .int .i64 y.a, .int .i64 y.b] 29)
    refine bodyPost_ret (results_cell_k rfl _ _ gw 29 _ (0, 0) _ rfl yb Tryz.underlying29 rfl (by kernel_rfl)) rfl ?_
    have hb4 := (((hbv0.out.setCell (p := ⟨gw, 0, none⟩) (Nat.le_of_eq HGW.out.symm) (.int .i64 0)).setCell (p := ⟨gw, 1, none⟩) (Nat.le_of_eq HGW.out.symm) (.string ⟨#[]⟩)).setCell (p := ⟨gw, 2, none⟩) (Nat.le_of_eq HGW.out.symm) (.int .i64 0)).setCell (p := ⟨gw, 3, none⟩) (Nat.le_of_eq HGW.out.symm) (.int .i64 0)
    exact ⟨by rw [E1.out, E2.out]; rfl, hb4.alloc hb4.size _⟩
  · go_wp2_with (first
      | (with_reducible show wpList _ _ _ (⟨some 18, _, _, _, _, _⟩ :: _) _ _; go_must (refine wpList_lookup_hld _ rfl _ _ 93 rfl 97 29 kat Tryz.underlying93 (zhld _) M S.length D rfl hown (.agg #[.int .i64 n, .string k]) (klA n k) rfl hkey ?_); intro y hy; have HY := Lib.hid hy; clear hy; rw [HHAS.out]))
    have hyS : y = getH n k S := by
      obtain ⟨h1, h2, h3⟩ := getH_some HBH.out.symm
      have h4 := HD.out.at_ _ h1 (hldD hld0)
      rw [kfH, h2, h3, HY.out] at h4
      exact hldD_inj h4
    have E1 : Hid ((getH n k S).val = .agg #[.int .i64 y.node, .string y.key, .int .i64 y.a, .int .i64 y.b]) := Lib.hid (by rw [← hyS]; rfl)
    have E2 : Hid (getHE n k S = 0) := Lib.hid (by rw [getHE, ← HBH.out]; rfl)
    have yb := (blk_set4 (a := .int .i64 y.node) (b := .string y.key) (c := .int .i64 y.a) (d := .int .i64 y.b) hG0s).alloc (.cells #[.int .i64 y.node, .string y.key, .int .i64 y.a, .int .i64 y.b] 29)
    refine bodyPost_ret (results_cell_k rfl _ _ gw 29 _ (0, 0) _ rfl yb Tryz.underlying29 rfl (by kernel_rfl)) rfl ?_
    have hb4 := (((hbv0.out.setCell (p := ⟨gw, 0, none⟩) (Nat.le_of_eq HGW.out.symm) (.int .i64 y.node)).setCell (p := ⟨gw, 1, none⟩) (Nat.le_of_eq HGW.out.symm) (.string y.key)).setCell (p := ⟨gw, 2, none⟩) (Nat.le_of_eq HGW.out.symm) (.int .i64 y.a)).setCell (p := ⟨gw, 3, none⟩) (Nat.le_of_eq HGW.out.symm) (.int .i64 y.b)
    exact ⟨by rw [E1.out, E2.out]; rfl, hb4.alloc hb4.size _⟩
end Go.Proofs.YtcfijljagohmlaaGreatDoor
