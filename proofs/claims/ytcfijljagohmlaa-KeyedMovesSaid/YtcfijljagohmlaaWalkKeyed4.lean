/- The walk of keyed.Whole. -/
import Derived.Test.YtcfijljagohmlaaWalkKeyed2
import Derived.Test.YtcfijljagohmlaaMemBB
namespace Go.Proofs.Ytcfijljagohmlaa
open Go.RowKit Go.Maps Go.WideMaps Go.Sort

def readsH (bs : List (List UInt8)) : List Hld := (bs.map fun b => (readHelds b).getD []).flatten
/-- What Whole gives: the fault, the bytes. -/
def whE (bs : List (List UInt8)) : Nat := if bs.all (fun b => (readHelds b).isSome) = true then (if dupB (readsH bs) = true then 8 else heldsE (sortH (readsH bs))) else 9
def whB (bs : List (List UInt8)) : List UInt8 := if whE bs = 0 then heldsB (sortH (readsH bs)) else []
theorem whB_bad {bs : List (List UInt8)} {e : Nat} (h : whE bs = e) (h0 : e ≠ 0) : whB bs = [] := by rw [whB, if_neg (by omega)]
theorem readsH_next {bs : List (List UInt8)} {i : Nat} {b : List UInt8} {l : List Hld} (h : bs[i]? = some b) (hl : readHelds b = some l) : readsH (bs.take (i + 1)) = readsH (bs.take i) ++ l := by
  unfold readsH
  rw [List.take_add_one, h, List.map_append, List.flatten_append]
  simp [hl]
theorem hldCells_app (a b : List Hld) : hldCells (a ++ b) = hldCells a ++ hldCells b := by simp [hldCells]
theorem hldCells_one (l : List Hld) : ∀ u ∈ hldCells l, u.oneCell' = true := by
  intro u hu
  obtain ⟨x, _, hx⟩ := List.mem_flatMap.1 hu
  exact hldK1 x u hx
set_option maxRecDepth 100000 in
set_option maxHeartbeats 4000000 in
theorem kwhole_any (A : Option Addr) (c B n : Nat) (bs : List (List UInt8)) (w : World) (hr : RdBB w B A bs) (hln : bs.length = n) (hB : B ≤ w.heap.size) (hn : n ≤ 100000) (hb : ∀ b ∈ bs, b.length ≤ 140737488355328) :
    Calls Try.prog 25 #[.slice A n c] w fun e w' => ∃ v, e = .returned (.tuple #[v, errV (whE bs)]) ∧ w'.ownsRow w.heap.size 5 1 v (whB bs).length ((whB bs).map bv) ∧ Below w.heap.size w w' := by
  have HLN := Lib.hid hln
  have HBL := Lib.hid hb
  obtain ⟨TE, hTE⟩ : ∃ x, x = whE bs := ⟨_, rfl⟩
  obtain ⟨TB, hTB⟩ : ∃ x, x = whB bs := ⟨_, rfl⟩
  have HTE := Lib.hid hTE
  have HTB := Lib.hid hTB
  rw [← hTE, ← hTB]
  clear hln hb hTE hTB
  go_enter Try.func25, Try.ntmps25
  go_wp2_with fail
  go_loopw [4, 12] (fun o x wr => ∃ (i : Nat) (L : List Hld), i ≤ n ∧ x = .int .i64 i ∧ wr.ownsRow w.heap.size 47 4 o L.length (hldCells L) ∧ L.length ≤ 400 * i ∧ Hid (L = readsH (bs.take i)) ∧ Hid (∀ x ∈ L, hldOk x = true ∧ x.Ok) ∧ Hid (∀ (j : Nat) (b : List UInt8), j < i → bs[j]? = some b → (readHelds b).isSome = true) ∧ Below w.heap.size w wr) (fun _ x _ => n - (intOf x).toNat)
  case atStart => exact ⟨0, [], Nat.zero_le _, rfl, World.ownsRow_nil _ _ _ _, Nat.zero_le _, Lib.hid rfl, Lib.hid (fun _ h => by cases h), Lib.hid (fun j _ hj => absurd hj (by omega)), Below.refl _ _⟩
  obtain ⟨i, L, hi, rfl, hro, hLl, HL, HF, HS, hbel⟩ := hrel
  have hws := hbel.size
  by_cases hlq : i < n
  · obtain ⟨ad, rfl, hab, hcell⟩ := hr (by rw [HLN.out]; omega)
    obtain ⟨b, hbi⟩ : ∃ b, bs[i]? = some b := ⟨_, List.getElem?_eq_getElem (by rw [HLN.out]; exact hlq)⟩
    obtain ⟨A1, c1, g0w, hlc, hcm, hrd⟩ := hcell i b hbi
    have hbw : (ad.add i).block < w.heap.size := by rw [block_add]; omega
    have g0 := (hbel.cell hbw).trans g0w
    have HBI := Lib.hid hbi
    have hrt := Lib.hid (readhelds_any A1 c1 B b wr (hrd.below hbel hB) (Nat.le_trans hB hws) (HBL.out b (List.mem_of_getElem? hbi)) hlc)
    obtain ⟨m, hm⟩ : ∃ m, m = b.length := ⟨_, rfl⟩
    rw [← hm] at g0 hlc hrd hrt
    clear hbi hcell g0w hm hrd
    have hi0 : (0 : Int) ≤ (i : Int) := by omega
    have hi1 : (i : Int) < (n : Int) := by omega
    rcases hrb : readHelds b with _ | l
    · have hrt2 := hrt.out
      rw [rhE_none hrb, hrb, show errV 9 = .iface 84 (.int .i64 9) from rfl] at hrt2
      have HX : Hid (bs.all (fun b => (readHelds b).isSome) = false) := Lib.hid (by
        rw [List.all_eq_false]
        exact ⟨b, List.mem_of_getElem? HBI.out, by rw [hrb]; simp⟩)
      have h9 : whE bs = 9 := by rw [whE, HX.out]; rfl
      have HT1 : Hid (TE = 9) := Lib.hid (by rw [HTE.out, h9])
      have HT2 : Hid (TB = []) := Lib.hid (by rw [HTB.out, whB_bad h9 (by omega)])
      clear hrb h9
      go_wp2_with (first
        | (go_at_call 17; go_must (refine hrt2.mono ?_); rintro e w2 ⟨v2, rfl, _, hb2⟩))
      go_ret2
      exact ⟨.slice none 0 0, by rw [HT1.out]; rfl, by rw [HT2.out]; exact World.ownsRow_nil _ _ _ _, hbel.trans (hb2.mono hws)⟩
    · have hrt2 := hrt.out
      rw [rhE_some hrb, hrb, Option.getD_some, errV_zero] at hrt2
      obtain ⟨_, hfl, hll⟩ := readHelds_fine hrb
      have HRD := Lib.hid (readsH_next HBI.out hrb)
      have HS2 : Hid (∀ (j : Nat) (b : List UInt8), j < i + 1 → bs[j]? = some b → (readHelds b).isSome = true) := Lib.hid fun j b' hj hb' => by
        by_cases hji : j < i
        · exact HS.out j b' hji hb'
        · obtain rfl : j = i := by omega
          rw [HBI.out] at hb'
          injection hb' with hb'
          rw [← hb', hrb]; rfl
      have HF2 : Hid (∀ x ∈ L ++ l, hldOk x = true ∧ x.Ok) := Lib.hid fun x hx => by
        rcases List.mem_append.1 hx with hx | hx
        · exact HF.out x hx
        · exact hfl x hx
      have hby : (L.length + l.length) * 40 ≤ 140737488355328 := by omega
      clear hrb hfl
      go_wp2_with (first
        | (go_at_call 17; go_must (refine hrt2.mono ?_); rintro e w2 ⟨v2, rfl, ho2, hb2⟩; obtain ⟨A2, c2, rfl, k1, k2, _, k3⟩ := own_form ho2; have hro2 := own_up hro hb2; have hbel2 := hbel.trans (hb2.mono hws); have hs2 := hbel2.size)
        | (with_reducible show wpList _ _ _ (⟨some 26, _, _, _, _, _⟩ :: _) _ _; go_must (refine wpList_rd (.tmp 24) (.tmp 25) el_held rfl rfl hro2 rfl k3 rfl (hldCells_one l) hby hs2 ?_); intro v4 w4 hown4 hb4 hg4 ha4))
      have hbel4 := hbel2.trans hb4
      clear ho2 k3 hro2 hrt2
      go_roundw
      case rel => exact ⟨i + 1, L ++ l, by omega, by go_num, by rw [List.length_append, hldCells_app]; exact hown4, by rw [List.length_append]; omega, Lib.hid (by rw [HRD.out, HL.out]), HF2, HS2, hbel4⟩
      case measure => simp [intOf]; omega
  · obtain rfl : i = n := by omega
    have htk : bs.take i = bs := List.take_of_length_le (by rw [HLN.out]; exact Nat.le_refl _)
    have hall : bs.all (fun b => (readHelds b).isSome) = true := by
      rw [List.all_eq_true]
      intro b hb
      obtain ⟨j, hj⟩ := List.mem_iff_getElem?.1 hb
      exact HS.out j b (by have := (List.getElem?_eq_some_iff.1 hj).1; rw [HLN.out] at this; exact this) hj
    have hL := HL.out
    rw [htk] at hL
    have HW : Hid (whE bs = if dupB L = true then 8 else heldsE (sortH L)) := Lib.hid (by rw [whE, hall, if_pos rfl, hL])
    have HV : Hid (whE bs = 0 → TB = heldsB (sortH L)) := Lib.hid (fun e => by rw [HTB.out, whB, if_pos e, hL])
    clear htk hall hL
    obtain ⟨A5, c5, rfl, hnc, hcm, hsort⟩ := hld_sort hro rfl (by omega) hws
    have hlt2 : ¬ i < i := by omega
    clear hro
    have HSO := Lib.hid hsort
    clear hsort
    go_wp2_with (first
      | (go_at_call 56; go_must (refine HSO.out.mono ?_); rintro e w5 ⟨rfl, s, hsp, hsu, hrd5, hb5⟩))
    have HSP := Lib.hid hsp
    have HSU : Hid (s.Pairwise fun a b => hlt b a = false) := Lib.hid (List.Pairwise.imp (fun {a b} (h : ltOf cmpH b a = false) => h) hsu)
    have HSL := Lib.hid hsp.length_eq
    have hbel5 := hbel.trans (hb5.mono (by omega))
    obtain ⟨N, hN⟩ : ∃ N, N = L.length := ⟨_, rfl⟩
    have HN : Hid (s.length = N) := Lib.hid (by rw [HSL.out, hN])
    rw [← hN] at hrd5 hLl ⊢
    clear hsp hsu hb5 hN hbel
    go_loopw [32] (fun x wr => ∃ k : Nat, k ≤ N ∧ x = .int .i64 k ∧ Hid (∀ (j : Nat) (x y : Hld), j + 1 < k → s[j]? = some x → s[j + 1]? = some y → ¬ sameH x y) ∧ Below w5.heap.size w5 wr) (fun x _ => N - (intOf x).toNat)
    case atStart => exact ⟨0, Nat.zero_le _, rfl, Lib.hid (fun j _ _ h => absurd h (by omega)), Below.refl _ _⟩
    obtain ⟨k, hk, rfl, HD, hbel⟩ := hrel
    have hbs := hbel.size
    by_cases hkl : k < N
    · obtain ⟨ad, r, rfl, hbk, hx, g0, g1, g2, g3⟩ := hrd5.hld_ hkl HN.out hbel (Nat.le_refl _)
      have Hx := Lib.hid hx
      clear hx
      rcases k with _ | j
      · simp only [Nat.zero_mul, Addr.add, if_true] at g0 g1 g2 g3
        have HD2 : Hid (∀ (j : Nat) (x y : Hld), j + 1 < 0 + 1 → s[j]? = some x → s[j + 1]? = some y → ¬ sameH x y) := Lib.hid (fun j _ _ h => absurd h (by omega))
        go_upto_region 14 with fail
        go_quiet (fail)
        go_wp2_with fail
        refine ⟨⟨1, hkl, by go_num, HD2, below_drewN hbel _⟩, by simp [intOf]; omega⟩
      · obtain ⟨ad', q, hq', hbq, hxq, p0, p1, p2, p3⟩ := hrd5.hld_ (k := j) (by omega) HN.out hbel (Nat.le_refl _)
        injection hq' with hq'
        subst hq'
        have Hxq := Lib.hid hxq
        clear hxq
        have hi0 : (0 : Int) ≤ (j : Int) := by omega
        have hi1 : (j : Int) < (N : Int) := by omega
        have hi2 : IntKind.i64.wrap ((j : Int) + 1 - 1) = (j : Int) := by rw [IntWalk.i64_in _ (by omega)]; omega
        have hi3 : IntKind.i64.wrap (j : Int) = (j : Int) := IntWalk.i64_in _ (by omega)
        have hi4 : (j : Int) + 1 < (N : Int) := by omega
        have hi5 : (0 : Int) ≤ (j : Int) + 1 := by omega
        have hi6 : IntKind.i64.wrap ((j : Int) + 1) = (j : Int) + 1 := IntWalk.i64_in _ (by omega)
        have hi7 : ((j : Int) + 1).toNat = j + 1 := by omega
        by_cases hcmp : cmpH q r = 0
        · have tc : (cmpH q r == 0) = true := by simpa using hcmp
          have hd : dupB s = true := dup_at Hxq.out Hx.out (cmpH_zero.1 hcmp)
          have H8 : Hid (whE bs = 8) := Lib.hid (by rw [HW.out, ← dup_perm HSP.out, hd]; rfl)
          have HT1 : Hid (TE = 8) := Lib.hid (by rw [HTE.out, H8.out])
          have HT2 : Hid (TB = []) := Lib.hid (by rw [HTB.out, whB_bad H8.out (by omega)])
          clear hcmp hd
          go_upto_region 14 with fail
          go_region_held3 (fun w' => (w'.cell? (ad.add (j * 4)) = some (.int .i64 q.node) ∧ w'.cell? ⟨(ad.add (j * 4)).block, (ad.add (j * 4)).off + 1, none⟩ = some (.string q.key) ∧ w'.cell? ⟨(ad.add (j * 4)).block, (ad.add (j * 4)).off + 2, none⟩ = some (.int .i64 q.a) ∧ w'.cell? ⟨(ad.add (j * 4)).block, (ad.add (j * 4)).off + 3, none⟩ = some (.int .i64 q.b)) ∧ w'.cell? (ad.add ((j + 1) * 4)) = some (.int .i64 r.node) ∧ w'.cell? ⟨(ad.add ((j + 1) * 4)).block, (ad.add ((j + 1) * 4)).off + 1, none⟩ = some (.string r.key) ∧ w'.cell? ⟨(ad.add ((j + 1) * 4)).block, (ad.add ((j + 1) * 4)).off + 2, none⟩ = some (.int .i64 r.a) ∧ w'.cell? ⟨(ad.add ((j + 1) * 4)).block, (ad.add ((j + 1) * 4)).off + 3, none⟩ = some (.int .i64 r.b)) (first | exact ⟨pc, gc⟩ | exact ⟨⟨p0, p1, p2, p3⟩, g0, g1, g2, g3⟩)
            ((first
              | (go_at_call 50; go_must (refine (compare_any q r _).mono ?_); rintro e w2 ⟨rfl, hb3⟩; have hbel2 := below_up hbel.drew hb3; have pc := keep4 hb3 (Nat.lt_of_lt_of_le hbq hbs) p0 p1 p2 p3; have gc := keep4 hb3 (Nat.lt_of_lt_of_le hbk hbs) g0 g1 g2 g3)))
          go_wp2_with fail
          go_ret2
          exact ⟨.slice none 0 0, by rw [HT1.out]; rfl, by rw [HT2.out]; exact World.ownsRow_nil _ _ _ _, hbel5.trans (hbel2.mono hbel5.size)⟩
        · have tc : (cmpH q r == 0) = false := by simpa using hcmp
          have HD2 : Hid (∀ (i : Nat) (x y : Hld), i + 1 < j + 1 + 1 → s[i]? = some x → s[i + 1]? = some y → ¬ sameH x y) := Lib.hid fun i x y hi h1 h2 => by
            by_cases hij : i = j
            · subst hij
              rw [Hxq.out] at h1
              rw [Hx.out] at h2
              injection h1 with h1
              injection h2 with h2
              rw [← h1, ← h2]
              exact fun e => hcmp (cmpH_zero.2 e)
            · exact HD.out i x y (by omega) h1 h2
          clear hcmp
          go_upto_region 14 with fail
          go_region_held3 (fun w' => (w'.cell? (ad.add (j * 4)) = some (.int .i64 q.node) ∧ w'.cell? ⟨(ad.add (j * 4)).block, (ad.add (j * 4)).off + 1, none⟩ = some (.string q.key) ∧ w'.cell? ⟨(ad.add (j * 4)).block, (ad.add (j * 4)).off + 2, none⟩ = some (.int .i64 q.a) ∧ w'.cell? ⟨(ad.add (j * 4)).block, (ad.add (j * 4)).off + 3, none⟩ = some (.int .i64 q.b)) ∧ w'.cell? (ad.add ((j + 1) * 4)) = some (.int .i64 r.node) ∧ w'.cell? ⟨(ad.add ((j + 1) * 4)).block, (ad.add ((j + 1) * 4)).off + 1, none⟩ = some (.string r.key) ∧ w'.cell? ⟨(ad.add ((j + 1) * 4)).block, (ad.add ((j + 1) * 4)).off + 2, none⟩ = some (.int .i64 r.a) ∧ w'.cell? ⟨(ad.add ((j + 1) * 4)).block, (ad.add ((j + 1) * 4)).off + 3, none⟩ = some (.int .i64 r.b)) (first | exact ⟨pc, gc⟩ | exact ⟨⟨p0, p1, p2, p3⟩, g0, g1, g2, g3⟩)
            ((first
              | (go_at_call 50; go_must (refine (compare_any q r _).mono ?_); rintro e w2 ⟨rfl, hb3⟩; have hbel2 := below_up hbel.drew hb3; have pc := keep4 hb3 (Nat.lt_of_lt_of_le hbq hbs) p0 p1 p2 p3; have gc := keep4 hb3 (Nat.lt_of_lt_of_le hbk hbs) g0 g1 g2 g3)))
          go_wp2_with fail
          refine ⟨⟨j + 1 + 1, hkl, by go_num, HD2, hbel2⟩, by simp [intOf]; omega⟩
    · obtain rfl : k = N := by omega
      have hrise : riseH s := sorted_rise HSU.out fun i x y h1 h2 => HD.out i x y (by have := (List.getElem?_eq_some_iff.1 h2).1; rw [HN.out] at this; exact this) h1 h2
      have hnd : dupB L = false := by rw [← dup_perm HSP.out]; exact riseH_nodup' hrise
      have hss : sortH L = s := sortH_of HSP.out.symm hrise
      have HW2 : Hid (whE bs = heldsE s) := Lib.hid (by rw [HW.out, hnd, hss]; rfl)
      have HT1 : Hid (TE = heldsE s) := Lib.hid (by rw [HTE.out, HW2.out])
      have HT2 : Hid (TB = heldsB s) := Lib.hid (by
        by_cases h0 : heldsE s = 0
        · rw [HV.out (by rw [HW2.out, h0]), hss]
        · rw [HTB.out, whB_bad HW2.out h0, hldE_bad rfl h0])
      have hh := helds_any A5 c5 w5.heap.size s wr (by rw [HN.out]; exact hrd5.below hbel (Nat.le_refl _)) hbs (fun x hx => (HF.out x (HSP.out.mem_iff.1 hx)).2) (by rw [HN.out]; omega)
      rw [HN.out] at hh
      clear hrise hnd hss hrd5
      go_wp2_with (first
        | (go_at_call 16; go_must (refine hh.mono ?_); rintro e w7 ⟨v7, rfl, ho7, hb7⟩))
      go_ret2
      have hb57 := below_up hbel hb7
      exact ⟨v7, by rw [HT1.out]; rfl, by rw [HT2.out]; exact own_base ho7 (Nat.le_trans hbel5.size hbs), hbel5.trans (hb57.mono hbel5.size)⟩
end Go.Proofs.Ytcfijljagohmlaa
