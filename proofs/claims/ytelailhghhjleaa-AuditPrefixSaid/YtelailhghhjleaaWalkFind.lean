/- The walk of audit.find and what it calls. -/
import Derived.Test.YtelailhghhjleaaWalkStrcmp
import Derived.Test.YtelailhghhjleaaWalkLines
import Derived.Test.YtelailhghhjleaaPlainWithin
import Derived.Deep.CutBlock
import Derived.Deep.CutRange
namespace Go.Proofs.Ytelailhghhjleaa
open Go.RowKit
def Pl.agg (p : Pl) : Value := .agg #[.string p.ln.key, p.val]

set_option maxRecDepth 100000 in
set_option maxHeartbeats 1000000 in
theorem fcmp_any (x : Pl) (t : ByteArray) (w : World) : Calls Try.prog 64 #[x.agg, .string t] w fun e w' => e = .returned (.int .i64 (cmpS x.ln.key t)) ∧ Below w.heap.size w w' := by
  go_enter Try.func64, Try.ntmps64
  unfold Pl.agg Pl.val
  go_wp2_with (first | (go_at_call 65; refine (strcmp_any _ _ _).mono ?_; rintro e w' ⟨rfl, rfl⟩))
  go_ret
  exact ⟨rfl, (Below.refl _ _).alloc (Nat.le_refl _) _⟩
def keysP (ps : List Pl) : List ByteArray := (lnsOf ps).map Ln.key
theorem keysP_len (l : List Pl) : (keysP l).length = l.length := by simp [keysP, lnsOf]
theorem keysP_at {l : List Pl} {k : Nat} {r : Pl} (h : l[k]? = some r) : keyA (keysP l) k = r.ln.key := by rw [keyA, List.getD_eq_getElem?_getD, keysP, lnsOf, List.getElem?_map, List.getElem?_map, h]; rfl

set_option maxRecDepth 100000 in
set_option maxHeartbeats 2000000 in
theorem fbs_any (A : Option Addr) (c B : Nat) (l : List Pl) (t : ByteArray) (w : World) (hr : RdPs w B A l.length l) (hB : B ≤ w.heap.size) (hl : l.length ≤ 400) (hs : riseK (keysP l)) :
    Calls Try.prog 63 #[.slice A l.length c, .string t, .func (.func 64) #[] #[]] w fun e w' =>
      e = .returned (.tuple #[.int .i64 (lowK t (keysP l)), .bool (hasK t (keysP l))]) ∧ Below w.heap.size w w' := by
  obtain ⟨n, hn⟩ : ∃ n, n = l.length := ⟨_, rfl⟩
  have Hn := Lib.hid hn
  have HS := Lib.hid hs
  have HR := Lib.hid hr
  rw [← hn] at hr hl ⊢
  clear hn hs
  go_enter Try.func63, Try.ntmps63
  go_wp2_with fail
  go_loopw [9, 10] (fun x y wr => ∃ i j : Nat, i ≤ j ∧ j ≤ n ∧ x = .int .i64 i ∧ y = .int .i64 j ∧ Hid (∀ m, m < i → klt (keyA (keysP l) m) t = true) ∧ Hid (∀ m, j ≤ m → m < n → klt (keyA (keysP l) m) t = false) ∧ Below w.heap.size w wr) (fun x y _ => (intOf y).toNat - (intOf x).toNat)
  case atStart => exact ⟨0, n, Nat.zero_le _, Nat.le_refl _, rfl, rfl, Lib.hid (fun m hm => by omega), Lib.hid (fun m h1 h2 => by omega), Below.refl _ _⟩
  obtain ⟨i, j, hij, hjn, rfl, rfl, HI, HJ, hbel⟩ := hrel
  by_cases hlt : i < j
  · obtain ⟨h, hh⟩ : ∃ h, h = (i + j) / 2 := ⟨_, rfl⟩
    have hih : i ≤ h := by omega
    have hhj : h < j := by omega
    obtain ⟨ad, r, rfl, _, hx, g0, g1, hpo⟩ := (hr.below hbel hB).at_ (k := h) (by omega)
    unfold Pl.val at g1
    have hkx := keysP_at hx
    have hh2 : ((i : Int) + (j : Int)) / 2 = (h : Int) := by omega
    have HH := Lib.hid hh2
    have HK := Lib.hid hkx
    have hk0 : (0 : Int) ≤ (h : Int) := by omega
    have hk1 : (h : Int) < (n : Int) := by omega
    have hrn : h < (keysP l).length := by rw [keysP_len, ← Hn.out]; omega
    have hws := hbel.size
    clear hh hh2 hkx hx
    rcases hc : klt r.ln.key t
    · have hz := cmpS_ge hc
      have hz0 : 0 ≤ cmpS r.ln.key t := by rw [hz]; split <;> omega
      have HC := Lib.hid hc
      have hsc := fun W => fcmp_any r t W
      generalize cmpS r.ln.key t = z at *
      have t0 : decide (z < 0) = false := by simpa using hz0
      clear hz hc
      go_upto_region 5 with fail
      rw [HH.out]
      go_wp2_with (first
        | (go_at_call 64; go_must (refine (hsc _).mono ?_); rintro e w2 ⟨rfl, hb2⟩; have hbel2 := hbel.trans (hb2.mono hws)))
      go_roundw
      case rel =>
        refine ⟨i, h, by omega, by omega, rfl, rfl, HI, Lib.hid (fun m h1 h2 => ?_), hbel2⟩
        rcases hm : klt (keyA (keysP l) m) t with _ | _
        · rfl
        · have := rise_mono HS.out h1 (by rw [keysP_len, ← Hn.out]; omega) hm
          rw [HK.out, HC.out] at this
          cases this
      case measure => simp [intOf]; omega
    · have HC := Lib.hid hc
      have hsc := fun W => fcmp_any r t W
      rw [cmpS_lt hc] at hsc
      clear hc
      go_upto_region 5 with fail
      rw [HH.out]
      go_wp2_with (first
        | (go_at_call 64; go_must (refine (hsc _).mono ?_); rintro e w2 ⟨rfl, hb2⟩; have hbel2 := hbel.trans (hb2.mono hws)))
      go_roundw
      case rel =>
        refine ⟨h + 1, j, by omega, by omega, by go_num, rfl, Lib.hid (fun m hm => ?_), HJ, hbel2⟩
        exact rise_mono HS.out (show m ≤ h by omega) hrn (by rw [HK.out]; exact HC.out)
      case measure => simp [intOf]; omega
  · have hij2 : i = j := by omega
    subst hij2
    have hlow : lowK t (keysP l) = i := lowK_is (by rw [keysP_len, ← Hn.out]; exact hjn) HI.out (fun m h1 h2 => HJ.out m h1 (by rw [keysP_len, ← Hn.out] at h2; exact h2))
    have HL := Lib.hid hlow
    have hws := hbel.size
    clear hlow HI HJ
    by_cases hin : i < n
    · obtain ⟨ad, r, rfl, _, hx, g0, g1, hpo⟩ := (hr.below hbel hB).at_ (k := i) hin
      unfold Pl.val at g1
      have hkx := keysP_at hx
      have hge : klt r.ln.key t = false := by
        rw [← hkx, ← HL.out]
        exact lowK_at (by rw [keysP_len, ← Hn.out, HL.out]; exact hin)
      have hz := cmpS_ge hge
      have hh : hasK t (keysP l) = decide (r.ln.key = t) := by
        rw [hasK, HL.out, hkx, keysP_len, ← Hn.out, decide_eq_true hin, Bool.true_and]
      have HH := Lib.hid hh
      have hsc := fun W => fcmp_any r t W
      have hk0 : (0 : Int) ≤ (i : Int) := by omega
      have hk1 : (i : Int) < (n : Int) := by omega
      by_cases he : r.ln.key = t
      · rw [hz, if_pos he] at hsc
        have HB : Hid (hasK t (keysP l) = true) := Lib.hid (by rw [HH.out, decide_eq_true he])
        clear hh hz hge hkx hx he
        go_wp2_with (first
          | (go_at_call 64; go_must (refine (hsc _).mono ?_); rintro e w2 ⟨rfl, hb2⟩))
        go_ret2
        exact ⟨by rw [HL.out, HB.out]; rfl, hbel.trans (hb2.mono hws)⟩
      · rw [hz, if_neg he] at hsc
        have HB : Hid (hasK t (keysP l) = false) := Lib.hid (by rw [HH.out, decide_eq_false he])
        clear hh hz hge hkx hx he
        go_wp2_with (first
          | (go_at_call 64; go_must (refine (hsc _).mono ?_); rintro e w2 ⟨rfl, hb2⟩))
        go_ret2
        exact ⟨by rw [HL.out, HB.out]; rfl, hbel.trans (hb2.mono hws)⟩
    · have HB : Hid (hasK t (keysP l) = false) := Lib.hid (by rw [hasK, HL.out, keysP_len, ← Hn.out, decide_eq_false hin]; rfl)
      go_wp2_with fail
      go_ret2
      exact ⟨by rw [HL.out, HB.out]; rfl, hbel⟩
/-- What audit.find hands back. -/
def FindPost (w w' : World) (B : Nat) (o : Option (List Int)) (v : Value) : Prop :=
  ∃ A c g, v = .slice A g.length c ∧ g.length ≤ c ∧ c ≤ maxLen ∧ Rd w' B 1 A g.length (g.map iv) ∧ (∀ x ∈ g, (Lit.int .i64 x).wf = true) ∧ ((o = none ∧ A = none ∧ g = [] ∧ c = 0) ∨ (o = some g ∧ 0 < g.length)) ∧ Below w.heap.size w w'
set_option maxRecDepth 100000 in
set_option maxHeartbeats 2000000 in
theorem find_any (A : Option Addr) (c B : Nat) (l : List Pl) (t : ByteArray) (w : World) (hr : RdPs w B A l.length l) (hB : B ≤ w.heap.size) (hs : LnsOk (lnsOf l)) :
    Calls Try.prog 45 #[.slice A l.length c, .string t] w fun e w' => ∃ v, e = .returned v ∧ FindPost w w' B (numsOf (lnsOf l) t) v := by
  have hl : l.length ≤ 400 := by have := hs.len; rw [lnsOf_len] at this; exact this
  have hb := fbs_any A c B l t w hr hB hl (rise_keys hs.pw)
  have hno := numsOf_at hs.pw (t := t)
  rw [show (lnsOf l).map Ln.key = keysP l from rfl] at hno
  have hlt := lowK_le t (keysP l)
  rw [keysP_len] at hlt
  rcases hh : hasK t (keysP l) with _ | _
  · rw [hh, if_neg (by simp)] at hno
    rw [hh] at hb
    have HN := Lib.hid hno
    obtain ⟨i, hi⟩ : ∃ i, i = lowK t (keysP l) := ⟨_, rfl⟩
    rw [← hi] at hb
    clear hno hi hh hlt
    obtain ⟨n, hn⟩ : ∃ n, n = l.length := ⟨_, rfl⟩
    rw [← hn] at hb ⊢
    clear hn
    go_enter Try.func45, Try.ntmps45
    go_wp2_with (first | (go_at_call 63; go_must (refine hb.mono ?_); rintro e w1 ⟨rfl, hb1⟩))
    go_ret
    exact ⟨_, rfl, none, 0, [], rfl, Nat.le_refl _, Nat.zero_le _, Rd.nil_, (fun x hx => absurd hx List.not_mem_nil), .inl ⟨HN.out, rfl, rfl, rfl⟩, hb1⟩
  · rw [hh, if_pos rfl] at hno
    rw [hh] at hb
    have hlt2 : lowK t (keysP l) < l.length := by
      rw [hasK, Bool.and_eq_true, decide_eq_true_eq, keysP_len] at hh
      exact hh.1
    obtain ⟨i, hi⟩ : ∃ i, i = lowK t (keysP l) := ⟨_, rfl⟩
    rw [← hi] at hb hno hlt2
    clear hi hh hlt
    obtain ⟨ad, p, rfl, hab, hx, g0, g1, hpo⟩ := hr.at_ hlt2
    have hxl := lnsOf_at hx
    have hpos := hs.some_ p.ln (List.mem_of_getElem? hxl)
    rw [hxl] at hno
    have HN := Lib.hid (show numsOf (lnsOf l) t = some p.ln.nums from hno)
    have HP := Lib.hid hpos
    have HO := Lib.hid hpo
    clear hno hxl hx hpos hpo
    obtain ⟨n, hn⟩ : ∃ n, n = l.length := ⟨_, rfl⟩
    rw [← hn] at hb hlt2 ⊢
    clear hn
    have hk0 : (0 : Int) ≤ (i : Int) := by omega
    have hk1 : (i : Int) < (n : Int) := by omega
    go_enter Try.func45, Try.ntmps45
    go_wp2_with (first | (go_at_call 63; go_must (refine hb.mono ?_); rintro e w1 ⟨rfl, hb1⟩; have g1' := (hb1.cell (p := ⟨(ad.add (i * 2)).block, (ad.add (i * 2)).off + 1, none⟩) (by simp only; rw [block_add]; omega)).trans g1; unfold Pl.val at g1'))
    go_ret
    have hpo := HO.out.below hb1 hB
    exact ⟨_, rfl, p.A, p.c, p.ln.nums, rfl, hpo.cap, hpo.max, hpo.rd, hpo.wf, .inr ⟨HN.out, HP.out⟩, hb1⟩
end Go.Proofs.Ytelailhghhjleaa
