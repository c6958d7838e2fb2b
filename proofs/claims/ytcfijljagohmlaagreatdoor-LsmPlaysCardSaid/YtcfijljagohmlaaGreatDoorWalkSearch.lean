/- The walks of table.search and what it calls. -/
import Derived.Test.YtcfijljagohmlaaGreatDoorProg
import Derived.Test.YtcfijljagohmlaaGreatDoorWalkStrcmp
import Derived.Test.YtcfijljagohmlaaGreatDoorPlainCmp
import Derived.Test.YtcfijljagohmlaaGreatDoorPlainLow
import Derived.Test.YtcfijljagohmlaaGreatDoorPlainTab
import Derived.Test.YtcfijljagohmlaaGreatDoorBase2
import Derived.Deep.CutBlock
import Derived.Deep.CutRange
namespace Go.Proofs.YtcfijljagohmlaaGreatDoor
open Go.RowKit

set_option maxRecDepth 100000 in
set_option maxHeartbeats 1000000 in
theorem scmp_any (x : Ent) (t : ByteArray) (w : World) : Calls Tryz.prog 140 #[x.val, .string t] w fun e w' => e = .returned (.int .i64 (cmpS x.key t)) ∧ Below w.heap.size w w' := by
  go_enter Tryz.func140, Tryz.ntmps140
  unfold Ent.val
  go_wp2_with (first | (go_at_call 135; refine (strcmp_any _ _ _).mono ?_; rintro e w' ⟨rfl, rfl⟩))
  go_ret
  exact ⟨rfl, (Below.refl _ _).alloc (Nat.le_refl _) _⟩
theorem el_ent : Elt Tryz.prog 57 67 (.agg #[.string ByteArray.empty, .string ByteArray.empty, .bool false]) 3 40 := ⟨Tryz.underlying57, by kernel_rfl, rfl, by omega, by omega⟩
def keysE (l : List Ent) : List ByteArray := l.map Ent.key
theorem keysE_len (l : List Ent) : (keysE l).length = l.length := by simp [keysE]
theorem keysE_at {l : List Ent} {k : Nat} {r : Ent} (h : l[k]? = some r) : keyA (keysE l) k = r.key := by rw [keyA, List.getD_eq_getElem?_getD, keysE, List.getElem?_map, h]; rfl

set_option maxRecDepth 100000 in
set_option maxHeartbeats 2000000 in
theorem bs_any (A : Option Addr) (c B : Nat) (l : List Ent) (t : ByteArray) (w : World) (hr : Rd w B 3 A l.length (entCells l)) (hB : B ≤ w.heap.size) (hl : l.length ≤ 400) (hs : riseK (keysE l)) :
    Calls Tryz.prog 139 #[.slice A l.length c, .string t, .func (.func 140) #[] #[]] w fun e w' =>
      e = .returned (.tuple #[.int .i64 (lowK t (keysE l)), .bool (hasK t (keysE l))]) ∧ Below w.heap.size w w' := by
  obtain ⟨n, hn⟩ : ∃ n, n = l.length := ⟨_, rfl⟩
  have Hn := Lib.hid hn
  have HS := Lib.hid hs
  rw [← hn] at hr hl ⊢
  clear hn hs
  go_enter Tryz.func139, Tryz.ntmps139
  go_wp2_with fail
  go_loopw [9, 10] (fun x y wr => ∃ i j : Nat, i ≤ j ∧ j ≤ n ∧ x = .int .i64 i ∧ y = .int .i64 j ∧ Hid (∀ m, m < i → klt (keyA (keysE l) m) t = true) ∧ Hid (∀ m, j ≤ m → m < n → klt (keyA (keysE l) m) t = false) ∧ Below w.heap.size w wr) (fun x y _ => (intOf y).toNat - (intOf x).toNat)
  case atStart => exact ⟨0, n, Nat.zero_le _, Nat.le_refl _, rfl, rfl, Lib.hid (fun m hm => by omega), Lib.hid (fun m h1 h2 => by omega), Below.refl _ _⟩
  obtain ⟨i, j, hij, hjn, rfl, rfl, HI, HJ, hbel⟩ := hrel
  by_cases hlt : i < j
  · obtain ⟨h, hh⟩ : ∃ h, h = (i + j) / 2 := ⟨_, rfl⟩
    have hih : i ≤ h := by omega
    have hhj : h < j := by omega
    obtain ⟨ad, r, rfl, _, hx, g0, g1, g2⟩ := hr.ent_ (k := h) (by omega) (Hn.out).symm hbel hB
    have hkx := keysE_at hx
    have hh2 : ((i : Int) + (j : Int)) / 2 = (h : Int) := by omega
    have HH := Lib.hid hh2
    have HK := Lib.hid hkx
    have hk0 : (0 : Int) ≤ (h : Int) := by omega
    have hk1 : (h : Int) < (n : Int) := by omega
    have hrn : h < (keysE l).length := by rw [keysE_len, ← Hn.out]; omega
    have hws := hbel.size
    clear hh hh2 hkx hx
    rcases hc : klt r.key t
    · have hz := cmpS_ge hc
      have hz0 : 0 ≤ cmpS r.key t := by rw [hz]; split <;> omega
      have HC := Lib.hid hc
      have hsc := fun W => scmp_any r t W
      generalize cmpS r.key t = z at *
      have t0 : decide (z < 0) = false := by simpa using hz0
      clear hz hc
      go_upto_region 5 with fail
      rw [HH.out]
      go_wp2_with (first
        | (go_at_call 140; go_must (refine (hsc _).mono ?_); rintro e w2 ⟨rfl, hb2⟩; have hbel2 := hbel.trans (hb2.mono hws)))
      go_roundw
      case rel =>
        refine ⟨i, h, by omega, by omega, rfl, rfl, HI, Lib.hid (fun m h1 h2 => ?_), hbel2⟩
        rcases hm : klt (keyA (keysE l) m) t with _ | _
        · rfl
        · have := rise_mono HS.out h1 (by rw [keysE_len, ← Hn.out]; omega) hm
          rw [HK.out, HC.out] at this
          cases this
      case measure => simp [intOf]; omega
    · have HC := Lib.hid hc
      have hsc := fun W => scmp_any r t W
      rw [cmpS_lt hc] at hsc
      clear hc
      go_upto_region 5 with fail
      rw [HH.out]
      go_wp2_with (first
        | (go_at_call 140; go_must (refine (hsc _).mono ?_); rintro e w2 ⟨rfl, hb2⟩; have hbel2 := hbel.trans (hb2.mono hws)))
      go_roundw
      case rel =>
        refine ⟨h + 1, j, by omega, by omega, by go_num, rfl, Lib.hid (fun m hm => ?_), HJ, hbel2⟩
        exact rise_mono HS.out (show m ≤ h by omega) hrn (by rw [HK.out]; exact HC.out)
      case measure => simp [intOf]; omega
  · have hij2 : i = j := by omega
    subst hij2
    have hlow : lowK t (keysE l) = i := lowK_is (by rw [keysE_len, ← Hn.out]; exact hjn) HI.out (fun m h1 h2 => HJ.out m h1 (by rw [keysE_len, ← Hn.out] at h2; exact h2))
    have HL := Lib.hid hlow
    have hws := hbel.size
    clear hlow HI HJ
    by_cases hin : i < n
    · obtain ⟨ad, r, rfl, _, hx, g0, g1, g2⟩ := hr.ent_ (k := i) hin (Hn.out).symm hbel hB
      have hkx := keysE_at hx
      have hge : klt r.key t = false := by
        rw [← hkx, ← HL.out]
        exact lowK_at (by rw [keysE_len, ← Hn.out, HL.out]; exact hin)
      have hz := cmpS_ge hge
      have hh : hasK t (keysE l) = decide (r.key = t) := by
        rw [hasK, HL.out, hkx, keysE_len, ← Hn.out, decide_eq_true hin, Bool.true_and]
      have HH := Lib.hid hh
      have hsc := fun W => scmp_any r t W
      have hk0 : (0 : Int) ≤ (i : Int) := by omega
      have hk1 : (i : Int) < (n : Int) := by omega
      by_cases he : r.key = t
      · rw [hz, if_pos he] at hsc
        have HB : Hid (hasK t (keysE l) = true) := Lib.hid (by rw [HH.out, decide_eq_true he])
        clear hh hz hge hkx hx he
        go_wp2_with (first
          | (go_at_call 140; go_must (refine (hsc _).mono ?_); rintro e w2 ⟨rfl, hb2⟩))
        go_ret2
        exact ⟨by rw [HL.out, HB.out]; rfl, hbel.trans (hb2.mono hws)⟩
      · rw [hz, if_neg he] at hsc
        have HB : Hid (hasK t (keysE l) = false) := Lib.hid (by rw [HH.out, decide_eq_false he])
        clear hh hz hge hkx hx he
        go_wp2_with (first
          | (go_at_call 140; go_must (refine (hsc _).mono ?_); rintro e w2 ⟨rfl, hb2⟩))
        go_ret2
        exact ⟨by rw [HL.out, HB.out]; rfl, hbel.trans (hb2.mono hws)⟩
    · have HB : Hid (hasK t (keysE l) = false) := Lib.hid (by rw [hasK, HL.out, keysE_len, ← Hn.out, decide_eq_false hin]; rfl)
      go_wp2_with fail
      go_ret2
      exact ⟨by rw [HL.out, HB.out]; rfl, hbel⟩
theorem search_any (A : Option Addr) (c B : Nat) (l : List Ent) (t : ByteArray) (w : World) (hr : Rd w B 3 A l.length (entCells l)) (hB : B ≤ w.heap.size) (hl : l.length ≤ 400) (hs : riseK (keysE l)) :
    Calls Tryz.prog 106 #[.slice A l.length c, .string t] w fun e w' => e = .returned (.tuple #[.int .i64 (lowK t (keysE l)), .bool (hasK t (keysE l))]) ∧ Below w.heap.size w w' := by
  have hb := bs_any A c B l t w hr hB hl hs
  generalize lowK t (keysE l) = i at *
  generalize hasK t (keysE l) = h at *
  go_enter Tryz.func106, Tryz.ntmps106
  go_wp2_with fail
  refine hb.mono ?_
  rintro e w1 ⟨rfl, hb1⟩
  go_wp2_with fail
  go_ret2
  exact ⟨rfl, hb1⟩
end Go.Proofs.YtcfijljagohmlaaGreatDoor
