/- BigOne WalkDig in one text. -/
import Derived.Test.YtcfijljagohmlaaGreatDoorBase2
import Derived.Test.YtcfijljagohmlaaGreatDoorProg
import Derived.Test.YtcfijljagohmlaaGreatDoorKeeps
import Derived.Laws.OwnMore
import Derived.Deep.CutBlock
import Derived.Deep.CutRange
import Derived.Deep.RegionHeld3
import Derived.Deep.RegionWith
import Derived.Deep.DrawnRows
import Derived.BigQuiet
import Derived.WideLaws
import Derived.Deep.QuietTactic
import Derived.StillTailTactics
import Derived.LoopN
import Derived.Laws.IdiomCopy
import Derived.Laws.BitsAllLaws
import Derived.Test.YtcfijljagohmlaaGreatDoorRowE
import Derived.Test.YtcfijljagohmlaaGreatDoorWalkNum
import Derived.Deep.LoopGhost
/- Numbers of words: what NewInt makes (out of BigNums). -/
/- Numbers as words of 32 bits, as plain data. No program in sight. -/
namespace Go.Proofs.YtcfijljagohmlaaGreatDoor
open Go.RowKit

def u4 (n : Nat) : Value := .int .u32 n
theorem u4s_one (l : List Nat) : ∀ u ∈ l.map u4, u.oneCell' = true := by
  intro u hu; obtain ⟨b, _, rfl⟩ := List.mem_map.1 hu; rfl
/-- How many words are left once the noughts at the end are gone. -/
def trimN : List Nat → Nat
  | [] => 0
  | x :: xs => if trimN xs = 0 then (if x = 0 then 0 else 1) else trimN xs + 1
theorem trimN_le : ∀ (l : List Nat), trimN l ≤ l.length := by
  intro l
  induction l with
  | nil => exact Nat.le_refl _
  | cons x xs ih =>
    rw [trimN]
    split
    · split <;> simp
    · simp only [List.length_cons]; omega
theorem trimN_is : ∀ {l : List Nat} {n : Nat}, n ≤ l.length → (∀ j, n ≤ j → j < l.length → l.getD j 0 = 0) → (0 < n → l.getD (n - 1) 0 ≠ 0) → trimN l = n := by
  intro l
  induction l with
  | nil => intro n h _ _; simp at h; simp [trimN, h]
  | cons x xs ih =>
    intro n h1 h2 h3
    rcases n with _ | n
    · have := ih (n := 0) (Nat.zero_le _) (fun j _ hj => by
        have := h2 (j + 1) (Nat.zero_le _) (by simp only [List.length_cons]; omega)
        simpa using this) (fun h => absurd h (by omega))
      have hx := h2 0 (Nat.le_refl _) (by simp)
      simp only [List.getD_cons_zero] at hx
      rw [trimN, if_pos this, if_pos hx]
    · simp only [List.length_cons] at h1
      have h4 := h3 (by omega)
      simp only [Nat.add_sub_cancel] at h4
      rcases n with _ | m
      · have := ih (n := 0) (Nat.zero_le _) (fun j _ hj => by
          have := h2 (j + 1) (by omega) (by simp only [List.length_cons]; omega)
          simpa using this) (fun h => absurd h (by omega))
        simp only [List.getD_cons_zero] at h4
        rw [trimN, if_pos this, if_neg h4]
      · have := ih (n := m + 1) (by omega) (fun j hj hjl => by
          have := h2 (j + 1) (by omega) (by simp only [List.length_cons]; omega)
          simpa using this) (fun _ => by simpa using h4)
        rw [trimN, if_neg (by omega), this]
def trimW (l : List Nat) : List Nat := l.take (trimN l)
/-- A number's words, the least first. -/
def wordsN (v : Nat) : List Nat := if v = 0 then [] else if v < 4294967296 then [v] else [v % 4294967296, v / 4294967296]
theorem trimW_two (v : Nat) : trimW [v % 4294967296, v / 4294967296] = wordsN v := by
  unfold trimW wordsN
  by_cases h0 : v = 0
  · subst h0; rfl
  · by_cases h1 : v < 4294967296
    · rw [if_neg h0, if_pos h1]
      have e1 : v % 4294967296 = v := Nat.mod_eq_of_lt h1
      have e2 : v / 4294967296 = 0 := Nat.div_eq_of_lt h1
      rw [e1, e2]
      simp [trimN, h0]
    · rw [if_neg h0, if_neg h1]
      have e2 : v / 4294967296 ≠ 0 := by
        have := Nat.div_le_div_right (c := 4294967296) (Nat.le_of_not_lt h1)
        omega
      simp [trimN, e2]
theorem wordsN_len (v : Nat) : (wordsN v).length ≤ 2 := by
  unfold wordsN
  split
  · simp
  · split <;> simp
theorem wordsN_small {v : Nat} (h : v < 4294967296) : (wordsN v).length ≤ 1 := by
  unfold wordsN
  split
  · simp
  · simp
theorem wordsN_lt {v : Nat} (h : v < 18446744073709551616) : ∀ x ∈ wordsN v, x < 4294967296 := by
  intro x hx
  unfold wordsN at hx
  split at hx
  · cases hx
  · split at hx
    · rw [List.mem_singleton.1 hx]; assumption
    · rcases List.mem_cons.1 hx with rfl | hx
      · exact Nat.mod_lt _ (by omega)
      · rw [List.mem_singleton.1 hx]; omega
theorem own_take {w : World} {base : Nat} {e : TypeId} {size n c k : Nat} {A : Option Addr} {xs : List Value} (h : w.ownsRow base e size (.slice A n c) n xs) (hk : k ≤ n) : w.ownsRow base e size (.slice A k c) k (xs.take (k * size)) := by
  obtain ⟨hl, h2⟩ := h
  refine ⟨by rw [List.length_take, hl]; exact Nat.min_eq_left (Nat.mul_le_mul_right _ hk), ?_⟩
  rcases h2 with ⟨hv, rfl⟩ | ⟨g, cap, cur, hv, hb, hg, hnc, hcm, hcs, htake⟩
  · cases hv
    have : k = 0 := by omega
    subst this
    exact .inl ⟨rfl, by simp⟩
  · injection hv with e1 e2 e3
    subst e1 e3
    refine .inr ⟨g, c, cur, rfl, hb, hg, by omega, hcm, hcs, ?_⟩
    rw [← htake, List.take_take]
    congr 1
    exact (Nat.min_eq_left (Nat.mul_le_mul_right _ hk)).symm
end Go.Proofs.YtcfijljagohmlaaGreatDoor

/- The walks of weirgatebig's trim, words, give, twin, SetInt64, NewInt. -/
namespace Go.Proofs.YtcfijljagohmlaaGreatDoor
open Go.RowKit

theorem el_u32 : Elt Tryz.prog 133 137 (.int .u32 0) 1 4 := ⟨Tryz.underlying133, by kernel_rfl, rfl, by omega, by omega⟩
/-- A word of a slice of words. -/
theorem Rd.word {w : World} {B n k : Nat} {A : Option Addr} {l : List Nat} (h : Rd w B 1 A n (l.map u4)) (hk : k < n) :
    ∃ ad, A = some ad ∧ ad.block < B ∧ w.cell? (ad.add k) = some (.int .u32 (l.getD k 0 : Nat)) := by
  obtain ⟨ad, u, rfl, hb, hu, hc⟩ := h.at_ hk
  refine ⟨ad, rfl, hb, hc.trans ?_⟩
  rw [← hu, List.getElem?_map, List.getD_eq_getElem?_getD]
  have hl : k < l.length := by have := h.1; simp at this; omega
  rw [List.getElem?_eq_getElem hl]
  rfl
set_option maxRecDepth 100000 in
set_option maxHeartbeats 1000000 in
theorem trim_any (A : Option Addr) (c B n : Nat) (l : List Nat) (w : World) (hr : Rd w B 1 A n (l.map u4)) (hln : l.length = n) (hn : n ≤ 140737488355328) (hc : n ≤ c) :
    Calls Tryz.prog 125 #[.slice A n c] w fun e w' => e = .returned (.slice A (trimN l) c) ∧ w = w' := by
  have HLN := Lib.hid hln
  clear hln
  go_enter Tryz.func125, Tryz.ntmps125
  go_wp2_with fail
  go_loop [3] (fun x => ∃ k : Nat, k ≤ n ∧ x = .int .i64 k ∧ Hid (∀ j, k ≤ j → j < l.length → l.getD j 0 = 0)) (fun x => (intOf x).toNat)
  case atStart => exact ⟨n, Nat.le_refl _, rfl, Lib.hid (fun j h1 h2 => by rw [HLN.out] at h2; omega)⟩
  obtain ⟨k, hk, rfl, HZ⟩ := hrel
  have fin : Hid ((k = 0 ∨ l.getD (k - 1) 0 ≠ 0) → trimN l = k) := Lib.hid fun h => by
    refine trimN_is (by rw [HLN.out]; exact hk) HZ.out fun h0 => ?_
    rcases h with h | h
    · omega
    · exact h
  rcases k with _ | m
  · have hT := Lib.hid (fin.out (.inl rfl))
    go_wp2_with fail
    go_ret
    exact ⟨by rw [hT.out]; rfl, rfl⟩
  · obtain ⟨ad, rfl, _, hcell⟩ := hr.word (k := m) (by omega)
    have hm0 : (0 : Int) ≤ (m : Int) := by omega
    have hm1 : (m : Int) < (n : Int) := by omega
    by_cases hz : l.getD m 0 = 0
    · have HZ2 : Hid (∀ j, m ≤ j → j < l.length → l.getD j 0 = 0) := Lib.hid fun j h1 h2 => by
        by_cases e : j = m
        · rw [e]; exact hz
        · exact HZ.out j (by omega) h2
      rw [hz] at hcell
      clear hz
      go_wp2_with fail
      go_round
      case rel => exact ⟨m, by omega, by go_num, HZ2⟩
      case measure => simp [intOf]
    · have hT := Lib.hid (fin.out (.inr hz))
      generalize l.getD m 0 = z at *
      have hz2 : ((z : Int) == 0) = false := by simpa using hz
      go_wp2_with fail
      go_ret
      exact ⟨by rw [hT.out]; rfl, rfl⟩
set_option maxRecDepth 100000 in
set_option maxHeartbeats 1000000 in
theorem words_any (v : Nat) (w : World) (hv : v < 18446744073709551616) :
    Calls Tryz.prog 124 #[.int .u64 v] w fun e w' => ∃ A c, e = .returned (.slice A (wordsN v).length c) ∧ w'.ownsRow w.heap.size 137 1 (.slice A (wordsN v).length c) (wordsN v).length ((wordsN v).map u4) ∧ Below w.heap.size w w' := by
  have hb := (Below.refl w.heap.size w).alloc (Nat.le_refl _) (.cells #[.int .u32 (v % 4294967296 : Nat), .int .u32 (v / 4294967296 : Nat)] 137)
  have hown := World.ownsRow_lit (base := w.heap.size) (e := 137) (size := 1) w #[.int .u32 (v % 4294967296 : Nat), .int .u32 (v / 4294967296 : Nat)] 2 (Nat.le_refl _) (by unfold maxLen; omega) rfl
  have hrd := own_rd hown
  have htr := trim_any (some ⟨w.heap.size, 0, none⟩) 2 _ 2 [v % 4294967296, v / 4294967296] _ hrd rfl (by omega) (Nat.le_refl _)
  have htk := own_take hown (k := trimN [v % 4294967296, v / 4294967296]) (trimN_le _)
  have HW := Lib.hid (trimW_two v)
  have HT := Lib.hid htk
  clear htk hrd
  go_enter Tryz.func124, Tryz.ntmps124
  have e1 : ((v % 4294967296 : Nat) : Int) = (v : Int) % 4294967296 := by omega
  have e2 : ((v / 4294967296 : Nat) : Int) = (v : Int) / 4294967296 := by omega
  rw [e1, e2] at htr hb
  rw [e1, e2] at HT
  clear e1 e2 hown
  go_wp2_with (first | (go_at_call 125; go_must (refine htr.mono ?_); rintro e w1 ⟨rfl, rfl⟩))
  go_ret
  have h := HT.out
  have hw := HW.out
  unfold trimW at hw
  have hl : trimN [v % 4294967296, v / 4294967296] = (wordsN v).length := by
    rw [← hw, List.length_take]
    exact (Nat.min_eq_left (trimN_le _)).symm
  have e1 : ((v % 4294967296 : Nat) : Int) = (v : Int) % 4294967296 := by omega
  have e2 : ((v / 4294967296 : Nat) : Int) = (v : Int) / 4294967296 := by omega
  have hx : (#[Value.int .u32 ((v : Int) % 4294967296), Value.int .u32 ((v : Int) / 4294967296)].toList.take (trimN [v % 4294967296, v / 4294967296] * 1)) = (wordsN v).map u4 := by
    rw [← hw, List.map_take, Nat.mul_one, ← e1, ← e2]; rfl
  rw [hx, hl] at h
  exact ⟨_, _, by rw [hl]; rfl, h, hb⟩
/-- A number of words behind a pointer: its sign, its words. -/
structure BigW (w : World) (g : Nat) (neg : Bool) (l : List Nat) : Prop where
  ex : ∃ A c, Blk w g 135 #[.bool neg, .slice A l.length c] ∧ w.ownsRow 0 137 1 (.slice A l.length c) l.length (l.map u4)
theorem BigW.up {w w' : World} {g : Nat} {neg : Bool} {l : List Nat} (h : BigW w g neg l) (hb : Below w.heap.size w w') : BigW w' g neg l := by
  obtain ⟨A, c, h1, h2⟩ := h.ex
  exact ⟨A, c, h1.up hb, own_up h2 hb⟩
theorem BigW.lt {w : World} {g : Nat} {neg : Bool} {l : List Nat} (h : BigW w g neg l) : g < w.heap.size := by
  obtain ⟨A, c, h1, h2⟩ := h.ex
  exact h1.lt
theorem own_blk {w : World} {base n size g : Nat} {e t : TypeId} {v : Value} {xs : List Value} {cs : Array Value} (h : w.ownsRow base e size v n xs) (hb : Blk w g t cs) (hne : e ≠ t) : ∀ k, v.ownBlock = some k → k ≠ g := by
  intro k hk e1
  rcases h.2 with ⟨rfl, _⟩ | ⟨g1, c1, u1, rfl, _, k1, _⟩
  · cases hk
  · simp [Value.ownBlock] at hk
    subst hk
    subst e1
    unfold Blk at hb
    rw [k1] at hb
    injection hb with hb
    injection hb with _ hb
    exact hne hb
/-- Another number's block is written. -/
theorem BigW.other {w w' : World} {g g' : Nat} {neg : Bool} {l : List Nat} {cs : Array Value} (h : BigW w g neg l) (hb : Blk w g' 135 cs) (hne : g ≠ g') (hg : w.grownBy w' (some g')) : BigW w' g neg l := by
  obtain ⟨A, c, h1, h2⟩ := h.ex
  exact ⟨A, c, h1.grown hg (fun e => hne (by injection e)), own_far h2 hg (fun k hk e => own_blk h2 hb (by decide) k hk (by injection e with e; exact e.symm))⟩
set_option maxRecDepth 100000 in
set_option maxHeartbeats 1000000 in
theorem give_any (g c : Nat) (A : Option Addr) (neg : Bool) (x y : Value) (l : List Nat) (w : World) (hb : Blk w g 135 #[x, y]) (ho : w.ownsRow 0 137 1 (.slice A l.length c) l.length (l.map u4)) :
    Calls Tryz.prog 89 #[.pointer (some ⟨g, 0, none⟩), .bool neg, .slice A l.length c] w fun e w' => e = .returned (.pointer (some ⟨g, 0, none⟩)) ∧ BigW w' g (neg && decide (0 < l.length)) l ∧ w.grownBy w' (some g) := by
  have c0 := hb.cell 0
  have c1 := hb.cell 1
  have f0 := hb.frozen 0
  have f1 := hb.frozen 1
  simp at c0 c1
  have HB := Lib.hid hb
  have hne := Lib.hid (own_blk ho hb (by decide))
  have HO := Lib.hid ho
  have hlt := hb.lt
  have fin : ∀ b : Bool, b = (neg && decide (0 < l.length)) → BigW ((w.setCell ⟨g, 1, none⟩ (.slice A l.length c)).setCell ⟨g, 0, none⟩ (.bool b)) g (neg && decide (0 < l.length)) l ∧ w.grownBy ((w.setCell ⟨g, 1, none⟩ (.slice A l.length c)).setCell ⟨g, 0, none⟩ (.bool b)) (some g) := fun b e => by
    have hg : w.grownBy ((w.setCell ⟨g, 1, none⟩ (.slice A l.length c)).setCell ⟨g, 0, none⟩ (.bool b)) (some g) := only_set (only_set (only_refl w (some g)) 1 _) 0 _
    refine ⟨⟨A, c, ?_, own_far HO.out hg (fun k hk e => hne.out k hk (by injection e with e; exact e.symm))⟩, hg⟩
    have := (HB.out.set_ 1 (.slice A l.length c)).set_ 0 (.bool b)
    rw [e] at this ⊢
    simpa using this
  have FIN := Lib.hid fin
  clear hb ho fin
  generalize l.length = n at *
  go_enter Tryz.func89, Tryz.ntmps89
  cases neg with
  | false =>
    go_wp2_with fail
    go_ret
    exact ⟨rfl, FIN.out false rfl⟩
  | true =>
    go_wp2_with fail
    go_ret
    exact ⟨rfl, FIN.out (decide (0 < n)) rfl⟩
theorem keeps_row {w w' : World} {row : Option Nat} (hb : Below w.heap.size w w') : w.grownBy w' row := ⟨hb.os, hb.tape, hb.output, hb.size, fun k hk _ => hb.block k hk⟩
theorem wordsN_pos {v : Nat} (h : 0 < v) : 0 < (wordsN v).length := by
  unfold wordsN
  rw [if_neg (by omega)]
  split <;> simp
set_option maxRecDepth 100000 in
set_option maxHeartbeats 1000000 in
theorem set64_any (g : Nat) (x : Int) (a b : Value) (w : World) (hb : Blk w g 135 #[a, b]) (h1 : -9223372036854775808 ≤ x) (h2 : x ≤ 9223372036854775807) :
    Calls Tryz.prog 86 #[.pointer (some ⟨g, 0, none⟩), .int .i64 x] w fun e w' => e = .returned (.pointer (some ⟨g, 0, none⟩)) ∧ BigW w' g (decide (x < 0)) (wordsN x.natAbs) ∧ w.grownBy w' (some g) := by
  obtain ⟨v, hv⟩ : ∃ v, v = x.natAbs := ⟨_, rfl⟩
  have hw := words_any v w (by omega)
  have HGI := Lib.hid (fun W A c neg (hb : Blk W g 135 #[a, b]) ho => give_any g c A neg a b (wordsN v) W hb ho)
  have HP := Lib.hid (@wordsN_pos v)
  have HB := Lib.hid hb
  rw [← hv]
  go_enter Tryz.func86, Tryz.ntmps86
  by_cases hx : x < 0
  · have hD : Hid (decide (x < 0) = true) := Lib.hid (decide_eq_true hx)
    have hvx : v = (-x).toNat := by omega
    have HV : Hid (IntKind.u64.wrap (-(IntKind.u64.wrap x)) = (v : Int)) := Lib.hid (by rw [IntKind.wrap_u64, IntKind.wrap_u64]; omega)
    have hp := HP.out (by omega)
    clear hb hv hvx
    go_upto_region 4 with fail
    rw [HV.out]
    go_wp2_with (first
      | (go_at_call 124; go_must (refine hw.mono ?_); rintro e w1 ⟨A, c, rfl, ho, hb1⟩; have hgi := HGI.out w1 A c true (HB.out.up hb1) (own_base ho (Nat.zero_le _)))
      | (go_at_call 89; go_must (refine hgi.mono ?_); rintro e w2 ⟨rfl, hbw, hg2⟩))
    go_ret
    rw [decide_eq_true hp] at hbw
    exact ⟨rfl, by rw [hD.out]; exact hbw, only_trans (keeps_row hb1) hg2⟩
  · have hD : Hid (decide (x < 0) = false) := Lib.hid (decide_eq_false hx)
    have hxv : x = (v : Int) := by omega
    subst hxv
    clear hb hv
    go_wp2_with (first
      | (go_at_call 124; go_must (refine hw.mono ?_); rintro e w1 ⟨A, c, rfl, ho, hb1⟩; have hgi := HGI.out w1 A c false (HB.out.up hb1) (own_base ho (Nat.zero_le _)))
      | (go_at_call 89; go_must (refine hgi.mono ?_); rintro e w2 ⟨rfl, hbw, hg2⟩))
    go_ret
    exact ⟨rfl, by rw [hD.out]; exact hbw, only_trans (keeps_row hb1) hg2⟩
set_option maxRecDepth 100000 in
set_option maxHeartbeats 1000000 in
theorem newint_any (x : Int) (w : World) (h1 : -9223372036854775808 ≤ x) (h2 : x ≤ 9223372036854775807) :
    Calls Tryz.prog 50 #[.int .i64 x] w fun e w' => e = .returned (.pointer (some ⟨w.heap.size, 0, none⟩)) ∧ BigW w' w.heap.size (decide (x < 0)) (wordsN x.natAbs) ∧ Below w.heap.size w w' := by
  have hb := Blk.new w 135 #[.bool false, .slice none 0 0]
  have hs := set64_any w.heap.size x _ _ _ hb h1 h2
  have hb0 := (Below.refl w.heap.size w).alloc (Nat.le_refl _) (.cells #[.bool false, .slice none 0 0] 135)
  go_enter Tryz.func50, Tryz.ntmps50
  go_wp2_with (first
    | (go_at_call 86; go_must (refine hs.mono ?_); rintro e w1 ⟨rfl, hbw, hg⟩))
  go_ret
  exact ⟨rfl, hbw, hb0.grown hg (by simp) (fun k hk => by cases hk; exact Nat.le_refl _)⟩
end Go.Proofs.YtcfijljagohmlaaGreatDoor

/- The walks of weirgatebig's twin, plain, Uint64, Int64. -/
namespace Go.Proofs.YtcfijljagohmlaaGreatDoor
open Go.RowKit

set_option maxRecDepth 100000 in
set_option maxHeartbeats 1000000 in
theorem twin_any (A : Option Addr) (c n : Nat) (l : List Nat) (w : World) (ho : w.ownsRow 0 137 1 (.slice A n c) n (l.map u4)) (hn : n ≤ 1000000) :
    Calls Tryz.prog 131 #[.slice A n c] w fun e w' => ∃ A' c', e = .returned (.slice A' n c') ∧ w'.ownsRow w.heap.size 137 1 (.slice A' n c') n (l.map u4) ∧ Below w.heap.size w w' := by
  have hr := own_rd ho
  have hnil := World.ownsRow_nil w w.heap.size 137 1
  have h1 := u4s_one l
  clear ho
  go_enter Tryz.func131, Tryz.ntmps131
  go_wp2_with (first
    | (with_reducible show wpList _ _ _ (⟨some 4, _, _, _, _, _⟩ :: _) _ _; go_must (refine wpList_rd (.const (.slice none 0 0)) (.tmp 3) el_u32 rfl rfl hnil rfl hr rfl h1 (by omega) (Nat.le_refl _) ?_); intro v1 w1 hown1 hb1 hg1 ha1))
  go_ret
  simp only [Nat.zero_add, List.nil_append] at hown1
  obtain ⟨A', c', rfl, _⟩ := own_form hown1
  exact ⟨A', c', rfl, hown1, hb1⟩
theorem or_shift {x y : Nat} (hx : x < 4294967296) (hy : y < 4294967296) : bits BinOp.or IntKind.u64 (x : Int) ((y : Int) * 4294967296) = ((x + y * 4294967296 : Nat) : Int) := by
  have e : (y : Int) * 4294967296 = ((y * 4294967296 : Nat) : Int) := by omega
  rw [e, u64_or_nat x (y * 4294967296) (by omega) (by omega)]
  congr 1
  have h := Nat.two_pow_add_eq_or_of_lt (i := 32) (b := x) (by omega) y
  rw [Nat.or_comm]
  have e2 : y * 4294967296 = 2 ^ 32 * y := by omega
  rw [e2, ← h]
  omega
end Go.Proofs.YtcfijljagohmlaaGreatDoor

/- The walk of weirgatebig's small, Text, String and of Digits: that they end, with some text. -/
namespace Go.Proofs.YtcfijljagohmlaaGreatDoor
open Go.RowKit

def OwnW (w : World) (v : Value) (n : Nat) : Prop := ∃ A c, v = .slice A (wordsN n).length c ∧ w.ownsRow 0 137 1 (.slice A (wordsN n).length c) (wordsN n).length ((wordsN n).map u4)
theorem OwnW.up {w w' : World} {v : Value} {n : Nat} (h : OwnW w v n) (hb : Below w.heap.size w w') : OwnW w' v n := by
  obtain ⟨A, c, h1, h2⟩ := h
  exact ⟨A, c, h1, own_up h2 hb⟩
theorem OwnW.drew {w : World} {v : Value} {n : Nat} (h : OwnW w v n) : OwnW w.drew v n := by
  obtain ⟨A, c, h1, h2⟩ := h
  exact ⟨A, c, h1, own_drew h2⟩
theorem own_at_blk {w : World} {g n : Nat} {t : TypeId} {cs : Array Value} (h : Blk w g t cs) (hn : cs.size = n) (hm : n ≤ maxLen) : w.ownsRow 0 t 1 (.slice (some ⟨g, 0, none⟩) n n) n cs.toList := by
  refine ⟨by simp [hn], .inr ⟨g, n, cs, rfl, Nat.zero_le _, h, Nat.le_refl _, hm, by omega, ?_⟩⟩
  rw [Nat.mul_one, ← hn, ← Array.length_toList, List.take_length]
theorem trim_blk (g n v : Nat) (cs : Array Value) (l : List Nat) (W : World) (hb : Blk W g 137 cs) (hl : cs.toList = l.map u4) (hn : l.length = n) (hm : n ≤ 140737488355328) (hw : trimW l = wordsN v) :
    Calls Tryz.prog 125 #[.slice (some ⟨g, 0, none⟩) n n] W fun e w' => ∃ z, e = .returned z ∧ OwnW w' z v ∧ W = w' := by
  have hs : cs.size = n := by rw [← Array.length_toList, hl, List.length_map, hn]
  have hown := own_at_blk hb hs (by unfold maxLen; omega)
  rw [hl] at hown
  refine (trim_any (some ⟨g, 0, none⟩) n _ n l W (own_rd hown) hn hm (Nat.le_refl _)).mono ?_
  rintro e w1 ⟨rfl, rfl⟩
  have h := own_take hown (k := trimN l) (by rw [← hn]; exact trimN_le _)
  have hl2 : trimN l = (wordsN v).length := by
    rw [← hw, trimW, List.length_take]
    exact (Nat.min_eq_left (trimN_le _)).symm
  have hx : (l.map u4).take (trimN l * 1) = (wordsN v).map u4 := by
    rw [← hw, trimW, List.map_take, Nat.mul_one]
  rw [hx, hl2] at h
  exact ⟨_, rfl, ⟨_, _, by rw [hl2], h⟩, rfl⟩
theorem wordsN_one {v : Nat} (h0 : v ≠ 0) (hv : v < 4294967296) : wordsN v = [v] := by rw [wordsN, if_neg h0, if_pos hv]
theorem wordsN_two {v : Nat} (hv : ¬ v < 4294967296) : wordsN v = [v % 4294967296, v / 4294967296] := by rw [wordsN, if_neg (by omega), if_neg hv]
theorem trimW_one (v : Nat) (hv : v < 4294967296) : trimW [v] = wordsN v := by
  by_cases h : v = 0
  · subst h; rfl
  · rw [wordsN_one h hv]
    unfold trimW
    rw [trimN_is (l := [v]) (n := 1) (by simp) (fun j h1 h2 => by simp at h2; omega) (fun _ => by simpa using h)]
    rfl
set_option maxRecDepth 100000 in
set_option maxHeartbeats 2000000 in
theorem small_one (A : Addr) (c v : Nat) (w : World) (ha : w.cell? A = some (.int .u32 v)) (hA : A.block < w.heap.size) (hv : v < 4294967296) :
    Calls Tryz.prog 132 #[.slice (some A) 1 c, .int .u32 10] w fun e w' => ∃ z, e = .returned (.tuple #[z, .int .u32 (v % 10 : Nat)]) ∧ OwnW w' z (v / 10) ∧ Below w.heap.size w w' := by
  have hmk : ∀ w : World, (Instr.makeSlice 133 (.int .i64 1) (.int .i64 1)).run Tryz.prog w = .ok (.slice (some ⟨w.heap.size, 0, none⟩) 1 1) (w.alloc (.cells #[.int .u32 0] 137)) := fun _ => by kernel_rfl
  go_enter Tryz.func132, Tryz.ntmps132
  go_wp2_with fail
  refine wp_loop_rounds 2 ?_
  rw [rounds_succ]
  go_wp2_with fail
  rw [rounds_succ]
  go_wp2_with fail
  have HB1 : bits BinOp.or IntKind.u64 0 (v : Int) = (v : Int) := by
    have := u64_or_nat 0 v (by omega) (by omega)
    simpa using this
  have HQ : IntKind.u64.wrap ((v : Int).tdiv 10) % 4294967296 = ((v / 10 : Nat) : Int) := by
    have e : (v : Int).tdiv 10 = ((v / 10 : Nat) : Int) := by
      rw [Int.tdiv_eq_ediv_of_nonneg (by omega)]; omega
    rw [e, IntKind.wrap_u64]; omega
  have HR : (v : Int).tmod 10 = ((v % 10 : Nat) : Int) := by
    rw [Int.tmod_eq_emod_of_nonneg (by omega)]; omega
  rw [HB1, HQ, HR]
  have htr := trim_blk w.heap.size 1 (v / 10) #[.int .u32 (v / 10 : Nat)] [v / 10] (w.alloc (.cells #[.int .u32 (v / 10 : Nat)] 137)) (Blk.new _ _ _) rfl rfl (by omega) (trimW_one _ (by omega))
  have hb := (Below.refl w.heap.size w).alloc (Nat.le_refl _) (.cells #[.int .u32 (v / 10 : Nat)] 137)
  have HV : Hid (IntKind.u32.wrap ((v % 10 : Nat) : Int) = ((v % 10 : Nat) : Int)) := Lib.hid (by rw [IntKind.wrap_u32]; omega)
  refine htr.mono ?_
  rintro e w1 ⟨z, rfl, hz, rfl⟩
  go_wp2_with fail
  go_ret2
  exact ⟨z, by rfl, hz, hb⟩
set_option maxRecDepth 100000 in
set_option maxHeartbeats 2000000 in
theorem small_two (A : Addr) (c x y : Nat) (w : World) (ha : w.cell? A = some (.int .u32 x)) (ha1 : w.cell? ⟨A.block, A.off + 1, none⟩ = some (.int .u32 y)) (hA : A.block < w.heap.size) (hx : x < 4294967296) (hy : y < 4294967296) :
    Calls Tryz.prog 132 #[.slice (some A) 2 c, .int .u32 10] w fun e w' => ∃ z, e = .returned (.tuple #[z, .int .u32 ((x + y * 4294967296) % 10 : Nat)]) ∧ OwnW w' z ((x + y * 4294967296) / 10) ∧ Below w.heap.size w w' := by
  have hmk : ∀ w : World, (Instr.makeSlice 133 (.int .i64 2) (.int .i64 2)).run Tryz.prog w = .ok (.slice (some ⟨w.heap.size, 0, none⟩) 2 2) (w.alloc (.cells #[.int .u32 0, .int .u32 0] 137)) := fun _ => by kernel_rfl
  go_enter Tryz.func132, Tryz.ntmps132
  go_wp2_with fail
  refine wp_loop_rounds 3 ?_
  rw [rounds_succ]
  go_wp2_with fail
  rw [rounds_succ]
  go_wp2_with fail
  rw [rounds_succ]
  go_wp2_with fail
  have B1 : bits BinOp.or IntKind.u64 0 (y : Int) = (y : Int) := by
    have := u64_or_nat 0 y (by omega) (by omega)
    simpa using this
  have R1 : (y : Int).tmod 10 = ((y % 10 : Nat) : Int) := by
    rw [Int.tmod_eq_emod_of_nonneg (by omega)]; omega
  have W1 : IntKind.u64.wrap (((y % 10 : Nat) : Int) * 4294967296) = ((y % 10 : Nat) : Int) * 4294967296 := by
    rw [IntKind.wrap_u64]; omega
  have B2 : bits BinOp.or IntKind.u64 (((y % 10 : Nat) : Int) * 4294967296) (x : Int) = ((x + y % 10 * 4294967296 : Nat) : Int) := by
    have e : ((y % 10 : Nat) : Int) * 4294967296 = ((y % 10 * 4294967296 : Nat) : Int) := by omega
    rw [e, u64_or_nat (y % 10 * 4294967296) x (by omega) (by omega)]
    congr 1
    have h := Nat.two_pow_add_eq_or_of_lt (i := 32) (b := x) (by omega) (y % 10)
    have e2 : y % 10 * 4294967296 = 2 ^ 32 * (y % 10) := by omega
    rw [e2, ← h]
    omega
  obtain ⟨V, hV⟩ : ∃ V, V = (x + y * 4294967296) / 10 := ⟨_, rfl⟩
  have Q0 : IntKind.u64.wrap (((x + y % 10 * 4294967296 : Nat) : Int).tdiv 10) % 4294967296 = ((V % 4294967296 : Nat) : Int) := by
    rw [Int.tdiv_eq_ediv_of_nonneg (by omega), IntKind.wrap_u64]; omega
  have Q1 : IntKind.u64.wrap ((y : Int).tdiv 10) % 4294967296 = ((V / 4294967296 : Nat) : Int) := by
    have hq : V / 4294967296 = y / 10 := by
      rw [hV, Nat.div_div_eq_div_mul, show 10 * 4294967296 = 4294967296 * 10 from rfl, ← Nat.div_div_eq_div_mul]
      congr 1
      omega
    rw [Int.tdiv_eq_ediv_of_nonneg (by omega), IntKind.wrap_u64, hq]
    clear Q0 B2 hV hq
    omega
  have RR : ((x + y % 10 * 4294967296 : Nat) : Int).tmod 10 = (((x + y * 4294967296) % 10 : Nat) : Int) := by
    rw [Int.tmod_eq_emod_of_nonneg (by omega)]; omega
  rw [B1, R1, W1, B2, Q0, Q1, RR]
  have HV := Lib.hid hV
  clear hV Q0 Q1 B1 R1 W1 B2 RR
  have htr := trim_blk w.heap.size 2 V #[.int .u32 (V % 4294967296 : Nat), .int .u32 (V / 4294967296 : Nat)] [V % 4294967296, V / 4294967296] (w.alloc (.cells #[.int .u32 (V % 4294967296 : Nat), .int .u32 (V / 4294967296 : Nat)] 137)) (Blk.new _ _ _) rfl rfl (by omega) (trimW_two V)
  have hb := (Below.refl w.heap.size w).alloc (Nat.le_refl _) (.cells #[.int .u32 (V % 4294967296 : Nat), .int .u32 (V / 4294967296 : Nat)] 137)
  refine htr.mono ?_
  rintro e w1 ⟨z, rfl, hz, rfl⟩
  go_wp2_with fail
  go_ret2
  exact ⟨z, by rfl, by rw [← HV.out]; exact hz, hb⟩
/-- A word that is not nought, or two. -/
theorem small_own (x : Value) (v : Nat) (w : World) (h : OwnW w x v) (h0 : v ≠ 0) (hv : v < 18446744073709551616) :
    Calls Tryz.prog 132 #[x, .int .u32 10] w fun e w' => ∃ z, e = .returned (.tuple #[z, .int .u32 (v % 10 : Nat)]) ∧ OwnW w' z (v / 10) ∧ Below w.heap.size w w' := by
  obtain ⟨A, c, rfl, ho⟩ := h
  have hr := own_rd ho
  by_cases h1 : v < 4294967296
  · rw [wordsN_one h0 h1] at hr ⊢
    obtain ⟨ad, rfl, hb, hc⟩ := hr.word (k := 0) (by simp)
    simp only [List.getD_cons_zero, Addr.add, if_true] at hc
    exact small_one ad c v w hc hb h1
  · rw [wordsN_two h1] at hr ⊢
    obtain ⟨ad, rfl, hb, hc⟩ := hr.word (k := 0) (by simp)
    obtain ⟨ad', e1, _, hc1⟩ := hr.word (k := 1) (by simp)
    injection e1 with e1
    subst e1
    simp only [List.getD_cons_zero, Addr.add, if_true] at hc
    have hc1' : w.cell? ⟨ad.block, ad.off + 1, none⟩ = some (.int .u32 (v / 4294967296 : Nat)) := by
      simpa [Addr.add] using hc1
    have := small_two ad c (v % 4294967296) (v / 4294967296) w hc hc1' hb (by omega) (by omega)
    have e : v % 4294967296 + v / 4294967296 * 4294967296 = v := by omega
    rw [e] at this
    exact this
theorem own_set1 {w : World} {base n c g i : Nat} {e : TypeId} {xs : List Value} (h : w.ownsRow base e 1 (.slice (some ⟨g, 0, none⟩) n c) n xs) (hi : i < n) (u : Value) : (w.setCell ⟨g, i, none⟩ u).ownsRow base e 1 (.slice (some ⟨g, 0, none⟩) n c) n (xs.set i u) := by
  obtain ⟨h1, hb, hn, hc⟩ := shape_own h
  have hl := h.1
  obtain ⟨A', c', e', _, _, _, hr⟩ := own_form h
  injection e' with e1 _ e2
  subst e1 e2
  obtain ⟨adr, he, hab, hcl0⟩ := hr.2 (by omega)
  injection he with he
  subst he
  have hadd : ∀ j, (Addr.add ⟨g, 0, none⟩ j : Addr) = ⟨g, j, none⟩ := fun j => by
    unfold Addr.add
    split
    · rename_i h0; rw [h0]
    · simp
  have hcl : ∀ j v, xs[j]? = some v → w.cell? ⟨g, j, none⟩ = some v := fun j v hj => by
    have := hcl0 j v hj
    rwa [hadd] at this
  refine own_shape (h1.set_ _ _ _) hb hn hc (by rw [List.length_set]; exact hl) fun j v hj => ?_
  rw [List.getElem?_set] at hj
  by_cases hij : i = j
  · subst hij
    rw [if_pos rfl, if_pos (by rw [hl]; omega)] at hj
    injection hj with hj
    subst hj
    exact World.cell?_setCells_in g [u] i w (fun k hk => h1.some_ (by simp at hk; omega)) 0 (by simp)
  · rw [if_neg hij] at hj
    rw [show w.setCell ⟨g, i, none⟩ u = w.setCells g i [u] from rfl, World.cell?_setCells_out g [u] i w ⟨g, j, none⟩ (fun _ _ => by show j < i ∨ i + 1 ≤ j; omega)]
    exact hcl j v hj
theorem OwnW.apart {w w' : World} {z v : Value} {n b m : Nat} {xs : List Value} (h : OwnW w z n) (ho : w.ownsRow b 5 1 v m xs) (hg : w.grownBy w' v.ownBlock) : OwnW w' z n := by
  obtain ⟨A, c, rfl, h1⟩ := h
  refine ⟨A, c, rfl, own_far h1 hg fun g hg1 hg2 => ?_⟩
  rcases h1.2 with ⟨e1, _⟩ | ⟨g1, c1, u1, e1, _, k1, _⟩
  · rw [e1] at hg1; cases hg1
  · rcases ho.2 with ⟨e2, _⟩ | ⟨g2, c2, u2, e2, _, k2, _⟩
    · rw [e2] at hg2; cases hg2
    · rw [e1] at hg1
      rw [e2] at hg2
      simp [Value.ownBlock] at hg1 hg2
      subst hg1
      subst hg2
      rw [k1] at k2
      injection k2 with k2
      injection k2 with _ k2
      exact absurd k2 (by decide)
theorem digit_byte {r : Nat} (h : r < 10) : Value.int .u8 (48 + (r : Int)) = bv (UInt8.ofNat (48 + r)) := by
  unfold bv
  congr 1
  rw [UInt8.toNat_ofNat']
  omega
/-- A byte of a row of the call's own. -/
theorem own_byte {w : World} {base n c k : Nat} {A : Option Addr} {L : List UInt8} (h : w.ownsRow base 5 1 (.slice A n c) n (L.map bv)) (hk : k < n) : ∃ g x, A = some ⟨g, 0, none⟩ ∧ base ≤ g ∧ w.cell? ⟨g, k, none⟩ = some (bv x) ∧ w.frozen? ⟨g, k, none⟩ = false ∧ (∀ y, (L.map bv).set k (bv y) = (L.set k y).map bv) := by
  rcases h.2 with ⟨e0, e1⟩ | ⟨g, cap, cur, e0, _⟩
  · omega
  · injection e0 with e1 _ e2
    subst e1 e2
    obtain ⟨h1, hb, hn, hc⟩ := shape_own h
    obtain ⟨A', c', e', _, _, _, hr⟩ := own_form h
    injection e' with e1 _ e2
    subst e1 e2
    obtain ⟨adr, he, hab, hcl0⟩ := hr.2 (by omega)
    injection he with he
    subst he
    have hl : k < L.length := by have := h.1; simp at this; omega
    have := hcl0 k (bv L[k]) (by rw [List.getElem?_map, List.getElem?_eq_getElem hl]; rfl)
    have hadd : (Addr.add ⟨g, 0, none⟩ k : Addr) = ⟨g, k, none⟩ := by
      unfold Addr.add
      split
      · rename_i h0; rw [h0]
      · simp
    rw [hadd] at this
    exact ⟨g, L[k], rfl, hb, this, h1.frozen k, fun y => by rw [List.map_set]⟩
set_option maxRecDepth 100000 in
set_option maxHeartbeats 4000000 in
theorem btext_any (g v : Nat) (neg : Bool) (w : World) (h : BigW w g neg (wordsN v)) (hv : v < 18446744073709551616) :
    Calls Tryz.prog 95 #[.pointer (some ⟨g, 0, none⟩), .int .i64 10] w fun e w' => ∃ d, e = .returned (.string d) ∧ Below w.heap.size w w' := by
  obtain ⟨A, c, hb, ho⟩ := h.ex
  have c0 := hb.cell 0
  have c1 := hb.cell 1
  simp at c0 c1
  have hlb := hb.lt
  by_cases h0 : v = 0
  · subst h0
    have hw0 : (wordsN 0).length = 0 := rfl
    rw [hw0] at c1
    clear h hb ho
    go_enter Tryz.func95, Tryz.ntmps95
    go_wp2_with fail
    go_ret
    exact ⟨_, rfl, Below.refl _ _⟩
  · have hwp := wordsN_pos (v := v) (by omega)
    have htw := twin_any A c (wordsN v).length (wordsN v) w ho (by have := wordsN_len v; omega)
    have hwl : (((wordsN v).length : Int) == 0) = false := by rw [beq_eq_false_iff_ne]; omega
    have HWL : Hid ((wordsN v).length = (wordsN v).length) := Lib.hid rfl
    generalize hwn : (wordsN v).length = wl at *
    have HWN := Lib.hid hwn
    clear h hb ho hwn
    go_enter Tryz.func95, Tryz.ntmps95
    go_upto_region 7 with (go_at_call 131; go_must (refine htw.mono ?_); rintro e w1 ⟨A1, cc1, rfl, own1, hb1⟩)
    have hz0 : OwnW w1 (.slice A1 wl cc1) v := ⟨A1, cc1, by rw [HWN.out], by rw [HWN.out]; exact own_base own1 (Nat.zero_le _)⟩
    have hv1 := Below.cell (p := ⟨g, 0, none⟩) hb1 hlb
    clear own1 htw
    generalize Value.slice A1 wl cc1 = z0 at *
    go_wp2_with fail
    go_loopg [5, 6] v (fun gg b z wr => ∃ (v' : Nat) (L : List UInt8), v' ≤ gg ∧ OwnW wr z v' ∧ v' ≤ v ∧ wr.ownsRow w.heap.size 5 1 b L.length (L.map bv) ∧ L.length ≤ 64 ∧ Hid (0 < v' → v' * 2 ^ L.length ≤ v) ∧ Below w.heap.size w wr)
    case atStart => exact ⟨v, [], Nat.le_refl _, hz0, Nat.le_refl _, World.ownsRow_nil _ _ _ _, by simp, Lib.hid (fun _ => by simp), hb1⟩
    case round =>
      obtain ⟨v', L, hgg, hz, hvv, hrow, hL, HB, hbel⟩ := hrel
      have hws := hbel.size
      by_cases hv0 : v' = 0
      · subst hv0
        obtain ⟨A2, c2, rfl, _⟩ := hz
        have e0 := (hbel.cell (p := ⟨g, 0, none⟩) hlb).trans c0
        rw [show (wordsN 0).length = 0 from rfl]
        have hby : (L.length + 1) * 1 ≤ 140737488355328 := by omega
        cases neg with
        | false =>
          go_upto_region 15 with fail
          obtain ⟨Ab, cb, hbe, _, _, _, _⟩ := own_form hrow
          obtain ⟨nb, hnb⟩ : ∃ nb, nb = L.length := ⟨_, rfl⟩
          have hrowB := hrow
          rw [← hnb] at hrowB hbe
          subst hbe
          have HNB := Lib.hid hnb
          have hnb64 : nb ≤ 70 := by rw [hnb]; first | omega | (simp; omega)
          clear hnb
          go_wp2_with fail
          go_loopw [8, 9] (fun i j wr => ∃ (k : Nat) (L : List UInt8), k ≤ nb ∧ i = .int .i64 k ∧ j = .int .i64 ((nb : Int) - 1 - k) ∧ wr.ownsRow w.heap.size 5 1 (.slice Ab nb cb) nb (L.map bv) ∧ Below w.heap.size w wr) (fun _ j _ => (intOf j).toNat)
          case atStart => exact ⟨0, _, Nat.zero_le _, rfl, by simp, hrowB, hbel⟩
          clear hrowB
          obtain ⟨k, L2, hk, rfl, rfl, hrowB, hbelB⟩ := hrel
          have hwsB := hbelB.size
          by_cases hlk : (k : Int) < (nb : Int) - 1 - k
          · obtain ⟨mm, hmm⟩ : ∃ mm : Nat, mm = nb - 1 - k := ⟨_, rfl⟩
            have hmi : (nb : Int) - 1 - k = (mm : Int) := by omega
            rw [hmi] at hlk ⊢
            have HMI := Lib.hid hmi
            obtain ⟨gb, bx, rfl, hgb, k0, f0, s0⟩ := own_byte hrowB (k := k) (by omega)
            obtain ⟨gb2, by_, e2, _, k1, f1, s1⟩ := own_byte hrowB (k := mm) (by omega)
            injection e2 with e2
            injection e2 with e2
            subst e2
            have hd := own_set1 (own_set1 hrowB (i := k) (by omega) (bv by_)) (i := mm) (by omega) (bv bx)
            rw [s0] at hd
            have hd2 : ∃ L3 : List UInt8, ((wr.setCell ⟨gb, k, none⟩ (bv by_)).setCell ⟨gb, mm, none⟩ (bv bx)).ownsRow w.heap.size 5 1 (.slice (some ⟨gb, 0, none⟩) nb cb) nb (L3.map bv) := ⟨(L2.set k by_).set mm bx, by rw [List.map_set]; exact hd⟩
            have HD2 := Lib.hid hd2
            have hkm : ¬ (k = mm) := by omega
            have hmk : ¬ (mm = k) := by omega
            have hk0 : (0 : Int) ≤ (k : Int) := by omega
            have hk1 : (k : Int) < (nb : Int) := by omega
            have hm0 : (0 : Int) ≤ (mm : Int) := by omega
            have hm1 : (mm : Int) < (nb : Int) := by omega
            have HMM := Lib.hid hmm
            unfold bv at k0 k1
            clear hd hd2 s0 s1 hmm
            go_wp2_with fail
            obtain ⟨L3, hd3⟩ := HD2.out
            go_roundw
            case rel => exact ⟨k + 1, L3, by omega, by go_num, by have := HMM.out; have := HMI.out; congr 1; omega, hd3, (hbelB.setCell hgb _).setCell hgb _⟩
            case measure => simp [intOf]; omega
          · have q1 := run_string_rd (P := Tryz.prog) (c := cb) Tryz.underlying23 Tryz.underlying5 Tryz.underlying9 (own_rd hrowB)
            go_wp2_with fail
            go_ret
            exact ⟨⟨_, rfl⟩, hbelB⟩
        | true =>
          go_upto_region 15 with (first
            | (with_reducible show wpList _ _ _ (⟨some 55, _, _, _, _, _⟩ :: _) _ _; go_must (refine wpList_newg (.tmp 53) (.tmp 54) el_u8 rfl rfl hrow rfl rfl rfl rfl rfl hby hws ?_); intro v4 w4 hown4 hb4 hg4 ha4))
          have hrow4 : w4.ownsRow w.heap.size 5 1 v4 (L ++ [(45 : UInt8)]).length ((L ++ [(45 : UInt8)]).map bv) := by
            rw [List.length_append, List.map_append]
            exact hown4
          have hbel4 := hbel.trans hb4
          obtain ⟨Ab, cb, hbe, _, _, _, _⟩ := own_form hrow4
          obtain ⟨nb, hnb⟩ : ∃ nb, nb = (L++[(45:UInt8)]).length := ⟨_, rfl⟩
          have hrowB := hrow4
          rw [← hnb] at hrowB hbe
          subst hbe
          have HNB := Lib.hid hnb
          have hnb64 : nb ≤ 70 := by rw [hnb]; first | omega | (simp; omega)
          clear hnb
          go_wp2_with fail
          go_loopw [8, 9] (fun i j wr => ∃ (k : Nat) (L : List UInt8), k ≤ nb ∧ i = .int .i64 k ∧ j = .int .i64 ((nb : Int) - 1 - k) ∧ wr.ownsRow w.heap.size 5 1 (.slice Ab nb cb) nb (L.map bv) ∧ Below w.heap.size w wr) (fun _ j _ => (intOf j).toNat)
          case atStart => exact ⟨0, _, Nat.zero_le _, rfl, by simp, hrowB, hbel4⟩
          clear hrowB
          obtain ⟨k, L2, hk, rfl, rfl, hrowB, hbelB⟩ := hrel
          have hwsB := hbelB.size
          by_cases hlk : (k : Int) < (nb : Int) - 1 - k
          · obtain ⟨mm, hmm⟩ : ∃ mm : Nat, mm = nb - 1 - k := ⟨_, rfl⟩
            have hmi : (nb : Int) - 1 - k = (mm : Int) := by omega
            rw [hmi] at hlk ⊢
            have HMI := Lib.hid hmi
            obtain ⟨gb, bx, rfl, hgb, k0, f0, s0⟩ := own_byte hrowB (k := k) (by omega)
            obtain ⟨gb2, by_, e2, _, k1, f1, s1⟩ := own_byte hrowB (k := mm) (by omega)
            injection e2 with e2
            injection e2 with e2
            subst e2
            have hd := own_set1 (own_set1 hrowB (i := k) (by omega) (bv by_)) (i := mm) (by omega) (bv bx)
            rw [s0] at hd
            have hd2 : ∃ L3 : List UInt8, ((wr.setCell ⟨gb, k, none⟩ (bv by_)).setCell ⟨gb, mm, none⟩ (bv bx)).ownsRow w.heap.size 5 1 (.slice (some ⟨gb, 0, none⟩) nb cb) nb (L3.map bv) := ⟨(L2.set k by_).set mm bx, by rw [List.map_set]; exact hd⟩
            have HD2 := Lib.hid hd2
            have hkm : ¬ (k = mm) := by omega
            have hmk : ¬ (mm = k) := by omega
            have hk0 : (0 : Int) ≤ (k : Int) := by omega
            have hk1 : (k : Int) < (nb : Int) := by omega
            have hm0 : (0 : Int) ≤ (mm : Int) := by omega
            have hm1 : (mm : Int) < (nb : Int) := by omega
            have HMM := Lib.hid hmm
            unfold bv at k0 k1
            clear hd hd2 s0 s1 hmm
            go_wp2_with fail
            obtain ⟨L3, hd3⟩ := HD2.out
            go_roundw
            case rel => exact ⟨k + 1, L3, by omega, by go_num, by have := HMM.out; have := HMI.out; congr 1; omega, hd3, (hbelB.setCell hgb _).setCell hgb _⟩
            case measure => simp [intOf]; omega
          · have q1 := run_string_rd (P := Tryz.prog) (c := cb) Tryz.underlying23 Tryz.underlying5 Tryz.underlying9 (own_rd hrowB)
            go_wp2_with fail
            go_ret
            exact ⟨⟨_, rfl⟩, hbelB⟩
      · have hs := small_own _ v' wr hz hv0 (by omega)
        obtain ⟨A2, c2, rfl, _⟩ := hz
        have hwp2 := wordsN_pos (v := v') (by omega)
        have hLL : L.length < 64 := by
          have h1 := HB.out (by omega)
          have h2 : 1 * 2 ^ L.length ≤ v' * 2 ^ L.length := Nat.mul_le_mul_right _ (by omega)
          have h3 : 2 ^ L.length < 2 ^ 64 := by
            rw [show (2 : Nat) ^ 64 = 18446744073709551616 from by decide]; omega
          exact (Nat.pow_lt_pow_iff_right (by decide)).1 h3
        obtain ⟨r, hr⟩ : ∃ r, r = v' % 10 := ⟨_, rfl⟩
        have hr10 : r < 10 := by omega
        obtain ⟨q, hq⟩ : ∃ q, q = v' / 10 := ⟨_, rfl⟩
        have hqv : q < v' := by omega
        have HQ : Hid (0 < q → q * 2 ^ (L.length + 1) ≤ v) := Lib.hid (fun h => by
          have h1 := HB.out (by omega)
          have h2 : q * 2 ≤ v' := by omega
          have h3 : q * 2 * 2 ^ L.length ≤ v' * 2 ^ L.length := Nat.mul_le_mul_right _ h2
          rw [Nat.pow_succ, ← Nat.mul_assoc, Nat.mul_right_comm]
          exact Nat.le_trans h3 h1)
        rw [← hr, ← hq] at hs
        generalize (wordsN v').length = wl2 at *
        have hr10i : (r : Int) < 10 := by omega
        have hw2i : (0 : Int) < (wl2 : Int) := by omega
        clear hr hq
        have hby : (L.length + 1) * 1 ≤ 140737488355328 := by omega
        go_upto_region 10 with (go_at_call 132; go_must (refine hs.mono ?_); rintro e w3 ⟨z3, rfl, hz3, hb3⟩)
        have hrow3 := own_up hrow hb3
        have hs3 : w.heap.size ≤ w3.heap.size := Nat.le_trans hws hb3.size
        clear hs hrow
        go_wp2_with (first
          | (with_reducible show wpList _ _ _ (⟨some 41, _, _, _, _, _⟩ :: _) _ _; go_must (refine wpList_newg (.tmp 36) (.tmp 40) el_u8 rfl rfl hrow3 rfl rfl rfl rfl rfl hby hs3 ?_); intro v4 w4 hown4 hb4 hg4 ha4))
        have HD := Lib.hid (digit_byte hr10)
        go_roundg q
        case measure => omega
        case rel =>
          refine ⟨q, L ++ [UInt8.ofNat (48 + r)], Nat.le_refl _, hz3.apart hrow3 hg4, by omega, ?_, by simp; omega, Lib.hid (by rw [List.length_append]; exact HQ.out), (hbel.trans (hb3.mono hws)).trans hb4⟩
          rw [List.length_append, List.map_append]
          have := hown4
          rw [HD.out] at this
          exact this
set_option maxRecDepth 100000 in
set_option maxHeartbeats 1000000 in
theorem bstr_any (g v : Nat) (neg : Bool) (w : World) (h : BigW w g neg (wordsN v)) (hv : v < 18446744073709551616) :
    Calls Tryz.prog 59 #[.pointer (some ⟨g, 0, none⟩)] w fun e w' => ∃ d, e = .returned (.string d) ∧ Below w.heap.size w w' := by
  have ht := btext_any g v neg w h hv
  go_enter Tryz.func59, Tryz.ntmps59
  go_wp2_with (go_at_call 95; go_must (refine ht.mono ?_); rintro e w1 ⟨d, rfl, hb1⟩)
  go_ret
  exact ⟨d, rfl, hb1⟩
set_option maxRecDepth 100000 in
set_option maxHeartbeats 1000000 in
theorem digits_any (x : Int) (w : World) (h1 : -9223372036854775808 ≤ x) (h2 : x ≤ 9223372036854775807) :
    Calls Tryz.prog 23 #[.int .i64 x] w fun e w' => ∃ d, e = .returned (.string d) ∧ Below w.heap.size w w' := by
  have hn := newint_any x w h1 h2
  have HS := Lib.hid (fun W (h : BigW W w.heap.size (decide (x < 0)) (wordsN x.natAbs)) => bstr_any w.heap.size x.natAbs (decide (x < 0)) W h (by omega))
  go_enter Tryz.func23, Tryz.ntmps23
  go_wp2_with (first
    | (go_at_call 50; go_must (refine hn.mono ?_); rintro e w1 ⟨rfl, hw1, hb1⟩)
    | (go_at_call 59; go_must (refine (HS.out w1 hw1).mono ?_); rintro e w2 ⟨d, rfl, hb2⟩))
  go_ret
  exact ⟨d, rfl, below_up hb1 hb2⟩

end Go.Proofs.YtcfijljagohmlaaGreatDoor
