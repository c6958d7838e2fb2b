/- PlainBig WalkBig1 WalkBig2 WalkBig3 WalkBig4 WalkBig5 WalkBig6 in one text. -/
import Derived.Test.YtcfijljagohmlaaGreatDoorBase2
import Derived.Test.YtcfijljagohmlaaGreatDoorProg
import Derived.Test.YtcfijljagohmlaaGreatDoorKeeps
import Derived.Laws.OwnMore
import Derived.Deep.CutBlock
import Derived.Deep.CutRange
import Derived.Deep.RegionHeld3
import Derived.Deep.RegionWith
import Derived.Deep.DrawnRows
import Derived.BigQuiet
import Derived.WideLaws
import Derived.Deep.QuietTactic
import Derived.StillTailTactics
import Derived.LoopN
import Derived.Laws.IdiomCopy
import Derived.Laws.BitsAllLaws
/- Numbers as words of 32 bits, as plain data. No program in sight. -/
namespace Go.Proofs.YtcfijljagohmlaaGreatDoor
open Go.RowKit

def u4 (n : Nat) : Value := .int .u32 n
theorem u4s_one (l : List Nat) : ∀ u ∈ l.map u4, u.oneCell' = true := by
  intro u hu; obtain ⟨b, _, rfl⟩ := List.mem_map.1 hu; rfl
/-- How many words are left once the noughts at the end are gone. -/
def trimN : List Nat → Nat
  | [] => 0
  | x :: xs => if trimN xs = 0 then (if x = 0 then 0 else 1) else trimN xs + 1
theorem trimN_le : ∀ (l : List Nat), trimN l ≤ l.length := by
  intro l
  induction l with
  | nil => exact Nat.le_refl _
  | cons x xs ih =>
    rw [trimN]
    split
    · split <;> simp
    · simp only [List.length_cons]; omega
theorem trimN_is : ∀ {l : List Nat} {n : Nat}, n ≤ l.length → (∀ j, n ≤ j → j < l.length → l.getD j 0 = 0) → (0 < n → l.getD (n - 1) 0 ≠ 0) → trimN l = n := by
  intro l
  induction l with
  | nil => intro n h _ _; simp at h; simp [trimN, h]
  | cons x xs ih =>
    intro n h1 h2 h3
    rcases n with _ | n
    · have := ih (n := 0) (Nat.zero_le _) (fun j _ hj => by
        have := h2 (j + 1) (Nat.zero_le _) (by simp only [List.length_cons]; omega)
        simpa using this) (fun h => absurd h (by omega))
      have hx := h2 0 (Nat.le_refl _) (by simp)
      simp only [List.getD_cons_zero] at hx
      rw [trimN, if_pos this, if_pos hx]
    · simp only [List.length_cons] at h1
      have h4 := h3 (by omega)
      simp only [Nat.add_sub_cancel] at h4
      rcases n with _ | m
      · have := ih (n := 0) (Nat.zero_le _) (fun j _ hj => by
          have := h2 (j + 1) (by omega) (by simp only [List.length_cons]; omega)
          simpa using this) (fun h => absurd h (by omega))
        simp only [List.getD_cons_zero] at h4
        rw [trimN, if_pos this, if_neg h4]
      · have := ih (n := m + 1) (by omega) (fun j hj hjl => by
          have := h2 (j + 1) (by omega) (by simp only [List.length_cons]; omega)
          simpa using this) (fun _ => by simpa using h4)
        rw [trimN, if_neg (by omega), this]
def trimW (l : List Nat) : List Nat := l.take (trimN l)
/-- A number's words, the least first. -/
def wordsN (v : Nat) : List Nat := if v = 0 then [] else if v < 4294967296 then [v] else [v % 4294967296, v / 4294967296]
theorem trimW_two (v : Nat) : trimW [v % 4294967296, v / 4294967296] = wordsN v := by
  unfold trimW wordsN
  by_cases h0 : v = 0
  · subst h0; rfl
  · by_cases h1 : v < 4294967296
    · rw [if_neg h0, if_pos h1]
      have e1 : v % 4294967296 = v := Nat.mod_eq_of_lt h1
      have e2 : v / 4294967296 = 0 := Nat.div_eq_of_lt h1
      rw [e1, e2]
      simp [trimN, h0]
    · rw [if_neg h0, if_neg h1]
      have e2 : v / 4294967296 ≠ 0 := by
        have := Nat.div_le_div_right (c := 4294967296) (Nat.le_of_not_lt h1)
        omega
      simp [trimN, e2]
theorem wordsN_len (v : Nat) : (wordsN v).length ≤ 2 := by
  unfold wordsN
  split
  · simp
  · split <;> simp
theorem wordsN_small {v : Nat} (h : v < 4294967296) : (wordsN v).length ≤ 1 := by
  unfold wordsN
  split
  · simp
  · simp
theorem wordsN_lt {v : Nat} (h : v < 18446744073709551616) : ∀ x ∈ wordsN v, x < 4294967296 := by
  intro x hx
  unfold wordsN at hx
  split at hx
  · cases hx
  · split at hx
    · rw [List.mem_singleton.1 hx]; assumption
    · rcases List.mem_cons.1 hx with rfl | hx
      · exact Nat.mod_lt _ (by omega)
      · rw [List.mem_singleton.1 hx]; omega
theorem own_take {w : World} {base : Nat} {e : TypeId} {size n c k : Nat} {A : Option Addr} {xs : List Value} (h : w.ownsRow base e size (.slice A n c) n xs) (hk : k ≤ n) : w.ownsRow base e size (.slice A k c) k (xs.take (k * size)) := by
  obtain ⟨hl, h2⟩ := h
  refine ⟨by rw [List.length_take, hl]; exact Nat.min_eq_left (Nat.mul_le_mul_right _ hk), ?_⟩
  rcases h2 with ⟨hv, rfl⟩ | ⟨g, cap, cur, hv, hb, hg, hnc, hcm, hcs, htake⟩
  · cases hv
    have : k = 0 := by omega
    subst this
    exact .inl ⟨rfl, by simp⟩
  · injection hv with e1 e2 e3
    subst e1 e3
    refine .inr ⟨g, c, cur, rfl, hb, hg, by omega, hcm, hcs, ?_⟩
    rw [← htake, List.take_take]
    congr 1
    exact (Nat.min_eq_left (Nat.mul_le_mul_right _ hk)).symm
end Go.Proofs.YtcfijljagohmlaaGreatDoor

/- The walks of weirgatebig's trim, words, give, twin, SetInt64, NewInt. -/
namespace Go.Proofs.YtcfijljagohmlaaGreatDoor
open Go.RowKit

theorem el_u32 : Elt Tryz.prog 133 137 (.int .u32 0) 1 4 := ⟨Tryz.underlying133, by kernel_rfl, rfl, by omega, by omega⟩
/-- A word of a slice of words. -/
theorem Rd.word {w : World} {B n k : Nat} {A : Option Addr} {l : List Nat} (h : Rd w B 1 A n (l.map u4)) (hk : k < n) :
    ∃ ad, A = some ad ∧ ad.block < B ∧ w.cell? (ad.add k) = some (.int .u32 (l.getD k 0 : Nat)) := by
  obtain ⟨ad, u, rfl, hb, hu, hc⟩ := h.at_ hk
  refine ⟨ad, rfl, hb, hc.trans ?_⟩
  rw [← hu, List.getElem?_map, List.getD_eq_getElem?_getD]
  have hl : k < l.length := by have := h.1; simp at this; omega
  rw [List.getElem?_eq_getElem hl]
  rfl
set_option maxRecDepth 100000 in
set_option maxHeartbeats 1000000 in
theorem trim_any (A : Option Addr) (c B n : Nat) (l : List Nat) (w : World) (hr : Rd w B 1 A n (l.map u4)) (hln : l.length = n) (hn : n ≤ 140737488355328) (hc : n ≤ c) :
    Calls Tryz.prog 125 #[.slice A n c] w fun e w' => e = .returned (.slice A (trimN l) c) ∧ w = w' := by
  have HLN := Lib.hid hln
  clear hln
  go_enter Tryz.func125, Tryz.ntmps125
  go_wp2_with fail
  go_loop [3] (fun x => ∃ k : Nat, k ≤ n ∧ x = .int .i64 k ∧ Hid (∀ j, k ≤ j → j < l.length → l.getD j 0 = 0)) (fun x => (intOf x).toNat)
  case atStart => exact ⟨n, Nat.le_refl _, rfl, Lib.hid (fun j h1 h2 => by rw [HLN.out] at h2; omega)⟩
  obtain ⟨k, hk, rfl, HZ⟩ := hrel
  have fin : Hid ((k = 0 ∨ l.getD (k - 1) 0 ≠ 0) → trimN l = k) := Lib.hid fun h => by
    refine trimN_is (by rw [HLN.out]; exact hk) HZ.out fun h0 => ?_
    rcases h with h | h
    · omega
    · exact h
  rcases k with _ | m
  · have hT := Lib.hid (fin.out (.inl rfl))
    go_wp2_with fail
    go_ret
    exact ⟨by rw [hT.out]; rfl, rfl⟩
  · obtain ⟨ad, rfl, _, hcell⟩ := hr.word (k := m) (by omega)
    have hm0 : (0 : Int) ≤ (m : Int) := by omega
    have hm1 : (m : Int) < (n : Int) := by omega
    by_cases hz : l.getD m 0 = 0
    · have HZ2 : Hid (∀ j, m ≤ j → j < l.length → l.getD j 0 = 0) := Lib.hid fun j h1 h2 => by
        by_cases e : j = m
        · rw [e]; exact hz
        · exact HZ.out j (by omega) h2
      rw [hz] at hcell
      clear hz
      go_wp2_with fail
      go_round
      case rel => exact ⟨m, by omega, by go_num, HZ2⟩
      case measure => simp [intOf]
    · have hT := Lib.hid (fin.out (.inr hz))
      generalize l.getD m 0 = z at *
      have hz2 : ((z : Int) == 0) = false := by simpa using hz
      go_wp2_with fail
      go_ret
      exact ⟨by rw [hT.out]; rfl, rfl⟩
set_option maxRecDepth 100000 in
set_option maxHeartbeats 1000000 in
theorem words_any (v : Nat) (w : World) (hv : v < 18446744073709551616) :
    Calls Tryz.prog 124 #[.int .u64 v] w fun e w' => ∃ A c, e = .returned (.slice A (wordsN v).length c) ∧ w'.ownsRow w.heap.size 137 1 (.slice A (wordsN v).length c) (wordsN v).length ((wordsN v).map u4) ∧ Below w.heap.size w w' := by
  have hb := (Below.refl w.heap.size w).alloc (Nat.le_refl _) (.cells #[.int .u32 (v % 4294967296 : Nat), .int .u32 (v / 4294967296 : Nat)] 137)
  have hown := World.ownsRow_lit (base := w.heap.size) (e := 137) (size := 1) w #[.int .u32 (v % 4294967296 : Nat), .int .u32 (v / 4294967296 : Nat)] 2 (Nat.le_refl _) (by unfold maxLen; omega) rfl
  have hrd := own_rd hown
  have htr := trim_any (some ⟨w.heap.size, 0, none⟩) 2 _ 2 [v % 4294967296, v / 4294967296] _ hrd rfl (by omega) (Nat.le_refl _)
  have htk := own_take hown (k := trimN [v % 4294967296, v / 4294967296]) (trimN_le _)
  have HW := Lib.hid (trimW_two v)
  have HT := Lib.hid htk
  clear htk hrd
  go_enter Tryz.func124, Tryz.ntmps124
  have e1 : ((v % 4294967296 : Nat) : Int) = (v : Int) % 4294967296 := by omega
  have e2 : ((v / 4294967296 : Nat) : Int) = (v : Int) / 4294967296 := by omega
  rw [e1, e2] at htr hb
  rw [e1, e2] at HT
  clear e1 e2 hown
  go_wp2_with (first | (go_at_call 125; go_must (refine htr.mono ?_); rintro e w1 ⟨rfl, rfl⟩))
  go_ret
  have h := HT.out
  have hw := HW.out
  unfold trimW at hw
  have hl : trimN [v % 4294967296, v / 4294967296] = (wordsN v).length := by
    rw [← hw, List.length_take]
    exact (Nat.min_eq_left (trimN_le _)).symm
  have e1 : ((v % 4294967296 : Nat) : Int) = (v : Int) % 4294967296 := by omega
  have e2 : ((v / 4294967296 : Nat) : Int) = (v : Int) / 4294967296 := by omega
  have hx : (#[Value.int .u32 ((v : Int) % 4294967296), Value.int .u32 ((v : Int) / 4294967296)].toList.take (trimN [v % 4294967296, v / 4294967296] * 1)) = (wordsN v).map u4 := by
    rw [← hw, List.map_take, Nat.mul_one, ← e1, ← e2]; rfl
  rw [hx, hl] at h
  exact ⟨_, _, by rw [hl]; rfl, h, hb⟩
/-- A number of words behind a pointer: its sign, its words. -/
structure BigW (w : World) (g : Nat) (neg : Bool) (l : List Nat) : Prop where
  ex : ∃ A c, Blk w g 135 #[.bool neg, .slice A l.length c] ∧ w.ownsRow 0 137 1 (.slice A l.length c) l.length (l.map u4)
theorem BigW.up {w w' : World} {g : Nat} {neg : Bool} {l : List Nat} (h : BigW w g neg l) (hb : Below w.heap.size w w') : BigW w' g neg l := by
  obtain ⟨A, c, h1, h2⟩ := h.ex
  exact ⟨A, c, h1.up hb, own_up h2 hb⟩
theorem BigW.lt {w : World} {g : Nat} {neg : Bool} {l : List Nat} (h : BigW w g neg l) : g < w.heap.size := by
  obtain ⟨A, c, h1, h2⟩ := h.ex
  exact h1.lt
theorem own_blk {w : World} {base n size g : Nat} {e t : TypeId} {v : Value} {xs : List Value} {cs : Array Value} (h : w.ownsRow base e size v n xs) (hb : Blk w g t cs) (hne : e ≠ t) : ∀ k, v.ownBlock = some k → k ≠ g := by
  intro k hk e1
  rcases h.2 with ⟨rfl, _⟩ | ⟨g1, c1, u1, rfl, _, k1, _⟩
  · cases hk
  · simp [Value.ownBlock] at hk
    subst hk
    subst e1
    unfold Blk at hb
    rw [k1] at hb
    injection hb with hb
    injection hb with _ hb
    exact hne hb
/-- Another number's block is written. -/
theorem BigW.other {w w' : World} {g g' : Nat} {neg : Bool} {l : List Nat} {cs : Array Value} (h : BigW w g neg l) (hb : Blk w g' 135 cs) (hne : g ≠ g') (hg : w.grownBy w' (some g')) : BigW w' g neg l := by
  obtain ⟨A, c, h1, h2⟩ := h.ex
  exact ⟨A, c, h1.grown hg (fun e => hne (by injection e)), own_far h2 hg (fun k hk e => own_blk h2 hb (by decide) k hk (by injection e with e; exact e.symm))⟩
set_option maxRecDepth 100000 in
set_option maxHeartbeats 1000000 in
theorem give_any (g c : Nat) (A : Option Addr) (neg : Bool) (x y : Value) (l : List Nat) (w : World) (hb : Blk w g 135 #[x, y]) (ho : w.ownsRow 0 137 1 (.slice A l.length c) l.length (l.map u4)) :
    Calls Tryz.prog 89 #[.pointer (some ⟨g, 0, none⟩), .bool neg, .slice A l.length c] w fun e w' => e = .returned (.pointer (some ⟨g, 0, none⟩)) ∧ BigW w' g (neg && decide (0 < l.length)) l ∧ w.grownBy w' (some g) := by
  have c0 := hb.cell 0
  have c1 := hb.cell 1
  have f0 := hb.frozen 0
  have f1 := hb.frozen 1
  simp at c0 c1
  have HB := Lib.hid hb
  have hne := Lib.hid (own_blk ho hb (by decide))
  have HO := Lib.hid ho
  have hlt := hb.lt
  have fin : ∀ b : Bool, b = (neg && decide (0 < l.length)) → BigW ((w.setCell ⟨g, 1, none⟩ (.slice A l.length c)).setCell ⟨g, 0, none⟩ (.bool b)) g (neg && decide (0 < l.length)) l ∧ w.grownBy ((w.setCell ⟨g, 1, none⟩ (.slice A l.length c)).setCell ⟨g, 0, none⟩ (.bool b)) (some g) := fun b e => by
    have hg : w.grownBy ((w.setCell ⟨g, 1, none⟩ (.slice A l.length c)).setCell ⟨g, 0, none⟩ (.bool b)) (some g) := only_set (only_set (only_refl w (some g)) 1 _) 0 _
    refine ⟨⟨A, c, ?_, own_far HO.out hg (fun k hk e => hne.out k hk (by injection e with e; exact e.symm))⟩, hg⟩
    have := (HB.out.set_ 1 (.slice A l.length c)).set_ 0 (.bool b)
    rw [e] at this ⊢
    simpa using this
  have FIN := Lib.hid fin
  clear hb ho fin
  generalize l.length = n at *
  go_enter Tryz.func89, Tryz.ntmps89
  cases neg with
  | false =>
    go_wp2_with fail
    go_ret
    exact ⟨rfl, FIN.out false rfl⟩
  | true =>
    go_wp2_with fail
    go_ret
    exact ⟨rfl, FIN.out (decide (0 < n)) rfl⟩
theorem keeps_row {w w' : World} {row : Option Nat} (hb : Below w.heap.size w w') : w.grownBy w' row := ⟨hb.os, hb.tape, hb.output, hb.size, fun k hk _ => hb.block k hk⟩
theorem wordsN_pos {v : Nat} (h : 0 < v) : 0 < (wordsN v).length := by
  unfold wordsN
  rw [if_neg (by omega)]
  split <;> simp
set_option maxRecDepth 100000 in
set_option maxHeartbeats 1000000 in
theorem set64_any (g : Nat) (x : Int) (a b : Value) (w : World) (hb : Blk w g 135 #[a, b]) (h1 : -9223372036854775808 ≤ x) (h2 : x ≤ 9223372036854775807) :
    Calls Tryz.prog 86 #[.pointer (some ⟨g, 0, none⟩), .int .i64 x] w fun e w' => e = .returned (.pointer (some ⟨g, 0, none⟩)) ∧ BigW w' g (decide (x < 0)) (wordsN x.natAbs) ∧ w.grownBy w' (some g) := by
  obtain ⟨v, hv⟩ : ∃ v, v = x.natAbs := ⟨_, rfl⟩
  have hw := words_any v w (by omega)
  have HGI := Lib.hid (fun W A c neg (hb : Blk W g 135 #[a, b]) ho => give_any g c A neg a b (wordsN v) W hb ho)
  have HP := Lib.hid (@wordsN_pos v)
  have HB := Lib.hid hb
  rw [← hv]
  go_enter Tryz.func86, Tryz.ntmps86
  by_cases hx : x < 0
  · have hD : Hid (decide (x < 0) = true) := Lib.hid (decide_eq_true hx)
    have hvx : v = (-x).toNat := by omega
    have HV : Hid (IntKind.u64.wrap (-(IntKind.u64.wrap x)) = (v : Int)) := Lib.hid (by rw [IntKind.wrap_u64, IntKind.wrap_u64]; omega)
    have hp := HP.out (by omega)
    clear hb hv hvx
    go_upto_region 4 with fail
    rw [HV.out]
    go_wp2_with (first
      | (go_at_call 124; go_must (refine hw.mono ?_); rintro e w1 ⟨A, c, rfl, ho, hb1⟩; have hgi := HGI.out w1 A c true (HB.out.up hb1) (own_base ho (Nat.zero_le _)))
      | (go_at_call 89; go_must (refine hgi.mono ?_); rintro e w2 ⟨rfl, hbw, hg2⟩))
    go_ret
    rw [decide_eq_true hp] at hbw
    exact ⟨rfl, by rw [hD.out]; exact hbw, only_trans (keeps_row hb1) hg2⟩
  · have hD : Hid (decide (x < 0) = false) := Lib.hid (decide_eq_false hx)
    have hxv : x = (v : Int) := by omega
    subst hxv
    clear hb hv
    go_wp2_with (first
      | (go_at_call 124; go_must (refine hw.mono ?_); rintro e w1 ⟨A, c, rfl, ho, hb1⟩; have hgi := HGI.out w1 A c false (HB.out.up hb1) (own_base ho (Nat.zero_le _)))
      | (go_at_call 89; go_must (refine hgi.mono ?_); rintro e w2 ⟨rfl, hbw, hg2⟩))
    go_ret
    exact ⟨rfl, by rw [hD.out]; exact hbw, only_trans (keeps_row hb1) hg2⟩
set_option maxRecDepth 100000 in
set_option maxHeartbeats 1000000 in
theorem newint_any (x : Int) (w : World) (h1 : -9223372036854775808 ≤ x) (h2 : x ≤ 9223372036854775807) :
    Calls Tryz.prog 50 #[.int .i64 x] w fun e w' => e = .returned (.pointer (some ⟨w.heap.size, 0, none⟩)) ∧ BigW w' w.heap.size (decide (x < 0)) (wordsN x.natAbs) ∧ Below w.heap.size w w' := by
  have hb := Blk.new w 135 #[.bool false, .slice none 0 0]
  have hs := set64_any w.heap.size x _ _ _ hb h1 h2
  have hb0 := (Below.refl w.heap.size w).alloc (Nat.le_refl _) (.cells #[.bool false, .slice none 0 0] 135)
  go_enter Tryz.func50, Tryz.ntmps50
  go_wp2_with (first
    | (go_at_call 86; go_must (refine hs.mono ?_); rintro e w1 ⟨rfl, hbw, hg⟩))
  go_ret
  exact ⟨rfl, hbw, hb0.grown hg (by simp) (fun k hk => by cases hk; exact Nat.le_refl _)⟩
end Go.Proofs.YtcfijljagohmlaaGreatDoor

/- The walks of weirgatebig's twin, plain, Uint64, Int64. -/
namespace Go.Proofs.YtcfijljagohmlaaGreatDoor
open Go.RowKit

set_option maxRecDepth 100000 in
set_option maxHeartbeats 1000000 in
theorem twin_any (A : Option Addr) (c n : Nat) (l : List Nat) (w : World) (ho : w.ownsRow 0 137 1 (.slice A n c) n (l.map u4)) (hn : n ≤ 1000000) :
    Calls Tryz.prog 131 #[.slice A n c] w fun e w' => ∃ A' c', e = .returned (.slice A' n c') ∧ w'.ownsRow w.heap.size 137 1 (.slice A' n c') n (l.map u4) ∧ Below w.heap.size w w' := by
  have hr := own_rd ho
  have hnil := World.ownsRow_nil w w.heap.size 137 1
  have h1 := u4s_one l
  clear ho
  go_enter Tryz.func131, Tryz.ntmps131
  go_wp2_with (first
    | (with_reducible show wpList _ _ _ (⟨some 4, _, _, _, _, _⟩ :: _) _ _; go_must (refine wpList_rd (.const (.slice none 0 0)) (.tmp 3) el_u32 rfl rfl hnil rfl hr rfl h1 (by omega) (Nat.le_refl _) ?_); intro v1 w1 hown1 hb1 hg1 ha1))
  go_ret
  simp only [Nat.zero_add, List.nil_append] at hown1
  obtain ⟨A', c', rfl, _⟩ := own_form hown1
  exact ⟨A', c', rfl, hown1, hb1⟩
theorem or_shift {x y : Nat} (hx : x < 4294967296) (hy : y < 4294967296) : bits BinOp.or IntKind.u64 (x : Int) ((y : Int) * 4294967296) = ((x + y * 4294967296 : Nat) : Int) := by
  have e : (y : Int) * 4294967296 = ((y * 4294967296 : Nat) : Int) := by omega
  rw [e, u64_or_nat x (y * 4294967296) (by omega) (by omega)]
  congr 1
  have h := Nat.two_pow_add_eq_or_of_lt (i := 32) (b := x) (by omega) y
  rw [Nat.or_comm]
  have e2 : y * 4294967296 = 2 ^ 32 * y := by omega
  rw [e2, ← h]
  omega
set_option maxRecDepth 100000 in
set_option maxHeartbeats 1000000 in
theorem plain_any (A : Option Addr) (c v : Nat) (w : World) (ho : w.ownsRow 0 137 1 (.slice A (wordsN v).length c) (wordsN v).length ((wordsN v).map u4)) (hv : v < 18446744073709551616) :
    Calls Tryz.prog 157 #[.slice A (wordsN v).length c] w fun e w' => e = .returned (.int .u64 v) ∧ w = w' := by
  have hr := own_rd ho
  clear ho
  by_cases h0 : v = 0
  · subst h0
    go_enter Tryz.func157, Tryz.ntmps157
    have e : wordsN 0 = [] := rfl
    rw [e]
    go_wp2_with fail
    go_ret
    exact ⟨rfl, rfl⟩
  · by_cases h1 : v < 4294967296
    · have e : wordsN v = [v] := by rw [wordsN, if_neg h0, if_pos h1]
      rw [e] at hr ⊢
      obtain ⟨ad, rfl, _, hc0⟩ := hr.word (k := 0) (by simp)
      simp only [List.getD_cons_zero, Addr.add, if_true] at hc0
      clear e
      go_enter Tryz.func157, Tryz.ntmps157
      go_wp2_with fail
      go_ret
      exact ⟨rfl, rfl⟩
    · have e : wordsN v = [v % 4294967296, v / 4294967296] := by rw [wordsN, if_neg h0, if_neg h1]
      rw [e] at hr ⊢
      obtain ⟨ad, rfl, _, hc0⟩ := hr.word (k := 0) (by simp)
      obtain ⟨ad', had, _, hc1⟩ := hr.word (k := 1) (by simp)
      injection had with had
      subst had
      simp only [List.getD_cons_zero, List.getD_cons_succ] at hc0 hc1
      simp only [Addr.add, if_true] at hc0
      rw [show ad.add 1 = ⟨ad.block, ad.off + 1, none⟩ from by simp [Addr.add]] at hc1
      have HV : Hid (bits BinOp.or IntKind.u64 ((v % 4294967296 : Nat) : Int) (((v / 4294967296 : Nat) : Int) * 4294967296) = (v : Int)) := Lib.hid (by rw [or_shift (Nat.mod_lt _ (by omega)) (by omega)]; omega)
      have hx : v % 4294967296 < 4294967296 := Nat.mod_lt _ (by omega)
      have hy : v / 4294967296 < 4294967296 := by omega
      generalize v % 4294967296 = x at *
      generalize v / 4294967296 = y at *
      clear e h0 h1
      go_enter Tryz.func157, Tryz.ntmps157
      go_wp2_with fail
      go_ret
      exact ⟨by rw [← HV.out]; rfl, rfl⟩
set_option maxRecDepth 100000 in
set_option maxHeartbeats 1000000 in
theorem uint64_any (g v : Nat) (w : World) (hw : BigW w g false (wordsN v)) (hv : v < 18446744073709551616) :
    Calls Tryz.prog 92 #[.pointer (some ⟨g, 0, none⟩)] w fun e w' => e = .returned (.int .u64 v) ∧ w = w' := by
  obtain ⟨A, c, hb, ho⟩ := hw.ex
  have c0 := hb.cell 1
  have hr := own_rd ho
  simp at c0
  clear ho hb hw
  by_cases h0 : v = 0
  · subst h0
    rw [show wordsN 0 = [] from rfl] at c0
    go_enter Tryz.func92, Tryz.ntmps92
    go_wp2_with fail
    go_ret
    exact ⟨rfl, rfl⟩
  · by_cases h1 : v < 4294967296
    · have e : wordsN v = [v] := by rw [wordsN, if_neg h0, if_pos h1]
      rw [e] at hr c0
      obtain ⟨ad, rfl, _, hc0⟩ := hr.word (k := 0) (by simp)
      simp only [List.getD_cons_zero, Addr.add, if_true] at hc0
      clear e
      go_enter Tryz.func92, Tryz.ntmps92
      go_wp2_with fail
      go_ret
      exact ⟨rfl, rfl⟩
    · have e : wordsN v = [v % 4294967296, v / 4294967296] := by rw [wordsN, if_neg h0, if_neg h1]
      rw [e] at hr c0
      obtain ⟨ad, rfl, _, hc0⟩ := hr.word (k := 0) (by simp)
      obtain ⟨ad', had, _, hc1⟩ := hr.word (k := 1) (by simp)
      injection had with had
      subst had
      simp only [List.getD_cons_zero, List.getD_cons_succ] at hc0 hc1
      simp only [Addr.add, if_true] at hc0
      rw [show ad.add 1 = ⟨ad.block, ad.off + 1, none⟩ from by simp [Addr.add]] at hc1
      have HV : Hid (bits BinOp.or IntKind.u64 ((v % 4294967296 : Nat) : Int) (((v / 4294967296 : Nat) : Int) * 4294967296) = (v : Int)) := Lib.hid (by rw [or_shift (Nat.mod_lt _ (by omega)) (by omega)]; omega)
      have hx : v % 4294967296 < 4294967296 := Nat.mod_lt _ (by omega)
      have hy : v / 4294967296 < 4294967296 := by omega
      generalize v % 4294967296 = x at *
      generalize v / 4294967296 = y at *
      clear e h0 h1
      go_enter Tryz.func92, Tryz.ntmps92
      go_wp2_with fail
      go_ret
      exact ⟨by rw [← HV.out]; rfl, rfl⟩
set_option maxRecDepth 100000 in
set_option maxHeartbeats 1000000 in
theorem int64_any (g v : Nat) (w : World) (hw : BigW w g false (wordsN v)) (hv : v < 9223372036854775808) :
    Calls Tryz.prog 54 #[.pointer (some ⟨g, 0, none⟩)] w fun e w' => e = .returned (.int .i64 v) ∧ w = w' := by
  have hu := uint64_any g v w hw (by omega)
  obtain ⟨A, c, hb, ho⟩ := hw.ex
  have c0 := hb.cell 0
  simp at c0
  clear ho hb hw
  have hv2 : (v : Int) ≤ 9223372036854775807 := by omega
  go_enter Tryz.func54, Tryz.ntmps54
  go_wp2_with (first | (go_at_call 92; go_must (refine hu.mono ?_); rintro e w1 ⟨rfl, rfl⟩))
  go_ret
  exact ⟨rfl, rfl⟩
end Go.Proofs.YtcfijljagohmlaaGreatDoor

/- The walks of weirgatebig's cmp, div, Set, QuoRem, DivMod, Mod, by 2^32. -/
namespace Go.Proofs.YtcfijljagohmlaaGreatDoor
open Go.RowKit

set_option maxRecDepth 100000 in
set_option maxHeartbeats 1000000 in
theorem bcmp_lo (A B : Option Addr) (c d n : Nat) (w : World) (hn : n < 2) :
    Calls Tryz.prog 156 #[.slice A n c, .slice B 2 d] w fun e w' => e = .returned (.int .i64 (-1)) ∧ w = w' := by
  have h1 : (n : Int) < 2 := by omega
  have h2 : ((n : Int) != 2) = true := by rw [bne_iff_ne]; omega
  go_enter Tryz.func156, Tryz.ntmps156
  go_wp2_with fail
  go_ret
  exact ⟨rfl, rfl⟩
theorem drewN_two (w : World) (a b : Nat) : (w.drewN a).drewN b = w.drewN (a + b) := by simp
/-- Where the comparing stands. -/
def CI (y : Nat) (i : Value) : Prop := i = .int .i64 1 ∨ (i = .int .i64 0 ∧ y = 1) ∨ i = .int .i64 (-1)
set_option maxRecDepth 100000 in
set_option maxHeartbeats 2000000 in
theorem bcmp_hi (A B : Addr) (c d x y : Nat) (w : World) (ha0 : w.cell? A = some (.int .u32 x)) (ha1 : w.cell? ⟨A.block, A.off + 1, none⟩ = some (.int .u32 y)) (hb0 : w.cell? B = some (.int .u32 0)) (hb1 : w.cell? ⟨B.block, B.off + 1, none⟩ = some (.int .u32 1)) (hy : 1 ≤ y) :
    Calls Tryz.prog 156 #[.slice (some A) 2 c, .slice (some B) 2 d] w fun e w' => ∃ r : Int, 0 ≤ r ∧ e = .returned (.int .i64 r) ∧ ∃ q, w' = w.drewN q := by
  go_enter Tryz.func156, Tryz.ntmps156
  go_wp2_with fail
  go_loopw [5] (fun i wr => ∃ q : Nat, CI y i ∧ wr = w.drewN q) (fun i _ => (intOf i + 1).toNat)
  case atStart => exact ⟨0, .inl rfl, rfl⟩
  obtain ⟨q, hci, rfl⟩ := hrel
  rcases hci with rfl | ⟨rfl, rfl⟩ | rfl
  · by_cases hy1 : y = 1
    · subst hy1
      go_upto_region 8 with fail
      go_quiet (fail)
      go_wp2_with fail
      go_roundw
      case rel => exact ⟨_, .inr (.inl ⟨rfl, rfl⟩), rfl⟩
      case measure => simp [intOf]
    · have h1 : ((y : Int) != 1) = true := by rw [bne_iff_ne]; omega
      have h2 : ¬ ((y : Int) < 1) := by omega
      clear hy1
      go_upto_region 8 with fail
      go_quiet (fail)
      go_wp2_with fail
      go_quiet (fail)
      go_wp2_with fail
      go_ret
      exact ⟨1, by omega, rfl, _, drewN_two w _ _⟩
  · by_cases hx0 : x = 0
    · subst hx0
      go_upto_region 8 with fail
      go_quiet (fail)
      go_wp2_with fail
      go_roundw
      case rel => exact ⟨_, .inr (.inr rfl), rfl⟩
      case measure => simp [intOf]
    · have h1 : ((x : Int) != 0) = true := by rw [bne_iff_ne]; omega
      have h2 : ¬ ((x : Int) < 0) := by omega
      clear hx0
      go_upto_region 8 with fail
      go_quiet (fail)
      go_wp2_with fail
      go_quiet (fail)
      go_wp2_with fail
      go_ret
      exact ⟨1, by omega, rfl, _, drewN_two w _ _⟩
  · go_wp2_with fail
    go_ret
    exact ⟨0, by omega, rfl, q, rfl⟩
/-- Words of the call's own, or of another's: a slice of them. -/
def OwnW (w : World) (v : Value) (n : Nat) : Prop := ∃ A c, v = .slice A (wordsN n).length c ∧ w.ownsRow 0 137 1 (.slice A (wordsN n).length c) (wordsN n).length ((wordsN n).map u4)
theorem OwnW.up {w w' : World} {v : Value} {n : Nat} (h : OwnW w v n) (hb : Below w.heap.size w w') : OwnW w' v n := by
  obtain ⟨A, c, h1, h2⟩ := h
  exact ⟨A, c, h1, own_up h2 hb⟩
theorem OwnW.drew {w : World} {v : Value} {n : Nat} (h : OwnW w v n) : OwnW w.drew v n := by
  obtain ⟨A, c, h1, h2⟩ := h
  exact ⟨A, c, h1, own_drew h2⟩
theorem words_own (v : Nat) (w : World) (hv : v < 18446744073709551616) :
    Calls Tryz.prog 124 #[.int .u64 v] w fun e w' => ∃ x, e = .returned x ∧ OwnW w' x v ∧ Below w.heap.size w w' :=
  (words_any v w hv).mono fun _ _ ⟨A, c, h1, h2, h3⟩ => ⟨_, h1, ⟨A, c, rfl, own_base h2 (Nat.zero_le _)⟩, h3⟩
theorem twin_own (v : Nat) (x : Value) (w : World) (h : OwnW w x v) :
    Calls Tryz.prog 131 #[x] w fun e w' => ∃ y, e = .returned y ∧ OwnW w' y v ∧ Below w.heap.size w w' := by
  obtain ⟨A, c, rfl, h2⟩ := h
  exact (twin_any A c _ (wordsN v) w h2 (Nat.le_trans (wordsN_len v) (by omega))).mono fun e w' ⟨A', c', h1, h3, h4⟩ => ⟨_, h1, ⟨A', c', rfl, own_base h3 (Nat.zero_le _)⟩, h4⟩
theorem plain_own (v : Nat) (x : Value) (w : World) (h : OwnW w x v) (hv : v < 18446744073709551616) :
    Calls Tryz.prog 157 #[x] w fun e w' => e = .returned (.int .u64 v) ∧ w = w' := by
  obtain ⟨A, c, rfl, h2⟩ := h
  exact plain_any A c v w h2 hv
theorem words_2_32 : wordsN 4294967296 = [0, 1] := rfl
set_option maxRecDepth 100000 in
set_option maxHeartbeats 2000000 in
theorem div_any (x y : Value) (v : Nat) (w : World) (hx : OwnW w x v) (hy : OwnW w y 4294967296) (hv : v < 18446744073709551616) :
    Calls Tryz.prog 149 #[x, y] w fun e w' => ∃ q r, e = .returned (.tuple #[q, r]) ∧ OwnW w' q (v / 4294967296) ∧ OwnW w' r (v % 4294967296) ∧ Below w.heap.size w w' := by
  have htw := twin_own v x w hx
  have HX := Lib.hid hx
  have HY := Lib.hid hy
  obtain ⟨A, c, rfl, h1⟩ := hx
  obtain ⟨B, d, rfl, h2⟩ := hy
  have hrb := own_rd h2
  rw [words_2_32] at hrb HY ⊢
  have hlen := wordsN_len v
  by_cases hlo : v < 4294967296
  · have hl1 := wordsN_small hlo
    have hq : v / 4294967296 = 0 := Nat.div_eq_of_lt hlo
    have hm : v % 4294967296 = v := Nat.mod_eq_of_lt hlo
    rw [hq, hm]
    have hcm := fun W => bcmp_lo A B c d (wordsN v).length W (by omega)
    have HN : Hid (∀ W, OwnW W (.slice none 0 0) 0) := Lib.hid (fun W => ⟨none, 0, rfl, World.ownsRow_nil _ _ _ _⟩)
    clear hrb h1 h2 hq hm hlen
    generalize (wordsN v).length = n at *
    go_enter Tryz.func149, Tryz.ntmps149
    go_wp2_with (first
      | (go_at_call 156; go_must (refine (hcm _).mono ?_); rintro e w1 ⟨rfl, rfl⟩)
      | (go_at_call 131; go_must (refine htw.mono ?_); rintro e w1 ⟨r, rfl, hor, hb1⟩))
    go_ret2
    exact ⟨_, r, rfl, HN.out _, hor, hb1⟩
  · have hew : wordsN v = [v % 4294967296, v / 4294967296] := by rw [wordsN, if_neg (by omega), if_neg hlo]
    have hra := own_rd h1
    rw [hew] at hra
    have HPA := Lib.hid (fun W (h : Below w.heap.size w W) => plain_own v _ W (HX.out.up h) hv)
    have HPB := Lib.hid (fun W (h : Below w.heap.size w W) => plain_own 4294967296 _ W (⟨B, d, rfl, own_up h2 h⟩ : OwnW W (.slice B (wordsN 4294967296).length d) 4294967296) (by omega))
    rw [words_2_32] at HPB
    obtain ⟨ad, rfl, _, a0⟩ := hra.word (k := 0) (by simp)
    obtain ⟨ad', had, _, a1⟩ := hra.word (k := 1) (by simp)
    injection had with had
    subst had
    obtain ⟨bd, rfl, _, b0⟩ := hrb.word (k := 0) (by simp)
    obtain ⟨bd', hbd, _, b1⟩ := hrb.word (k := 1) (by simp)
    injection hbd with hbd
    subst hbd
    simp only [List.getD_cons_zero, List.getD_cons_succ] at a0 a1 b0 b1
    rw [show ad.add 1 = ⟨ad.block, ad.off + 1, none⟩ from by simp [Addr.add]] at a1
    rw [show bd.add 1 = ⟨bd.block, bd.off + 1, none⟩ from by simp [Addr.add]] at b1
    simp only [Addr.add, if_true] at a0 b0
    have hcm := bcmp_hi ad bd c d _ _ w a0 a1 b0 b1 (by omega)
    rw [hew] at HPA ⊢
    have hpa : ∀ W, Below w.heap.size w W → Calls Tryz.prog 157 #[.slice (some ad) 2 c] W fun e w' => e = .returned (.int .u64 v) ∧ W = w' := HPA.out
    have hpb : ∀ W, Below w.heap.size w W → Calls Tryz.prog 157 #[.slice (some bd) 2 d] W fun e w' => e = .returned (.int .u64 (4294967296 : Nat)) ∧ W = w' := HPB.out
    change Calls _ _ #[.slice (some ad) 2 c, .slice (some bd) 2 d] _ _
    have HQ := Lib.hid (fun W => words_own (v / 4294967296) W (by omega))
    have HR := Lib.hid (fun W => words_own (v % 4294967296) W (by omega))
    rw [show ((v / 4294967296 : Nat) : Int) = (v : Int) / 4294967296 from by omega] at HQ
    rw [show ((v % 4294967296 : Nat) : Int) = (v : Int).tmod 4294967296 from by rw [Int.tmod_eq_emod_of_nonneg (by omega)]; omega] at HR
    have HV : Hid ((v : Int).tdiv 4294967296 = ((v / 4294967296 : Nat) : Int) ∧ (v : Int).tmod 4294967296 = ((v % 4294967296 : Nat) : Int)) := Lib.hid (by
      rw [Int.tdiv_eq_ediv_of_nonneg (by omega), Int.tmod_eq_emod_of_nonneg (by omega)]
      omega)
    have hHPA := Lib.hid hpa
    have hHPB := Lib.hid hpb
    clear hpa hpb hew hrb hra h1 h2 hlen htw
    go_enter Tryz.func149, Tryz.ntmps149
    go_upto_region 7 with (first
      | (go_at_call 156; go_must (refine hcm.mono ?_); rintro e w1 ⟨r, hr0, rfl, q, rfl⟩; have hbq := below_drewN (Below.refl w.heap.size w) q)
      | (go_at_call_of 157 ad; go_must (refine (hHPA.out _ hbq).mono ?_); rintro e w1 ⟨rfl, rfl⟩)
      | (go_at_call_of 157 bd; go_must (refine (hHPB.out _ hbq).mono ?_); rintro e w1 ⟨rfl, rfl⟩))
    clear a0 a1 b0 b1 hcm
    have hr1 : ¬ r < 0 := by omega
    have k1 : IntKind.u64.wrap ((v : Int) / 4294967296) = (v : Int) / 4294967296 := IntWalk.u64_in _ (by omega)
    generalize w.drewN q = w2 at *
    go_region_held3 (fun _ => True) (exact trivial) ((first
      | (go_at_call 124; (with_reducible refine (HQ.out _).mono ?_); rintro e w3 ⟨q1, rfl, hq1, hb3⟩)
      | (go_at_call 124; (with_reducible refine (HR.out _).mono ?_); rintro e w4 ⟨q2, rfl, hq2, hb4⟩)))
    go_wp2_with fail
    go_ret2
    exact ⟨q1, q2, rfl, hq1.up hb4, hq2, below_up (below_up hbq.drew hb3) hb4⟩
theorem OwnW.low {w : World} {x : Value} {n : Nat} (h : OwnW w x n) : ∃ A c, x = .slice A (wordsN n).length c ∧ w.ownsRow 0 137 1 (.slice A (wordsN n).length c) (wordsN n).length ((wordsN n).map u4) := h
/-- A number behind a pointer. -/
def BigV (w : World) (g v : Nat) : Prop := BigW w g false (wordsN v)
theorem BigV.parts {w : World} {g v : Nat} (h : BigV w g v) : ∃ x, Blk w g 135 #[.bool false, x] ∧ OwnW w x v := by
  obtain ⟨A, c, h1, h2⟩ := h.ex
  exact ⟨_, h1, A, c, rfl, h2⟩
theorem BigV.up {w w' : World} {g v : Nat} (h : BigV w g v) (hb : Below w.heap.size w w') : BigV w' g v := BigW.up h hb
theorem give_own (g v : Nat) (a b x : Value) (w : World) (hb : Blk w g 135 #[a, b]) (hx : OwnW w x v) :
    Calls Tryz.prog 89 #[.pointer (some ⟨g, 0, none⟩), .bool false, x] w fun e w' => e = .returned (.pointer (some ⟨g, 0, none⟩)) ∧ BigV w' g v ∧ w.grownBy w' (some g) := by
  obtain ⟨A, c, rfl, h2⟩ := hx
  exact give_any g c A false a b (wordsN v) w hb h2
theorem OwnW.far {w w' : World} {x : Value} {n g : Nat} {cs : Array Value} (h : OwnW w x n) (hb : Blk w g 135 cs) (hg : w.grownBy w' (some g)) : OwnW w' x n := by
  obtain ⟨A, c, rfl, h2⟩ := h
  exact ⟨A, c, rfl, own_far h2 hg (fun k hk e => own_blk h2 hb (by decide) k hk (by injection e with e; exact e.symm))⟩
theorem only_cell {a b : World} {g k j : Nat} {u : Value} (h : a.grownBy b (some g)) (hk : k < a.heap.size) (hne : g ≠ k) (hc : a.cell? ⟨k, j, none⟩ = some u) : b.cell? ⟨k, j, none⟩ = some u := by
  unfold World.cell? at hc ⊢
  rw [h.block k hk (fun e => hne (by injection e with e; exact e.symm))]
  exact hc
theorem only_blk {a b : World} {g k : Nat} {t : TypeId} {cs : Array Value} (h : a.grownBy b (some g)) (hk : Blk a k t cs) (hne : g ≠ k) : Blk b k t cs :=
  (h.block k hk.lt (fun e => hne (by injection e with e; exact e.symm))).trans hk
theorem BigV.far {w w' : World} {k v g : Nat} {cs : Array Value} (h : BigV w k v) (hb : Blk w g 135 cs) (hg : w.grownBy w' (some g)) (hne : g ≠ k) : BigV w' k v := by
  obtain ⟨A, c, h1, h2⟩ := h.ex
  exact ⟨A, c, only_blk hg h1 hne, own_far h2 hg (fun j hj e => own_blk h2 hb (by decide) j hj (by injection e with e; exact e.symm))⟩
theorem BigV.drewN {w : World} {g v : Nat} (h : BigV w g v) (k : Nat) : BigV (w.drewN k) g v := by
  obtain ⟨A, c, h1, h2⟩ := h.ex
  exact ⟨A, c, h1.drewN k, own_drewN h2 k⟩
theorem OwnW.drewN {w : World} {v : Value} {n : Nat} (h : OwnW w v n) (k : Nat) : OwnW (w.drewN k) v n := by
  obtain ⟨A, c, h1, h2⟩ := h
  exact ⟨A, c, h1, own_drewN h2 k⟩
/-- Two cells that a drawn region loads. -/
def Two (p q : Addr) (a b : Value) (w : World) : Prop := w.cell? p = some a ∧ w.cell? q = some b
set_option maxRecDepth 100000 in
set_option maxHeartbeats 2000000 in
theorem bset_any (g gx v : Nat) (a b : Value) (w : World) (hb : Blk w g 135 #[a, b]) (hx : BigV w gx v) (hne : g ≠ gx) :
    Calls Tryz.prog 126 #[.pointer (some ⟨g, 0, none⟩), .pointer (some ⟨gx, 0, none⟩)] w fun e w' => e = .returned (.pointer (some ⟨g, 0, none⟩)) ∧ BigV w' g v ∧ w.grownBy w' (some g) := by
  obtain ⟨x, hbx, hox⟩ := hx.parts
  have HO := Lib.hid hox
  have c0 := hbx.cell 0
  have c1 := hbx.cell 1
  have hlx := hbx.lt
  simp at c0 c1
  clear hx hox
  go_enter Tryz.func126, Tryz.ntmps126
  go_wp2_with fail
  go_region_held3 (fun w' => w'.cell? ⟨gx, 0, none⟩ = some (.bool false) ∧ w'.cell? ⟨gx, 1, none⟩ = some x) (first | exact ⟨only_cell hg2 (Nat.lt_of_lt_of_le hlx hb1.size) hne hcx.1, only_cell hg2 (Nat.lt_of_lt_of_le hlx hb1.size) hne hcx.2⟩ | exact hcx | exact ⟨c0, c1⟩)
    ((first
      | (go_at_call 131; go_must (refine (twin_own v x _ HO.out.drew).mono ?_); rintro e w1 ⟨y, rfl, hoy, hb1⟩; have hcx : w1.cell? ⟨gx, 0, none⟩ = some (.bool false) ∧ w1.cell? ⟨gx, 1, none⟩ = some x := ⟨(hb1.cell (p := ⟨gx, 0, none⟩) hlx).trans c0, (hb1.cell (p := ⟨gx, 1, none⟩) hlx).trans c1⟩; have hbz := (hb.drew).up hb1)
      | (go_at_call 89; go_must (refine (give_own g v a b y _ hbz hoy).mono ?_); rintro e w2 ⟨rfl, hz, hg2⟩)))
  go_wp2_with fail
  go_ret
  exact ⟨rfl, hz, only_trans (only_trans (only_drew (only_refl w (some g))) (keeps_row hb1)) hg2⟩
set_option maxRecDepth 100000 in
set_option maxHeartbeats 4000000 in
theorem quorem_any (g gx gy v : Nat) (a b : Value) (w : World) (hb : Blk w g 135 #[a, b]) (hx : BigV w gx v) (hy : BigV w gy 4294967296) (hv : v < 18446744073709551616) (h1 : g ≠ gx) :
    Calls Tryz.prog 127 #[.pointer (some ⟨g, 0, none⟩), .pointer (some ⟨gx, 0, none⟩), .pointer (some ⟨gy, 0, none⟩), .pointer (some ⟨gx, 0, none⟩)] w fun e w' => (∃ p q, e = .returned (.tuple #[p, q])) ∧ BigV w' gx (v % 4294967296) ∧ ∃ w1, w.grownBy w1 (some g) ∧ w1.grownBy w' (some gx) := by
  obtain ⟨x, hbx, hox⟩ := hx.parts
  obtain ⟨y, hby, hoy⟩ := hy.parts
  have c0 := hbx.cell 0
  have c1 := hbx.cell 1
  have d0 := hby.cell 0
  have d1 := hby.cell 1
  simp at c0 c1 d0 d1
  have hlx := hbx.lt
  have hly := hby.lt
  have HDV := Lib.hid (fun q => div_any x y v (w.drewN q) (hox.drewN q) (hoy.drewN q) hv)
  have HGV := Lib.hid (fun W (z : Value) (h : Blk W g 135 #[a, b]) (ho : OwnW W z (v / 4294967296)) => give_own g (v / 4294967296) a b z W h ho)
  have HGX := Lib.hid (fun W (z : Value) (h : Blk W gx 135 #[.bool false, x]) (ho : OwnW W z (v % 4294967296)) => give_own gx (v % 4294967296) (.bool false) x z W h ho)
  clear hx hy hox hoy
  go_enter Tryz.func127, Tryz.ntmps127
  go_wp2_with fail
  go_quiet (fail)
  go_wp2_with fail
  go_region_held3 (fun w' => w'.cell? ⟨gx, 1, none⟩ = some x ∧ w'.cell? ⟨gy, 1, none⟩ = some y) (first | exact ⟨(hb1.cell (p := ⟨gx, 1, none⟩) hlx).trans c1, (hb1.cell (p := ⟨gy, 1, none⟩) hly).trans d1⟩ | exact ⟨c1, d1⟩)
    ((go_at_call 149; go_must (refine (HDV.out _).mono ?_); rintro e w1 ⟨q, r, rfl, hoq, hor, hb1⟩))
  have hbz := (hb.drewN _).up hb1
  have hbxz := (hbx.drewN _).up hb1
  have hw1 : w.grownBy w1 (some g) := only_trans (only_drewN (only_refl w (some g)) _) (keeps_row hb1)
  go_wp2_with (first
    | (go_at_call_of 89 q; go_must (refine (HGV.out _ q hbz hoq).mono ?_); rintro e w2 ⟨rfl, hz, hg2⟩; have hor2 := hor.far hbz hg2; have hbx2 := only_blk hg2 hbxz h1)
    | (go_at_call_of 89 r; go_must (refine (HGX.out _ r hbx2 hor2).mono ?_); rintro e w3 ⟨rfl, hz3, hg3⟩))
  go_ret2
  exact ⟨⟨_, _, rfl⟩, hz3, w2, only_trans hw1 hg2, hg3⟩
/-- Two numbers are turned, no other. -/
def Turned (w w' : World) (g gx : Nat) : Prop := ∃ w1, w.grownBy w1 (some g) ∧ w1.grownBy w' (some gx)
set_option maxRecDepth 100000 in
set_option maxHeartbeats 4000000 in
theorem divmod_any (g gx gy v : Nat) (a b : Value) (w : World) (hb : Blk w g 135 #[a, b]) (hx : BigV w gx v) (hy : BigV w gy 4294967296) (hv : v < 18446744073709551616) (h1 : g ≠ gx) :
    Calls Tryz.prog 91 #[.pointer (some ⟨g, 0, none⟩), .pointer (some ⟨gx, 0, none⟩), .pointer (some ⟨gy, 0, none⟩), .pointer (some ⟨gx, 0, none⟩)] w fun e w' => (∃ p q, e = .returned (.tuple #[p, q])) ∧ BigV w' gx (v % 4294967296) ∧ Turned w w' g gx := by
  have hlg := hb.lt
  have hly : gy < w.heap.size := by obtain ⟨y, hy1, _⟩ := hy.parts; exact hy1.lt
  have HB := Lib.hid hb
  have HX := Lib.hid hx
  have HY := Lib.hid hy
  have HM := Lib.hid (fun W (hb' : Blk W g 135 #[a, b]) (hx' : BigV W gx v) (hy' : BigV W gy 4294967296) => quorem_any g gx gy v a b W hb' hx' hy' hv h1)
  have HS := Lib.hid (bset_any w.heap.size gy 4294967296 (.bool false) (.slice none 0 0) (w.alloc (.cells #[.bool false, .slice none 0 0] 135)) (Blk.new w _ _) (hy.up ((Below.refl w.heap.size w).alloc (Nat.le_refl _) _)) (by omega))
  have HB0 := Lib.hid ((Below.refl w.heap.size w).alloc (Nat.le_refl _) (.cells #[.bool false, .slice none 0 0] 135))
  clear hb hx hy
  go_enter Tryz.func91, Tryz.ntmps91
  go_wp2_with (first
    | (go_at_call 126; go_must (refine HS.out.mono ?_); rintro e w1 ⟨rfl, _, hg1⟩; have hb1 : Below w.heap.size w w1 := HB0.out.grown hg1 (by simp) (fun k hk => by cases hk; exact Nat.le_refl _))
    | (go_at_call 127; go_must (refine (HM.out w1 (HB.out.up hb1) (HX.out.up hb1) (HY.out.up hb1)).mono ?_); rintro e w2 ⟨⟨p, q, rfl⟩, hx2, w3, hg3, hg2⟩; obtain ⟨z, hbz, hoz⟩ := hx2.parts; have z0 := hbz.cell 0; simp at z0))
  go_ret2
  exact ⟨⟨_, _, rfl⟩, hx2, w3, only_trans (keeps_row hb1) hg3, hg2⟩
set_option maxRecDepth 100000 in
set_option maxHeartbeats 4000000 in
theorem mod_any (gx gy v : Nat) (w : World) (hx : BigV w gx v) (hy : BigV w gy 4294967296) (hv : v < 18446744073709551616) :
    Calls Tryz.prog 53 #[.pointer (some ⟨gx, 0, none⟩), .pointer (some ⟨gx, 0, none⟩), .pointer (some ⟨gy, 0, none⟩)] w fun e w' => e = .returned (.pointer (some ⟨gx, 0, none⟩)) ∧ BigV w' gx (v % 4294967296) ∧ w.grownBy w' (some gx) := by
  have hlx : gx < w.heap.size := by obtain ⟨y, hy1, _⟩ := hx.parts; exact hy1.lt
  have HB0 := (Below.refl w.heap.size w).alloc (Nat.le_refl _) (.cells #[.bool false, .slice none 0 0] 135)
  have HM := Lib.hid (divmod_any w.heap.size gx gy v (.bool false) (.slice none 0 0) (w.alloc (.cells #[.bool false, .slice none 0 0] 135)) (Blk.new w _ _) (hx.up HB0) (hy.up HB0) hv (by omega))
  clear hx hy
  go_enter Tryz.func53, Tryz.ntmps53
  go_wp2_with (first
    | (go_at_call 91; go_must (refine HM.out.mono ?_); rintro e w2 ⟨⟨p, q, rfl⟩, hx2, w3, hg3, hg2⟩))
  go_ret
  exact ⟨rfl, hx2, only_trans (keeps_row (HB0.grown hg3 (by simp) (fun k hk => by cases hk; exact Nat.le_refl _))) hg2⟩
end Go.Proofs.YtcfijljagohmlaaGreatDoor

/- The walks of weirgatebig's mul, Mul, low, of, Xor. -/
namespace Go.Proofs.YtcfijljagohmlaaGreatDoor
open Go.RowKit

theorem own_at_blk {w : World} {g n : Nat} {t : TypeId} {cs : Array Value} (h : Blk w g t cs) (hn : cs.size = n) (hm : n ≤ maxLen) : w.ownsRow 0 t 1 (.slice (some ⟨g, 0, none⟩) n n) n cs.toList := by
  refine ⟨by simp [hn], .inr ⟨g, n, cs, rfl, Nat.zero_le _, h, Nat.le_refl _, hm, by omega, ?_⟩⟩
  rw [Nat.mul_one, ← hn, ← Array.length_toList, List.take_length]
theorem trim_blk (g n v : Nat) (cs : Array Value) (l : List Nat) (W : World) (hb : Blk W g 137 cs) (hl : cs.toList = l.map u4) (hn : l.length = n) (hm : n ≤ 140737488355328) (hw : trimW l = wordsN v) :
    Calls Tryz.prog 125 #[.slice (some ⟨g, 0, none⟩) n n] W fun e w' => ∃ z, e = .returned z ∧ OwnW w' z v ∧ W = w' := by
  have hs : cs.size = n := by rw [← Array.length_toList, hl, List.length_map, hn]
  have hown := own_at_blk hb hs (by unfold maxLen; omega)
  rw [hl] at hown
  refine (trim_any (some ⟨g, 0, none⟩) n _ n l W (own_rd hown) hn hm (Nat.le_refl _)).mono ?_
  rintro e w1 ⟨rfl, rfl⟩
  have h := own_take hown (k := trimN l) (by rw [← hn]; exact trimN_le _)
  have hl2 : trimN l = (wordsN v).length := by
    rw [← hw, trimW, List.length_take]
    exact (Nat.min_eq_left (trimN_le _)).symm
  have hx : (l.map u4).take (trimN l * 1) = (wordsN v).map u4 := by
    rw [← hw, trimW, List.map_take, Nat.mul_one]
  rw [hx, hl2] at h
  exact ⟨_, rfl, ⟨_, _, by rw [hl2], h⟩, rfl⟩
theorem mul_words {x y : Nat} (hx : x < 4294967296) (hy : y < 4294967296) :
    (IntKind.u64.wrap (IntKind.u64.wrap (IntKind.u64.wrap ((x : Int) * y))) % 4294967296 = ((x * y % 4294967296 : Nat) : Int)) ∧ IntKind.u64.wrap (IntKind.u64.wrap (IntKind.u64.wrap ((x : Int) * y))) / 4294967296 % 4294967296 = ((x * y / 4294967296 : Nat) : Int) := by
  have h1 : x * y < 18446744073709551616 := by
    have : x * y ≤ 4294967295 * 4294967295 := Nat.mul_le_mul (by omega) (by omega)
    omega
  have h2 : ((x : Int) * y) = ((x * y : Nat) : Int) := by simp
  rw [h2]
  generalize x * y = p at *
  have h3 : IntKind.u64.wrap (p : Int) = (p : Int) := IntWalk.u64_in _ (by omega)
  rw [h3, h3, h3]
  omega
set_option maxRecDepth 100000 in
set_option maxHeartbeats 2000000 in
theorem mul_one (A B : Addr) (c d x y : Nat) (w : World) (ha : w.cell? A = some (.int .u32 x)) (hb : w.cell? B = some (.int .u32 y)) (hA : A.block < w.heap.size) (hB : B.block < w.heap.size) (hx : x < 4294967296) (hy : y < 4294967296) :
    Calls Tryz.prog 90 #[.slice (some A) 1 c, .slice (some B) 1 d] w fun e w' => ∃ z, e = .returned z ∧ OwnW w' z (x * y) ∧ Below w.heap.size w w' := by
  have hmk : ∀ w : World, (Instr.makeSlice 133 (.int .i64 2) (.int .i64 2)).run Tryz.prog w = .ok (.slice (some ⟨w.heap.size, 0, none⟩) 2 2) (w.alloc (.cells #[.int .u32 0, .int .u32 0] 137)) := fun _ => by kernel_rfl
  have HW := Lib.hid (mul_words hx hy)
  go_enter Tryz.func90, Tryz.ntmps90
  go_wp2_with fail
  refine wp_loop_rounds 2 ?_
  rw [rounds_succ]
  go_wp2_with fail
  refine wp_loop_rounds 2 ?_
  rw [rounds_succ]
  go_wp2_with fail
  go_quiet (fail)
  go_wp2_with fail
  rw [rounds_succ]
  go_wp2_with fail
  rw [rounds_succ]
  have HT : ∀ k, Hid (Calls Tryz.prog 125 #[.slice (some ⟨w.heap.size, 0, none⟩) 2 2] ((((w.alloc (.cells #[.int .u32 0, .int .u32 0] 137)).drewN k).setCell ⟨w.heap.size, 0, none⟩ (.int .u32 (x * y % 4294967296 : Nat))).setCell ⟨w.heap.size, 1, none⟩ (.int .u32 (x * y / 4294967296 : Nat))) fun e w' => ∃ z, e = .returned z ∧ OwnW w' z (x * y) ∧ _ = w') := fun k => Lib.hid (trim_blk w.heap.size 2 (x * y) _ [x * y % 4294967296, x * y / 4294967296] _ (((((Blk.new w 137 #[.int .u32 0, .int .u32 0]).drewN k).set_ 0 _).set_ 1 _)) rfl rfl (by omega) (trimW_two _))
  have HL : ∀ k, Hid (Below w.heap.size w ((((w.alloc (.cells #[.int .u32 0, .int .u32 0] 137)).drewN k).setCell ⟨w.heap.size, 0, none⟩ (.int .u32 (x * y % 4294967296 : Nat))).setCell ⟨w.heap.size, 1, none⟩ (.int .u32 (x * y / 4294967296 : Nat)))) := fun k => Lib.hid (((below_drewN ((Below.refl w.heap.size w).alloc (Nat.le_refl _) _) k).setCell (by simp) _).setCell (by simp) _)
  rw [← HW.out.1, ← HW.out.2] at HT HL
  go_wp2_with (first | (go_at_call 125; go_must (refine (HT _).out.mono ?_); rintro e w1 ⟨z, rfl, hz, rfl⟩))
  go_ret
  exact ⟨z, rfl, hz, (HL _).out⟩
theorem OwnW.zero (W : World) : OwnW W (.slice none 0 0) 0 := ⟨none, 0, rfl, World.ownsRow_nil _ _ _ _⟩
set_option maxRecDepth 100000 in
set_option maxHeartbeats 1000000 in
theorem mul_none (A : Option Addr) (c : Nat) (B : Option Addr) (d n : Nat) (w : World) :
    Calls Tryz.prog 90 #[.slice A 0 c, .slice B n d] w fun e w' => e = .returned (.slice none 0 0) ∧ w = w' := by
  go_enter Tryz.func90, Tryz.ntmps90
  go_wp2_with fail
  go_ret
  exact ⟨rfl, rfl⟩
/-- The one cell of a number below 2^32 that is not nought. -/
theorem OwnW.one {w : World} {x : Value} {v : Nat} (h : OwnW w x v) (h0 : v ≠ 0) (hv : v < 4294967296) : ∃ ad c, x = .slice (some ad) 1 c ∧ w.cell? ad = some (.int .u32 v) ∧ ad.block < w.heap.size := by
  obtain ⟨A, c, rfl, h2⟩ := h
  have e : wordsN v = [v] := by rw [wordsN, if_neg h0, if_pos hv]
  have hr := own_rd h2
  rw [e] at hr ⊢
  obtain ⟨ad, rfl, hb, hc⟩ := hr.word (k := 0) (by simp)
  simp only [List.getD_cons_zero, Addr.add, if_true] at hc
  exact ⟨ad, c, rfl, hc, hb⟩
theorem mul_any (x y : Nat) (a b : Value) (w : World) (ha : OwnW w a x) (hb : OwnW w b y) (hx : x < 4294967296) (hy : y < 4294967296) (hy0 : y ≠ 0) :
    Calls Tryz.prog 90 #[a, b] w fun e w' => ∃ z, e = .returned z ∧ OwnW w' z (x * y) ∧ Below w.heap.size w w' := by
  by_cases h0 : x = 0
  · subst h0
    obtain ⟨A, c, rfl, _⟩ := ha
    obtain ⟨B, d, rfl, _⟩ := hb
    refine (mul_none A c B d _ w).mono ?_
    rintro e w1 ⟨rfl, rfl⟩
    exact ⟨_, rfl, by rw [Nat.zero_mul]; exact OwnW.zero w, Below.refl _ _⟩
  · obtain ⟨ad, c, rfl, h1, h2⟩ := ha.one h0 hx
    obtain ⟨bd, d, rfl, h3, h4⟩ := hb.one hy0 hy
    exact mul_one ad bd c d x y w h1 h3 h2 h4 hx hy
attribute [local go_sem ↓] Go.wp_at_zero Go.wp_at_succ in
set_option maxRecDepth 100000 in
set_option maxHeartbeats 4000000 in
theorem bmul_any (gx gy x y : Nat) (w : World) (hx : BigV w gx x) (hy : BigV w gy y) (h1 : x < 4294967296) (h2 : y < 4294967296) (h3 : y ≠ 0) (hne : gx ≠ gy) :
    Calls Tryz.prog 52 #[.pointer (some ⟨gx, 0, none⟩), .pointer (some ⟨gx, 0, none⟩), .pointer (some ⟨gy, 0, none⟩)] w fun e w' => e = .returned (.pointer (some ⟨gx, 0, none⟩)) ∧ BigV w' gx (x * y) ∧ w.grownBy w' (some gx) := by
  obtain ⟨a, hbx, hox⟩ := hx.parts
  obtain ⟨b, hby, hoy⟩ := hy.parts
  have c0 := hbx.cell 0
  have c1 := hbx.cell 1
  have d0 := hby.cell 0
  have d1 := hby.cell 1
  simp at c0 c1 d0 d1
  have hlx := hbx.lt
  have hly := hby.lt
  have HML := Lib.hid (fun k => mul_any x y a b (w.drewN k) (hox.drewN k) (hoy.drewN k) h1 h2 h3)
  have HGX := Lib.hid (fun W (z : Value) (h : Blk W gx 135 #[.bool false, a]) (ho : OwnW W z (x * y)) => give_own gx (x * y) (.bool false) a z W h ho)
  have HBX := Lib.hid (fun k => hbx.drewN k)
  clear hx hy hox hoy
  go_enter Tryz.func52, Tryz.ntmps52
  go_wp2_with fail
  go_region_with
    ((first
      | (go_at_call 90; go_must (refine (HML.out _).mono ?_); rintro e w1 ⟨z, rfl, hz, hb1⟩; have hbz := (HBX.out _).up hb1; have hk1 := And.intro ((hb1.cell (p := ⟨gx, 0, none⟩) hlx).trans c0) (And.intro ((hb1.cell (p := ⟨gy, 0, none⟩) hly).trans d0) ((hb1.cell (p := ⟨gy, 1, none⟩) hly).trans d1)))
      | (go_at_call 89; go_must (refine (HGX.out _ z hbz hz).mono ?_); rintro e w2 ⟨rfl, hv2, hg2⟩; have hk2 := And.intro (show w2.cell? ⟨gx, 0, none⟩ = some (.bool false) from by obtain ⟨q, hq, _⟩ := hv2.parts; have := hq.cell 0; simpa using this) (And.intro (only_cell hg2 (Nat.lt_of_lt_of_le hly hb1.size) hne hk1.2.1) (only_cell hg2 (Nat.lt_of_lt_of_le hly hb1.size) hne hk1.2.2)))))
  all_goals go_wp2_with fail
  all_goals go_ret
  all_goals exact ⟨rfl, hv2, only_trans (only_trans (only_drewN (only_refl w (some gx)) _) (keeps_row hb1)) hg2⟩
end Go.Proofs.YtcfijljagohmlaaGreatDoor

/- The walks of weirgatebig's low, of, Xor. -/
namespace Go.Proofs.YtcfijljagohmlaaGreatDoor
open Go.RowKit

theorem copy_one (g c x : Nat) (ad : Addr) (W : World) (hb : Blk W g 137 #[.int .u32 0, .int .u32 0]) (ha : W.cell? ad = some (.int .u32 x)) :
    (Builtin.copy_ #[133, 133] 3 #[.slice (some ⟨g, 0, none⟩) 2 2, .slice (some ad) 1 c]).run Tryz.prog W = .ok (.int .i64 1) (W.setCell ⟨g, 0, none⟩ (.int .u32 x)) := by
  have h := run_copy_cells (P := Tryz.prog) W 133 133 3 137 g 0 2 2 ad 1 c [.int .u32 x] (by kernel_rfl) (by kernel_rfl) rfl
    (fun j v hj => by
      rcases j with _ | j
      · injection hj with hj
        subst hj
        simp only [Addr.add, if_true]
        exact ha
      · simp at hj)
    (fun j hj => by
      have e : j = 0 := by simpa using hj
      subst e
      have := hb.cell 0
      simp at this
      rw [Nat.zero_add, this]
      rfl)
    (fun j hj => by
      have e : j = 0 := by simpa using hj
      subst e
      exact hb.frozen 0)
    (by intro v hv; rw [List.mem_singleton.1 hv]; rfl)
  exact h
theorem copy_none (A : Option Addr) (g c n : Nat) (W : World) :
    (Builtin.copy_ #[133, 133] 3 #[.slice (some ⟨g, 0, none⟩) n n, .slice A 0 c]).run Tryz.prog W = .ok (.int .i64 0) W :=
  run_copy_none (P := Tryz.prog) W 133 133 3 137 _ A n n 0 c (by kernel_rfl) (by kernel_rfl) (Nat.zero_min n)
set_option maxRecDepth 100000 in
set_option maxHeartbeats 2000000 in
theorem low_one (gx c x : Nat) (ad : Addr) (w : World) (hb : Blk w gx 135 #[.bool false, .slice (some ad) 1 c]) (ha : w.cell? ad = some (.int .u32 x)) (hA : ad.block < w.heap.size) :
    Calls Tryz.prog 87 #[.pointer (some ⟨gx, 0, none⟩), .int .i64 2] w fun e w' => e = .returned (.slice (some ⟨w.heap.size, 0, none⟩) 2 2) ∧ Blk w' w.heap.size 137 #[.int .u32 x, .int .u32 0] ∧ Below w.heap.size w w' := by
  have hmk : ∀ w : World, (Instr.makeSlice 133 (.int .i64 2) (.int .i64 2)).run Tryz.prog w = .ok (.slice (some ⟨w.heap.size, 0, none⟩) 2 2) (w.alloc (.cells #[.int .u32 0, .int .u32 0] 137)) := fun _ => by kernel_rfl
  have hbn := Blk.new w 137 #[.int .u32 0, .int .u32 0]
  have hb0 := (Below.refl w.heap.size w).alloc (Nat.le_refl _) (.cells #[.int .u32 0, .int .u32 0] 137)
  have hcp := copy_one w.heap.size c x ad _ hbn ((hb0.cell hA).trans ha)
  have HF := Lib.hid (And.intro (Blk.new w 137 #[.int .u32 x, .int .u32 0]) ((Below.refl w.heap.size w).alloc (Nat.le_refl _) (.cells #[.int .u32 x, .int .u32 0] 137)))
  have c0 := hb.cell 0
  have c1 := hb.cell 1
  have hlx := hb.lt
  simp at c0 c1
  clear hbn hb0
  go_enter Tryz.func87, Tryz.ntmps87
  go_wp2_with fail
  go_ret
  exact ⟨rfl, HF.out.1, HF.out.2⟩
set_option maxRecDepth 100000 in
set_option maxHeartbeats 2000000 in
theorem low_two (gx c : Nat) (A : Option Addr) (w : World) (hb : Blk w gx 135 #[.bool false, .slice A 0 c]) :
    Calls Tryz.prog 87 #[.pointer (some ⟨gx, 0, none⟩), .int .i64 2] w fun e w' => e = .returned (.slice (some ⟨w.heap.size, 0, none⟩) 2 2) ∧ Blk w' w.heap.size 137 #[.int .u32 0, .int .u32 0] ∧ Below w.heap.size w w' := by
  have hmk : ∀ w : World, (Instr.makeSlice 133 (.int .i64 2) (.int .i64 2)).run Tryz.prog w = .ok (.slice (some ⟨w.heap.size, 0, none⟩) 2 2) (w.alloc (.cells #[.int .u32 0, .int .u32 0] 137)) := fun _ => by kernel_rfl
  have hbn := Blk.new w 137 #[.int .u32 0, .int .u32 0]
  have hb0 := (Below.refl w.heap.size w).alloc (Nat.le_refl _) (.cells #[.int .u32 0, .int .u32 0] 137)
  have hcp := copy_none A w.heap.size c 2 (w.alloc (.cells #[.int .u32 0, .int .u32 0] 137))
  have HF := Lib.hid (And.intro hbn hb0)
  have c0 := hb.cell 0
  have c1 := hb.cell 1
  have hlx := hb.lt
  simp at c0 c1
  clear hbn hb0
  go_enter Tryz.func87, Tryz.ntmps87
  go_wp2_with fail
  go_ret
  exact ⟨rfl, HF.out.1, HF.out.2⟩
set_option maxRecDepth 100000 in
set_option maxHeartbeats 2000000 in
theorem low_lone (gx c : Nat) (A : Option Addr) (w : World) (hb : Blk w gx 135 #[.bool false, .slice A 0 c]) :
    Calls Tryz.prog 87 #[.pointer (some ⟨gx, 0, none⟩), .int .i64 1] w fun e w' => e = .returned (.slice (some ⟨w.heap.size, 0, none⟩) 1 1) ∧ Blk w' w.heap.size 137 #[.int .u32 0] ∧ Below w.heap.size w w' := by
  have hmk : ∀ w : World, (Instr.makeSlice 133 (.int .i64 1) (.int .i64 1)).run Tryz.prog w = .ok (.slice (some ⟨w.heap.size, 0, none⟩) 1 1) (w.alloc (.cells #[.int .u32 0] 137)) := fun _ => by kernel_rfl
  have hbn := Blk.new w 137 #[.int .u32 0]
  have hb0 := (Below.refl w.heap.size w).alloc (Nat.le_refl _) (.cells #[.int .u32 0] 137)
  have hcp := copy_none A w.heap.size c 1 (w.alloc (.cells #[.int .u32 0] 137))
  have HF := Lib.hid (And.intro hbn hb0)
  have c0 := hb.cell 0
  have c1 := hb.cell 1
  have hlx := hb.lt
  simp at c0 c1
  clear hbn hb0
  go_enter Tryz.func87, Tryz.ntmps87
  go_wp2_with fail
  go_ret
  exact ⟨rfl, HF.out.1, HF.out.2⟩
set_option maxRecDepth 100000 in
set_option maxHeartbeats 2000000 in
theorem of_two (g gr v : Nat) (a b : Value) (w : World) (hb : Blk w g 135 #[a, b]) (hr : Blk w gr 137 #[.int .u32 v, .int .u32 0]) (hv : v < 4294967296) :
    Calls Tryz.prog 88 #[.pointer (some ⟨g, 0, none⟩), .slice (some ⟨gr, 0, none⟩) 2 2] w fun e w' => e = .returned (.pointer (some ⟨g, 0, none⟩)) ∧ BigV w' g v ∧ w.grownBy w' (some g) := by
  have r1 := hr.cell 1
  simp at r1
  have hlr := hr.lt
  have hw2 : trimW [v, 0] = wordsN v := by
    have := trimW_two v
    rwa [Nat.mod_eq_of_lt hv, Nat.div_eq_of_lt hv] at this
  have HT := Lib.hid (trim_blk gr 2 v _ [v, 0] w hr rfl rfl (by omega) hw2)
  have HB := Lib.hid hb
  clear hb hw2
  go_enter Tryz.func88, Tryz.ntmps88
  go_wp2_with (first
    | (go_at_call 125; go_must (refine HT.out.mono ?_); rintro e w1 ⟨z, rfl, hz, rfl⟩)
    | (go_at_call 89; go_must (refine (give_own g v a b z _ HB.out hz).mono ?_); rintro e w2 ⟨rfl, hv2, hg2⟩))
  go_ret
  exact ⟨rfl, hv2, hg2⟩
set_option maxRecDepth 100000 in
set_option maxHeartbeats 2000000 in
theorem of_lone (g gr : Nat) (a b : Value) (w : World) (hb : Blk w g 135 #[a, b]) (hr : Blk w gr 137 #[.int .u32 0]) :
    Calls Tryz.prog 88 #[.pointer (some ⟨g, 0, none⟩), .slice (some ⟨gr, 0, none⟩) 1 1] w fun e w' => e = .returned (.pointer (some ⟨g, 0, none⟩)) ∧ BigV w' g 0 ∧ w.grownBy w' (some g) := by
  have r1 := hr.cell 0
  simp at r1
  have hlr := hr.lt
  have HT := Lib.hid (trim_blk gr 1 0 _ [0] w hr rfl rfl (by omega) rfl)
  have HB := Lib.hid hb
  clear hb
  go_enter Tryz.func88, Tryz.ntmps88
  go_wp2_with (first
    | (go_at_call 125; go_must (refine HT.out.mono ?_); rintro e w1 ⟨z, rfl, hz, rfl⟩)
    | (go_at_call 89; go_must (refine (give_own g 0 a b z _ HB.out hz).mono ?_); rintro e w2 ⟨rfl, hv2, hg2⟩))
  go_ret
  exact ⟨rfl, hv2, hg2⟩
end Go.Proofs.YtcfijljagohmlaaGreatDoor

/- The walk of weirgatebig's Xor. -/
namespace Go.Proofs.YtcfijljagohmlaaGreatDoor
open Go.RowKit

theorem low2_any (gx v : Nat) (w : World) (hx : BigV w gx v) (hv : v < 4294967296) :
    Calls Tryz.prog 87 #[.pointer (some ⟨gx, 0, none⟩), .int .i64 2] w fun e w' => e = .returned (.slice (some ⟨w.heap.size, 0, none⟩) 2 2) ∧ Blk w' w.heap.size 137 #[.int .u32 v, .int .u32 0] ∧ Below w.heap.size w w' := by
  obtain ⟨a, hb, ho⟩ := hx.parts
  by_cases h0 : v = 0
  · subst h0
    obtain ⟨A, c, rfl, _⟩ := ho
    exact low_two gx c A w hb
  · obtain ⟨ad, c, rfl, h1, h2⟩ := ho.one h0 hv
    exact low_one gx c v ad w hb h1 h2
theorem low1_any (gx : Nat) (w : World) (hx : BigV w gx 0) :
    Calls Tryz.prog 87 #[.pointer (some ⟨gx, 0, none⟩), .int .i64 1] w fun e w' => e = .returned (.slice (some ⟨w.heap.size, 0, none⟩) 1 1) ∧ Blk w' w.heap.size 137 #[.int .u32 0] ∧ Below w.heap.size w w' := by
  obtain ⟨a, hb, ho⟩ := hx.parts
  obtain ⟨A, c, rfl, _⟩ := ho
  exact low_lone gx c A w hb
theorem xk0 {W : World} {g1 g2 : Nat} {t t' : TypeId} {p q r s u : Value} (hb0 : Blk W g1 t #[p, q]) (hb2 : Blk W g2 t' #[r, s]) (hd : g1 ≠ g2) :
    (W.setCell ⟨g1, 0, none⟩ u).drew.cell? ⟨g1, 1, none⟩ = some q ∧ (W.setCell ⟨g1, 0, none⟩ u).drew.cell? ⟨g2, 0, none⟩ = some r ∧ (W.setCell ⟨g1, 0, none⟩ u).drew.cell? ⟨g2, 1, none⟩ = some s := by
  have h1 := (hb0.set_ 0 u).drew.cell 1
  have h2 := (hb2.far (p := ⟨g1, 0, none⟩) hd.symm u).drew
  have h3 := h2.cell 0
  have h4 := h2.cell 1
  simp at h1 h3 h4
  exact ⟨h1, h3, h4⟩
theorem xk1 {W : World} {g1 g2 : Nat} {t t' : TypeId} {p q r s u : Value} (hb0 : Blk W g1 t #[p, q]) (hb2 : Blk W g2 t' #[r, s]) (hd : g1 ≠ g2) :
    (W.setCell ⟨g1, 1, none⟩ u).drew.cell? ⟨g1, 0, none⟩ = some p ∧ (W.setCell ⟨g1, 1, none⟩ u).drew.cell? ⟨g2, 0, none⟩ = some r ∧ (W.setCell ⟨g1, 1, none⟩ u).drew.cell? ⟨g2, 1, none⟩ = some s := by
  have h1 := (hb0.set_ 1 u).drew.cell 0
  have h2 := (hb2.far (p := ⟨g1, 1, none⟩) hd.symm u).drew
  have h3 := h2.cell 0
  have h4 := h2.cell 1
  simp at h1 h3 h4
  exact ⟨h1, h3, h4⟩
theorem xor_nat {x y : Nat} (hx : x < 4294967296) (hy : y < 4294967296) : bits BinOp.xor IntKind.u32 (x : Int) (y : Int) = ((x ^^^ y : Nat) : Int) := u32_xor_nat x y hx hy
theorem xor_lt {x y : Nat} (hx : x < 4294967296) (hy : y < 4294967296) : x ^^^ y < 4294967296 := Nat.xor_lt_two_pow (n := 32) hx hy
set_option maxRecDepth 100000 in
set_option maxHeartbeats 4000000 in
theorem xor_two (gx gy x y : Nat) (A B : Option Addr) (c d m n : Nat) (w : World) (hx : BigV w gx x) (hy : BigV w gy y) (hbx : Blk w gx 135 #[.bool false, .slice A m c]) (hby : Blk w gy 135 #[.bool false, .slice B n d]) (h1 : x < 4294967296) (h2 : y < 4294967296) (hm : m ≤ 1) (hn : n ≤ 1) (hmn : 1 ≤ m + n) :
    Calls Tryz.prog 51 #[.pointer (some ⟨gx, 0, none⟩), .pointer (some ⟨gx, 0, none⟩), .pointer (some ⟨gy, 0, none⟩)] w fun e w' => e = .returned (.pointer (some ⟨gx, 0, none⟩)) ∧ BigV w' gx (x ^^^ y) ∧ w.grownBy w' (some gx) := by
  have c1 := hbx.cell 1
  have d1 := hby.cell 1
  simp at c1 d1
  have HXV := Lib.hid (xor_nat h1 h2)
  have hvl := xor_lt h1 h2
  have HX := Lib.hid (fun k => low2_any gx x (w.drewN k) (hx.drewN k) h1)
  have HY := Lib.hid (fun k W (h : Below w.heap.size (w.drewN k) W) => low2_any gy y W (hy.up ⟨h.os, h.tape, h.output, h.size, h.block⟩) h2)
  have HB := Lib.hid hbx
  clear hx hy hbx hby
  rcases (show (m = 1 ∧ n = 0) ∨ (m = 1 ∧ n = 1) ∨ (m = 0 ∧ n = 1) from by omega) with ⟨rfl, rfl⟩ | ⟨rfl, rfl⟩ | ⟨rfl, rfl⟩
  · go_enter Tryz.func51, Tryz.ntmps51
    go_wp2_with fail
    go_region_held3 (fun w' => w'.cell? ⟨gx, 1, none⟩ = some (.slice A 1 c) ∧ w'.cell? ⟨gy, 1, none⟩ = some (.slice B 0 d)) (exact ⟨c1, d1⟩) (fail)
    rw [show IntKind.i64.wrap 2 = 2 from rfl]
    go_wp2_with (first
      | (go_at_call_of 87 gx; go_must (refine (HX.out _).mono ?_); rintro e w1 ⟨rfl, hb1, hl1⟩)
      | (go_at_call_of 87 gy; go_must (refine (HY.out _ _ hl1).mono ?_); rintro e w2 ⟨rfl, hb2, hl2⟩))
    have hb0 : Blk w2 w.heap.size 137 #[.int .u32 x, .int .u32 0] := hb1.up hl2
    have hle : Below w.heap.size w w1 := ⟨hl1.os, hl1.tape, hl1.output, hl1.size, hl1.block⟩
    have hlt1 : w.heap.size < w1.heap.size := hb1.lt
    have HG := Lib.hid (below_up hle hl2)
    have HB2 := HB.out.up (below_up hle hl2)
    have hlg := HB.out.lt
    clear hl1 hl2 hle HX HY HB hb1 c1 d1
    generalize hq1 : w.heap.size = g1 at *
    generalize hq2 : w1.heap.size = g2 at *
    have hd : g1 ≠ g2 := by omega
    have a0 := hb0.cell 0
    have a1 := hb0.cell 1
    have b0 := hb2.cell 0
    have b1 := hb2.cell 1
    simp at a0 a1 b0 b1
    have f0 := hb0.frozen 0
    go_wp2_with fail
    refine wp_loop_rounds 3 ?_
    rw [rounds_succ]
    go_wp2_with fail
    go_still_tail 10, (by kernel_rfl)
    rw [HXV.out]
    change wpList _ _ _ _ _ w2.drew
    have f0 := hb0.drew.frozen 0
    have a0 := hb0.drew.cell 0
    simp at a0
    go_wp2_with fail
    have hb3 := (hb0.set_ 0 (.int .u32 (x ^^^ y : Nat))).drew
    have hb4 := (hb2.far (p := ⟨g1, 0, none⟩) hd.symm (.int .u32 (x ^^^ y : Nat))).drew
    have hb5 := (HB2.far (p := ⟨g1, 0, none⟩) (by simp; omega) (.int .u32 (x ^^^ y : Nat))).drew
    have HG2 : Hid (Below g1 w (w2.setCell ⟨g1, 0, none⟩ (.int .u32 (x ^^^ y : Nat))).drew) := Lib.hid (HG.out.setCell (Nat.le_refl _) _).drew
    change Blk _ g1 _ #[.int .u32 (x ^^^ y : Nat), .int .u32 0] at hb3
    clear a0 a1 b0 b1 f0 hb0 hb2 HB2 HG HXV
    generalize hw3 : (w2.setCell ⟨g1, 0, none⟩ (.int .u32 (x ^^^ y : Nat))).drew = w3 at *
    generalize hvx : x ^^^ y = v at *
    have a1 := hb3.cell 1
    have a0 := hb3.cell 0
    have b0 := hb4.cell 0
    have b1 := hb4.cell 1
    simp at a0 a1 b0 b1
    have f1 := hb3.frozen 1
    rw [rounds_succ]
    go_wp2_with fail
    go_still_tail 10, (by kernel_rfl)
    rw [show bits BinOp.xor IntKind.u32 0 0 = 0 from xor_nat (x := 0) (y := 0) (by omega) (by omega)]
    change wpList _ _ _ _ _ w3.drew
    have f1 := hb3.drew.frozen 1
    have a1 := hb3.drew.cell 1
    simp at a1
    go_wp2_with fail
    have hb6 := (hb3.set_ 1 (.int .u32 0)).drew
    have hb7 := (hb5.far (p := ⟨g1, 1, none⟩) (by simp; omega) (.int .u32 0)).drew
    have HG3 : Hid (Below g1 w (w3.setCell ⟨g1, 1, none⟩ (.int .u32 0)).drew) := Lib.hid (HG2.out.setCell (Nat.le_refl _) _).drew
    change Blk _ g1 _ #[.int .u32 v, .int .u32 0] at hb6
    have HO := fun q => Lib.hid (of_two gx g1 v (.bool false) (.slice A 1 c) _ (hb7.drewN q) (hb6.drewN q) hvl)
    clear a1 a0 b0 b1 f1 hb3 hb4 hb5 HG2 hb6 hb7
    generalize hw4 : (w3.setCell ⟨g1, 1, none⟩ (.int .u32 0)).drew = w4 at *
    rw [rounds_succ]
    go_wp2_with (first
      | (go_at_call 88; go_must (refine (HO 0).out.mono ?_); rintro e w5 ⟨rfl, hv5, hg5⟩))
    go_ret
    exact ⟨rfl, by rw [hvx]; exact hv5, only_trans (keeps_row (by rw [hq1]; exact HG3.out)) hg5⟩
  · go_enter Tryz.func51, Tryz.ntmps51
    go_wp2_with fail
    go_region_held3 (fun w' => w'.cell? ⟨gx, 1, none⟩ = some (.slice A 1 c) ∧ w'.cell? ⟨gy, 1, none⟩ = some (.slice B 1 d)) (exact ⟨c1, d1⟩) (fail)
    rw [show IntKind.i64.wrap 2 = 2 from rfl]
    go_wp2_with (first
      | (go_at_call_of 87 gx; go_must (refine (HX.out _).mono ?_); rintro e w1 ⟨rfl, hb1, hl1⟩)
      | (go_at_call_of 87 gy; go_must (refine (HY.out _ _ hl1).mono ?_); rintro e w2 ⟨rfl, hb2, hl2⟩))
    have hb0 : Blk w2 w.heap.size 137 #[.int .u32 x, .int .u32 0] := hb1.up hl2
    have hle : Below w.heap.size w w1 := ⟨hl1.os, hl1.tape, hl1.output, hl1.size, hl1.block⟩
    have hlt1 : w.heap.size < w1.heap.size := hb1.lt
    have HG := Lib.hid (below_up hle hl2)
    have HB2 := HB.out.up (below_up hle hl2)
    have hlg := HB.out.lt
    clear hl1 hl2 hle HX HY HB hb1 c1 d1
    generalize hq1 : w.heap.size = g1 at *
    generalize hq2 : w1.heap.size = g2 at *
    have hd : g1 ≠ g2 := by omega
    have a0 := hb0.cell 0
    have a1 := hb0.cell 1
    have b0 := hb2.cell 0
    have b1 := hb2.cell 1
    simp at a0 a1 b0 b1
    have f0 := hb0.frozen 0
    go_wp2_with fail
    refine wp_loop_rounds 3 ?_
    rw [rounds_succ]
    go_wp2_with fail
    go_still_tail 10, (by kernel_rfl)
    rw [HXV.out]
    change wpList _ _ _ _ _ w2.drew
    have f0 := hb0.drew.frozen 0
    have a0 := hb0.drew.cell 0
    simp at a0
    go_wp2_with fail
    have hb3 := (hb0.set_ 0 (.int .u32 (x ^^^ y : Nat))).drew
    have hb4 := (hb2.far (p := ⟨g1, 0, none⟩) hd.symm (.int .u32 (x ^^^ y : Nat))).drew
    have hb5 := (HB2.far (p := ⟨g1, 0, none⟩) (by simp; omega) (.int .u32 (x ^^^ y : Nat))).drew
    have HG2 : Hid (Below g1 w (w2.setCell ⟨g1, 0, none⟩ (.int .u32 (x ^^^ y : Nat))).drew) := Lib.hid (HG.out.setCell (Nat.le_refl _) _).drew
    change Blk _ g1 _ #[.int .u32 (x ^^^ y : Nat), .int .u32 0] at hb3
    clear a0 a1 b0 b1 f0 hb0 hb2 HB2 HG HXV
    generalize hw3 : (w2.setCell ⟨g1, 0, none⟩ (.int .u32 (x ^^^ y : Nat))).drew = w3 at *
    generalize hvx : x ^^^ y = v at *
    have a1 := hb3.cell 1
    have a0 := hb3.cell 0
    have b0 := hb4.cell 0
    have b1 := hb4.cell 1
    simp at a0 a1 b0 b1
    have f1 := hb3.frozen 1
    rw [rounds_succ]
    go_wp2_with fail
    go_still_tail 10, (by kernel_rfl)
    rw [show bits BinOp.xor IntKind.u32 0 0 = 0 from xor_nat (x := 0) (y := 0) (by omega) (by omega)]
    change wpList _ _ _ _ _ w3.drew
    have f1 := hb3.drew.frozen 1
    have a1 := hb3.drew.cell 1
    simp at a1
    go_wp2_with fail
    have hb6 := (hb3.set_ 1 (.int .u32 0)).drew
    have hb7 := (hb5.far (p := ⟨g1, 1, none⟩) (by simp; omega) (.int .u32 0)).drew
    have HG3 : Hid (Below g1 w (w3.setCell ⟨g1, 1, none⟩ (.int .u32 0)).drew) := Lib.hid (HG2.out.setCell (Nat.le_refl _) _).drew
    change Blk _ g1 _ #[.int .u32 v, .int .u32 0] at hb6
    have HO := fun q => Lib.hid (of_two gx g1 v (.bool false) (.slice A 1 c) _ (hb7.drewN q) (hb6.drewN q) hvl)
    clear a1 a0 b0 b1 f1 hb3 hb4 hb5 HG2 hb6 hb7
    generalize hw4 : (w3.setCell ⟨g1, 1, none⟩ (.int .u32 0)).drew = w4 at *
    rw [rounds_succ]
    go_wp2_with (first
      | (go_at_call 88; go_must (refine (HO 0).out.mono ?_); rintro e w5 ⟨rfl, hv5, hg5⟩))
    go_ret
    exact ⟨rfl, by rw [hvx]; exact hv5, only_trans (keeps_row (by rw [hq1]; exact HG3.out)) hg5⟩
  · go_enter Tryz.func51, Tryz.ntmps51
    go_wp2_with fail
    go_region_held3 (fun w' => w'.cell? ⟨gx, 1, none⟩ = some (.slice A 0 c) ∧ w'.cell? ⟨gy, 1, none⟩ = some (.slice B 1 d)) (exact ⟨c1, d1⟩) (fail)
    rw [show IntKind.i64.wrap 2 = 2 from rfl]
    go_wp2_with (first
      | (go_at_call_of 87 gx; go_must (refine (HX.out _).mono ?_); rintro e w1 ⟨rfl, hb1, hl1⟩)
      | (go_at_call_of 87 gy; go_must (refine (HY.out _ _ hl1).mono ?_); rintro e w2 ⟨rfl, hb2, hl2⟩))
    have hb0 : Blk w2 w.heap.size 137 #[.int .u32 x, .int .u32 0] := hb1.up hl2
    have hle : Below w.heap.size w w1 := ⟨hl1.os, hl1.tape, hl1.output, hl1.size, hl1.block⟩
    have hlt1 : w.heap.size < w1.heap.size := hb1.lt
    have HG := Lib.hid (below_up hle hl2)
    have HB2 := HB.out.up (below_up hle hl2)
    have hlg := HB.out.lt
    clear hl1 hl2 hle HX HY HB hb1 c1 d1
    generalize hq1 : w.heap.size = g1 at *
    generalize hq2 : w1.heap.size = g2 at *
    have hd : g1 ≠ g2 := by omega
    have a0 := hb0.cell 0
    have a1 := hb0.cell 1
    have b0 := hb2.cell 0
    have b1 := hb2.cell 1
    simp at a0 a1 b0 b1
    have f0 := hb0.frozen 0
    go_wp2_with fail
    refine wp_loop_rounds 3 ?_
    rw [rounds_succ]
    go_wp2_with fail
    go_still_tail 10, (by kernel_rfl)
    rw [HXV.out]
    change wpList _ _ _ _ _ w2.drew
    have f0 := hb0.drew.frozen 0
    have a0 := hb0.drew.cell 0
    simp at a0
    go_wp2_with fail
    have hb3 := (hb0.set_ 0 (.int .u32 (x ^^^ y : Nat))).drew
    have hb4 := (hb2.far (p := ⟨g1, 0, none⟩) hd.symm (.int .u32 (x ^^^ y : Nat))).drew
    have hb5 := (HB2.far (p := ⟨g1, 0, none⟩) (by simp; omega) (.int .u32 (x ^^^ y : Nat))).drew
    have HG2 : Hid (Below g1 w (w2.setCell ⟨g1, 0, none⟩ (.int .u32 (x ^^^ y : Nat))).drew) := Lib.hid (HG.out.setCell (Nat.le_refl _) _).drew
    change Blk _ g1 _ #[.int .u32 (x ^^^ y : Nat), .int .u32 0] at hb3
    clear a0 a1 b0 b1 f0 hb0 hb2 HB2 HG HXV
    generalize hw3 : (w2.setCell ⟨g1, 0, none⟩ (.int .u32 (x ^^^ y : Nat))).drew = w3 at *
    generalize hvx : x ^^^ y = v at *
    have a1 := hb3.cell 1
    have a0 := hb3.cell 0
    have b0 := hb4.cell 0
    have b1 := hb4.cell 1
    simp at a0 a1 b0 b1
    have f1 := hb3.frozen 1
    rw [rounds_succ]
    go_wp2_with fail
    go_still_tail 10, (by kernel_rfl)
    rw [show bits BinOp.xor IntKind.u32 0 0 = 0 from xor_nat (x := 0) (y := 0) (by omega) (by omega)]
    change wpList _ _ _ _ _ w3.drew
    have f1 := hb3.drew.frozen 1
    have a1 := hb3.drew.cell 1
    simp at a1
    go_wp2_with fail
    have hb6 := (hb3.set_ 1 (.int .u32 0)).drew
    have hb7 := (hb5.far (p := ⟨g1, 1, none⟩) (by simp; omega) (.int .u32 0)).drew
    have HG3 : Hid (Below g1 w (w3.setCell ⟨g1, 1, none⟩ (.int .u32 0)).drew) := Lib.hid (HG2.out.setCell (Nat.le_refl _) _).drew
    change Blk _ g1 _ #[.int .u32 v, .int .u32 0] at hb6
    have HO := fun q => Lib.hid (of_two gx g1 v (.bool false) (.slice A 0 c) _ (hb7.drewN q) (hb6.drewN q) hvl)
    clear a1 a0 b0 b1 f1 hb3 hb4 hb5 HG2 hb6 hb7
    generalize hw4 : (w3.setCell ⟨g1, 1, none⟩ (.int .u32 0)).drew = w4 at *
    rw [rounds_succ]
    go_wp2_with (first
      | (go_at_call 88; go_must (refine (HO 0).out.mono ?_); rintro e w5 ⟨rfl, hv5, hg5⟩))
    go_ret
    exact ⟨rfl, by rw [hvx]; exact hv5, only_trans (keeps_row (by rw [hq1]; exact HG3.out)) hg5⟩
set_option maxRecDepth 100000 in
set_option maxHeartbeats 4000000 in
theorem xor_lone (gx gy : Nat) (A B : Option Addr) (c d : Nat) (w : World) (hx : BigV w gx 0) (hy : BigV w gy 0) (hbx : Blk w gx 135 #[.bool false, .slice A 0 c]) (hby : Blk w gy 135 #[.bool false, .slice B 0 d]) :
    Calls Tryz.prog 51 #[.pointer (some ⟨gx, 0, none⟩), .pointer (some ⟨gx, 0, none⟩), .pointer (some ⟨gy, 0, none⟩)] w fun e w' => e = .returned (.pointer (some ⟨gx, 0, none⟩)) ∧ BigV w' gx 0 ∧ w.grownBy w' (some gx) := by
  have c1 := hbx.cell 1
  have d1 := hby.cell 1
  simp at c1 d1
  have HX := Lib.hid (fun k => low1_any gx (w.drewN k) (hx.drewN k))
  have HY := Lib.hid (fun k W (h : Below w.heap.size (w.drewN k) W) => low1_any gy W (hy.up ⟨h.os, h.tape, h.output, h.size, h.block⟩))
  have HB := Lib.hid hbx
  clear hx hy hbx hby
  go_enter Tryz.func51, Tryz.ntmps51
  go_wp2_with fail
  go_region_held3 (fun w' => w'.cell? ⟨gx, 1, none⟩ = some (.slice A 0 c) ∧ w'.cell? ⟨gy, 1, none⟩ = some (.slice B 0 d)) (exact ⟨c1, d1⟩) (fail)
  rw [show IntKind.i64.wrap 1 = 1 from rfl]
  go_wp2_with (first
    | (go_at_call_of 87 gx; go_must (refine (HX.out _).mono ?_); rintro e w1 ⟨rfl, hb1, hl1⟩)
    | (go_at_call_of 87 gy; go_must (refine (HY.out _ _ hl1).mono ?_); rintro e w2 ⟨rfl, hb2, hl2⟩))
  have hb0 : Blk w2 w.heap.size 137 #[.int .u32 0] := hb1.up hl2
  have hle : Below w.heap.size w w1 := ⟨hl1.os, hl1.tape, hl1.output, hl1.size, hl1.block⟩
  have hlt1 : w.heap.size < w1.heap.size := hb1.lt
  have HG := Lib.hid (below_up hle hl2)
  have HB2 := HB.out.up (below_up hle hl2)
  have hlg := HB.out.lt
  clear hl1 hl2 hle HX HY HB hb1 c1 d1
  generalize hq1 : w.heap.size = g1 at *
  generalize hq2 : w1.heap.size = g2 at *
  have hd : g1 ≠ g2 := by omega
  have a0 := hb0.cell 0
  have b0 := hb2.cell 0
  simp at a0 b0
  have f0 := hb0.frozen 0
  go_wp2_with fail
  refine wp_loop_rounds 2 ?_
  rw [rounds_succ]
  go_wp2_with fail
  go_still_tail 10, (by kernel_rfl)
  rw [show bits BinOp.xor IntKind.u32 0 0 = 0 from xor_nat (x := 0) (y := 0) (by omega) (by omega)]
  change wpList _ _ _ _ _ w2.drew
  have f0 := hb0.drew.frozen 0
  have a0 := hb0.drew.cell 0
  simp at a0
  go_wp2_with fail
  have hb6 := (hb0.set_ 0 (.int .u32 0)).drew
  have hb7 := (HB2.far (p := ⟨g1, 0, none⟩) (by simp; omega) (.int .u32 0)).drew
  have HG3 : Hid (Below g1 w (w2.setCell ⟨g1, 0, none⟩ (.int .u32 0)).drew) := Lib.hid (HG.out.setCell (Nat.le_refl _) _).drew
  change Blk _ g1 _ #[.int .u32 0] at hb6
  have HO := fun q => Lib.hid (of_lone gx g1 (.bool false) (.slice A 0 c) _ (hb7.drewN q) (hb6.drewN q))
  clear a0 b0 f0 hb0 hb2 HB2 HG hb6 hb7
  generalize hw4 : (w2.setCell ⟨g1, 0, none⟩ (.int .u32 0)).drew = w4 at *
  rw [rounds_succ]
  go_wp2_with (first
    | (go_at_call 88; go_must (refine (HO 0).out.mono ?_); rintro e w5 ⟨rfl, hv5, hg5⟩))
  go_ret
  exact ⟨rfl, hv5, only_trans (keeps_row (by rw [hq1]; exact HG3.out)) hg5⟩
theorem wordsN_zero_len {v : Nat} (hv : v < 4294967296) (h : (wordsN v).length = 0) : v = 0 := by
  by_cases h0 : v = 0
  · exact h0
  · rw [wordsN, if_neg h0, if_pos hv] at h; simp at h
theorem bxor_any (gx gy x y : Nat) (w : World) (hx : BigV w gx x) (hy : BigV w gy y) (h1 : x < 4294967296) (h2 : y < 4294967296) :
    Calls Tryz.prog 51 #[.pointer (some ⟨gx, 0, none⟩), .pointer (some ⟨gx, 0, none⟩), .pointer (some ⟨gy, 0, none⟩)] w fun e w' => e = .returned (.pointer (some ⟨gx, 0, none⟩)) ∧ BigV w' gx (x ^^^ y) ∧ w.grownBy w' (some gx) := by
  obtain ⟨a, hbx, hox⟩ := hx.parts
  obtain ⟨b, hby, hoy⟩ := hy.parts
  obtain ⟨A, c, rfl, _⟩ := hox
  obtain ⟨B, d, rfl, _⟩ := hoy
  by_cases h0 : 1 ≤ (wordsN x).length + (wordsN y).length
  · exact xor_two gx gy x y A B c d _ _ w hx hy hbx hby h1 h2 (wordsN_small h1) (wordsN_small h2) h0
  · have e1 := wordsN_zero_len h1 (by omega)
    have e2 := wordsN_zero_len h2 (by omega)
    subst e1 e2
    exact xor_lone gx gy A B c d w hx hy hbx hby
end Go.Proofs.YtcfijljagohmlaaGreatDoor
