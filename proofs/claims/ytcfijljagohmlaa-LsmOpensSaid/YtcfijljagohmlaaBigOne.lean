/- Numbers of words: what NewInt makes (out of BigNums). -/
import Derived.Test.YtcfijljagohmlaaBase2
import Derived.Test.YtcfijljagohmlaaProg
import Derived.Test.YtcfijljagohmlaaKeeps
import Derived.Laws.OwnMore
import Derived.Deep.CutBlock
import Derived.Deep.CutRange
import Derived.Deep.RegionHeld3
import Derived.Deep.RegionWith
import Derived.Deep.DrawnRows
import Derived.BigQuiet
import Derived.WideLaws
import Derived.Deep.QuietTactic
import Derived.StillTailTactics
import Derived.LoopN
import Derived.Laws.IdiomCopy
import Derived.Laws.BitsAllLaws
/- Numbers as words of 32 bits, as plain data. No program in sight. -/
namespace Go.Proofs.Ytcfijljagohmlaa
open Go.RowKit

def u4 (n : Nat) : Value := .int .u32 n
theorem u4s_one (l : List Nat) : ∀ u ∈ l.map u4, u.oneCell' = true := by
  intro u hu; obtain ⟨b, _, rfl⟩ := List.mem_map.1 hu; rfl
/-- How many words are left once the noughts at the end are gone. -/
def trimN : List Nat → Nat
  | [] => 0
  | x :: xs => if trimN xs = 0 then (if x = 0 then 0 else 1) else trimN xs + 1
theorem trimN_le : ∀ (l : List Nat), trimN l ≤ l.length := by
  intro l
  induction l with
  | nil => exact Nat.le_refl _
  | cons x xs ih =>
    rw [trimN]
    split
    · split <;> simp
    · simp only [List.length_cons]; omega
theorem trimN_is : ∀ {l : List Nat} {n : Nat}, n ≤ l.length → (∀ j, n ≤ j → j < l.length → l.getD j 0 = 0) → (0 < n → l.getD (n - 1) 0 ≠ 0) → trimN l = n := by
  intro l
  induction l with
  | nil => intro n h _ _; simp at h; simp [trimN, h]
  | cons x xs ih =>
    intro n h1 h2 h3
    rcases n with _ | n
    · have := ih (n := 0) (Nat.zero_le _) (fun j _ hj => by
        have := h2 (j + 1) (Nat.zero_le _) (by simp only [List.length_cons]; omega)
        simpa using this) (fun h => absurd h (by omega))
      have hx := h2 0 (Nat.le_refl _) (by simp)
      simp only [List.getD_cons_zero] at hx
      rw [trimN, if_pos this, if_pos hx]
    · simp only [List.length_cons] at h1
      have h4 := h3 (by omega)
      simp only [Nat.add_sub_cancel] at h4
      rcases n with _ | m
      · have := ih (n := 0) (Nat.zero_le _) (fun j _ hj => by
          have := h2 (j + 1) (by omega) (by simp only [List.length_cons]; omega)
          simpa using this) (fun h => absurd h (by omega))
        simp only [List.getD_cons_zero] at h4
        rw [trimN, if_pos this, if_neg h4]
      · have := ih (n := m + 1) (by omega) (fun j hj hjl => by
          have := h2 (j + 1) (by omega) (by simp only [List.length_cons]; omega)
          simpa using this) (fun _ => by simpa using h4)
        rw [trimN, if_neg (by omega), this]
def trimW (l : List Nat) : List Nat := l.take (trimN l)
/-- A number's words, the least first. -/
def wordsN (v : Nat) : List Nat := if v = 0 then [] else if v < 4294967296 then [v] else [v % 4294967296, v / 4294967296]
theorem trimW_two (v : Nat) : trimW [v % 4294967296, v / 4294967296] = wordsN v := by
  unfold trimW wordsN
  by_cases h0 : v = 0
  · subst h0; rfl
  · by_cases h1 : v < 4294967296
    · rw [if_neg h0, if_pos h1]
      have e1 : v % 4294967296 = v := Nat.mod_eq_of_lt h1
      have e2 : v / 4294967296 = 0 := Nat.div_eq_of_lt h1
      rw [e1, e2]
      simp [trimN, h0]
    · rw [if_neg h0, if_neg h1]
      have e2 : v / 4294967296 ≠ 0 := by
        have := Nat.div_le_div_right (c := 4294967296) (Nat.le_of_not_lt h1)
        omega
      simp [trimN, e2]
theorem wordsN_len (v : Nat) : (wordsN v).length ≤ 2 := by
  unfold wordsN
  split
  · simp
  · split <;> simp
theorem wordsN_small {v : Nat} (h : v < 4294967296) : (wordsN v).length ≤ 1 := by
  unfold wordsN
  split
  · simp
  · simp
theorem wordsN_lt {v : Nat} (h : v < 18446744073709551616) : ∀ x ∈ wordsN v, x < 4294967296 := by
  intro x hx
  unfold wordsN at hx
  split at hx
  · cases hx
  · split at hx
    · rw [List.mem_singleton.1 hx]; assumption
    · rcases List.mem_cons.1 hx with rfl | hx
      · exact Nat.mod_lt _ (by omega)
      · rw [List.mem_singleton.1 hx]; omega
theorem own_take {w : World} {base : Nat} {e : TypeId} {size n c k : Nat} {A : Option Addr} {xs : List Value} (h : w.ownsRow base e size (.slice A n c) n xs) (hk : k ≤ n) : w.ownsRow base e size (.slice A k c) k (xs.take (k * size)) := by
  obtain ⟨hl, h2⟩ := h
  refine ⟨by rw [List.length_take, hl]; exact Nat.min_eq_left (Nat.mul_le_mul_right _ hk), ?_⟩
  rcases h2 with ⟨hv, rfl⟩ | ⟨g, cap, cur, hv, hb, hg, hnc, hcm, hcs, htake⟩
  · cases hv
    have : k = 0 := by omega
    subst this
    exact .inl ⟨rfl, by simp⟩
  · injection hv with e1 e2 e3
    subst e1 e3
    refine .inr ⟨g, c, cur, rfl, hb, hg, by omega, hcm, hcs, ?_⟩
    rw [← htake, List.take_take]
    congr 1
    exact (Nat.min_eq_left (Nat.mul_le_mul_right _ hk)).symm
end Go.Proofs.Ytcfijljagohmlaa

/- The walks of weirgatebig's trim, words, give, twin, SetInt64, NewInt. -/
namespace Go.Proofs.Ytcfijljagohmlaa
open Go.RowKit

theorem el_u32 : Elt Try.prog 131 82 (.int .u32 0) 1 4 := ⟨Try.underlying131, by kernel_rfl, rfl, by omega, by omega⟩
/-- A word of a slice of words. -/
theorem Rd.word {w : World} {B n k : Nat} {A : Option Addr} {l : List Nat} (h : Rd w B 1 A n (l.map u4)) (hk : k < n) :
    ∃ ad, A = some ad ∧ ad.block < B ∧ w.cell? (ad.add k) = some (.int .u32 (l.getD k 0 : Nat)) := by
  obtain ⟨ad, u, rfl, hb, hu, hc⟩ := h.at_ hk
  refine ⟨ad, rfl, hb, hc.trans ?_⟩
  rw [← hu, List.getElem?_map, List.getD_eq_getElem?_getD]
  have hl : k < l.length := by have := h.1; simp at this; omega
  rw [List.getElem?_eq_getElem hl]
  rfl
set_option maxRecDepth 100000 in
set_option maxHeartbeats 1000000 in
theorem trim_any (A : Option Addr) (c B n : Nat) (l : List Nat) (w : World) (hr : Rd w B 1 A n (l.map u4)) (hln : l.length = n) (hn : n ≤ 140737488355328) (hc : n ≤ c) :
    Calls Try.prog 120 #[.slice A n c] w fun e w' => e = .returned (.slice A (trimN l) c) ∧ w = w' := by
  have HLN := Lib.hid hln
  clear hln
  go_enter Try.func120, Try.ntmps120
  go_wp2_with fail
  go_loop [3] (fun x => ∃ k : Nat, k ≤ n ∧ x = .int .i64 k ∧ Hid (∀ j, k ≤ j → j < l.length → l.getD j 0 = 0)) (fun x => (intOf x).toNat)
  case atStart => exact ⟨n, Nat.le_refl _, rfl, Lib.hid (fun j h1 h2 => by rw [HLN.out] at h2; omega)⟩
  obtain ⟨k, hk, rfl, HZ⟩ := hrel
  have fin : Hid ((k = 0 ∨ l.getD (k - 1) 0 ≠ 0) → trimN l = k) := Lib.hid fun h => by
    refine trimN_is (by rw [HLN.out]; exact hk) HZ.out fun h0 => ?_
    rcases h with h | h
    · omega
    · exact h
  rcases k with _ | m
  · have hT := Lib.hid (fin.out (.inl rfl))
    go_wp2_with fail
    go_ret
    exact ⟨by rw [hT.out]; rfl, rfl⟩
  · obtain ⟨ad, rfl, _, hcell⟩ := hr.word (k := m) (by omega)
    have hm0 : (0 : Int) ≤ (m : Int) := by omega
    have hm1 : (m : Int) < (n : Int) := by omega
    by_cases hz : l.getD m 0 = 0
    · have HZ2 : Hid (∀ j, m ≤ j → j < l.length → l.getD j 0 = 0) := Lib.hid fun j h1 h2 => by
        by_cases e : j = m
        · rw [e]; exact hz
        · exact HZ.out j (by omega) h2
      rw [hz] at hcell
      clear hz
      go_wp2_with fail
      go_round
      case rel => exact ⟨m, by omega, by go_num, HZ2⟩
      case measure => simp [intOf]
    · have hT := Lib.hid (fin.out (.inr hz))
      generalize l.getD m 0 = z at *
      have hz2 : ((z : Int) == 0) = false := by simpa using hz
      go_wp2_with fail
      go_ret
      exact ⟨by rw [hT.out]; rfl, rfl⟩
set_option maxRecDepth 100000 in
set_option maxHeartbeats 1000000 in
theorem words_any (v : Nat) (w : World) (hv : v < 18446744073709551616) :
    Calls Try.prog 106 #[.int .u64 v] w fun e w' => ∃ A c, e = .returned (.slice A (wordsN v).length c) ∧ w'.ownsRow w.heap.size 82 1 (.slice A (wordsN v).length c) (wordsN v).length ((wordsN v).map u4) ∧ Below w.heap.size w w' := by
  have hb := (Below.refl w.heap.size w).alloc (Nat.le_refl _) (.cells #[.int .u32 (v % 4294967296 : Nat), .int .u32 (v / 4294967296 : Nat)] 82)
  have hown := World.ownsRow_lit (base := w.heap.size) (e := 82) (size := 1) w #[.int .u32 (v % 4294967296 : Nat), .int .u32 (v / 4294967296 : Nat)] 2 (Nat.le_refl _) (by unfold maxLen; omega) rfl
  have hrd := own_rd hown
  have htr := trim_any (some ⟨w.heap.size, 0, none⟩) 2 _ 2 [v % 4294967296, v / 4294967296] _ hrd rfl (by omega) (Nat.le_refl _)
  have htk := own_take hown (k := trimN [v % 4294967296, v / 4294967296]) (trimN_le _)
  have HW := Lib.hid (trimW_two v)
  have HT := Lib.hid htk
  clear htk hrd
  go_enter Try.func106, Try.ntmps106
  have e1 : ((v % 4294967296 : Nat) : Int) = (v : Int) % 4294967296 := by omega
  have e2 : ((v / 4294967296 : Nat) : Int) = (v : Int) / 4294967296 := by omega
  rw [e1, e2] at htr hb
  rw [e1, e2] at HT
  clear e1 e2 hown
  go_wp2_with (first | (go_at_call 120; go_must (refine htr.mono ?_); rintro e w1 ⟨rfl, rfl⟩))
  go_ret
  have h := HT.out
  have hw := HW.out
  unfold trimW at hw
  have hl : trimN [v % 4294967296, v / 4294967296] = (wordsN v).length := by
    rw [← hw, List.length_take]
    exact (Nat.min_eq_left (trimN_le _)).symm
  have e1 : ((v % 4294967296 : Nat) : Int) = (v : Int) % 4294967296 := by omega
  have e2 : ((v / 4294967296 : Nat) : Int) = (v : Int) / 4294967296 := by omega
  have hx : (#[Value.int .u32 ((v : Int) % 4294967296), Value.int .u32 ((v : Int) / 4294967296)].toList.take (trimN [v % 4294967296, v / 4294967296] * 1)) = (wordsN v).map u4 := by
    rw [← hw, List.map_take, Nat.mul_one, ← e1, ← e2]; rfl
  rw [hx, hl] at h
  exact ⟨_, _, by rw [hl]; rfl, h, hb⟩
/-- A number of words behind a pointer: its sign, its words. -/
structure BigW (w : World) (g : Nat) (neg : Bool) (l : List Nat) : Prop where
  ex : ∃ A c, Blk w g 133 #[.bool neg, .slice A l.length c] ∧ w.ownsRow 0 82 1 (.slice A l.length c) l.length (l.map u4)
theorem BigW.up {w w' : World} {g : Nat} {neg : Bool} {l : List Nat} (h : BigW w g neg l) (hb : Below w.heap.size w w') : BigW w' g neg l := by
  obtain ⟨A, c, h1, h2⟩ := h.ex
  exact ⟨A, c, h1.up hb, own_up h2 hb⟩
theorem BigW.lt {w : World} {g : Nat} {neg : Bool} {l : List Nat} (h : BigW w g neg l) : g < w.heap.size := by
  obtain ⟨A, c, h1, h2⟩ := h.ex
  exact h1.lt
theorem own_blk {w : World} {base n size g : Nat} {e t : TypeId} {v : Value} {xs : List Value} {cs : Array Value} (h : w.ownsRow base e size v n xs) (hb : Blk w g t cs) (hne : e ≠ t) : ∀ k, v.ownBlock = some k → k ≠ g := by
  intro k hk e1
  rcases h.2 with ⟨rfl, _⟩ | ⟨g1, c1, u1, rfl, _, k1, _⟩
  · cases hk
  · simp [Value.ownBlock] at hk
    subst hk
    subst e1
    unfold Blk at hb
    rw [k1] at hb
    injection hb with hb
    injection hb with _ hb
    exact hne hb
/-- Another number's block is written. -/
theorem BigW.other {w w' : World} {g g' : Nat} {neg : Bool} {l : List Nat} {cs : Array Value} (h : BigW w g neg l) (hb : Blk w g' 133 cs) (hne : g ≠ g') (hg : w.grownBy w' (some g')) : BigW w' g neg l := by
  obtain ⟨A, c, h1, h2⟩ := h.ex
  exact ⟨A, c, h1.grown hg (fun e => hne (by injection e)), own_far h2 hg (fun k hk e => own_blk h2 hb (by decide) k hk (by injection e with e; exact e.symm))⟩
set_option maxRecDepth 100000 in
set_option maxHeartbeats 1000000 in
theorem give_any (g c : Nat) (A : Option Addr) (neg : Bool) (x y : Value) (l : List Nat) (w : World) (hb : Blk w g 133 #[x, y]) (ho : w.ownsRow 0 82 1 (.slice A l.length c) l.length (l.map u4)) :
    Calls Try.prog 105 #[.pointer (some ⟨g, 0, none⟩), .bool neg, .slice A l.length c] w fun e w' => e = .returned (.pointer (some ⟨g, 0, none⟩)) ∧ BigW w' g (neg && decide (0 < l.length)) l ∧ w.grownBy w' (some g) := by
  have c0 := hb.cell 0
  have c1 := hb.cell 1
  have f0 := hb.frozen 0
  have f1 := hb.frozen 1
  simp at c0 c1
  have HB := Lib.hid hb
  have hne := Lib.hid (own_blk ho hb (by decide))
  have HO := Lib.hid ho
  have hlt := hb.lt
  have fin : ∀ b : Bool, b = (neg && decide (0 < l.length)) → BigW ((w.setCell ⟨g, 1, none⟩ (.slice A l.length c)).setCell ⟨g, 0, none⟩ (.bool b)) g (neg && decide (0 < l.length)) l ∧ w.grownBy ((w.setCell ⟨g, 1, none⟩ (.slice A l.length c)).setCell ⟨g, 0, none⟩ (.bool b)) (some g) := fun b e => by
    have hg : w.grownBy ((w.setCell ⟨g, 1, none⟩ (.slice A l.length c)).setCell ⟨g, 0, none⟩ (.bool b)) (some g) := only_set (only_set (only_refl w (some g)) 1 _) 0 _
    refine ⟨⟨A, c, ?_, own_far HO.out hg (fun k hk e => hne.out k hk (by injection e with e; exact e.symm))⟩, hg⟩
    have := (HB.out.set_ 1 (.slice A l.length c)).set_ 0 (.bool b)
    rw [e] at this ⊢
    simpa using this
  have FIN := Lib.hid fin
  clear hb ho fin
  generalize l.length = n at *
  go_enter Try.func105, Try.ntmps105
  cases neg with
  | false =>
    go_wp2_with fail
    go_ret
    exact ⟨rfl, FIN.out false rfl⟩
  | true =>
    go_wp2_with fail
    go_ret
    exact ⟨rfl, FIN.out (decide (0 < n)) rfl⟩
theorem keeps_row {w w' : World} {row : Option Nat} (hb : Below w.heap.size w w') : w.grownBy w' row := ⟨hb.os, hb.tape, hb.output, hb.size, fun k hk _ => hb.block k hk⟩
theorem wordsN_pos {v : Nat} (h : 0 < v) : 0 < (wordsN v).length := by
  unfold wordsN
  rw [if_neg (by omega)]
  split <;> simp
set_option maxRecDepth 100000 in
set_option maxHeartbeats 1000000 in
theorem set64_any (g : Nat) (x : Int) (a b : Value) (w : World) (hb : Blk w g 133 #[a, b]) (h1 : -9223372036854775808 ≤ x) (h2 : x ≤ 9223372036854775807) :
    Calls Try.prog 80 #[.pointer (some ⟨g, 0, none⟩), .int .i64 x] w fun e w' => e = .returned (.pointer (some ⟨g, 0, none⟩)) ∧ BigW w' g (decide (x < 0)) (wordsN x.natAbs) ∧ w.grownBy w' (some g) := by
  obtain ⟨v, hv⟩ : ∃ v, v = x.natAbs := ⟨_, rfl⟩
  have hw := words_any v w (by omega)
  have HGI := Lib.hid (fun W A c neg (hb : Blk W g 133 #[a, b]) ho => give_any g c A neg a b (wordsN v) W hb ho)
  have HP := Lib.hid (@wordsN_pos v)
  have HB := Lib.hid hb
  rw [← hv]
  go_enter Try.func80, Try.ntmps80
  by_cases hx : x < 0
  · have hD : Hid (decide (x < 0) = true) := Lib.hid (decide_eq_true hx)
    have hvx : v = (-x).toNat := by omega
    have HV : Hid (IntKind.u64.wrap (-(IntKind.u64.wrap x)) = (v : Int)) := Lib.hid (by rw [IntKind.wrap_u64, IntKind.wrap_u64]; omega)
    have hp := HP.out (by omega)
    clear hb hv hvx
    go_upto_region 4 with fail
    rw [HV.out]
    go_wp2_with (first
      | (go_at_call 106; go_must (refine hw.mono ?_); rintro e w1 ⟨A, c, rfl, ho, hb1⟩; have hgi := HGI.out w1 A c true (HB.out.up hb1) (own_base ho (Nat.zero_le _)))
      | (go_at_call 105; go_must (refine hgi.mono ?_); rintro e w2 ⟨rfl, hbw, hg2⟩))
    go_ret
    rw [decide_eq_true hp] at hbw
    exact ⟨rfl, by rw [hD.out]; exact hbw, only_trans (keeps_row hb1) hg2⟩
  · have hD : Hid (decide (x < 0) = false) := Lib.hid (decide_eq_false hx)
    have hxv : x = (v : Int) := by omega
    subst hxv
    clear hb hv
    go_wp2_with (first
      | (go_at_call 106; go_must (refine hw.mono ?_); rintro e w1 ⟨A, c, rfl, ho, hb1⟩; have hgi := HGI.out w1 A c false (HB.out.up hb1) (own_base ho (Nat.zero_le _)))
      | (go_at_call 105; go_must (refine hgi.mono ?_); rintro e w2 ⟨rfl, hbw, hg2⟩))
    go_ret
    exact ⟨rfl, by rw [hD.out]; exact hbw, only_trans (keeps_row hb1) hg2⟩
set_option maxRecDepth 100000 in
set_option maxHeartbeats 1000000 in
theorem newint_any (x : Int) (w : World) (h1 : -9223372036854775808 ≤ x) (h2 : x ≤ 9223372036854775807) :
    Calls Try.prog 60 #[.int .i64 x] w fun e w' => e = .returned (.pointer (some ⟨w.heap.size, 0, none⟩)) ∧ BigW w' w.heap.size (decide (x < 0)) (wordsN x.natAbs) ∧ Below w.heap.size w w' := by
  have hb := Blk.new w 133 #[.bool false, .slice none 0 0]
  have hs := set64_any w.heap.size x _ _ _ hb h1 h2
  have hb0 := (Below.refl w.heap.size w).alloc (Nat.le_refl _) (.cells #[.bool false, .slice none 0 0] 133)
  go_enter Try.func60, Try.ntmps60
  go_wp2_with (first
    | (go_at_call 80; go_must (refine hs.mono ?_); rintro e w1 ⟨rfl, hbw, hg⟩))
  go_ret
  exact ⟨rfl, hbw, hb0.grown hg (by simp) (fun k hk => by cases hk; exact Nat.le_refl _)⟩
end Go.Proofs.Ytcfijljagohmlaa

/- The walks of weirgatebig's twin, plain, Uint64, Int64. -/
namespace Go.Proofs.Ytcfijljagohmlaa
open Go.RowKit

set_option maxRecDepth 100000 in
set_option maxHeartbeats 1000000 in
theorem twin_any (A : Option Addr) (c n : Nat) (l : List Nat) (w : World) (ho : w.ownsRow 0 82 1 (.slice A n c) n (l.map u4)) (hn : n ≤ 1000000) :
    Calls Try.prog 107 #[.slice A n c] w fun e w' => ∃ A' c', e = .returned (.slice A' n c') ∧ w'.ownsRow w.heap.size 82 1 (.slice A' n c') n (l.map u4) ∧ Below w.heap.size w w' := by
  have hr := own_rd ho
  have hnil := World.ownsRow_nil w w.heap.size 82 1
  have h1 := u4s_one l
  clear ho
  go_enter Try.func107, Try.ntmps107
  go_wp2_with (first
    | (with_reducible show wpList _ _ _ (⟨some 4, _, _, _, _, _⟩ :: _) _ _; go_must (refine wpList_rd (.const (.slice none 0 0)) (.tmp 3) el_u32 rfl rfl hnil rfl hr rfl h1 (by omega) (Nat.le_refl _) ?_); intro v1 w1 hown1 hb1 hg1 ha1))
  go_ret
  simp only [Nat.zero_add, List.nil_append] at hown1
  obtain ⟨A', c', rfl, _⟩ := own_form hown1
  exact ⟨A', c', rfl, hown1, hb1⟩
theorem or_shift {x y : Nat} (hx : x < 4294967296) (hy : y < 4294967296) : bits BinOp.or IntKind.u64 (x : Int) ((y : Int) * 4294967296) = ((x + y * 4294967296 : Nat) : Int) := by
  have e : (y : Int) * 4294967296 = ((y * 4294967296 : Nat) : Int) := by omega
  rw [e, u64_or_nat x (y * 4294967296) (by omega) (by omega)]
  congr 1
  have h := Nat.two_pow_add_eq_or_of_lt (i := 32) (b := x) (by omega) y
  rw [Nat.or_comm]
  have e2 : y * 4294967296 = 2 ^ 32 * y := by omega
  rw [e2, ← h]
  omega
end Go.Proofs.Ytcfijljagohmlaa
