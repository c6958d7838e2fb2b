/- The walks of spread.Again and spread.Every. -/
import Derived.Test.YtelailhghhjleaaWalkJoin
import Derived.Test.YtelailhghhjleaaWalkEven
namespace Go.Proofs.Ytelailhghhjleaa
open Go.RowKit

theorem el_tt : Elt Try.prog 38 35 (.slice none 0 0) 1 24 := ⟨Try.underlying38, by kernel_rfl, rfl, by omega, by omega⟩
/-- Rows of texts, read. -/
theorem TextRows.reads {w : World} {base go : Nat} {sl : List Value} {rows : List (List ByteArray)} (h : TextRows w base go sl rows) : RdTT w w.heap.size (some ⟨go, 0, none⟩) rows := by
  intro _
  refine ⟨_, rfl, h.blk.lt, fun i l hi => ?_⟩
  obtain ⟨A, c, _, h2, h3, h4, _, h5⟩ := h.row hi
  exact ⟨A, c, by rw [show (⟨go, 0, none⟩ : Addr).add i = ⟨go, i, none⟩ from by unfold Addr.add; split <;> simp_all]; exact h2, h3, h4, h5⟩
/-- A list of its own block, not s's. -/
def CloneOf (w : World) (s : Value) (m : Nat) (xs : List Value) (u : Value) : Prop :=
  ∃ A c, u = .slice A m c ∧ m ≤ c ∧ c ≤ maxLen ∧ (0 < m → ∀ ad, A = some ad → some ad.block ≠ s.ownBlock) ∧ Rd w w.heap.size 1 A m xs
theorem clones_step {wr w1 w4 : World} {base k m : Nat} {s s' v1 : Value} {vals xs : List Value} (hs : wr.ownsRow base 35 1 s k vals) (hv : ∀ u ∈ vals, CloneOf wr s m xs u) (hb : Below wr.heap.size wr w1)
    (ho : w1.ownsRow wr.heap.size 9 1 v1 m xs) (hg : w1.grownBy w4 s.ownBlock) (ha : s'.ownBlock = s.ownBlock ∨ s'.ownBlock = some (w1.heap.size + 1)) : ∀ u ∈ vals ++ [v1], CloneOf w4 s' m xs u := by
  have hsz := hb.size
  have hfar : ∀ A c, m ≤ c → c ≤ maxLen → (0 < m → ∀ ad, A = some ad → some ad.block ≠ s.ownBlock) → Rd w1 w1.heap.size 1 A m xs → CloneOf w4 s' m xs (.slice A m c) := by
    intro A c h1 h2 h3 h4
    rcases Nat.eq_zero_or_pos m with hm | hm
    · subst hm
      refine ⟨A, c, rfl, h1, h2, fun h => absurd h (by omega), h4.1, fun h => absurd h (by omega)⟩
    · obtain ⟨ad, rfl, hlt, _⟩ := h4.2 hm
      refine ⟨_, c, rfl, h1, h2, ?_, (h4.grown_far hg (h3 hm)).more hg.size⟩
      intro _ ad' e
      injection e with e
      subst e
      rcases ha with e | e
      · rw [e]; exact h3 hm _ rfl
      · rw [e]; intro e2; injection e2 with e2; omega
  intro u hu
  rcases List.mem_append.1 hu with hu | hu
  · obtain ⟨A, c, rfl, h1, h2, h3, h4⟩ := hv u hu
    exact hfar A c h1 h2 h3 ((h4.below hb (Nat.le_refl _)).more hsz)
  · obtain rfl : u = v1 := by simpa using hu
    obtain ⟨A, c, rfl, h1, h2, h3, h4⟩ := own_form ho
    refine hfar A c h1 h2 (fun _ ad e e2 => ?_) h4
    have := (h3 ad e).1
    have := (hs.lt ad.block e2.symm).2
    omega
theorem clones_reads {w : World} {base k m : Nat} {A : Option Addr} {c : Nat} {vals : List Value} {l : List ByteArray} (hm : m = l.length) (hs : w.ownsRow base 35 1 (.slice A k c) k vals) (hv : ∀ u ∈ vals, CloneOf w (.slice A k c) m (l.map sv) u) : RdTT w w.heap.size A (List.replicate k l) := by
  subst hm
  intro hn
  have hn' : 0 < k := by simpa using hn
  obtain ⟨A', c', he, _, _, _, hr⟩ := own_form hs
  injection he with h1 h2 h3
  subst h1
  obtain ⟨ad, rfl, hlt, hc⟩ := hr.2 hn'
  refine ⟨ad, rfl, hlt, fun i x hx => ?_⟩
  have hik : i < k := by have := (List.getElem?_eq_some_iff.1 hx).1; simpa using this
  obtain rfl : x = l := List.eq_of_mem_replicate (List.mem_of_getElem? hx)
  have hvl : i < vals.length := by have := hr.1; omega
  have hu := List.getElem?_eq_getElem hvl
  obtain ⟨A2, c2, e, h4, h5, _, h6⟩ := hv _ (List.mem_of_getElem? hu)
  exact ⟨A2, c2, by rw [hc i _ hu, e], h4, h5, h6⟩

set_option maxRecDepth 100000 in
set_option maxHeartbeats 1000000 in
theorem again_bad (A : Option Addr) (c B : Nat) (ls : List (List ByteArray)) (p : Int) (w : World) (hr : RdTT w B A ls) (hB : B ≤ w.heap.size) (hn : ls.length ≤ 4398046511104) (hl : (flatTo ls ls.length).length ≤ 4398046511104)
    (h0 : -9223372036854775808 ≤ p) (h1 : p ≤ 9223372036854775807) (hE : spreadE (flatTo ls ls.length).length p ≠ 0) :
    Calls Try.prog 12 #[.slice A ls.length c, .int .i64 p] w fun e w' => e = .returned (.tuple #[.slice none 0 0, errV (spreadE (flatTo ls ls.length).length p)]) ∧ Below w.heap.size w w' := by
  have hcc := concat_any A c B ls w hr hB hn hl
  obtain ⟨q, hq⟩ : ∃ q, q = flatTo ls ls.length := ⟨_, rfl⟩
  rw [← hq] at hcc hl hE ⊢
  clear hq
  have hev := fun A1 c1 W => even_bad A1 c1 q p W (by omega) h0 h1 hE
  obtain ⟨m, hm⟩ : ∃ m, m = q.length := ⟨_, rfl⟩
  rw [← hm] at hcc hl hev ⊢
  obtain ⟨E, hEE⟩ : ∃ E, E = errV (spreadE m p) := ⟨_, rfl⟩
  rw [← hEE] at hev ⊢
  clear hEE hE hm
  go_enter Try.func12, Try.ntmps12
  go_wp2_with fail
  refine hcc.mono ?_
  rintro e w1 ⟨v1, rfl, ho1, hb1⟩
  obtain ⟨A1, c1, rfl, hn1, hc1, _, r1⟩ := own_form ho1
  go_wp2_with fail
  refine (hev A1 c1 w1).mono ?_
  rintro e w2 ⟨rfl, rfl⟩
  go_wp2_with fail
  go_ret2
  exact ⟨rfl, hb1⟩

set_option maxRecDepth 100000 in
set_option maxHeartbeats 1000000 in
theorem again_good (A : Option Addr) (c B : Nat) (ls : List (List ByteArray)) (p : Nat) (w : World) (hr : RdTT w B A ls) (hB : B ≤ w.heap.size) (hn : ls.length ≤ 4398046511104) (hl : (flatTo ls ls.length).length ≤ 4398046511104)
    (hE : spreadE (flatTo ls ls.length).length p = 0) :
    Calls Try.prog 12 #[.slice A ls.length c, .int .i64 p] w fun e w' => ∃ A' c', e = .returned (.tuple #[.slice A' p c', .nilIface]) ∧ RdTT w' w'.heap.size A' (rowsAt (flatTo ls ls.length) p (flatTo ls ls.length).length) ∧ Below w.heap.size w w' := by
  have hcc := concat_any A c B ls w hr hB hn hl
  obtain ⟨q, hq⟩ : ∃ q, q = flatTo ls ls.length := ⟨_, rfl⟩
  rw [← hq] at hcc hl hE ⊢
  clear hq
  have hev := fun A1 c1 W (h : Rd W W.heap.size 1 A1 q.length (q.map sv)) => even_good A1 c1 W.heap.size q p W h (Nat.le_refl _) hE
  obtain ⟨m, hm⟩ : ∃ m, m = q.length := ⟨_, rfl⟩
  rw [← hm] at hcc hl hev ⊢
  clear hE hm
  go_enter Try.func12, Try.ntmps12
  go_wp2_with fail
  refine hcc.mono ?_
  rintro e w1 ⟨v1, rfl, ho1, hb1⟩
  obtain ⟨A1, c1, rfl, hn1, hc1, _, r1⟩ := own_form ho1
  go_wp2_with fail
  refine (hev A1 c1 w1 r1).mono ?_
  rintro e w2 ⟨go, sl, rfl, hT, hb2⟩
  go_wp2_with fail
  go_ret2
  exact ⟨_, _, rfl, hT.reads, below_up hb1 hb2⟩

set_option maxRecDepth 100000 in
set_option maxHeartbeats 1000000 in
theorem every_bad (A : Option Addr) (c B : Nat) (ls : List (List ByteArray)) (p : Int) (w : World) (hr : RdTT w B A ls) (hB : B ≤ w.heap.size) (hn : ls.length ≤ 4398046511104) (hl : (flatTo ls ls.length).length ≤ 4398046511104)
    (h0 : -9223372036854775808 ≤ p) (h1 : p ≤ 9223372036854775807) (hE : spreadE (flatTo ls ls.length).length p ≠ 0) :
    Calls Try.prog 13 #[.slice A ls.length c, .int .i64 p] w fun e w' => e = .returned (.tuple #[.slice none 0 0, errV (spreadE (flatTo ls ls.length).length p)]) ∧ Below w.heap.size w w' := by
  have hcc := concat_any A c B ls w hr hB hn hl
  obtain ⟨m, hm⟩ : ∃ m, m = (flatTo ls ls.length).length := ⟨_, rfl⟩
  rw [← hm] at hcc hl hE ⊢
  obtain ⟨q, hq⟩ : ∃ q, q = (flatTo ls ls.length).map sv := ⟨_, rfl⟩
  rw [← hq] at hcc
  clear hq hm
  have hck := fun W => spcheck_any m p W (by omega) h0 h1
  obtain ⟨E, hEE⟩ : ∃ E, E = spreadE m p := ⟨_, rfl⟩
  rw [← hEE] at hck hE ⊢
  have hV : errV E = .iface 63 (.int .i64 E) := by rw [errV, if_neg hE]
  rw [hV] at hck ⊢
  clear hEE hV hE
  go_enter Try.func13, Try.ntmps13
  go_wp2_with fail
  refine hcc.mono ?_
  rintro e w1 ⟨v1, rfl, ho1, hb1⟩
  obtain ⟨A1, c1, rfl, hn1, hc1, _, r1⟩ := own_form ho1
  go_wp2_with fail
  refine (hck w1).mono ?_
  rintro e w2 ⟨rfl, rfl⟩
  go_wp2_with fail
  go_ret2
  exact ⟨rfl, hb1⟩

set_option maxRecDepth 100000 in
set_option maxHeartbeats 2000000 in
theorem every_good (A : Option Addr) (c B : Nat) (ls : List (List ByteArray)) (p : Nat) (w : World) (hr : RdTT w B A ls) (hB : B ≤ w.heap.size) (hn : ls.length ≤ 4398046511104) (hl : (flatTo ls ls.length).length ≤ 4398046511104)
    (hE : spreadE (flatTo ls ls.length).length p = 0) :
    Calls Try.prog 13 #[.slice A ls.length c, .int .i64 p] w fun e w' => ∃ A' c', e = .returned (.tuple #[.slice A' p c', .nilIface]) ∧ RdTT w' w'.heap.size A' (List.replicate p (flatTo ls ls.length)) ∧ Below w.heap.size w w' := by
  have hcc := concat_any A c B ls w hr hB hn hl
  have hp : 1 ≤ p ∧ p ≤ 16 := by
    unfold spreadE at hE
    split at hE
    · cases hE
    · omega
  obtain ⟨hp1, hp16⟩ := hp
  obtain ⟨q, hq⟩ : ∃ q, q = flatTo ls ls.length := ⟨_, rfl⟩
  rw [← hq] at hcc hl hE ⊢
  clear hq
  have hck := fun W => spcheck_any q.length p W (by omega) (by omega) (by omega)
  rw [hE] at hck
  rw [show errV 0 = .nilIface from rfl] at hck
  have hcl := fun A1 c1 W (h : Rd W W.heap.size 1 A1 q.length (q.map sv)) => clone_any A1 c1 W.heap.size q W h (Nat.le_refl _) (by omega)
  obtain ⟨m, hm⟩ : ∃ m, m = q.length := ⟨_, rfl⟩
  rw [← hm] at hcc hl hck hcl
  have HM := Lib.hid hm
  clear hm hE
  go_enter Try.func13, Try.ntmps13
  go_wp2_with fail
  refine hcc.mono ?_
  rintro e w1 ⟨v1, rfl, ho1, hb1⟩
  obtain ⟨A1, c1, rfl, hn1, hc1, _, r1⟩ := own_form ho1
  clear ho1
  go_wp2_with fail
  refine (hck w1).mono ?_
  rintro e w2 ⟨rfl, rfl⟩
  go_wp2_with fail
  go_loopw [8, 19] (fun s i wr => ∃ k : Nat, ∃ vals : List Value, k ≤ p ∧ i = .int .i64 k ∧ wr.ownsRow w1.heap.size 35 1 s k vals ∧ (∀ u ∈ vals, CloneOf wr s m (q.map sv) u) ∧ Below w1.heap.size w1 wr) (fun _ i _ => p - (intOf i).toNat)
  case atStart => exact ⟨0, [], Nat.zero_le _, rfl, World.ownsRow_nil _ _ _ _, fun u hu => absurd hu List.not_mem_nil, Below.refl _ _⟩
  case round =>
    obtain ⟨k, vals, hk, rfl, hown, hv, hbel⟩ := hrel
    by_cases hlt : k < p
    · have hcl2 := hcl A1 c1 wr ((r1.below hbel (Nat.le_refl _)).more hbel.size)
      go_wp2_with (first
        | (go_at_call 38; refine hcl2.mono ?_; rintro e w2 ⟨v2, rfl, ho2, hb2⟩; obtain ⟨A2, c2, rfl, _⟩ := own_form ho2)
        | (with_reducible show wpList _ _ _ (⟨some 25, _, _, _, _, _⟩ :: _) _ _; go_must (refine wpList_new (.tmp 21) (.tmp 24) el_tt rfl rfl (own_up hown hb2) rfl (m := 1) rfl rfl rfl (by omega) (Nat.le_trans hbel.size hb2.size) ?_); intro v4 w4 hown4 hb4 hg4 ha4))
      go_roundw
      case rel => exact ⟨k + 1, vals ++ [.slice A2 m c2], by omega, by go_num, hown4, clones_step hown hv hb2 ho2 hg4 ha4, (below_up hbel hb2).trans hb4⟩
      case measure => simp [intOf]; omega
    · have e : k = p := by omega
      subst e
      obtain ⟨A5, c5, rfl, _⟩ := own_form hown
      go_wp2_with fail
      go_ret2
      exact ⟨A5, c5, rfl, clones_reads HM.out hown hv, below_up hb1 hbel⟩
end Go.Proofs.Ytelailhghhjleaa
