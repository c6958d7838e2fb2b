/- The walk of window.sorted: what the map's pointers lead to, sorted. -/
import Derived.Test.YtelailhghhjleaaWalkPaneCmp
import Derived.Maps.RangeWalk
namespace Go.Proofs.Ytelailhghhjleaa
open Go.RowKit Go.Maps Go.Sort Go.Shelf Go.Lib

theorem nodup_len {α : Type} : ∀ {O P : List α}, O.Nodup → (∀ p ∈ O, p ∈ P) → O.length ≤ P.length := by
  intro O
  induction O with
  | nil => intro P _ _; exact Nat.zero_le _
  | cons x xs ih =>
    intro P nd sub
    obtain ⟨a, b, rfl⟩ := List.append_of_mem (sub x List.mem_cons_self)
    rw [List.nodup_cons] at nd
    have := ih (P := a ++ b) nd.2 fun p hp => by
      rcases List.mem_append.1 (sub p (List.mem_cons_of_mem _ hp)) with h | h
      · exact List.mem_append_left _ h
      · rcases List.mem_cons.1 h with h | h
        · exact absurd (h ▸ hp) nd.1
        · exact List.mem_append_right _ h
    simp at this ⊢
    omega
/-- What has come of the map so far. -/
structure Coll (P : List Pane) (D : DataW Unit) (left : Lit → Bool) (O : List Pane) : Prop where
  has : ∀ kl, left kl = true → Maps.has D kl = true
  nd : O.Nodup
  sub : ∀ p ∈ O, p ∈ P
  on : ∀ p ∈ P, left (klP p.key p.lo p.hi) = false → p ∈ O
  off : ∀ p ∈ O, left (klP p.key p.lo p.hi) = false
section
variable {W : World} {base M n : Nat} {D : DataW Unit} {bs : List Nat} {P O : List Pane} {size : Int} {left : Lit → Bool}
theorem Pns.there (h : Pns W base M n D bs P size) {p : Pane} (hp : p ∈ P) : Maps.has D (klP p.key p.lo p.hi) = true ∧ ∃ g ∈ bs, D.atKey (klP p.key p.lo p.hi) .nil = .lit (.int .i64 (g : Nat)) ∧ Blk W g 31 p.cells.toArray := by
  obtain ⟨j, hj⟩ := List.mem_iff_getElem?.1 hp
  have hjl := (List.getElem?_eq_some_iff.1 hj).1
  obtain ⟨g, hg⟩ : ∃ g, bs[j]? = some g := ⟨_, List.getElem?_eq_getElem (by rw [h.len]; exact hjl)⟩
  have hk := h.key j g p hg hj
  refine ⟨?_, g, List.mem_of_getElem? hg, hk, h.blk j g p hg hj⟩
  rcases hh : Maps.has D (klP p.key p.lo p.hi) with _ | _
  · rw [Maps.atKey_of_not_has hh] at hk; cases hk
  · rfl
theorem Pns.same (h : Pns W base M n D bs P size) {p q : Pane} (hp : p ∈ P) (hq : q ∈ P) (e : klP p.key p.lo p.hi = klP q.key q.lo q.hi) : p = q := by
  obtain ⟨f1, f2, _, f4⟩ := h.fine p hp
  obtain ⟨g1, g2, _, g4⟩ := h.fine q hq
  obtain ⟨e1, e2, _⟩ := klP_inj f1 f2 f4 g1 g2 g4 e
  obtain ⟨i, hi⟩ := List.mem_iff_getElem?.1 hp
  obtain ⟨j, hj⟩ := List.mem_iff_getElem?.1 hq
  obtain rfl := apart_at h.apart hi hj ⟨e1, e2⟩
  rw [hi] at hj
  injection hj
theorem Coll.start (h : Pns W base M n D bs P size) : Coll P D (Maps.has D) [] :=
  ⟨fun _ h => h, .nil, (fun p hp => by cases hp), (fun p hp hf => by rw [(h.there hp).1] at hf; cases hf), (fun p hp => by cases hp)⟩
theorem Coll.step (h : Pns W base M n D bs P size) (c : Coll P D left O) {p : Pane} (hp : p ∈ P) (hl : left (klP p.key p.lo p.hi) = true) : Coll P D (fun z => left z && !z.sameKey (klP p.key p.lo p.hi)) (O ++ [p]) := by
  have hno : p ∉ O := fun hm => by rw [c.off p hm] at hl; cases hl
  refine ⟨fun kl hk => c.has kl (by simp at hk; exact hk.1), ?_, fun q hq => ?_, fun q hq hf => ?_, fun q hq => ?_⟩
  · rw [List.nodup_append]
    refine ⟨c.nd, by simp, fun a ha b hb => ?_⟩
    rw [List.mem_singleton.1 hb]
    exact fun e => hno (e ▸ ha)
  · rcases List.mem_append.1 hq with hq | hq
    · exact c.sub q hq
    · rw [List.mem_singleton.1 hq]; exact hp
  · rcases hlq : left (klP q.key q.lo q.hi) with _ | _
    · exact List.mem_append_left _ (c.on q hq hlq)
    · rw [hlq, Bool.true_and] at hf
      have hs : (klP q.key q.lo q.hi).sameKey (klP p.key p.lo p.hi) = true := by simpa using hf
      have e := h.same hq hp (WideAt.sameKey_eq hs)
      rw [e]
      exact List.mem_append_right _ (List.mem_singleton.2 rfl)
  · rcases List.mem_append.1 hq with hq | hq
    · show (left _ && _) = false
      rw [c.off q hq]; rfl
    · rw [List.mem_singleton.1 hq]
      show (left _ && !_) = false
      rw [WideAt.sameKey_self (by trivial), Bool.not_true, Bool.and_false]
theorem Coll.done (h : Pns W base M n D bs P size) (c : Coll P D left O) (hl : ∀ kl, left kl = false) : O.Perm P := by
  have hP : P.Nodup := List.Pairwise.imp (fun {a b} hab e => hab ⟨by rw [e], by rw [e]⟩) h.apart
  exact (List.perm_ext_iff_of_nodup c.nd hP).2 fun p => ⟨c.sub p, fun hp => c.on p hp (hl _)⟩
theorem Coll.few (c : Coll P D left O) : O.length ≤ P.length := nodup_len c.nd c.sub
end

set_option maxRecDepth 100000 in
set_option maxHeartbeats 4000000 in
theorem sorted_any {W : World} {base M n : Nat} {D : DataW Unit} {bs : List Nat} {P : List Pane} {size : Int} (h : Pns W base M n D bs P size) (hn : P.length ≤ 1099511627) :
    Calls Try.prog 58 #[.map (some M)] W fun e w' => ∃ A c Q, e = .returned (.slice A Q.length c) ∧ Q.length ≤ c ∧ c ≤ maxLen ∧ Q.Perm P ∧ Up (ltOf paneCf) Q ∧ Rd w' w'.heap.size 6 A Q.length (paneCells Q) ∧ Below W.heap.size W w' := by
  have H := Lib.hid h
  have hown := h.own
  have hMl := hown.lt
  clear h
  go_enter Try.func58, Try.ntmps58
  go_wp2_with (first
    | (at_range; go_must (refine wpList_range_own _ rfl _ 94 rfl 31 95 kpane Try.underlying94 ptrR M n D rfl hown ?_); intro w0 hrg0 hg0 hs0))
  go_frame
  go_loopw [3] (fun o wr => ∃ (left : Lit → Bool) (cnt : Nat) (O : List Pane), wr.ranges Try.prog 31 ptrR M W.heap.size n D left cnt ∧ Coll P D left O ∧ wr.ownsRow (W.heap.size + 1) 31 6 o O.length (paneCells O) ∧ W.heap.size + 1 ≤ wr.heap.size ∧ Below W.heap.size W wr) (fun _ wr => wr.rangeLeft M W.heap.size)
  case atStart => exact ⟨_, _, [], hrg0, Coll.start H.out, World.ownsRow_nil _ _ _ _, by omega, (Below.refl _ _).grown hg0 (Nat.le_refl _) (fun j hj => by cases hj)⟩
  obtain ⟨left, cnt, O, hrg, hco, hro, hsz, hbel⟩ := hrel
  have hfew := hco.few
  have HC := Lib.hid hco
  clear hco
  go_wp2_with (first
    | (at_next; go_must (refine wpList_next_ranges _ rfl _ rfl 31 kpane ptrR (fun v : Value => v) Value.pointer (fun key kl _ => ⟨key, rfl⟩) (fun v y hv => ptrR_form hv) M W.heap.size n D left cnt rfl hrg ?_ ?_)))
  · intro hc0 hl0
    have hperm := HC.out.done H.out hl0
    have HPM := Lib.hid hperm
    obtain ⟨A, c, rfl, hnc, hcm, hsort⟩ := pane_sort hro rfl (by omega) hsz
    clear hperm hro
    go_wp2_with (first
      | (go_at_call 72; go_must (refine hsort.mono ?_); rintro e w5 ⟨rfl, s, hsp, hsu, hrd, hb5⟩))
    go_ret
    have hl := hsp.length_eq
    exact ⟨A, c, s, by rw [hl]; rfl, by rw [hl]; exact hnc, hcm, hsp.trans HPM.out, hsu, by rw [hl]; exact hrd, hbel.trans (hb5.mono (by omega))⟩
  · intro x o2 kl y1 y2 w1 cnt1 hkx hlk hRc hat hrg1 hlt hg1 hs1 hen
    obtain ⟨p, hp, rfl⟩ := H.out.dom kl (HC.out.has kl hlk)
    obtain ⟨_, g, hgm, hkey, hblk⟩ := H.out.there hp
    have hy : y1 = .lit (.int .i64 (g : Nat)) := by have := hat .nil; rw [hkey] at this; exact this.symm
    subst hy
    obtain rfl : o2 = some ⟨g, 0, none⟩ := by have h := ptrR_some hRc; injection h
    have hgl := hblk.lt
    have hb1 : Below W.heap.size W w1 := hbel.grown hg1 hbel.size (fun j hj => by cases hj; exact Nat.le_refl _)
    have hbw := hblk.up hb1
    have hro1 := own_far hro hg1 (fun k hk e => by injection e with e; have := (hro.lt k hk).1; omega)
    have d0 := hbw.cell 0
    have d1 := hbw.cell 1
    have d2 := hbw.cell 2
    have d3 := hbw.cell 3
    have d4 := hbw.cell 4
    have d5 := hbw.cell 5
    simp [Pane.cells] at d0 d1 d2 d3 d4 d5
    have HST := Lib.hid (HC.out.step H.out hp hlk)
    have hsz1 : W.heap.size + 1 ≤ w1.heap.size := by omega
    clear hat hRc hkey hblk hkx hro
    go_wp2_with (first
      | (with_reducible show wpList _ _ _ (⟨some 17, _, _, _, _, _⟩ :: _) _ _; go_must (refine wpList_newg (.tmp 12) (.tmp 16) el_pane rfl rfl hro1 rfl rfl hs1 rfl rfl (by omega) hsz1 ?_); intro v4 w4 hown4 hb4 hg4 ha4))
    have hrg2 := hrg1.kept hg4 (fun e => by have := (hro1.lt M e.symm).1; omega) (fun e => by have := (hro1.lt W.heap.size e.symm).1; omega)
    go_roundw
    case rel =>
      refine ⟨_, cnt1, O ++ [p], hrg2, HST.out, ?_, Nat.le_trans hsz1 hb4.size, hb1.trans (hb4.mono (Nat.le_succ _))⟩
      rw [List.length_append, paneCells_snoc]
      simpa [Pane.cells] using hown4
    case measure => rw [hrg2.left_eq, hrg.left_eq]; exact hlt
end Go.Proofs.Ytelailhghhjleaa
