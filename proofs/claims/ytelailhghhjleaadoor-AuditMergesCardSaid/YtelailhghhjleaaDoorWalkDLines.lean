/- The order of den.Lines, its sort, its walk. -/
import Derived.Test.YtelailhghhjleaaDoorShelfLine
import Derived.Test.YtelailhghhjleaaDoorMemGroups
import Derived.Test.YtelailhghhjleaaDoorMemSort
import Derived.Test.YtelailhghhjleaaDoorWalkLConcat
namespace Go.Proofs.YtelailhghhjleaaDoor
open Go.RowKit Go.Maps Go.Sort Go.Shelf Go.Lib Go.ChangeShapes Go.WideMaps

def plCf (x y : Pl) : Int := if klt x.ln.key y.ln.key = true then -1 else 1
theorem plLt {x y : Pl} : ltOf plCf x y = klt x.ln.key y.ln.key := by
  unfold ltOf plCf
  split <;> rename_i h <;> simp [h]
theorem plSwo : SWO (ltOf plCf) where
  irrefl x := by rw [plLt]; exact klt_irrefl _
  trans x y z := by rw [plLt, plLt, plLt]; exact klt_trans
  ntrans x y z := by
    rw [plLt, plLt, plLt]
    intro h1 h2
    rcases hxz : klt x.ln.key z.ln.key
    · rfl
    · rcases klt_tri x.ln.key y.ln.key with t | t | t
      · rw [t] at h1; cases h1
      · rw [t] at hxz; rw [hxz] at h2; cases h2
      · have := klt_trans t hxz; rw [this] at h2; cases h2
theorem row_form {W : World} {base : Nat} {v : Value} {y : DataW Unit × List MemPlace} (h : rowElem W base 3 .i64 v = some y) : ∃ t : Option Addr × Nat × Nat, v = .slice t.1 t.2.1 t.2.2 := by
  obtain ⟨zs, ho, _⟩ := rowElem_inv h
  obtain ⟨A, c, e, _⟩ := own_form ho.1
  exact ⟨⟨A, _, c⟩, e⟩
theorem nodup_lenL {α : Type} : ∀ {O P : List α}, O.Nodup → (∀ p ∈ O, p ∈ P) → O.length ≤ P.length := by
  intro O
  induction O with
  | nil => intro P _ _; exact Nat.zero_le _
  | cons x xs ih =>
    intro P nd sub
    obtain ⟨a, b, rfl⟩ := List.append_of_mem (sub x List.mem_cons_self)
    rw [List.nodup_cons] at nd
    have := ih (P := a ++ b) nd.2 fun p hp => by
      rcases List.mem_append.1 (sub p (List.mem_cons_of_mem _ hp)) with h | h
      · exact List.mem_append_left _ h
      · rcases List.mem_cons.1 h with h | h
        · exact absurd (h ▸ hp) nd.1
        · exact List.mem_append_right _ h
    simp at this ⊢
    omega
def Pl.agg2 (p : Pl) : Value := .agg #[.string p.ln.key, .slice p.A p.ln.nums.length p.c]
set_option maxRecDepth 100000 in
set_option maxHeartbeats 2000000 in
theorem plcmp_any (x y : Pl) (w : World) :
    Calls Tryd.prog 76 #[x.agg2, y.agg2] w fun e w' => e = .returned (.int .i64 (plCf x y)) ∧ ∃ q os', w' = grow (w.drewN q) os' := by
  have hgr : Hid ((w.alloc (.cells #[.string x.ln.key, .slice x.A x.ln.nums.length x.c] 64)).alloc (.cells #[.string y.ln.key, .slice y.A y.ln.nums.length y.c] 64) = grow w (#[.cells #[.string x.ln.key, .slice x.A x.ln.nums.length x.c] 64] ++ #[.cells #[.string y.ln.key, .slice y.A y.ln.nums.length y.c] 64])) := Lib.hid (by rw [alloc_eq_grow, alloc_eq_grow, grow_grow])
  rcases hc : klt x.ln.key y.ln.key
  · have HC : Hid (plCf x y = 1) := Lib.hid (by rw [plCf, hc]; rfl)
    have tc : (Op.bytesLess x.ln.key.toList y.ln.key.toList) = false := hc
    clear hc
    go_enter Tryd.func76, Tryd.ntmps76
    unfold Pl.agg2
    go_wp2
    go_ret
    exact ⟨by rw [HC.out]; rfl, 0, _, hgr.out⟩
  · have HC : Hid (plCf x y = -1) := Lib.hid (by rw [plCf, hc]; rfl)
    have tc : (Op.bytesLess x.ln.key.toList y.ln.key.toList) = true := hc
    clear hc
    go_enter Tryd.func76, Tryd.ntmps76
    unfold Pl.agg2
    go_wp2
    go_ret
    exact ⟨by rw [HC.out]; rfl, 0, _, hgr.out⟩
theorem pl_lays (blk off size : Nat) (w : World) : CmpLays Tryd.prog 76 #[] Pl.cells 2 plCf blk off size w :=
  fun _ _ _ _ x y => plcmp_any x y _
theorem plK (x : Pl) : x.cells.length = 2 := rfl
theorem plK1 (x : Pl) : ∀ v ∈ x.cells, v.oneCell' = true := by
  intro v hv
  simp only [Pl.cells, Pl.val, List.mem_cons, List.not_mem_nil, or_false] at hv
  rcases hv with rfl | rfl <;> rfl
theorem pl_sort {w : World} {base n : Nat} {v : Value} {l : List Pl} (h : w.ownsRow base 64 2 v n (plCells l)) (hl : l.length = n) (hn : n < 4611686018427387904) (hb : base ≤ w.heap.size) : ∃ A c, v = .slice A n c ∧ n ≤ c ∧ c ≤ maxLen ∧
    Calls Tryd.prog 75 #[.slice A n c, .func (.func 76) #[] #[]] w fun e w' =>
      e = .returned (.tuple #[]) ∧ ∃ s : List Pl, s.Perm l ∧ Up (ltOf plCf) s ∧ Rd w' w'.heap.size 2 A n (plCells s) ∧ Below base w w' := by
  rcases h.2 with ⟨rfl, rfl⟩ | ⟨g, cap, cur, rfl, _, _, hnc, hcm, _, _⟩
  · refine ⟨none, 0, rfl, Nat.le_refl _, Nat.zero_le _, (AnyF.slices_SortFunc_none laysLine none 0 _ w).mono ?_⟩
    rintro e w' ⟨rfl, rfl⟩
    obtain rfl := List.eq_nil_of_length_eq_zero hl
    exact ⟨rfl, [], .refl _, List.Pairwise.nil, Rd.nil_, Below.refl _ _⟩
  · refine ⟨_, cap, rfl, hnc, hcm, ?_⟩
    obtain ⟨hH, hlt, hge⟩ := holdsK_own (enc := Pl.cells) plK (by omega) h hl
    have hz : l.toArray.size = n := by simpa using hl
    have hc := AnyQ.slices_SortFunc laysLine 2 (fun _ => by kernel_rfl) (fun _ => by kernel_rfl) Pl.cells plK plK1 plCf plSwo 76 #[] g 0 cap l.toArray w
      (fun _ _ => by kernel_rfl) (pl_lays _ _ _ _) hH hlt (by omega)
    rw [hz] at hc
    refine hc.mono ?_
    rintro e w' ⟨rfl, d', q, os, hpm, hso, hw⟩
    have hS : SWK Pl.cells 2 w g 0 d' w' := ⟨q, os, hw⟩
    have hds : d'.size = n := by rw [hpm.1, hz]
    have hd : d' = (([] : List Pl) ++ (d'.toList ++ [])).toArray := by simp
    have hlen : d'.toList.length = n := by simpa using hds
    have hup : Up (ltOf plCf) d'.toList := by
      refine up_of_sortedIn (x := []) (y := []) ?_
      rw [← hd, List.length_nil, Nat.zero_add, hlen]
      exact hso
    have hperm : d'.toList.Perm l := by
      have h3 := hpm.2.2
      have e1 : (d'.extract 0 n).toList = d'.toList := by
        simp
        exact List.take_of_length_le (by omega)
      have e2 : (l.toArray.extract 0 n).toList = l := by
        simp
        exact List.take_of_length_le (by omega)
      rw [e1, e2] at h3
      exact h3
    refine ⟨rfl, d'.toList, hperm, hup, ?_, below_swk hS hge hb⟩
    have := rd_of_holdsK (enc := Pl.cells) plK (by omega) (holdsK_row (hS.holds hlt hH (hds.trans hz.symm))) (B := w'.heap.size) (hS.lt hlt)
    rw [hlen] at this
    exact this
/-- What rises, and is the same but for the order, is the same. -/
theorem up_rise : ∀ {s L : List Ln}, s.Perm L → riseL L → (s.Pairwise fun a b => klt b.key a.key = false) → s = L := by
  intro s
  induction s with
  | nil => intro L h _ _; exact (List.nil_perm.1 h).symm
  | cons x xs ih =>
    intro L h hr hu
    cases L with
    | nil => exact absurd h.length_eq (by simp)
    | cons y ys =>
      rw [riseL, List.pairwise_cons] at hr
      rw [List.pairwise_cons] at hu
      have e : x = y := by
        rcases List.mem_cons.1 (h.mem_iff.1 List.mem_cons_self) with e | e
        · exact e
        · rcases List.mem_cons.1 (h.mem_iff.2 List.mem_cons_self) with e2 | e2
          · exact e2.symm
          · have := hu.1 y e2; rw [hr.1 x e] at this; cases this
      subst e
      rw [ih (List.Perm.cons_inv h) hr.2 hu.2]
theorem Grp.there {D : DataW Unit} {L : List Ln} (h : Grp D L) {x : Ln} (hx : x ∈ L) : Maps.has D (klS x.key) = true ∧ D.atKey (klS x.key) .nil = .slice (lits .i64 x.nums) [] := by
  have h1 := h.at_ x.key (h.some_ x hx).2
  rw [numsOf_mem h.rise hx] at h1
  refine ⟨?_, h1⟩
  rcases hh : Maps.has D (klS x.key) with _ | _
  · rw [Maps.atKey_of_not_has hh] at h1; cases h1
  · rfl
theorem Grp.same {D : DataW Unit} {L : List Ln} (h : Grp D L) {x y : Ln} (hx : x ∈ L) (hy : y ∈ L) (e : klS x.key = klS y.key) : x = y := by
  have e := klS_inj e
  have h1 := numsOf_mem h.rise hx
  have h2 := numsOf_mem h.rise hy
  rw [e, h2] at h1
  injection h1 with h1
  cases x; cases y; simp at e h1; rw [e, h1]
/-- What has come of the map so far. -/
structure CollL (L : List Ln) (D : DataW Unit) (left : Lit → Bool) (O : List Ln) : Prop where
  has : ∀ kl, left kl = true → Maps.has D kl = true
  nd : O.Nodup
  sub : ∀ p ∈ O, p ∈ L
  on : ∀ p ∈ L, left (klS p.key) = false → p ∈ O
  off : ∀ p ∈ O, left (klS p.key) = false
section
variable {D : DataW Unit} {L O : List Ln} {left : Lit → Bool}
theorem CollL.start (h : Grp D L) : CollL L D (Maps.has D) [] :=
  ⟨fun _ h => h, .nil, (fun p hp => by cases hp), (fun p hp hf => by have h2 := (h.there hp).1; rw [h2] at hf; cases hf), (fun p hp => by cases hp)⟩
theorem CollL.step (h : Grp D L) (c : CollL L D left O) {p : Ln} (hp : p ∈ L) (hl : left (klS p.key) = true) : CollL L D (fun z => left z && !z.sameKey (klS p.key)) (O ++ [p]) := by
  have hno : p ∉ O := fun hm => by rw [c.off p hm] at hl; cases hl
  refine ⟨fun kl hk => c.has kl (by simp at hk; exact hk.1), ?_, fun q hq => ?_, fun q hq hf => ?_, fun q hq => ?_⟩
  · rw [List.nodup_append]
    refine ⟨c.nd, by simp, fun a ha b hb => ?_⟩
    rw [List.mem_singleton.1 hb]
    exact fun e => hno (e ▸ ha)
  · rcases List.mem_append.1 hq with hq | hq
    · exact c.sub q hq
    · rw [List.mem_singleton.1 hq]; exact hp
  · rcases hlq : left (klS q.key) with _ | _
    · exact List.mem_append_left _ (c.on q hq hlq)
    · rw [hlq, Bool.true_and] at hf
      have hs : (klS q.key).sameKey (klS p.key) = true := by simpa using hf
      have e := h.same hq hp (WideAt.sameKey_eq hs)
      rw [e]
      exact List.mem_append_right _ (List.mem_singleton.2 rfl)
  · rcases List.mem_append.1 hq with hq | hq
    · show (left _ && _) = false
      rw [c.off q hq]; rfl
    · rw [List.mem_singleton.1 hq]
      show (left _ && !_) = false
      rw [WideAt.sameKey_self (by trivial), Bool.not_true, Bool.and_false]
theorem CollL.done (h : Grp D L) (c : CollL L D left O) (hl : ∀ kl, left kl = false) : O.Perm L := by
  have hP : L.Nodup := List.Pairwise.imp (fun {a b} (hab : klt a.key b.key = true) (e : a = b) => klt_ne hab (by rw [e])) h.rise
  exact (List.perm_ext_iff_of_nodup c.nd hP).2 fun p => ⟨c.sub p, fun hp => c.on p hp (hl _)⟩
end
set_option maxRecDepth 100000 in
set_option maxHeartbeats 4000000 in
theorem dlines_any {W : World} {base M n : Nat} {D : DataW Unit} {L : List Ln} (hown : GrpIn W base M n D) (hG : Grp D L) (hn : L.length ≤ 1099511627) :
    Calls Tryd.prog 56 #[.map (some M)] W fun e w' => ∃ A c s, e = .returned (.slice A L.length c) ∧ L.length ≤ c ∧ c ≤ maxLen ∧ lnsOf s = L ∧ RdPs w' w'.heap.size A L.length s ∧ Below W.heap.size W w' := by
  have H := Lib.hid hG
  have HO := Lib.hid hown
  have hmap := groups_map hown
  have hMl := hmap.lt
  clear hG hown
  go_enter Tryd.func56, Tryd.ntmps56
  go_wp2_with (first
    | (at_range; go_must (refine wpList_range_own _ rfl _ 98 rfl 9 23 kstr Tryd.underlying98 (rowElem W base 3 .i64) M n D rfl hmap ?_); intro w0 hrg0 hg0 hs0))
  go_frame
  go_loopw [3] (fun o wr => ∃ (left : Lit → Bool) (cnt : Nat) (O : List Pl), wr.ranges Tryd.prog 9 (rowElem W base 3 .i64) M W.heap.size n D left cnt ∧ CollL L D left (lnsOf O) ∧ (∀ p ∈ O, W.ownsInts base 3 .i64 p.val p.ln.nums) ∧ wr.ownsRow (W.heap.size + 1) 64 2 o O.length (plCells O) ∧ W.heap.size + 1 ≤ wr.heap.size ∧ Below W.heap.size W wr) (fun _ wr => wr.rangeLeft M W.heap.size)
  case atStart => exact ⟨_, _, [], hrg0, CollL.start H.out, (fun p hp => by cases hp), World.ownsRow_nil _ _ _ _, by omega, (Below.refl _ _).grown hg0 (Nat.le_refl _) (fun j hj => by cases hj)⟩
  obtain ⟨left, cnt, O, hrg, hco, hoi, hro, hsz, hbel⟩ := hrel
  have hfew : O.length ≤ L.length := by
    have := nodup_lenL hco.nd hco.sub
    rwa [lnsOf, List.length_map] at this
  have HC := Lib.hid hco
  have HI := Lib.hid hoi
  clear hco hoi
  go_wp2_with (first
    | (at_next; go_must (refine wpList_next_ranges _ rfl _ rfl 9 kstr (rowElem W base 3 .i64) Value.string (fun t : Option Addr × Nat × Nat => .slice t.1 t.2.1 t.2.2) (fun key kl h => keyOf_str_inv h) (fun v y hv => row_form hv) M W.heap.size n D left cnt rfl hrg ?_ ?_)))
  · intro hc0 hl0
    have HPM := Lib.hid (HC.out.done H.out hl0)
    obtain ⟨A, c, rfl, hnc, hcm, hsort⟩ := pl_sort hro rfl (by omega) hsz
    clear hro
    go_wp2_with (first
      | (go_at_call 75; go_must (refine hsort.mono ?_); rintro e w5 ⟨rfl, s, hsp, hsu, hrd, hb5⟩))
    go_ret
    have hlO : O.length = L.length := by have := HPM.out.length_eq; rwa [lnsOf, List.length_map] at this
    have hall := hbel.trans (hb5.mono (Nat.le_succ _))
    have e1 : lnsOf s = L := up_rise ((hsp.map Pl.ln).trans HPM.out) H.out.rise (List.pairwise_map.2 (List.Pairwise.imp (fun {a b} (h : ltOf plCf b a = false) => by rwa [plLt] at h) hsu))
    refine ⟨A, c, s, by rw [hlO]; rfl, by rw [← hlO]; exact hnc, hcm, e1, ⟨by rw [hsp.length_eq, hlO], by rw [← hlO]; exact hrd, fun p hp => ?_⟩, hall⟩
    have hpi := HI.out p (hsp.mem_iff.1 hp)
    have hown5 := own_up hpi.1 hall
    obtain ⟨A', c', e', h1', h2', _, h3'⟩ := own_form hown5
    unfold Pl.val at e'
    injection e' with e1 e2 e3
    rw [← e1] at h3'
    rw [← e3] at h1' h2'
    exact ⟨h1', h2', h3', hpi.2⟩
  · intro x a0 n0 c0 kl y1 y2 w1 cnt1 hkx hlk hRc hat hrg1 hlt hg1 hs1 hen
    obtain ⟨p, hp, rfl⟩ := H.out.dom kl (HC.out.has kl hlk)
    obtain rfl : p.key = x := klS_inj (keyOf_str_kl hkx)
    obtain ⟨zs, ho, he⟩ := rowElem_inv hRc
    injection he with he1 _
    subst he1
    have hz : zs = p.nums := by
      have h1 := hat .nil
      rw [(H.out.there hp).2] at h1
      rcases ho.datum (H := Unit) with ⟨h2, _⟩ | h2
      · rw [h2] at h1; cases h1
      · rw [h2] at h1
        injection h1 with h1 _
        exact (lits_inj h1).symm
    subst hz
    obtain ⟨A, c, hv, h1, h2, _⟩ := own_form ho.1
    injection hv with hv1 hv2 hv3
    subst hv1 hv3
    have hv4 : n0 = p.nums.length := by omega
    subst hv4
    have hpI : ∀ q ∈ O ++ [(⟨p, a0, c0⟩ : Pl)], W.ownsInts base 3 .i64 q.val q.ln.nums := fun q hq => by
      rcases List.mem_append.1 hq with hq | hq
      · exact HI.out q hq
      · rw [List.mem_singleton.1 hq]; exact ho
    have HI2 := Lib.hid hpI
    have hb1 : Below W.heap.size W w1 := hbel.grown hg1 hbel.size (fun j hj => by cases hj; exact Nat.le_refl _)
    have hro1 := own_far hro hg1 (fun k hk e => by injection e with e; have := (hro.lt k hk).1; omega)
    have HST := Lib.hid (HC.out.step H.out hp hlk)
    have hsz1 : W.heap.size + 1 ≤ w1.heap.size := by omega
    clear hat hRc hkx hro hpI ho
    go_wp2_with (first
      | (with_reducible show wpList _ _ _ (⟨some 18, _, _, _, _, _⟩ :: _) _ _; go_must (refine wpList_newg (.tmp 13) (.tmp 17) el_line rfl rfl hro1 rfl rfl hs1 rfl rfl (by omega) hsz1 ?_); intro v4 w4 hown4 hb4 hg4 ha4))
    have hrg2 := hrg1.kept hg4 (fun e => by have := (hro1.lt M e.symm).1; omega) (fun e => by have := (hro1.lt W.heap.size e.symm).1; omega)
    go_roundw
    case rel =>
      refine ⟨_, cnt1, O ++ [⟨p, a0, c0⟩], hrg2, ?_, HI2.out, ?_, Nat.le_trans hsz1 hb4.size, hb1.trans (hb4.mono (Nat.le_succ _))⟩
      · rw [lnsOf, List.map_append]; exact HST.out
      · rw [List.length_append, plCells_append]
        exact hown4
    case measure => rw [hrg2.left_eq, hrg.left_eq]; exact hlt
end Go.Proofs.YtelailhghhjleaaDoor
