/- Panes side by side: each record counts once; in whatever order, where none is late; as plain data. No program in sight. -/
import Derived.Test.YtelailhghhjleaaPlainSlide4
import Derived.Test.YtelailhghhjleaaPlainMarks
namespace Go.Proofs.Ytelailhghhjleaa
open Go.RowKit Go.Sort

def fromOf (size : Int) (r : Rec) : Int := size * (r.time / size)
theorem downTo_one {r : Rec} {size mark : Int} {P : List Pane} (hs : 1 ≤ size) (ht : 0 ≤ r.time) : downTo r size size mark ((r.time / size).toNat + 1) P = upd P r.key (fromOf size r) size mark r.num := by
  have hq : 0 ≤ r.time / size := Int.ediv_nonneg ht (by omega)
  have e1 : ((r.time / size).toNat : Int) = r.time / size := Int.toNat_of_nonneg hq
  have h1 : r.time % size < size := Int.emod_lt_of_pos _ (by omega)
  have h2 := Int.mul_ediv_add_emod r.time size
  have h0 : 0 ≤ r.time % size := Int.emod_nonneg _ (by omega)
  rw [downTo, e1, if_pos (by omega)]
  generalize hj : (r.time / size).toNat = j at *
  rcases j with _ | j
  · rfl
  · rw [downTo, if_neg]
    · rfl
    · have e2 : (j : Int) = r.time / size - 1 := by omega
      rw [e2, Int.mul_sub, Int.mul_one]
      omega
def cnt (P : List Pane) : Int := (P.map fun p => p.many + p.late).sum
theorem cnt_set : ∀ {L : List Pane} {j : Nat} {p x : Pane}, L[j]? = some p → cnt (L.set j x) + (p.many + p.late) = cnt L + (x.many + x.late)
  | [], j, p, x, h => by cases h
  | q :: L, 0, p, x, h => by
    obtain rfl : q = p := by simpa using h
    simp only [cnt, List.set_cons_zero, List.map_cons, List.sum_cons]; omega
  | q :: L, j + 1, p, x, h => by
    have := cnt_set (L := L) (j := j) (p := p) (x := x) (by simpa using h)
    simp only [cnt, List.set_cons_succ, List.map_cons, List.sum_cons] at *; omega
/-- A pane of some that have i records. -/
structure CntOk (size : Int) (i : Nat) (p : Pane) : Prop where
  many0 : 0 ≤ p.many
  late0 : 0 ≤ p.late
  one : 1 ≤ p.many + p.late
  most : p.many + p.late ≤ i
  hi : p.hi = p.lo + size
  low : 0 ≤ p.lo
  up : p.lo ≤ 1000000
  at_ : ∃ k : Int, p.lo = size * k
theorem bump_cnt {mark num : Int} {p : Pane} {i : Nat} (h0 : 0 ≤ p.many) (h1 : 0 ≤ p.late) (h2 : p.many + p.late ≤ i) (hi : i ≤ 400) : (bump mark num p).many + (bump mark num p).late = p.many + p.late + 1 ∧ 0 ≤ (bump mark num p).many ∧ 0 ≤ (bump mark num p).late := by
  unfold bump wrap64
  split
  · show _ ∧ _ ∧ _
    dsimp only
    omega
  · dsimp only
    omega
theorem bump_hi {mark num : Int} {p : Pane} : (bump mark num p).hi = p.hi := by unfold bump; split <;> rfl
theorem valAt_mem {P : List Pane} {k : ByteArray} {f size : Int} : valAt P k f size ∈ P ∨ valAt P k f size = ⟨k, f, f + size, 0, 0, 0⟩ := by
  unfold valAt
  rcases h : P.find? (isAt k f) with _ | p
  · exact .inr rfl
  · exact .inl (List.mem_of_find?_eq_some h)
theorem ens_cnt (P : List Pane) (k : ByteArray) (f size : Int) : cnt (ens P k f size) = cnt P := by
  unfold ens
  split
  · rfl
  · simp [cnt]
theorem upd_ok {P : List Pane} (hA : Apart P) {size mark num : Int} {i : Nat} (hi : i ≤ 399) (h : ∀ p ∈ P, CntOk size i p) (hc : cnt P = i) {r : Rec} (hs : 1 ≤ size) (ht0 : 0 ≤ r.time) (ht1 : r.time ≤ 1000000) :
    (∀ p ∈ upd P r.key (fromOf size r) size mark num, CntOk size (i + 1) p) ∧ cnt (upd P r.key (fromOf size r) size mark num) = i + 1 := by
  have h0 : 0 ≤ r.time % size := Int.emod_nonneg _ (by omega)
  have h2 := Int.mul_ediv_add_emod r.time size
  have hq : 0 ≤ r.time / size := Int.ediv_nonneg ht0 (by omega)
  have hf0 : 0 ≤ fromOf size r := Int.mul_nonneg (by omega) hq
  have hf1 : fromOf size r ≤ 1000000 := by unfold fromOf; omega
  have hv : 0 ≤ (valAt P r.key (fromOf size r) size).many ∧ 0 ≤ (valAt P r.key (fromOf size r) size).late ∧ (valAt P r.key (fromOf size r) size).many + (valAt P r.key (fromOf size r) size).late ≤ i ∧ (valAt P r.key (fromOf size r) size).hi = (valAt P r.key (fromOf size r) size).lo + size := by
    rcases valAt_mem (P := P) (k := r.key) (f := fromOf size r) (size := size) with h_ | h_
    · have := h _ h_
      exact ⟨this.many0, this.late0, this.most, this.hi⟩
    · rw [h_]
      refine ⟨Int.le_refl _, Int.le_refl _, ?_, rfl⟩
      show (0 : Int) + 0 ≤ i
      omega
  refine ⟨fun p hp => ?_, ?_⟩
  · rcases (upd_mem hA).1 hp with ⟨h1, _⟩ | rfl
    · have := h p h1
      exact ⟨this.many0, this.late0, this.one, by have := this.most; omega, this.hi, this.low, this.up, this.at_⟩
    · have hb := bump_cnt (mark := mark) (num := num) hv.1 hv.2.1 hv.2.2.1 (by omega)
      have hk := valAt_key P r.key (fromOf size r) size
      refine ⟨hb.2.1, hb.2.2, by omega, by omega, ?_, ?_, ?_, ?_⟩
      · rw [bump_hi, (bump_key _ _ _).2.1]; exact hv.2.2.2
      · rw [(bump_key _ _ _).2.1, hk.2]; exact hf0
      · rw [(bump_key _ _ _).2.1, hk.2]; exact hf1
      · rw [(bump_key _ _ _).2.1, hk.2]; exact ⟨_, rfl⟩
  · obtain ⟨j, p, hj, hp⟩ := ens_at (P := P) (k := r.key) (f := fromOf size r) (size := size)
    rw [upd_set hA hj hp]
    have hp2 : 0 ≤ p.many ∧ 0 ≤ p.late ∧ p.many + p.late ≤ i := by
      have hm := List.mem_of_getElem? hj
      unfold ens at hm
      split at hm
      · have := h p hm; exact ⟨this.many0, this.late0, this.most⟩
      · rcases List.mem_append.1 hm with hm | hm
        · have := h p hm; exact ⟨this.many0, this.late0, this.most⟩
        · rw [List.mem_singleton.1 hm]
          refine ⟨Int.le_refl _, Int.le_refl _, ?_⟩
          show (0 : Int) + 0 ≤ i
          omega
    have hb := bump_cnt (mark := mark) (num := num) hp2.1 hp2.2.1 hp2.2.2 (by omega)
    have hc2 := cnt_set (x := bump mark num p) hj
    rw [ens_cnt] at hc2
    omega
theorem recAt_in {l : List Rec} {i : Nat} (h : i < l.length) : recAt l i ∈ l := by
  rw [recAt, List.getD_eq_getElem?_getD, List.getElem?_eq_getElem h]; exact List.getElem_mem h
theorem tum_ok {l : List Rec} {size slack : Int} (hl : l.length ≤ 400) (hs : 1 ≤ size) (ht : ∀ r ∈ l, 0 ≤ r.time ∧ r.time ≤ 1000000) : ∀ i, i ≤ l.length → (∀ p ∈ slideTo size size slack l i, CntOk size i p) ∧ cnt (slideTo size size slack l i) = i := by
  intro i
  induction i with
  | zero => intro _; exact ⟨(fun p hp => by cases hp), rfl⟩
  | succ i ih =>
    intro hi
    have h1 := ht _ (recAt_in (l := l) (i := i) (by omega))
    have h2 := ih (by omega)
    rw [slideTo, downTo_one hs h1.1]
    exact upd_ok (slideTo_apart _ _ _ _ _) (by omega) h2.1 h2.2 hs h1.1 h1.2
/-- Where none is late: one record. -/
def addTo (size : Int) (P : List Pane) (r : Rec) : List Pane := upd P r.key (fromOf size r) size 0 r.num
theorem mark_none {slack : Int} (hs : 1000000 ≤ slack) {l : List Rec} (ht : ∀ r ∈ l, r.time ≤ 1000000) : markTo slack l = 0 := by
  unfold markTo
  have : ∀ (l : List Rec) , (∀ r ∈ l, r.time ≤ 1000000) → l.foldl (fun m r => max m (r.time - slack)) 0 = 0 := by
    intro l
    induction l with
    | nil => intro _; rfl
    | cons r l ih =>
      intro h
      have h1 := h r List.mem_cons_self
      rw [List.foldl_cons, show max (0 : Int) (r.time - slack) = 0 by omega]
      exact ih fun x hx => h x (List.mem_cons_of_mem _ hx)
  exact this l ht
theorem tum_fold {l : List Rec} {size slack : Int} (hs : 1 ≤ size) (hk : 1000000 ≤ slack) (ht : ∀ r ∈ l, 0 ≤ r.time ∧ r.time ≤ 1000000) : ∀ i, i ≤ l.length → slideTo size size slack l i = (l.take i).foldl (addTo size) [] := by
  intro i
  induction i with
  | zero => intro _; rfl
  | succ i ih =>
    intro hi
    have h1 := ht _ (recAt_in (l := l) (i := i) (by omega))
    have hm : markTo slack (l.take i) = 0 := mark_none hk fun r hr => (ht r (List.mem_of_mem_take hr)).2
    have e : l[i]? = some (recAt l i) := by rw [recAt, List.getD_eq_getElem?_getD, List.getElem?_eq_getElem (by omega)]; rfl
    rw [slideTo, downTo_one hs h1.1, hm, ih (by omega), List.take_add_one, e, Option.toList_some, List.foldl_append]
    rfl
theorem addTo_apart {size : Int} {P : List Pane} {r : Rec} (h : Apart P) : Apart (addTo size P r) := upd_apart h
theorem addTo_perm {size : Int} {P P' : List Pane} {r : Rec} (h : Apart P) (h' : Apart P') (hp : P.Perm P') : (addTo size P r).Perm (addTo size P' r) :=
  updAll_perm (F := [fromOf size r]) (F' := [fromOf size r]) (List.nodup_cons.2 ⟨List.not_mem_nil, .nil⟩) (List.nodup_cons.2 ⟨List.not_mem_nil, .nil⟩) (fun _ => Iff.rfl) h h' hp
theorem valAt_other {P : List Pane} (h : Apart P) {k g : ByteArray} {f e size mark num : Int} (hne : ¬ (g = k ∧ e = f)) : valAt (upd P k f size mark num) g e size = valAt P g e size := by
  have hA := upd_apart (k := k) (f := f) (size := size) (mark := mark) (num := num) h
  rcases hf : P.find? (isAt g e) with _ | q
  · have e1 : valAt P g e size = ⟨g, e, e + size, 0, 0, 0⟩ := by rw [valAt, hf]; rfl
    have e2 : (upd P k f size mark num).find? (isAt g e) = none := by
      rw [List.find?_eq_none]
      intro x hx hxa
      rcases (upd_mem h).1 hx with ⟨h1, _⟩ | rfl
      · exact List.find?_eq_none.1 hf x h1 hxa
      · have := isAt_iff.1 hxa
        rw [(bump_key _ _ _).1, (bump_key _ _ _).2.1, (valAt_key P k f size).1, (valAt_key P k f size).2] at this
        exact hne ⟨this.1.symm, this.2.symm⟩
    rw [e1, valAt, e2]; rfl
  · have hq := List.mem_of_find?_eq_some hf
    have hqk := isAt_iff.1 (List.find?_some hf)
    rw [valAt_of h hq hqk]
    exact valAt_of hA ((upd_mem h).2 (.inl ⟨hq, fun x => hne ⟨hqk.1.symm.trans x.1, hqk.2.symm.trans x.2⟩⟩)) hqk
theorem valAt_self {P : List Pane} (h : Apart P) {k : ByteArray} {f size mark num : Int} : valAt (upd P k f size mark num) k f size = bump mark num (valAt P k f size) := by
  have hA := upd_apart (k := k) (f := f) (size := size) (mark := mark) (num := num) h
  have hb := bump_key mark num (valAt P k f size)
  have hv := valAt_key P k f size
  exact valAt_of hA ((upd_mem h).2 (.inr rfl)) ⟨hb.1.trans hv.1, hb.2.1.trans hv.2⟩
theorem wrap_add (a b c : Int) : wrap64 (wrap64 (a + b) + c) = wrap64 (wrap64 (a + c) + b) := by unfold wrap64; omega
theorem bump_comm {m n n' : Int} (p : Pane) : bump m n' (bump m n p) = bump m n (bump m n' p) := by
  by_cases h : p.hi ≤ m
  · have e : ∀ x, bump m x p = ⟨p.key, p.lo, p.hi, p.many, p.sum, wrap64 (p.late + 1)⟩ := fun x => by rw [bump, if_pos h]
    rw [e n, e n', bump, bump, if_pos h, if_pos h]
  · have e : ∀ x, bump m x p = ⟨p.key, p.lo, p.hi, wrap64 (p.many + 1), wrap64 (p.sum + x), p.late⟩ := fun x => by rw [bump, if_neg h]
    rw [e n, e n', bump, bump, if_neg h, if_neg h]
    simp only [wrap_add p.sum n n']
theorem nodup_apart {Q : List Pane} (hQ : Apart Q) : Q.Nodup := List.Pairwise.imp (fun hab e => hab ⟨by rw [e], by rw [e]⟩) hQ
theorem addTo_swap {size : Int} {P : List Pane} {r s : Rec} (h : Apart P) : (addTo size (addTo size P r) s).Perm (addTo size (addTo size P s) r) := by
  refine (List.perm_ext_iff_of_nodup (nodup_apart (addTo_apart (addTo_apart h))) (nodup_apart (addTo_apart (addTo_apart h)))).2 fun p => ?_
  unfold addTo
  rw [upd_mem (upd_apart h), upd_mem (upd_apart h), upd_mem h, upd_mem h]
  by_cases e : s.key = r.key ∧ fromOf size s = fromOf size r
  · rw [e.1, e.2, valAt_self h, valAt_self h, bump_comm]
    have hb := fun x => bump_key 0 x (valAt P r.key (fromOf size r) size)
    have hv := valAt_key P r.key (fromOf size r) size
    constructor
    · rintro (⟨h1 | rfl, h2⟩ | h1)
      · exact .inl ⟨.inl h1, h2⟩
      · exact absurd ⟨(hb _).1.trans hv.1, (hb _).2.1.trans hv.2⟩ h2
      · exact .inr h1
    · rintro (⟨h1 | rfl, h2⟩ | h1)
      · exact .inl ⟨.inl h1, h2⟩
      · exact absurd ⟨(hb _).1.trans hv.1, (hb _).2.1.trans hv.2⟩ h2
      · exact .inr h1
  · have e' : ¬ (r.key = s.key ∧ fromOf size r = fromOf size s) := fun x => e ⟨x.1.symm, x.2.symm⟩
    rw [valAt_other h e, valAt_other h e']
    have b1 := bump_key 0 r.num (valAt P r.key (fromOf size r) size)
    have v1 := valAt_key P r.key (fromOf size r) size
    have b2 := bump_key 0 s.num (valAt P s.key (fromOf size s) size)
    have v2 := valAt_key P s.key (fromOf size s) size
    constructor
    · rintro (⟨⟨h1, h2⟩ | rfl, h3⟩ | rfl)
      · exact .inl ⟨.inl ⟨h1, h3⟩, h2⟩
      · exact .inr rfl
      · exact .inl ⟨.inr rfl, by rw [b2.1, b2.2.1, v2.1, v2.2]; exact e⟩
    · rintro (⟨⟨h1, h2⟩ | rfl, h3⟩ | rfl)
      · exact .inl ⟨.inl ⟨h1, h3⟩, h2⟩
      · exact .inr rfl
      · exact .inl ⟨.inr rfl, by rw [b1.1, b1.2.1, v1.1, v1.2]; exact e'⟩
theorem fold_apart {size : Int} : ∀ (l : List Rec) {P : List Pane}, Apart P → Apart (l.foldl (addTo size) P)
  | [], _, h => h
  | _ :: l, _, h => fold_apart l (addTo_apart h)
theorem fold_perm {size : Int} {l l' : List Rec} (hl : l.Perm l') : ∀ {P P' : List Pane}, Apart P → Apart P' → P.Perm P' → (l.foldl (addTo size) P).Perm (l'.foldl (addTo size) P') := by
  induction hl with
  | nil => intro P P' _ _ h; exact h
  | cons r _ ih => intro P P' h1 h2 h; exact ih (addTo_apart h1) (addTo_apart h2) (addTo_perm h1 h2 h)
  | swap r s l =>
    intro P P' h1 h2 h
    have hp : (addTo size (addTo size P s) r).Perm (addTo size (addTo size P' r) s) := (addTo_swap h1).trans (addTo_perm (addTo_apart h1) (addTo_apart h2) (addTo_perm h1 h2 h))
    have same : ∀ (l : List Rec) {Q Q' : List Pane}, Apart Q → Apart Q' → Q.Perm Q' → (l.foldl (addTo size) Q).Perm (l.foldl (addTo size) Q') := by
      intro l
      induction l with
      | nil => intro Q Q' _ _ h; exact h
      | cons x l ih => intro Q Q' g1 g2 g; exact ih (addTo_apart g1) (addTo_apart g2) (addTo_perm g1 g2 g)
    exact same l (addTo_apart (addTo_apart h1)) (addTo_apart (addTo_apart h2)) hp
  | trans _ _ ih1 ih2 => intro P P' h1 h2 h; exact (ih1 h1 h1 (.refl _)).trans (ih2 h1 h2 h)

/-! ### One input's marks -/
theorem marks_one {l : List Rec} (hl : l.length ≤ 400) (slack : Int) : outsTo [l] slack 400 = (List.range l.length).map fun q => mk [l] slack 0 (q + 1) := by
  have h1 : ∀ k, k ≤ l.length → outsTo [l] slack k = (List.range k).map fun q => mk [l] slack 0 (q + 1) := by
    intro k
    induction k with
    | zero => intro _; rfl
    | succ k ih =>
      intro hk
      rw [outsTo_succ, ih (by omega), List.range_succ, List.map_append]
      congr 1
      show rowTo [l] slack k 1 = _
      rw [rowTo_succ]
      have e : (inp [l] 0) = l := rfl
      rw [show rowTo [l] slack k 0 = [] from rfl, List.nil_append, outAt, e, if_pos (by omega)]
      show [leastFrom [l] _ 1 0 (-1)] = [_]
      rw [leastFrom, leastFrom, e, if_pos ⟨by omega, .inl (by omega)⟩]
      rfl
  have h2 := h1 l.length (Nat.le_refl _)
  rw [← h2]
  exact (outsTo_done (by simpa [totL] using hl) hl (by rw [h2]; simp [totL])).symm
theorem mk_mono {l : List Rec} {slack : Int} {i : Nat} : mk [l] slack 0 i ≤ mk [l] slack 0 (i + 1) := by
  rcases h : (inp [l] 0)[i]? with _ | r
  · rw [mk_stop (List.getElem?_eq_none_iff.1 h)]; omega
  · rw [mk_succ h]; omega
end Go.Proofs.Ytelailhghhjleaa
