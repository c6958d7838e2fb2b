/- Panes counted in whatever order of beginnings: the same panes; as plain data. No program in sight. -/
import Derived.Test.YtelailhghhjleaaPlainSlide
namespace Go.Proofs.Ytelailhghhjleaa
open Go.RowKit

/-- The pane of a beginning, or a new one. -/
def valAt (P : List Pane) (k : ByteArray) (f size : Int) : Pane := (P.find? (isAt k f)).getD ⟨k, f, f + size, 0, 0, 0⟩
theorem valAt_key (P : List Pane) (k : ByteArray) (f size : Int) : (valAt P k f size).key = k ∧ (valAt P k f size).lo = f := by
  unfold valAt
  rcases h : P.find? (isAt k f) with _ | p
  · exact ⟨rfl, rfl⟩
  · exact isAt_iff.1 (List.find?_some h)
theorem valAt_of {P : List Pane} (h : Apart P) {k : ByteArray} {f size : Int} {p : Pane} (hp : p ∈ P) (hk : p.key = k ∧ p.lo = f) : valAt P k f size = p := by
  unfold valAt
  rcases hf : P.find? (isAt k f) with _ | q
  · exact absurd (isAt_iff.2 hk) (by simpa using List.find?_eq_none.1 hf p hp)
  · have hq := List.mem_of_find?_eq_some hf
    have hqk := isAt_iff.1 (List.find?_some hf)
    obtain ⟨i, hi⟩ := List.mem_iff_getElem?.1 hp
    obtain ⟨j, hj⟩ := List.mem_iff_getElem?.1 hq
    obtain rfl := apart_at h hi hj ⟨hk.1.trans hqk.1.symm, hk.2.trans hqk.2.symm⟩
    rw [hi] at hj
    injection hj with hj
    exact hj.symm
theorem upd_mem {P : List Pane} (h : Apart P) {k : ByteArray} {f size mark num : Int} {p : Pane} : p ∈ upd P k f size mark num ↔ (p ∈ P ∧ ¬ (p.key = k ∧ p.lo = f)) ∨ p = bump mark num (valAt P k f size) := by
  have hv := valAt_key P k f size
  have hmem : ∀ q, q ∈ ens P k f size ↔ (q ∈ P ∧ ¬ (q.key = k ∧ q.lo = f)) ∨ q = valAt P k f size := by
    intro q
    rcases ha : P.any (isAt k f) with _ | _
    · rw [ens_new ha, List.mem_append, List.mem_singleton]
      have hn : P.find? (isAt k f) = none := by
        rw [List.find?_eq_none]
        intro x hx
        simpa using List.any_eq_false.1 ha x hx
      have e : valAt P k f size = ⟨k, f, f + size, 0, 0, 0⟩ := by rw [valAt, hn]; rfl
      rw [e]
      constructor
      · rintro (h1 | h1)
        · exact .inl ⟨h1, any_no ha h1⟩
        · exact .inr h1
      · rintro (h1 | h1)
        · exact .inl h1.1
        · exact .inr h1
    · rw [ens_there ha]
      obtain ⟨x, hx, hxa⟩ := List.any_eq_true.1 ha
      have e := valAt_of (size := size) h hx (isAt_iff.1 hxa)
      constructor
      · intro hq
        by_cases hk : q.key = k ∧ q.lo = f
        · exact .inr (valAt_of h hq hk).symm
        · exact .inl ⟨hq, hk⟩
      · rintro (h1 | h1)
        · exact h1.1
        · rw [h1, e]; exact hx
  rw [upd, List.mem_map]
  constructor
  · rintro ⟨q, hq, rfl⟩
    rcases (hmem q).1 hq with h1 | rfl
    · have e : isAt k f q = false := by
        rcases hh : isAt k f q with _ | _
        · rfl
        · exact absurd (isAt_iff.1 hh) h1.2
      rw [e]
      exact .inl h1
    · rw [isAt_iff.2 hv]
      exact .inr rfl
  · rintro (h1 | rfl)
    · refine ⟨p, (hmem p).2 (.inl h1), ?_⟩
      have e : isAt k f p = false := by
        rcases hh : isAt k f p with _ | _
        · rfl
        · exact absurd (isAt_iff.1 hh) h1.2
      rw [e]; rfl
    · exact ⟨valAt P k f size, (hmem _).2 (.inr rfl), by rw [isAt_iff.2 hv]; rfl⟩
/-- At some beginnings, one behind the other. -/
def updAll (P : List Pane) (k : ByteArray) (size mark num : Int) (F : List Int) : List Pane := F.foldl (fun P f => upd P k f size mark num) P
theorem updAll_apart {k : ByteArray} {size mark num : Int} : ∀ (F : List Int) {P : List Pane}, Apart P → Apart (updAll P k size mark num F) := by
  intro F
  induction F with
  | nil => intro P h; exact h
  | cons f F ih => intro P h; exact ih (upd_apart h)
theorem valAt_upd {P : List Pane} (h : Apart P) {k : ByteArray} {f g size mark num : Int} (hne : g ≠ f) : valAt (upd P k f size mark num) k g size = valAt P k g size := by
  have hA := upd_apart (k := k) (f := f) (size := size) (mark := mark) (num := num) h
  rcases hf : P.find? (isAt k g) with _ | q
  · have e1 : valAt P k g size = ⟨k, g, g + size, 0, 0, 0⟩ := by rw [valAt, hf]; rfl
    have e2 : (upd P k f size mark num).find? (isAt k g) = none := by
      rw [List.find?_eq_none]
      intro x hx hxa
      rcases (upd_mem h).1 hx with ⟨h1, _⟩ | rfl
      · exact List.find?_eq_none.1 hf x h1 hxa
      · have := isAt_iff.1 hxa
        rw [(bump_key _ _ _).2.1, (valAt_key P k f size).2] at this
        exact hne this.2.symm
    rw [e1, valAt, e2]; rfl
  · have hq := List.mem_of_find?_eq_some hf
    have hqk := isAt_iff.1 (List.find?_some hf)
    rw [valAt_of h hq hqk]
    exact valAt_of hA ((upd_mem h).2 (.inl ⟨hq, fun e => hne (hqk.2.symm.trans e.2)⟩)) hqk
theorem updAll_mem {k : ByteArray} {size mark num : Int} : ∀ (F : List Int) {P : List Pane}, F.Nodup → Apart P → ∀ p, p ∈ updAll P k size mark num F ↔ (p ∈ P ∧ ¬ (p.key = k ∧ p.lo ∈ F)) ∨ ∃ f ∈ F, p = bump mark num (valAt P k f size) := by
  intro F
  induction F with
  | nil => intro P _ _ p; simp [updAll]
  | cons f F ih =>
    intro P nd h p
    rw [List.nodup_cons] at nd
    have e := ih nd.2 (upd_apart (k := k) (f := f) (size := size) (mark := mark) (num := num) h) p
    show p ∈ updAll (upd P k f size mark num) k size mark num F ↔ _
    rw [e]
    have hb := bump_key mark num (valAt P k f size)
    have hv := valAt_key P k f size
    constructor
    · rintro (⟨h1, h2⟩ | ⟨g, hg, h2⟩)
      · rcases (upd_mem h).1 h1 with ⟨h3, h4⟩ | h3
        · refine .inl ⟨h3, fun e => ?_⟩
          rcases List.mem_cons.1 e.2 with e2 | e2
          · exact h4 ⟨e.1, e2⟩
          · exact h2 ⟨e.1, e2⟩
        · exact .inr ⟨f, List.mem_cons_self, h3⟩
      · have hgf : g ≠ f := fun e => nd.1 (e ▸ hg)
        rw [valAt_upd h hgf] at h2
        exact .inr ⟨g, List.mem_cons_of_mem _ hg, h2⟩
    · rintro (⟨h1, h2⟩ | ⟨g, hg, h2⟩)
      · refine .inl ⟨(upd_mem h).2 (.inl ⟨h1, fun e => h2 ⟨e.1, by rw [e.2]; exact List.mem_cons_self⟩⟩), fun e => h2 ⟨e.1, List.mem_cons_of_mem _ e.2⟩⟩
      · rcases List.mem_cons.1 hg with rfl | hg
        · refine .inl ⟨(upd_mem h).2 (.inr h2), fun e => ?_⟩
          rw [h2, hb.2.1, hv.2] at e
          exact nd.1 e.2
        · have hgf : g ≠ f := fun e => nd.1 (e ▸ hg)
          exact .inr ⟨g, hg, by rw [valAt_upd h hgf]; exact h2⟩
/-- In whatever order. -/
theorem updAll_perm {k : ByteArray} {size mark num : Int} {F F' : List Int} {P P' : List Pane} (hF : F.Nodup) (hF' : F'.Nodup) (he : ∀ f, f ∈ F ↔ f ∈ F') (h : Apart P) (h' : Apart P') (hp : P.Perm P') : (updAll P k size mark num F).Perm (updAll P' k size mark num F') := by
  have nd : ∀ {Q : List Pane}, Apart Q → Q.Nodup := fun hQ => List.Pairwise.imp (fun {a b} hab e => hab ⟨by rw [e], by rw [e]⟩) hQ
  refine (List.perm_ext_iff_of_nodup (nd (updAll_apart F h)) (nd (updAll_apart F' h'))).2 fun p => ?_
  have hv : ∀ f, valAt P k f size = valAt P' k f size := by
    intro f
    rcases hf : P.find? (isAt k f) with _ | q
    · have hf' : P'.find? (isAt k f) = none := by
        rw [List.find?_eq_none] at hf ⊢
        exact fun x hx => hf x (hp.mem_iff.2 hx)
      rw [valAt, valAt, hf, hf']
    · have hq := List.mem_of_find?_eq_some hf
      have hqk := isAt_iff.1 (List.find?_some hf)
      rw [valAt_of h hq hqk, valAt_of h' (hp.mem_iff.1 hq) hqk]
  rw [updAll_mem F hF h p, updAll_mem F' hF' h' p, hp.mem_iff]
  constructor
  · rintro (⟨h1, h2⟩ | ⟨f, h1, h2⟩)
    · exact .inl ⟨h1, fun e => h2 ⟨e.1, (he _).2 e.2⟩⟩
    · exact .inr ⟨f, (he f).1 h1, by rw [← hv]; exact h2⟩
  · rintro (⟨h1, h2⟩ | ⟨f, h1, h2⟩)
    · exact .inl ⟨h1, fun e => h2 ⟨e.1, (he _).1 e.2⟩⟩
    · exact .inr ⟨f, (he f).2 h1, by rw [hv]; exact h2⟩
/-- The beginnings, from a last one down. -/
def fromsD (T size b : Int) : Nat → List Int
  | 0 => []
  | j + 1 => if T < b * j + size then (b * j) :: fromsD T size b j else []
theorem downTo_all (r : Rec) (size b mark : Int) : ∀ (j : Nat) (P : List Pane), downTo r size b mark j P = updAll P r.key size mark r.num (fromsD r.time size b j) := by
  intro j
  induction j with
  | zero => intro P; rfl
  | succ j ih =>
    intro P
    rw [downTo, fromsD]
    split
    · rw [ih]; rfl
    · rfl
theorem fromsD_mem {T size b : Int} (hb : 1 ≤ b) : ∀ {j : Nat} {f : Int}, f ∈ fromsD T size b j ↔ ∃ i : Nat, i < j ∧ f = b * i ∧ T < f + size := by
  intro j
  induction j with
  | zero => intro f; simp [fromsD]
  | succ j ih =>
    intro f
    rw [fromsD]
    have mono : ∀ i : Nat, i ≤ j → b * (i : Int) ≤ b * (j : Int) := fun i hi => Int.mul_le_mul_of_nonneg_left (by omega) (by omega)
    split
    · rename_i hc
      rw [List.mem_cons, ih]
      constructor
      · rintro (rfl | ⟨i, h1, h2, h3⟩)
        · exact ⟨j, by omega, rfl, hc⟩
        · exact ⟨i, by omega, h2, h3⟩
      · rintro ⟨i, h1, h2, h3⟩
        by_cases e : i = j
        · subst e; exact .inl h2
        · exact .inr ⟨i, by omega, h2, h3⟩
    · rename_i hc
      constructor
      · intro h; cases h
      · rintro ⟨i, h1, rfl, h3⟩
        have := mono i (by omega)
        exact absurd (by omega) hc
theorem fromsD_nodup {T size b : Int} (hb : 1 ≤ b) : ∀ (j : Nat), (fromsD T size b j).Nodup := by
  intro j
  induction j with
  | zero => exact .nil
  | succ j ih =>
    rw [fromsD]
    split
    · rw [List.nodup_cons]
      refine ⟨fun h => ?_, ih⟩
      obtain ⟨i, h1, h2, _⟩ := (fromsD_mem hb).1 h
      have e := Int.eq_of_mul_eq_mul_left (by omega : b ≠ 0) h2
      omega
    · exact .nil
theorem downTo_apart (r : Rec) (size b mark : Int) (j : Nat) {P : List Pane} (h : Apart P) : Apart (downTo r size b mark j P) := by rw [downTo_all]; exact updAll_apart _ h
theorem slideTo_apart (size b slack : Int) (l : List Rec) : ∀ i, Apart (slideTo size b slack l i) := by
  intro i
  induction i with
  | zero => exact .nil
  | succ i ih => rw [slideTo]; exact downTo_apart _ _ _ _ _ ih
end Go.Proofs.Ytelailhghhjleaa
