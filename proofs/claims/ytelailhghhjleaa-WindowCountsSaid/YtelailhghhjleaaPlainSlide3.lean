/- How the reference counts a record in its panes; it comes to the same panes, in order; as plain data. No program in sight. -/
import Derived.Test.YtelailhghhjleaaPlainSlide2
import Derived.Test.YtelailhghhjleaaPlainSess3
namespace Go.Proofs.Ytelailhghhjleaa
open Go.RowKit Go.Sort

def freshP (k : ByteArray) (f size : Int) : Pane := ⟨k, f, f + size, 0, 0, 0⟩
def refUpd (N : List Pane) (k : ByteArray) (f size mark num : Int) : List Pane :=
  if (N[spot (freshP k f size) N]?).any (isAt k f) = true then N.set (spot (freshP k f size) N) (bump mark num ((N[spot (freshP k f size) N]?).getD (freshP k f size)))
  else (place (freshP k f size) N).set (spot (freshP k f size) N) (bump mark num (freshP k f size))
/-- Is one pane ahead of another one? -/
def aheadK (p q : Pane) : Prop := p.key.toList < q.key.toList ∨ (p.key.toList = q.key.toList ∧ p.lo < q.lo)
def RiseP (N : List Pane) : Prop := N.Pairwise aheadK
theorem aheadK_trans {p q r : Pane} (h : aheadK p q) (k : aheadK q r) : aheadK p r := by
  rcases h with h | ⟨h1, h2⟩
  · rcases k with k | ⟨k1, k2⟩
    · exact .inl (bl_trans h k)
    · exact .inl (k1 ▸ h)
  · rcases k with k | ⟨k1, k2⟩
    · exact .inl (h1 ▸ k)
    · exact .inr ⟨h1.trans k1, by omega⟩
theorem aheadK_irrefl (p : Pane) : ¬ aheadK p p := by
  rintro (h | ⟨_, h⟩)
  · exact bl_irrefl _ h
  · omega
theorem aheadK_tri (p q : Pane) : aheadK p q ∨ (p.key = q.key ∧ p.lo = q.lo) ∨ aheadK q p := by
  rcases bl_tri p.key.toList q.key.toList with h | h | h
  · exact .inl (.inl h)
  · rcases Int.lt_trichotomy p.lo q.lo with k | k | k
    · exact .inl (.inr ⟨h, k⟩)
    · exact .inr (.inl ⟨bytes_same h, k⟩)
    · exact .inr (.inr (.inr ⟨h.symm, k⟩))
  · exact .inr (.inr (.inl h))
theorem before_ahead {p q : Pane} : before p q = true ↔ aheadK q p := before_iff
theorem rise_apart {N : List Pane} (h : RiseP N) : Apart N := List.Pairwise.imp (fun {a b} hab e => by
  rcases hab with h | ⟨_, h⟩
  · rw [e.1] at h; exact bl_irrefl _ h
  · omega) h
theorem rise_below {N : List Pane} (h : RiseP N) {i j : Nat} {p q : Pane} (hi : N[i]? = some p) (hj : N[j]? = some q) (hij : i < j) : aheadK p q := by
  obtain ⟨h1, rfl⟩ := List.getElem?_eq_some_iff.1 hi
  obtain ⟨h2, rfl⟩ := List.getElem?_eq_some_iff.1 hj
  exact List.pairwise_iff_getElem.1 h i j h1 h2 hij
theorem spot_all {p : Pane} {N : List Pane} : ∀ (u : Nat) (q : Pane), u < spot p N → N[u]? = some q → aheadK q p := by
  intro u q hu hq
  have hm : q ∈ N.takeWhile (before p) := by
    rw [← (spot_take p N).1]
    exact List.mem_of_getElem? (i := u) (by rw [List.getElem?_take, if_pos hu]; exact hq)
  exact before_ahead.1 (by
    have : ∀ (L : List Pane), q ∈ L.takeWhile (before p) → before p q = true := by
      intro L
      induction L with
      | nil => intro h; cases h
      | cons x xs ih =>
        intro h
        rw [List.takeWhile_cons] at h
        split at h
        · rename_i hx
          rcases List.mem_cons.1 h with rfl | h
          · exact hx
          · exact ih h
        · cases h
    exact this N hm)
theorem spot_next {p : Pane} {N : List Pane} {q : Pane} (h : N[spot p N]? = some q) : ¬ aheadK q p := by
  intro ha
  have hd := (spot_take p N).2
  have e : N.dropWhile (before p) = q :: N.drop (spot p N + 1) := by
    rw [← hd]
    obtain ⟨hl, rfl⟩ := List.getElem?_eq_some_iff.1 h
    exact List.drop_eq_getElem_cons hl
  have : ∀ (L : List Pane) (x : Pane) (xs : List Pane), L.dropWhile (before p) = x :: xs → before p x = false := by
    intro L
    induction L with
    | nil => intro x xs h; cases h
    | cons y ys ih =>
      intro x xs h
      rw [List.dropWhile_cons] at h
      split at h
      · exact ih x xs h
      · rename_i hy
        injection h with h1 h2
        rw [← h1]; simpa using hy
  have := this N q _ e
  rw [before_ahead.2 ha] at this
  cases this
theorem spot_le (p : Pane) (N : List Pane) : spot p N ≤ N.length := by
  rw [spot]
  have : (N.takeWhile (before p)).length + (N.dropWhile (before p)).length = N.length := by rw [← List.length_append, List.takeWhile_append_dropWhile]
  omega
/-- There, it stands at its spot. -/
theorem spot_there {N : List Pane} (h : RiseP N) {k : ByteArray} {f size : Int} : (N[spot (freshP k f size) N]?).any (isAt k f) = N.any (isAt k f) := by
  rcases ha : N.any (isAt k f) with _ | _
  · rcases hq : N[spot (freshP k f size) N]? with _ | q
    · rfl
    · have := List.any_eq_false.1 ha q (List.mem_of_getElem? hq)
      simpa using this
  · obtain ⟨q, hq, hqa⟩ := List.any_eq_true.1 ha
    obtain ⟨i, hi⟩ := List.mem_iff_getElem?.1 hq
    have hk := isAt_iff.1 hqa
    have hno : ¬ aheadK q (freshP k f size) := by
      rintro (h1 | ⟨_, h1⟩)
      · rw [hk.1] at h1; exact bl_irrefl _ h1
      · rw [hk.2] at h1; simp [freshP] at h1
    have hil := (List.getElem?_eq_some_iff.1 hi).1
    rcases Nat.lt_trichotomy i (spot (freshP k f size) N) with hlt | rfl | hlt
    · exact absurd (spot_all i q hlt hi) hno
    · rw [hi]; exact hqa
    · obtain ⟨x, hx⟩ : ∃ x, N[spot (freshP k f size) N]? = some x := ⟨_, List.getElem?_eq_getElem (by omega)⟩
      have h1 := rise_below h hx hi hlt
      refine absurd ?_ (spot_next hx)
      rcases h1 with h1 | ⟨h1, h2⟩
      · exact .inl (by rw [hk.1] at h1; exact h1)
      · exact .inr ⟨by rw [hk.1] at h1; exact h1, by rw [hk.2] at h2; exact h2⟩
theorem place_at {p : Pane} {N : List Pane} : place p N = N.take (spot p N) ++ p :: N.drop (spot p N) := by rw [place, (spot_take p N).1, (spot_take p N).2]
theorem set_mid {A B : List Pane} {p q : Pane} : (A ++ p :: B).set A.length q = A ++ q :: B := by
  rw [List.set_append_right _ _ (Nat.le_refl _), Nat.sub_self]; rfl
theorem refUpd_ok {N : List Pane} (h : RiseP N) {k : ByteArray} {f size mark num : Int} : (refUpd N k f size mark num).Perm (upd N k f size mark num) ∧ RiseP (refUpd N k f size mark num) := by
  have hA := rise_apart h
  have hb := bump_key mark num
  rw [refUpd, spot_there h]
  rcases ha : N.any (isAt k f) with _ | _
  · rw [if_neg (by simp)]
    have hl : (N.take (spot (freshP k f size) N)).length = spot (freshP k f size) N := by rw [List.length_take]; have := spot_le (freshP k f size) N; omega
    have e1 : (place (freshP k f size) N).set (spot (freshP k f size) N) (bump mark num (freshP k f size)) = N.take (spot (freshP k f size) N) ++ bump mark num (freshP k f size) :: N.drop (spot (freshP k f size) N) := by
      rw [place_at]
      have := set_mid (A := N.take (spot (freshP k f size) N)) (B := N.drop (spot (freshP k f size) N)) (p := freshP k f size) (q := bump mark num (freshP k f size))
      rw [hl] at this
      exact this
    have e2 : upd N k f size mark num = N ++ [bump mark num (freshP k f size)] := by
      rw [upd_set (k := k) (f := f) (size := size) (mark := mark) (num := num) (j := N.length) (p := freshP k f size) hA (by rw [ens_new ha, List.getElem?_append_right (Nat.le_refl _), Nat.sub_self]; rfl) ⟨rfl, rfl⟩, ens_new ha, set_mid (A := N) (B := [])]
    rw [e1, e2]
    refine ⟨?_, ?_⟩
    · have h1 : (N.take (spot (freshP k f size) N) ++ bump mark num (freshP k f size) :: N.drop (spot (freshP k f size) N)).Perm (bump mark num (freshP k f size) :: (N.take (spot (freshP k f size) N) ++ N.drop (spot (freshP k f size) N))) := List.perm_middle
      rw [List.take_append_drop] at h1
      exact h1.trans (List.perm_append_singleton _ _).symm
    · have hs := h
      rw [RiseP, ← List.take_append_drop (spot (freshP k f size) N) N, List.pairwise_append] at hs
      obtain ⟨s1, s2, s3⟩ := hs
      have hbk : ∀ q : Pane, aheadK q (freshP k f size) → aheadK q (bump mark num (freshP k f size)) := fun q hq => by unfold aheadK at *; rw [(hb _).1, (hb _).2.1]; exact hq
      have hbk2 : ∀ q : Pane, aheadK (freshP k f size) q → aheadK (bump mark num (freshP k f size)) q := fun q hq => by unfold aheadK at *; rw [(hb _).1, (hb _).2.1]; exact hq
      have hlow : ∀ q ∈ N.take (spot (freshP k f size) N), aheadK q (freshP k f size) := by
        intro q hq
        obtain ⟨i, hi⟩ := List.mem_iff_getElem?.1 hq
        rw [List.getElem?_take] at hi
        split at hi
        · rename_i hlt; exact spot_all i q hlt hi
        · cases hi
      have hhigh : ∀ q ∈ N.drop (spot (freshP k f size) N), aheadK (freshP k f size) q := by
        intro q hq
        obtain ⟨i, hi⟩ := List.mem_iff_getElem?.1 hq
        rw [List.getElem?_drop] at hi
        have hno : ¬ aheadK q (freshP k f size) := by
          rcases Nat.eq_zero_or_pos i with rfl | hip
          · exact spot_next hi
          · obtain ⟨x, hx⟩ : ∃ x, N[spot (freshP k f size) N]? = some x := ⟨_, List.getElem?_eq_getElem (by have := (List.getElem?_eq_some_iff.1 hi).1; omega)⟩
            exact fun e => spot_next hx (aheadK_trans (rise_below h hx hi (by omega)) e)
        rcases aheadK_tri (freshP k f size) q with t | t | t
        · exact t
        · exact absurd ⟨t.1.symm, t.2.symm⟩ (any_no ha (List.mem_of_getElem? hi))
        · exact absurd t hno
      rw [RiseP, List.pairwise_append]
      refine ⟨s1, List.pairwise_cons.2 ⟨fun q hq => hbk2 q (hhigh q hq), s2⟩, fun a ha' b hbm => ?_⟩
      rcases List.mem_cons.1 hbm with rfl | hbm
      · exact hbk a (hlow a ha')
      · exact s3 a ha' b hbm
  · rw [if_pos rfl]
    have ht := spot_there (size := size) h (k := k) (f := f)
    rw [ha] at ht
    obtain ⟨q, hq, hqa⟩ : ∃ q, N[spot (freshP k f size) N]? = some q ∧ isAt k f q = true := by
      rcases hh : N[spot (freshP k f size) N]? with _ | q
      · rw [hh] at ht; cases ht
      · rw [hh] at ht; exact ⟨q, rfl, by simpa using ht⟩
    rw [hq, Option.getD_some]
    have e2 : upd N k f size mark num = N.set (spot (freshP k f size) N) (bump mark num q) := by
      have e3 := ens_there (size := size) ha
      rw [upd_set (k := k) (f := f) (size := size) (mark := mark) (num := num) (j := spot (freshP k f size) N) (p := q) hA (by rw [e3]; exact hq) (isAt_iff.1 hqa), e3]
    rw [e2]
    refine ⟨.refl _, ?_⟩
    rw [RiseP, List.pairwise_iff_getElem]
    intro i j hi hj hij
    have hg : ∀ (i : Nat) (hi : i < (N.set (spot (freshP k f size) N) (bump mark num q)).length), ∃ x, N[i]? = some x ∧ (N.set (spot (freshP k f size) N) (bump mark num q))[i].key = x.key ∧ (N.set (spot (freshP k f size) N) (bump mark num q))[i].lo = x.lo := by
      intro i hi
      rw [List.length_set] at hi
      by_cases e : spot (freshP k f size) N = i
      · subst e
        exact ⟨q, hq, by rw [List.getElem_set_self]; exact (hb q).1, by rw [List.getElem_set_self]; exact (hb q).2.1⟩
      · exact ⟨N[i], List.getElem?_eq_getElem hi, by rw [List.getElem_set_ne e], by rw [List.getElem_set_ne e]⟩
    obtain ⟨x, x1, x2, x3⟩ := hg i hi
    obtain ⟨y, y1, y2, y3⟩ := hg j hj
    have := rise_below h x1 y1 hij
    unfold aheadK at *
    rw [x2, x3, y2, y3]; exact this
/-- Two lists that rise and have the same members are one. -/
theorem rise_one : ∀ {a b : List Pane}, RiseP a → RiseP b → (∀ p, p ∈ a ↔ p ∈ b) → a = b := by
  intro a
  induction a with
  | nil =>
    intro b _ _ h
    cases b with
    | nil => rfl
    | cons y ys => exact absurd ((h y).2 List.mem_cons_self) List.not_mem_nil
  | cons x xs ih =>
    intro b ha hb h
    cases b with
    | nil => exact absurd ((h x).1 List.mem_cons_self) List.not_mem_nil
    | cons y ys =>
      rw [RiseP, List.pairwise_cons] at ha hb
      have e : x = y := by
        rcases List.mem_cons.1 ((h x).1 List.mem_cons_self) with e | e
        · exact e
        · rcases List.mem_cons.1 ((h y).2 List.mem_cons_self) with e2 | e2
          · exact e2.symm
          · exact absurd (aheadK_trans (ha.1 y e2) (hb.1 x e)) (aheadK_irrefl x)
      subst e
      congr 1
      refine ih ha.2 hb.2 fun p => ⟨fun hp => ?_, fun hp => ?_⟩
      · rcases List.mem_cons.1 ((h p).1 (List.mem_cons_of_mem _ hp)) with e | e
        · subst e; exact absurd (ha.1 _ hp) (aheadK_irrefl p)
        · exact e
      · rcases List.mem_cons.1 ((h p).2 (List.mem_cons_of_mem _ hp)) with e | e
        · subst e; exact absurd (hb.1 _ hp) (aheadK_irrefl p)
        · exact e
/-- The reference: the beginnings from the first on. -/
def refTo (r : Rec) (size b mark : Int) (N : List Pane) : Nat → List Pane
  | 0 => N
  | j + 1 => if r.time / b * b - 17 * b + b * j < 0 ∨ r.time / b * b - 17 * b + b * j + size ≤ r.time then refTo r size b mark N j
    else refUpd (refTo r size b mark N j) r.key (r.time / b * b - 17 * b + b * j) size mark r.num
def fromsA (T size b : Int) : Nat → List Int
  | 0 => []
  | j + 1 => if T / b * b - 17 * b + b * j < 0 ∨ T / b * b - 17 * b + b * j + size ≤ T then fromsA T size b j else fromsA T size b j ++ [T / b * b - 17 * b + b * j]
theorem refTo_ok (r : Rec) (size b mark : Int) {N : List Pane} (h : RiseP N) : ∀ j, (refTo r size b mark N j).Perm (updAll N r.key size mark r.num (fromsA r.time size b j)) ∧ RiseP (refTo r size b mark N j) := by
  intro j
  induction j with
  | zero => exact ⟨.refl _, h⟩
  | succ j ih =>
    rw [refTo, fromsA]
    split
    · exact ih
    · obtain ⟨i1, i2⟩ := ih
      obtain ⟨u1, u2⟩ := refUpd_ok i2 (k := r.key) (f := r.time / b * b - 17 * b + b * j) (size := size) (mark := mark) (num := r.num)
      refine ⟨?_, u2⟩
      have e : updAll N r.key size mark r.num (fromsA r.time size b j ++ [r.time / b * b - 17 * b + b * j]) = updAll (updAll N r.key size mark r.num (fromsA r.time size b j)) r.key size mark r.num [r.time / b * b - 17 * b + b * j] := by rw [updAll, List.foldl_append]; rfl
      rw [e]
      exact u1.trans (updAll_perm (F := [_]) (F' := [_]) (by simp) (by simp) (fun _ => Iff.rfl) (rise_apart i2) (updAll_apart _ (rise_apart h)) i1)
theorem fromsA_mem {T size b : Int} : ∀ {j : Nat} {f : Int}, f ∈ fromsA T size b j ↔ ∃ i : Nat, i < j ∧ f = T / b * b - 17 * b + b * i ∧ 0 ≤ f ∧ T < f + size := by
  intro j
  induction j with
  | zero => intro f; simp [fromsA]
  | succ j ih =>
    intro f
    rw [fromsA]
    split
    · rename_i hc
      rw [ih]
      constructor
      · rintro ⟨i, h1, h2⟩; exact ⟨i, by omega, h2⟩
      · rintro ⟨i, h1, h2, h3, h4⟩
        by_cases e : i = j
        · subst e; omega
        · exact ⟨i, by omega, h2, h3, h4⟩
    · rename_i hc
      rw [List.mem_append, ih, List.mem_singleton]
      constructor
      · rintro (⟨i, h1, h2⟩ | rfl)
        · exact ⟨i, by omega, h2⟩
        · exact ⟨j, by omega, rfl, by omega, by omega⟩
      · rintro ⟨i, h1, h2, h3, h4⟩
        by_cases e : i = j
        · subst e; exact .inr h2
        · exact .inl ⟨i, by omega, h2, h3, h4⟩
theorem fromsA_nodup {T size b : Int} (hb : 1 ≤ b) : ∀ (j : Nat), (fromsA T size b j).Nodup := by
  intro j
  induction j with
  | zero => exact .nil
  | succ j ih =>
    rw [fromsA]
    split
    · exact ih
    · rw [List.nodup_append]
      refine ⟨ih, by simp, fun x hx y hy e => ?_⟩
      rw [List.mem_singleton.1 hy] at e
      obtain ⟨i, h1, h2, _⟩ := fromsA_mem.1 hx
      rw [h2] at e
      have e2 : b * (i : Int) = b * (j : Int) := by omega
      have e3 := Int.eq_of_mul_eq_mul_left (by omega : b ≠ 0) e2
      omega
theorem froms_same {T size b : Int} (hT : 0 ≤ T) (hb : 1 ≤ b) (hs : size ≤ 16 * b) (f : Int) : f ∈ fromsA T size b 18 ↔ f ∈ fromsD T size b ((T / b).toNat + 1) := by
  rw [fromsA_mem, fromsD_mem hb]
  obtain ⟨q, hq⟩ : ∃ q : Nat, T / b = q := ⟨(T / b).toNat, by have := Int.ediv_nonneg hT (by omega : 0 ≤ b); omega⟩
  have hTl : b * q ≤ T := by rw [← hq, Int.mul_comm]; exact Int.ediv_mul_le T (by omega)
  have hTu : T < b * q + b := by
    have h1 := Int.lt_ediv_add_one_mul_self T (by omega : 0 < b)
    rw [hq, Int.add_mul, Int.one_mul, Int.mul_comm] at h1
    exact h1
  have e1 : (q : Int).toNat = q := by omega
  rw [hq, e1]
  have expand : ∀ i : Nat, (q : Int) * b - 17 * b + b * i = b * (q - 17 + i) := by
    intro i
    rw [Int.mul_add, Int.mul_sub, Int.mul_comm (q : Int) b, Int.mul_comm 17 b]
  constructor
  · rintro ⟨i, h1, h2, h3, h4⟩
    rw [expand] at h2
    have hn : 0 ≤ (q : Int) - 17 + i := by
      rcases Int.lt_or_le ((q : Int) - 17 + i) 0 with hneg | h
      · have : b * ((q : Int) - 17 + i) < 0 := Int.mul_neg_of_pos_of_neg (by omega) hneg
        omega
      · exact h
    refine ⟨((q : Int) - 17 + i).toNat, by omega, ?_, h4⟩
    rw [h2, Int.toNat_of_nonneg hn]
  · rintro ⟨i, h1, h2, h4⟩
    have hi : (q : Int) < i + 17 := by
      have h5 : b * (q : Int) < b * ((i : Int) + 16) := by rw [Int.mul_add]; omega
      have h6 := Int.lt_of_mul_lt_mul_left h5 (by omega : 0 ≤ b)
      omega
    refine ⟨i + 17 - q, by omega, ?_, ?_, h4⟩
    · rw [expand, h2]
      congr 1
      omega
    · rw [h2]; exact Int.mul_nonneg (by omega) (by omega)
/-- All records by the reference. -/
def refSlide (size b slack : Int) (l : List Rec) : Nat → List Pane
  | 0 => []
  | i + 1 => refTo (recAt l i) size b (markTo slack (l.take i)) (refSlide size b slack l i) 18
theorem refSlide_ok {size b slack : Int} {l : List Rec} (hb : 1 ≤ b) (hs : size ≤ 16 * b) (hok : ∀ r ∈ l, 0 ≤ r.time) : ∀ i, i ≤ l.length → (refSlide size b slack l i).Perm (slideTo size b slack l i) ∧ RiseP (refSlide size b slack l i) := by
  intro i
  induction i with
  | zero => intro _; exact ⟨.refl _, .nil⟩
  | succ i ih =>
    intro hi
    obtain ⟨i1, i2⟩ := ih (by omega)
    rw [refSlide, slideTo, downTo_all]
    have ht : 0 ≤ (recAt l i).time := by
      refine hok _ ?_
      rw [recAt, List.getD_eq_getElem?_getD, List.getElem?_eq_getElem (by omega)]
      exact List.getElem_mem _
    obtain ⟨r1, r2⟩ := refTo_ok (recAt l i) size b (markTo slack (l.take i)) i2 18
    exact ⟨r1.trans (updAll_perm (fromsA_nodup hb 18) (fromsD_nodup hb _) (fun f => froms_same ht hb hs f) (rise_apart i2) (slideTo_apart _ _ _ _ _) i1), r2⟩
end Go.Proofs.Ytelailhghhjleaa
