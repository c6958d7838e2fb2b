/- PlainLsm PlainLsm2 in one text. -/
import Derived.Test.YtcfijljagohmlaaGreatDoorPlainTMerge
/- A store of keys, as plain data. No program in sight. -/
namespace Go.Proofs.YtcfijljagohmlaaGreatDoor
open Go.RowKit

/-- An entry among some that rise, in place of the one with its key. -/
def entSet (e : Ent) : List Ent → List Ent
  | [] => [e]
  | x :: xs => if klt x.key e.key = true then x :: entSet e xs else if x.key = e.key then e :: xs else e :: x :: xs
theorem entSet_mem {e : Ent} : ∀ {l : List Ent} {y : Ent}, y ∈ entSet e l → y = e ∨ y ∈ l := by
  intro l
  induction l with
  | nil => intro y hy; left; exact List.mem_singleton.1 hy
  | cons x xs ih =>
    intro y hy
    rw [entSet] at hy
    split at hy
    · rcases List.mem_cons.1 hy with rfl | hy
      · exact .inr List.mem_cons_self
      · rcases ih hy with h | h
        · exact .inl h
        · exact .inr (List.mem_cons_of_mem _ h)
    · split at hy
      · rcases List.mem_cons.1 hy with rfl | hy
        · exact .inl rfl
        · exact .inr (List.mem_cons_of_mem _ hy)
      · rcases List.mem_cons.1 hy with rfl | hy
        · exact .inl rfl
        · exact .inr hy
theorem entSet_rise {e : Ent} : ∀ {l : List Ent}, riseE l → riseE (entSet e l) := by
  intro l
  induction l with
  | nil => intro _; exact List.pairwise_singleton _ _
  | cons x xs ih =>
    intro h
    rw [riseE, List.pairwise_cons] at h
    rw [entSet]
    split
    · rename_i hx
      refine .cons (fun y hy => ?_) (ih h.2)
      rcases entSet_mem hy with e | e
      · rw [e]; exact hx
      · exact h.1 y e
    · rename_i hx
      split
      · rename_i heq
        refine .cons (fun y hy => ?_) h.2
        rw [← heq]; exact h.1 y hy
      · rename_i hne
        have hkx : klt e.key x.key = true := by
          rcases klt_tri x.key e.key with t | t | t
          · exact absurd t hx
          · exact absurd t hne
          · exact t
        refine .cons (fun y hy => ?_) (.cons h.1 h.2)
        rcases List.mem_cons.1 hy with rfl | hy
        · exact hkx
        · exact klt_trans hkx (h.1 y hy)
theorem entSet_len {e : Ent} : ∀ (l : List Ent), (entSet e l).length ≤ l.length + 1 := by
  intro l
  induction l with
  | nil => exact Nat.le_refl _
  | cons x xs ih =>
    rw [entSet]
    split
    · simp; exact ih
    · split <;> simp
theorem entSet_of {e : Ent} : ∀ {l : List Ent}, riseE l → ∀ k, entOf (entSet e l) k = if k = e.key then some e else entOf l k := by
  intro l
  induction l with
  | nil =>
    intro _ k
    rw [entSet, entOf_cons]
    by_cases h : k = e.key
    · rw [if_pos h, if_pos h.symm]
    · rw [if_neg h, if_neg (fun e => h e.symm)]
  | cons x xs ih =>
    intro h k
    rw [riseE, List.pairwise_cons] at h
    rw [entSet]
    split
    · rename_i hx
      have hne := klt_ne hx
      rw [entOf_cons, ih h.2, entOf_cons]
      by_cases h1 : x.key = k
      · rw [if_pos h1, if_neg (fun e => hne (h1.trans e)), if_pos h1]
      · rw [if_neg h1, if_neg h1]
    · rename_i hx
      split
      · rename_i e1
        rw [entOf_cons, entOf_cons]
        by_cases h1 : e.key = k
        · rw [if_pos h1, if_pos h1.symm]
        · rw [if_neg h1, if_neg (fun e => h1 e.symm), if_neg (by rw [e1]; exact h1)]
      · rename_i hne
        rw [entOf_cons]
        by_cases h1 : e.key = k
        · rw [if_pos h1, if_pos h1.symm]
        · rw [if_neg h1, if_neg (fun e => h1 e.symm)]
/-- What rises is known by its look-ups. -/
theorem rise_ext : ∀ {a b : List Ent}, riseE a → riseE b → (∀ k, entOf a k = entOf b k) → a = b := by
  intro a b ha hb h
  have hnd : ∀ {l : List Ent}, riseE l → l.Nodup := fun hl => List.Pairwise.imp (fun {a b : Ent} (hab : klt a.key b.key = true) (e : a = b) => klt_ne hab (by rw [e])) hl
  have hp : a.Perm b := (List.perm_ext_iff_of_nodup (hnd ha) (hnd hb)).2 fun x => ⟨fun hx => by
      have := entOf_mem ha hx
      rw [h] at this
      exact (entOf_some this).1, fun hx => by
      have := entOf_mem hb hx
      rw [← h] at this
      exact (entOf_some this).1⟩
  exact up_riseE hp hb (List.Pairwise.imp (fun {x y : Ent} (hxy : klt x.key y.key = true) => klt_asymm hxy) ha)
theorem entOf_app (a b : List Ent) (k : ByteArray) : entOf (a ++ b) k = (entOf a k).or (entOf b k) := by
  rw [entOf, List.find?_append]; rfl
theorem mix_fold_of : ∀ (l o : List Ent), riseE o → ∀ k, entOf (l.foldl (fun o e => entPut e o) o) k = (entOf o k).or (entOf l k) := by
  intro l
  induction l with
  | nil => intro o _ k; simp [entOf]
  | cons x xs ih =>
    intro o h k
    rw [List.foldl_cons, ih _ (entPut_rise h), entPut_of h, entOf_cons]
    by_cases hk : k = x.key
    · rw [if_pos hk, if_pos hk.symm, hk]
      rcases entOf o x.key with _ | y <;> rfl
    · rw [if_neg hk, if_neg (fun e => hk e.symm)]
theorem mix_of (l : List Ent) (k : ByteArray) : entOf (mixL l) k = entOf l k := by
  have := mix_fold_of l [] .nil k
  rw [mixL, this]; rfl
theorem mix_self {l : List Ent} (h : riseE l) : mixL l = l := rise_ext (mix_rise _) h (mix_of l)
theorem mix_put {F R : List Ent} {e : Ent} (h : riseE F) : mixL (entSet e F ++ R) = entSet e (mixL (F ++ R)) := by
  refine rise_ext (mix_rise _) (entSet_rise (mix_rise _)) fun k => ?_
  rw [mix_of, entSet_of (mix_rise _), mix_of, entOf_app, entOf_app, entSet_of h]
  split
  · rfl
  · rfl
theorem mix_mix (F R : List Ent) : mixL (mixL F ++ R) = mixL (F ++ R) := by
  refine rise_ext (mix_rise _) (mix_rise _) fun k => ?_
  rw [mix_of, mix_of, entOf_app, entOf_app, mix_of]
/-- Of some that rise, there are no more than of what has all their keys. -/
theorem rise_len_le {a b : List Ent} (ha : riseE a) (h : ∀ k, entOf a k ≠ none → entOf b k ≠ none) : a.length ≤ b.length := by
  have h1 : (a.map Ent.key).Nodup := by
    rw [List.Nodup, List.pairwise_map]
    exact List.Pairwise.imp (fun {x y : Ent} (hxy : klt x.key y.key = true) => klt_ne hxy) ha
  have h2 : ∀ k ∈ a.map Ent.key, k ∈ b.map Ent.key := fun k hk => by
    obtain ⟨x, hx, rfl⟩ := List.mem_map.1 hk
    have h3 := h x.key (by rw [entOf_mem ha hx]; simp)
    rcases he : entOf b x.key with _ | y
    · exact absurd he h3
    · exact List.mem_map.2 ⟨y, (entOf_some he).1, (entOf_some he).2⟩
  have : (a.map Ent.key).length ≤ (b.map Ent.key).length := by
    generalize a.map Ent.key = x at *
    generalize b.map Ent.key = y at *
    clear h ha
    induction x generalizing y with
    | nil => exact Nat.zero_le _
    | cons p ps ih =>
      obtain ⟨u, v, rfl⟩ := List.append_of_mem (h2 p List.mem_cons_self)
      rw [List.nodup_cons] at h1
      have := ih h1.2 (u ++ v) fun q hq => by
        rcases List.mem_append.1 (h2 q (List.mem_cons_of_mem _ hq)) with h | h
        · exact List.mem_append_left _ h
        · rcases List.mem_cons.1 h with h | h
          · exact absurd (h ▸ hq) h1.1
          · exact List.mem_append_right _ h
      simp at this ⊢
      omega
  simpa using this

/-- What a store has: what is fresh, by keys; and its tables' lists, the newest ahead. -/
structure Lsm where
  F : List Ent
  LS : List (List Ent)
def Lsm.all (s : Lsm) : List Ent := mixL (s.F ++ s.LS.flatten)
structure LsmOk (s : Lsm) : Prop where
  rise : riseE s.F
  fine : ∀ e ∈ s.F, entE e = 0
  lists : ∀ l ∈ s.LS, entsE l = 0
  few : s.all.length ≤ 400
def lsmNone : Lsm := ⟨[], []⟩
theorem lsmNone_ok : LsmOk lsmNone := ⟨.nil, (fun _ h => (List.not_mem_nil h).elim), (fun _ h => (List.not_mem_nil h).elim), Nat.zero_le _⟩
section
variable {s : Lsm}
theorem LsmOk.all_fine (h : LsmOk s) : ∀ e ∈ s.all, entE e = 0 := fun e he => by
  rcases List.mem_append.1 (mix_mem he) with h1 | h1
  · exact h.fine e h1
  · obtain ⟨l, hl, hm⟩ := List.mem_flatten.1 h1
    exact (entsE_all (h.lists l hl)).2 e hm
theorem Lsm.all_rise (s : Lsm) : riseE s.all := mix_rise _
theorem LsmOk.fresh_le (h : LsmOk s) : s.F.length ≤ s.all.length := rise_len_le h.rise fun k hk => by
  rw [Lsm.all, mix_of, entOf_app]
  rcases hf : entOf s.F k with _ | y
  · exact absurd hf hk
  · simp
theorem LsmOk.fresh_ents (h : LsmOk s) : entsE s.F = 0 := by
  have := h.fresh_le
  have := h.few
  rw [rise_ents h.rise h.fine, if_neg (by omega)]
end
/-- What is fresh is a table. -/
def lsmFlush (s : Lsm) : Lsm := if s.F = [] then s else ⟨[], s.F :: s.LS⟩
theorem lsmFlush_all (s : Lsm) : (lsmFlush s).all = s.all := by
  unfold lsmFlush
  split
  · rfl
  · rfl
theorem lsmFlush_ok {s : Lsm} (h : LsmOk s) : LsmOk (lsmFlush s) := by
  have h1 := lsmFlush_all s
  by_cases hF : s.F = []
  · have : lsmFlush s = s := by rw [lsmFlush, if_pos hF]
    rw [this]; exact h
  · have e : lsmFlush s = ⟨[], s.F :: s.LS⟩ := by rw [lsmFlush, if_neg hF]
    refine ⟨by rw [e]; exact .nil, (by rw [e]; exact fun _ h => (List.not_mem_nil h).elim), ?_, by rw [h1]; exact h.few⟩
    rw [e]
    intro l hl
    rcases List.mem_cons.1 hl with rfl | hl
    · exact h.fresh_ents
    · exact h.lists l hl
/-- The fault of putting one. -/
def lsmPutE (s : Lsm) (e : Ent) : Nat := if 120 < e.key.size ∨ 120 < e.value.size then 1 else if entOf s.all e.key = none ∧ 400 ≤ s.all.length then 4 else 0
def lsmSet (s : Lsm) (e : Ent) : Lsm := ⟨entSet e s.F, s.LS⟩
def lsmPut (lim : Int) (s : Lsm) (e : Ent) : Lsm := if lsmPutE s e = 0 then (if lim ≤ ((lsmSet s e).F.length : Int) then lsmFlush (lsmSet s e) else lsmSet s e) else s
theorem lsmSet_all {s : Lsm} (h : LsmOk s) (e : Ent) : (lsmSet s e).all = entSet e s.all := mix_put h.rise
theorem entSet_there {e : Ent} : ∀ {l : List Ent}, riseE l → entOf l e.key ≠ none → (entSet e l).length = l.length := by
  intro l hl h
  refine Nat.le_antisymm (rise_len_le (entSet_rise hl) fun k hk => ?_) (rise_len_le hl fun k hk => ?_)
  · rw [entSet_of hl] at hk
    split at hk
    · rename_i e1; rw [e1]; exact h
    · exact hk
  · rw [entSet_of hl]
    split
    · simp
    · exact hk
theorem lsmSet_ok {s : Lsm} {e : Ent} (h : LsmOk s) (h0 : lsmPutE s e = 0) (hd : e.dead = true → e.value = ⟨#[]⟩) : LsmOk (lsmSet s e) := by
  unfold lsmPutE at h0
  split at h0
  · cases h0
  · rename_i hk
    split at h0
    · cases h0
    · rename_i hn
      have he : entE e = 0 := by
        rw [entE, if_neg hk, if_neg]
        rintro ⟨h1, h2⟩
        rw [hd h1] at h2
        exact h2 (by kernel_rfl)
      refine ⟨entSet_rise h.rise, fun x hx => ?_, h.lists, ?_⟩
      · rcases entSet_mem hx with rfl | hx
        · exact he
        · exact h.fine x hx
      · rw [lsmSet_all h]
        by_cases ht : entOf s.all e.key = none
        · have := entSet_len (e := e) s.all
          have : ¬ 400 ≤ s.all.length := fun h2 => hn ⟨ht, h2⟩
          omega
        · rw [entSet_there (s.all_rise) ht]; exact h.few
theorem lsmPut_ok {lim : Int} {s : Lsm} {e : Ent} (h : LsmOk s) (hd : e.dead = true → e.value = ⟨#[]⟩) : LsmOk (lsmPut lim s e) := by
  unfold lsmPut
  split
  · rename_i h0
    split
    · exact lsmFlush_ok (lsmSet_ok h h0 hd)
    · exact lsmSet_ok h h0 hd
  · exact h
theorem lsmPut_all {lim : Int} {s : Lsm} {e : Ent} (h : LsmOk s) : (lsmPut lim s e).all = if lsmPutE s e = 0 then entSet e s.all else s.all := by
  unfold lsmPut
  split
  · split
    · rw [lsmFlush_all, lsmSet_all h]
    · rw [lsmSet_all h]
  · rfl
/-- All is one table. -/
def lsmCompact (s : Lsm) : Lsm := ⟨[], if s.all.filter (fun e => !e.dead) = [] then [] else [s.all.filter fun e => !e.dead]⟩
theorem lsmCompact_all (s : Lsm) : (lsmCompact s).all = s.all.filter fun e => !e.dead := by
  have h1 : riseE (s.all.filter fun e => !e.dead) := (s.all_rise).filter _
  unfold lsmCompact
  rw [Lsm.all]
  simp only [List.nil_append]
  split
  · rename_i h; rw [h]; rfl
  · simp [mix_self h1]
theorem lsmCompact_ok {s : Lsm} (h : LsmOk s) : LsmOk (lsmCompact s) := by
  have h1 := lsmCompact_all s
  have h2 : (s.all.filter fun e => !e.dead).length ≤ 400 := Nat.le_trans (List.length_filter_le _ _) h.few
  refine ⟨.nil, fun _ h => (List.not_mem_nil h).elim, fun l hl => ?_, by rw [h1]; exact h2⟩
  unfold lsmCompact at hl
  simp only at hl
  split at hl
  · cases hl
  · rw [List.mem_singleton.1 hl, rise_ents ((s.all_rise).filter _) fun e he => h.all_fine e (List.mem_filter.1 he).1, if_neg (by omega)]
end Go.Proofs.YtcfijljagohmlaaGreatDoor

/- A store of keys beside its look-alike, as plain data. No program in sight. -/
namespace Go.Proofs.YtcfijljagohmlaaGreatDoor
open Go.RowKit

/-- The look-alike: all entries, the keys that are fresh, how many tables there are. -/
structure LsmR (s : Lsm) (All : List Ent) (Fr : List ByteArray) (T : Nat) : Prop where
  all_ : All = s.all
  fresh : Fr.Perm (s.F.map Ent.key)
  tabs : T = s.LS.length
theorem LsmR.start : LsmR lsmNone [] [] 0 := ⟨rfl, .refl _, rfl⟩
section
variable {s : Lsm} {All : List Ent} {Fr : List ByteArray} {T : Nat}
theorem LsmR.len (h : LsmR s All Fr T) : Fr.length = s.F.length := by rw [h.fresh.length_eq, List.length_map]
theorem key_in {l : List Ent} {k : ByteArray} : k ∈ l.map Ent.key ↔ entOf l k ≠ none := by
  constructor
  · intro h
    obtain ⟨x, hx, rfl⟩ := List.mem_map.1 h
    intro e
    exact entOf_none.1 e x hx rfl
  · intro h
    rcases he : entOf l k with _ | y
    · exact absurd he h
    · exact List.mem_map.2 ⟨y, (entOf_some he).1, (entOf_some he).2⟩
theorem LsmR.has (h : LsmR s All Fr T) {k : ByteArray} : k ∈ Fr ↔ entOf s.F k ≠ none := by rw [h.fresh.mem_iff, key_in]
theorem rise_keys {l : List Ent} (h : riseE l) : (l.map Ent.key).Nodup := by
  rw [List.Nodup, List.pairwise_map]
  exact List.Pairwise.imp (fun {x y : Ent} (hxy : klt x.key y.key = true) => klt_ne hxy) h
/-- The fresh keys behind one that was put. -/
def frPut (Fr : List ByteArray) (k : ByteArray) : List ByteArray := if Fr.any (fun x => decide (x = k)) = true then Fr else Fr ++ [k]
theorem LsmR.frNodup (ho : LsmOk s) (h : LsmR s All Fr T) : Fr.Nodup := h.fresh.nodup_iff.2 (rise_keys ho.rise)
theorem LsmR.set (ho : LsmOk s) (h : LsmR s All Fr T) (e : Ent) : LsmR (lsmSet s e) (entSet e All) (frPut Fr e.key) T := by
  refine ⟨by rw [lsmSet_all ho, h.all_], ?_, h.tabs⟩
  have hr2 : riseE (lsmSet s e).F := entSet_rise ho.rise
  have hin : ∀ k, k ∈ (lsmSet s e).F.map Ent.key ↔ k = e.key ∨ k ∈ Fr := fun k => by
    rw [key_in, show (lsmSet s e).F = entSet e s.F from rfl, entSet_of ho.rise, h.has]
    split
    · rename_i e1; simp [e1]
    · rename_i e1; simp [e1]
  have hf : Fr.any (fun x => decide (x = e.key)) = true ↔ e.key ∈ Fr := by simp
  refine (List.perm_ext_iff_of_nodup ?_ (rise_keys hr2)).2 fun k => ?_
  · rw [frPut]
    split
    · exact h.frNodup ho
    · rename_i hn
      rw [hf] at hn
      rw [List.nodup_append]
      refine ⟨h.frNodup ho, by simp, fun a ha b hb => ?_⟩
      rw [List.mem_singleton.1 hb]
      exact fun e1 => hn (e1 ▸ ha)
  · rw [hin, frPut]
    split
    · rename_i hi
      rw [hf] at hi
      exact ⟨.inr, fun h => by
        rcases h with rfl | h
        · exact hi
        · exact h⟩
    · rw [List.mem_append, List.mem_singleton]
      exact Or.comm
theorem LsmR.flush (h : LsmR s All Fr T) : LsmR (lsmFlush s) All [] (if 0 < Fr.length then T + 1 else T) := by
  have hl := h.len
  by_cases hF : s.F = []
  · have e : lsmFlush s = s := by rw [lsmFlush, if_pos hF]
    rw [e, if_neg (by rw [hl, hF]; simp)]
    exact ⟨h.all_, by rw [hF]; exact .refl _, h.tabs⟩
  · have e : lsmFlush s = ⟨[], s.F :: s.LS⟩ := by rw [lsmFlush, if_neg hF]
    have : 0 < s.F.length := List.length_pos_iff.2 hF
    refine ⟨by rw [lsmFlush_all]; exact h.all_, by rw [e]; exact .refl _, ?_⟩
    rw [if_pos (by omega), e, h.tabs]; rfl
theorem LsmR.compact (h : LsmR s All Fr T) : LsmR (lsmCompact s) (All.filter fun e => !e.dead) [] (if 0 < (All.filter fun e => !e.dead).length then 1 else 0) := by
  refine ⟨by rw [lsmCompact_all, h.all_], .refl _, ?_⟩
  rw [h.all_, lsmCompact]
  simp only
  split
  · rename_i hl
    rw [if_neg (fun e => by rw [e] at hl; exact Nat.lt_irrefl _ hl)]; rfl
  · rename_i hl
    rw [if_pos (List.length_eq_zero_iff.1 (by omega))]; rfl
end
/-- Below a bound by a look at its first ones: is a key there? -/
def keyTo (k : ByteArray) (l : List Ent) (i : Nat) : Bool := (l.take i).any fun e => decide (e.key = k)
theorem keyTo_zero (k : ByteArray) (l : List Ent) : keyTo k l 0 = false := rfl
theorem keyTo_next {k : ByteArray} {l : List Ent} {i : Nat} {e : Ent} (h : l[i]? = some e) : keyTo k l (i + 1) = (keyTo k l i || decide (e.key = k)) := by
  rw [keyTo, List.take_add_one, h, Option.toList_some, List.any_append]; simp [keyTo]
theorem keyTo_all {k : ByteArray} {l : List Ent} : keyTo k l l.length = (entOf l k).isSome := by
  rw [keyTo, List.take_length, Bool.eq_iff_iff, List.any_eq_true]
  constructor
  · rintro ⟨x, hx, e⟩
    rcases he : entOf l k with _ | y
    · exact absurd (by simpa using e) (entOf_none.1 he x hx)
    · rfl
  · intro h
    rcases he : entOf l k with _ | y
    · rw [he] at h; cases h
    · exact ⟨y, (entOf_some he).1, by simpa using (entOf_some he).2⟩
/-- What Get answers: the value, or that there is none. -/
def lsmGet (s : Lsm) (k : ByteArray) : Option ByteArray := (entOf (s.all.filter fun e => !e.dead) k).map Ent.value
def lsmGetE (s : Lsm) (k : ByteArray) : Nat := if (lsmGet s k).isSome = true then 0 else 6
def lsmGetV (s : Lsm) (k : ByteArray) : ByteArray := (lsmGet s k).getD ⟨#[]⟩
end Go.Proofs.YtcfijljagohmlaaGreatDoor
