/- PlainPlace PlainMoves PlainWhole in one text. -/
import Derived.Test.YtcfijljagohmlaaGreatDoorPlainKeyed
import Derived.Test.YtcfijljagohmlaaGreatDoorKeyedCalls
import Derived.Test.YtcfijljagohmlaaGreatDoorMemKeys
/- What weirlaw2's place builds, as plain data. No program in sight. -/
namespace Go.Proofs.YtcfijljagohmlaaGreatDoor
open Go.RowKit

/-- place, as its loop goes: done tells that h is in already (or is not to come in). -/
def plP (h : Hld) : List Hld → Bool → List Hld
  | [], dn => if dn = true then [] else [h]
  | x :: xs, dn => if x.node = h.node ∧ x.key = h.key then plP h xs dn else if dn = false ∧ hlt h x = true then h :: x :: plP h xs true else x :: plP h xs dn
theorem plP_done (h : Hld) : ∀ (l : List Hld), plP h l true = offH h.node h.key l := by
  intro l
  induction l with
  | nil => rfl
  | cons x xs ih =>
    rw [plP, offH_cons, ih]
    split
    · rfl
    · rw [if_neg (by simp)]
theorem plP_put (h : Hld) : ∀ {l : List Hld}, riseH l → plP h l false = hldPut h l := by
  intro l
  induction l with
  | nil => intro _; rfl
  | cons x xs ih =>
    intro hr
    have hx := (List.pairwise_cons.1 hr).1
    have hxs := (List.pairwise_cons.1 hr).2
    rw [plP, hldPut]
    by_cases h1 : x.node = h.node ∧ x.key = h.key
    · rw [if_pos h1]
      have hs : sameH x h := h1
      have h2 : hlt x h = false := by
        rcases hb : hlt x h
        · rfl
        · exact absurd hs (hlt_ne hb)
      rw [h2, if_neg (by simp), if_pos hs]
      rcases xs with _ | ⟨y, ys⟩
      · rfl
      · have hy := hx y (List.mem_cons_self ..)
        have hhy : hlt h y = true := by rw [← hlt_same hs]; exact hy
        rw [plP, if_neg (show ¬ (y.node = h.node ∧ y.key = h.key) from fun e => hlt_ne hhy (sameH_symm e)), if_pos ⟨rfl, hhy⟩, plP_done]
        rw [offH_none fun z hz e => ?_]
        have hz2 := hx z (List.mem_cons_of_mem _ hz)
        rw [hlt_same hs] at hz2
        exact hlt_ne hz2 (sameH_symm e)
    · rw [if_neg h1]
      by_cases h2 : hlt x h = true
      · rw [if_pos h2]
        have h3 : hlt h x = false := hlt_asymm h2
        rw [if_neg (by rw [h3]; simp), ih hxs]
      · rw [if_neg h2]
        have h3 : hlt h x = true := by
          rcases hlt_tri x h with h3 | h3 | h3
          · exact absurd h3 h2
          · exact absurd h3 h1
          · exact h3
        rw [if_pos ⟨rfl, h3⟩, if_neg (show ¬ sameH x h from h1), plP_done]
        rw [offH_none fun z hz e => ?_]
        exact hlt_ne (hlt_trans h3 (hx z hz)) (sameH_symm e)
theorem plP_len (h : Hld) : ∀ (l : List Hld) (dn : Bool), (plP h l dn).length ≤ l.length + 1 := by
  intro l
  induction l with
  | nil => intro dn; rw [plP]; split <;> simp
  | cons x xs ih =>
    intro dn
    rw [plP, List.length_cons]
    have h1 := ih dn
    split
    · omega
    · split
      · rw [plP_done]
        have : (offH h.node h.key xs).length ≤ xs.length := List.length_filter_le _ _
        simp only [List.length_cons]
        omega
      · simp only [List.length_cons]; omega
theorem plP_same {h x : Hld} {l : List Hld} {i : Nat} {dn : Bool} (hx : l[i]? = some x) (hs : x.node = h.node ∧ x.key = h.key) : plP h (l.drop i) dn = plP h (l.drop (i + 1)) dn := by
  rw [List.drop_eq_getElem?_toList_append, hx]
  simp only [Option.toList_some, List.singleton_append]
  rw [plP, if_pos hs]
theorem plP_ahead {h x : Hld} {l : List Hld} {i : Nat} (hx : l[i]? = some x) (hs : ¬ (x.node = h.node ∧ x.key = h.key)) (ha : hlt h x = true) : plP h (l.drop i) false = h :: x :: plP h (l.drop (i + 1)) true := by
  rw [List.drop_eq_getElem?_toList_append, hx]
  simp only [Option.toList_some, List.singleton_append]
  rw [plP, if_neg hs, if_pos ⟨rfl, ha⟩]
theorem plP_past {h x : Hld} {l : List Hld} {i : Nat} {dn : Bool} (hx : l[i]? = some x) (hs : ¬ (x.node = h.node ∧ x.key = h.key)) (ha : dn = true ∨ hlt h x = false) : plP h (l.drop i) dn = x :: plP h (l.drop (i + 1)) dn := by
  rw [List.drop_eq_getElem?_toList_append, hx]
  simp only [Option.toList_some, List.singleton_append]
  rw [plP, if_neg hs, if_neg (by rintro ⟨h1, h2⟩; rcases ha with ha | ha <;> simp_all)]
theorem plP_end {h : Hld} {l : List Hld} {i : Nat} {dn : Bool} (hi : l.length ≤ i) : plP h (l.drop i) dn = if dn = true then [] else [h] := by
  rw [List.drop_eq_nil_of_le hi, plP]
end Go.Proofs.YtcfijljagohmlaaGreatDoor

/- Exports put together and imported again, as plain data. -/
namespace Go.Proofs.YtcfijljagohmlaaGreatDoor
open Go.RowKit

theorem firstG_le {p i : Nat} (hp : 1 ≤ p) (hi : i ≤ p) : firstG p i ≤ 16 := by
  rw [← firstG_all hp]
  unfold firstG
  exact Nat.div_le_div_right (by omega)
theorem part_heldsE {p i : Nat} {S : List Hld} (hr : riseH S) (hf : ∀ x ∈ S, hldOk x = true ∧ x.Ok) (hl : S.length ≤ 100) : heldsE (partG p i S) = 0 := by
  have hlen : (partG p i S).length ≤ 100 := Nat.le_trans (List.length_filter_le _ _) hl
  have hr2 : riseH (partG p i S) := hr.filter _
  rw [riseH_E hr2 fun x hx => (hf x (List.mem_filter.1 hx).1).1, if_neg (by omega)]
theorem exp_part {p i : Nat} {S : List Hld} (hp : 1 ≤ p) (hi : i < p) (hr : riseH S) (hf : ∀ x ∈ S, hldOk x = true ∧ x.Ok) (hl : S.length ≤ 100) :
    expE (firstG p i : Nat) (firstG p (i + 1) : Nat) S = 0 ∧ expB (firstG p i : Nat) (firstG p (i + 1) : Nat) S = heldsB (partG p i S) := by
  have h1 := firstG_mono (p := p) (i := i)
  have h2 := firstG_le hp (i := i + 1) hi
  have hs : spanB (firstG p i : Nat) (firstG p (i + 1) : Nat) = true := by
    simp only [spanB, Bool.and_eq_true, decide_eq_true_eq]; omega
  have h3 := part_heldsE (p := p) (i := i) hr hf hl
  rw [expE, if_pos hs, expB, if_pos hs]
  exact ⟨h3, rfl⟩
theorem read_part {S : List Hld} (h : heldsE S = 0) (hf : ∀ x ∈ S, hldOk x = true ∧ x.Ok) : readHelds (heldsB S) = some S := helds_read h fun x hx => (hf x hx).2.2.2
theorem parts_reads {p : Nat} {S : List Hld} (hr : riseH S) (hf : ∀ x ∈ S, hldOk x = true ∧ x.Ok) (hl : S.length ≤ 100) (bs : List (List UInt8)) (hb : bs = (List.range p).map fun i => heldsB (partG p i S)) :
    bs.all (fun b => (readHelds b).isSome) = true ∧ readsH bs = (List.range p).flatMap fun i => partG p i S := by
  have hh : ∀ i, readHelds (heldsB (partG p i S)) = some (partG p i S) := fun i => read_part (part_heldsE hr hf hl) fun x hx => hf x (List.mem_filter.1 hx).1
  subst hb
  constructor
  · rw [List.all_eq_true]
    intro b hb
    obtain ⟨i, _, rfl⟩ := List.mem_map.1 hb
    rw [hh]; rfl
  · rw [readsH, List.map_map, List.flatMap_def]
    congr 1
    refine List.map_congr_left fun i _ => ?_
    show (readHelds (heldsB (partG p i S))).getD [] = _
    rw [hh]; rfl
theorem parts_whole {p : Nat} {S : List Hld} (hp : 1 ≤ p) (hr : riseH S) (hf : ∀ x ∈ S, hldOk x = true ∧ x.Ok) (hl : S.length ≤ 100) (bs : List (List UInt8)) (hb : bs = (List.range p).map fun i => heldsB (partG p i S)) :
    whE bs = 0 ∧ whB bs = heldsB S := by
  obtain ⟨h1, h2⟩ := parts_reads hr hf hl bs hb
  have hpm : ((List.range p).flatMap fun i => partG p i S).Perm S := by
    have := parts_perm hp S p
    rwa [belowG_all hp] at this
  have hE : heldsE S = 0 := by rw [riseH_E hr fun x hx => (hf x hx).1, if_neg (by omega)]
  have hso : sortH (readsH bs) = S := by rw [h2]; exact sortH_of hpm hr
  have hd : dupB (readsH bs) = false := by rw [h2, dup_perm hpm]; exact riseH_nodup' hr
  have h0 : whE bs = 0 := by rw [whE, if_pos h1, hd, hso, hE]; rfl
  exact ⟨h0, by rw [whB, if_pos h0, hso]⟩
theorem putAll_is (lo hi : Int) : ∀ (l S : List Hld), putAll S lo hi l = (l.filter (inG lo hi)).foldl (fun o h => hldPut h o) S := by
  intro l
  induction l with
  | nil => intro S; rfl
  | cons x xs ih =>
    intro S
    have : putAll S lo hi (x :: xs) = putAll (if inG lo hi x = true then hldPut x S else S) lo hi xs := rfl
    rw [this, ih, List.filter_cons]
    split
    · rw [List.foldl_cons]
    · rfl
theorem imp_part {p i : Nat} {S : List Hld} (hp : 1 ≤ p) (hi : i < p) (hr : riseH S) (hf : ∀ x ∈ S, hldOk x = true ∧ x.Ok) (hl : S.length ≤ 100) :
    impE [] (heldsB S) (firstG p i : Nat) (firstG p (i + 1) : Nat) = 0 ∧ impS [] (heldsB S) (firstG p i : Nat) (firstG p (i + 1) : Nat) = partG p i S := by
  have h1 := firstG_mono (p := p) (i := i)
  have h2 := firstG_le hp (i := i + 1) hi
  have hs : spanB (firstG p i : Nat) (firstG p (i + 1) : Nat) = true := by
    simp only [spanB, Bool.and_eq_true, decide_eq_true_eq]; omega
  have hE : heldsE S = 0 := by rw [riseH_E hr fun x hx => (hf x hx).1, if_neg (by omega)]
  have hrd := read_part hE hf
  have h0 : impE [] (heldsB S) (firstG p i : Nat) (firstG p (i + 1) : Nat) = 0 := by
    rw [impE, if_pos hs, hrd]
    have := moreH_le [] S (firstG p i : Nat) (firstG p (i + 1) : Nat)
    simp only [List.length_nil, Nat.zero_add]
    rw [if_neg (by omega)]
  refine ⟨h0, ?_⟩
  rw [impS, if_pos h0, hrd, Option.getD_some, putAll_is]
  exact sortH_of (.refl _) (hr.filter _)
theorem put_next {U T : List Hld} {m : Nat} {x : Hld} (hd : dupB U = false) (hl : U.length ≤ 100) (hT : T.Perm (U.take m)) (hr : riseH T) (hx : U[m]? = some x) (hok : hldOk x = true) : putHE T x = 0 ∧ (putH T x).Perm (U.take (m + 1)) := by
  have hTl : T.length ≤ 100 := by rw [hT.length_eq, List.length_take]; omega
  have h0 : putHE T x = 0 := putHE_good hok fun e => by omega
  refine ⟨h0, ?_⟩
  rw [putH_good h0]
  have hno : ∀ y ∈ T, ¬ (y.node = x.node ∧ y.key = x.key) := fun y hy e => by
    have hy2 := hT.mem_iff.1 hy
    obtain ⟨j, hj⟩ := List.mem_iff_getElem?.1 hy2
    rw [List.getElem?_take] at hj
    split at hj
    · rw [dup_iff, List.pairwise_iff_getElem] at hd
      obtain ⟨a1, b1⟩ := List.getElem?_eq_some_iff.1 hj
      obtain ⟨a2, b2⟩ := List.getElem?_eq_some_iff.1 hx
      have := hd j m a1 a2 (by omega)
      rw [b1, b2] at this
      exact this e
    · cases hj
  have hp := hldPut_perm (h := x) hr
  rw [offH_none hno] at hp
  rw [List.take_add_one, hx]
  exact hp.trans ((hT.cons x).trans (by simpa using (List.perm_append_singleton x (U.take m)).symm))
/-- What is in once the worker's states are put behind those of the workers ahead. -/
def unionG (q j : Nat) (S : List Hld) : List Hld := belowG q j S ++ partG q j S
theorem union_dup {q j : Nat} {S : List Hld} (hr : riseH S) : dupB (unionG q j S) = false := by
  rw [unionG, dup_perm (belowG_step S)]
  exact riseH_nodup' (hr.filter _)
theorem union_len {q j : Nat} {S : List Hld} : (unionG q j S).length ≤ S.length := by
  rw [unionG, (belowG_step S).length_eq]
  exact List.length_filter_le _ _
theorem union_at {q j k : Nat} {S : List Hld} {x : Hld} (h : (partG q j S)[k]? = some x) : (unionG q j S)[(belowG q j S).length + k]? = some x := by
  rw [unionG, List.getElem?_append_right (by omega)]
  simpa using h
theorem union_take {q j : Nat} {S : List Hld} : (unionG q j S).take ((belowG q j S).length + (partG q j S).length) = unionG q j S := by
  rw [← List.length_append]; exact List.take_length
theorem part_owner {q j : Nat} {S : List Hld} {x : Hld} (hq : 1 ≤ q) (h : x ∈ partG q j S) : gOf x.key * q / 16 = j := by
  have := (List.mem_filter.1 h).2
  simp only [inG, Bool.and_eq_true, decide_eq_true_eq] at this
  exact owner_is hq (by omega) (by omega)
def hA : Hld := ⟨1, ⟨#[97]⟩, 5, 0⟩
theorem hA_ok : hA.Ok := by unfold Hld.Ok i64ok hA; exact ⟨by decide, by decide, by decide, by decide⟩
theorem hA_put : putHE [] hA = 0 ∧ putH [] hA = [hA] := by
  have h : putHE [] hA = 0 := by decide
  exact ⟨h, by rw [putH_good h]; rfl⟩
end Go.Proofs.YtcfijljagohmlaaGreatDoor

/- Exports put together, and imported into what has something already, as plain data. -/
namespace Go.Proofs.YtcfijljagohmlaaGreatDoor
open Go.RowKit

theorem mem_put {h y : Hld} {S : List Hld} (hr : riseH S) : y ∈ hldPut h S ↔ y = h ∨ (y ∈ S ∧ ¬ (y.node = h.node ∧ y.key = h.key)) := by
  rw [(hldPut_perm hr).mem_iff, List.mem_cons, mem_offH]
theorem hasH_put {h : Hld} {S : List Hld} {n : Int} {k : ByteArray} (hr : riseH S) : hasH n k (hldPut h S) = (decide (h.node = n ∧ h.key = k) || hasH n k S) := by
  rw [Bool.eq_iff_iff, Bool.or_eq_true, decide_eq_true_eq, hasH_iff, hasH_iff]
  constructor
  · rintro ⟨y, hy, e⟩
    rcases (mem_put hr).1 hy with rfl | ⟨hy, _⟩
    · exact .inl e
    · exact .inr ⟨y, hy, e⟩
  · rintro (e | ⟨y, hy, e⟩)
    · exact ⟨h, (mem_put hr).2 (.inl rfl), e⟩
    · by_cases hs : y.node = h.node ∧ y.key = h.key
      · exact ⟨h, (mem_put hr).2 (.inl rfl), hs.1.symm.trans e.1, hs.2.symm.trans e.2⟩
      · exact ⟨y, (mem_put hr).2 (.inr ⟨hy, hs⟩), e⟩
theorem put_len_has {h : Hld} {S : List Hld} (hr : riseH S) : (hldPut h S).length = S.length + if hasH h.node h.key S = true then 0 else 1 := by
  induction S with
  | nil => rfl
  | cons x xs ih =>
    have hx := (List.pairwise_cons.1 hr).1
    have hxs := (List.pairwise_cons.1 hr).2
    have hh : hasH h.node h.key (x :: xs) = (decide (x.node = h.node ∧ x.key = h.key) || hasH h.node h.key xs) := rfl
    rw [hldPut, hh]
    by_cases h1 : hlt x h = true
    · rw [if_pos h1, List.length_cons, List.length_cons, ih hxs, decide_eq_false (show ¬ (x.node = h.node ∧ x.key = h.key) from hlt_ne h1), Bool.false_or]
      omega
    · rw [if_neg h1]
      by_cases h2 : sameH x h
      · rw [if_pos h2, decide_eq_true (show x.node = h.node ∧ x.key = h.key from h2), Bool.true_or, if_pos rfl]
        rfl
      · have h3 : hlt h x = true := by
          rcases hlt_tri x h with h3 | h3 | h3
          · exact absurd h3 h1
          · exact absurd h3 h2
          · exact h3
        have h4 : hasH h.node h.key xs = false := by
          rcases hb : hasH h.node h.key xs
          · rfl
          · obtain ⟨y, hy, e⟩ := hasH_iff.1 hb
            exact absurd (show sameH h y from ⟨e.1.symm, e.2.symm⟩) (hlt_ne (hlt_trans h3 (hx y hy)))
        rw [if_neg h2, decide_eq_false (show ¬ (x.node = h.node ∧ x.key = h.key) from h2), h4]
        rfl
/-- The fault of what was put together so far. -/
def eW (M : List Hld) : Nat := if dupB M = true then 8 else 0
theorem sortH_next (M : List Hld) (h : Hld) : sortH (M ++ [h]) = hldPut h (sortH M) := by rw [sortH, List.foldl_append]; rfl
theorem hasH_sort {n : Int} {k : ByteArray} : ∀ (l o : List Hld), riseH o → hasH n k (l.foldl (fun o h => hldPut h o) o) = (hasH n k o || hasH n k l) := by
  intro l
  induction l with
  | nil => intro o _; rw [List.foldl_nil]; simp [hasH]
  | cons x xs ih =>
    intro o ho
    rw [List.foldl_cons, ih _ (hldPut_rise ho), hasH_put ho]
    have hh : hasH n k (x :: xs) = (decide (x.node = n ∧ x.key = k) || hasH n k xs) := rfl
    rw [hh]
    cases hasH n k o <;> cases hasH n k xs <;> cases decide (x.node = n ∧ x.key = k) <;> rfl
theorem hasH_sorted (n : Int) (k : ByteArray) (M : List Hld) : hasH n k (sortH M) = hasH n k M := by
  rw [sortH, hasH_sort M [] .nil]; rfl
theorem dup_snoc (h : Hld) : ∀ (M : List Hld), dupB (M ++ [h]) = (dupB M || hasH h.node h.key M) := by
  intro M
  induction M with
  | nil => simp [dupB, hasH]
  | cons x xs ih =>
    have hh : hasH h.node h.key (x :: xs) = (decide (x.node = h.node ∧ x.key = h.key) || hasH h.node h.key xs) := rfl
    rw [List.cons_append, dupB, dupB, ih, List.any_append, hh]
    have e : ([h].any fun y => decide (sameH x y)) = decide (x.node = h.node ∧ x.key = h.key) := by rw [List.any_cons, List.any_nil, Bool.or_false]; exact decide_eq_decide.2 Iff.rfl
    rw [e]
    cases (xs.any fun y => decide (sameH x y)) <;> cases dupB xs <;> cases hasH h.node h.key xs <;> cases decide (x.node = h.node ∧ x.key = h.key) <;> rfl
theorem eW_next (M : List Hld) (h : Hld) : eW (M ++ [h]) = if hasH h.node h.key (sortH M) = true then 8 else eW M := by
  rw [eW, eW, dup_snoc, hasH_sorted]
  cases dupB M <;> cases hasH h.node h.key M <;> rfl
theorem sort_len : ∀ (l o : List Hld), (l.foldl (fun o h => hldPut h o) o).length ≤ o.length + l.length := by
  intro l
  induction l with
  | nil => intro o; simp
  | cons x xs ih =>
    intro o
    rw [List.foldl_cons, List.length_cons]
    have h1 := ih (hldPut x o)
    have h2 := hldPut_len (h := x) o
    omega
theorem sortH_len (M : List Hld) : (sortH M).length ≤ M.length := by have := sort_len M []; simpa [sortH] using this
theorem sort_mem {y : Hld} : ∀ (l o : List Hld), riseH o → y ∈ l.foldl (fun o h => hldPut h o) o → y ∈ o ∨ y ∈ l := by
  intro l
  induction l with
  | nil => intro o _ h; exact .inl h
  | cons x xs ih =>
    intro o ho h
    rcases ih _ (hldPut_rise ho) h with h | h
    · rcases hldPut_mem ho h with rfl | h
      · exact .inr (List.mem_cons_self ..)
      · exact .inl h
    · exact .inr (List.mem_cons_of_mem _ h)
theorem sortH_mem {y : Hld} {M : List Hld} (h : y ∈ sortH M) : y ∈ M := by
  rcases sort_mem M [] .nil h with h | h
  · cases h
  · exact h
/-- What Whole gives for exports of these lists: the fault, the bytes. -/
theorem whole_is {LS : List (List Hld)} {bs : List (List UInt8)} (hb : bs = LS.map heldsB) (hE : ∀ l ∈ LS, heldsE l = 0) (hO : ∀ l ∈ LS, ∀ x ∈ l, x.Ok) :
    whE bs = (if eW LS.flatten = 0 then (if 400 < (sortH LS.flatten).length then 4 else 0) else 8) ∧ (whE bs = 0 → heldsE (sortH LS.flatten) = 0 ∧ whB bs = heldsB (sortH LS.flatten)) := by
  have hrd : ∀ l ∈ LS, readHelds (heldsB l) = some l := fun l hl => helds_read (hE l hl) fun x hx => (hO l hl x hx).2.2
  have hall : bs.all (fun b => (readHelds b).isSome) = true := by
    rw [hb, List.all_eq_true]
    intro b hb
    obtain ⟨l, hl, rfl⟩ := List.mem_map.1 hb
    rw [hrd l hl]; rfl
  have hre : readsH bs = LS.flatten := by
    rw [readsH, hb, List.map_map]
    congr 1
    refine (List.map_congr_left fun l hl => ?_).trans (List.map_id LS)
    show (readHelds (heldsB l)).getD [] = l
    rw [hrd l hl]; rfl
  have hok : ∀ x ∈ sortH LS.flatten, hldOk x = true := fun x hx => by
    obtain ⟨l, hl, hxl⟩ := List.mem_flatten.1 (sortH_mem hx)
    exact (helds_riseH (hE l hl)).2.1 x hxl
  have hsE := riseH_E (sortH_rise LS.flatten) hok
  have hw : whE bs = (if eW LS.flatten = 0 then (if 400 < (sortH LS.flatten).length then 4 else 0) else 8) := by
    rw [whE, if_pos hall, hre, eW, hsE]
    cases dupB LS.flatten <;> rfl
  refine ⟨hw, fun h0 => ?_⟩
  have hb2 : whB bs = heldsB (sortH LS.flatten) := by rw [whB, if_pos h0, hre]
  refine ⟨?_, hb2⟩
  rw [hw] at h0
  rw [hsE]
  split at h0
  · exact h0
  · cases h0
/-- How many are there behind an import. -/
theorem putAll_count {lo hi : Int} : ∀ (l S : List Hld), riseH S → (l.Pairwise fun x y => ¬ sameH x y) → (putAll S lo hi l).length = S.length + moreH S lo hi l := by
  intro l
  induction l with
  | nil => intro S _ _; rfl
  | cons x xs ih =>
    intro S hS hl
    have hx := (List.pairwise_cons.1 hl).1
    have hxs := (List.pairwise_cons.1 hl).2
    have e1 : putAll S lo hi (x :: xs) = putAll (if inG lo hi x = true then hldPut x S else S) lo hi xs := rfl
    rw [e1]
    rcases hg : inG lo hi x
    · rw [if_neg (by simp), ih S hS hxs]
      unfold moreH
      rw [List.filter_cons, hg, Bool.and_false, if_neg (by simp)]
    · rw [if_pos rfl, ih _ (hldPut_rise hS) hxs, put_len_has hS]
      have e2 : moreH (hldPut x S) lo hi xs = moreH S lo hi xs := by
        unfold moreH
        congr 1
        refine List.filter_congr fun y hy => ?_
        rw [hasH_put hS, decide_eq_false (show ¬ (x.node = y.node ∧ x.key = y.key) from hx y hy), Bool.false_or]
      rw [e2]
      unfold moreH
      rw [List.filter_cons, hg, Bool.and_true]
      cases hasH x.node x.key S
      · simp only [Bool.not_false, if_true, List.length_cons, Bool.false_eq_true, if_false]; omega
      · simp only [Bool.not_true, if_true, Bool.false_eq_true, if_false]; omega
theorem rise_apart {l : List Hld} (h : riseH l) : l.Pairwise fun x y => ¬ sameH x y := List.Pairwise.imp (fun {a b} (h : hlt a b = true) => hlt_ne h) h
theorem putAll_rise {lo hi : Int} : ∀ (l S : List Hld), riseH S → riseH (putAll S lo hi l) := by
  intro l
  induction l with
  | nil => intro S h; exact h
  | cons x xs ih =>
    intro S hS
    have e1 : putAll S lo hi (x :: xs) = putAll (if inG lo hi x = true then hldPut x S else S) lo hi xs := rfl
    rw [e1]
    split
    · exact ih _ (hldPut_rise hS)
    · exact ih _ hS
def hB0 : Hld := ⟨0, ⟨#[97]⟩, 1, 0⟩
theorem hB0_ok : hB0.Ok := by unfold Hld.Ok i64ok hB0; exact ⟨by decide, by decide, by decide, by decide⟩
theorem hB0_put : putHE [] hB0 = 0 ∧ putH [] hB0 = [hB0] := by
  have h : putHE [] hB0 = 0 := by decide
  exact ⟨h, by rw [putH_good h]; rfl⟩
/-- What an import into what has something is told to give. -/
def spE (lo hi : Int) (b : List UInt8) : Nat := if spanB lo hi = true then (if (readHelds b).isSome = true then 0 else 9) else 1
def rdL (b : List UInt8) : List Hld := (readHelds b).getD []
def toR (lo hi : Int) (b : List UInt8) : List Hld := if spE lo hi b = 0 then rdL b else []
theorem rdL_fine (b : List UInt8) : riseH (rdL b) ∧ (∀ x ∈ rdL b, hldOk x = true ∧ x.Ok) ∧ (rdL b).length ≤ 400 := by
  unfold rdL
  rcases h : readHelds b with _ | l
  · exact ⟨.nil, (fun _ h => by cases h), Nat.zero_le _⟩
  · exact readHelds_fine h
theorem imp_is {lo hi : Int} {b : List UInt8} (h : (putAll [hB0] lo hi (toR lo hi b)).length ≤ 400) : impE [hB0] b lo hi = spE lo hi b ∧ impS [hB0] b lo hi = putAll [hB0] lo hi (toR lo hi b) := by
  have hr1 : riseH [hB0] := List.pairwise_singleton _ _
  have key : impE [hB0] b lo hi = spE lo hi b := by
    unfold impE spE
    rcases hs : spanB lo hi
    · rfl
    · rcases hb : readHelds b with _ | l
      · rfl
      · have he : spE lo hi b = 0 := by rw [spE, hs, hb]; rfl
        have ht : toR lo hi b = l := by rw [toR, if_pos he, rdL, hb]; rfl
        rw [ht, putAll_count l [hB0] hr1 (rise_apart (readHelds_fine hb).1)] at h
        simp only [if_true, Option.isSome_some]
        rw [if_neg (by omega)]
  refine ⟨key, ?_⟩
  rw [impS, key, toR]
  by_cases he : spE lo hi b = 0
  · rw [if_pos he, if_pos he, rdL]
  · rw [if_neg he, if_neg he]; rfl
end Go.Proofs.YtcfijljagohmlaaGreatDoor
