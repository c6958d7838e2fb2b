/- Exports put together and imported again, as plain data. -/
import Derived.Test.YtcfijljagohmlaaWalkKeyed3
import Derived.Test.YtcfijljagohmlaaWalkKeyed4
namespace Go.Proofs.Ytcfijljagohmlaa
open Go.RowKit

theorem firstG_le {p i : Nat} (hp : 1 ≤ p) (hi : i ≤ p) : firstG p i ≤ 16 := by
  rw [← firstG_all hp]
  unfold firstG
  exact Nat.div_le_div_right (by omega)
theorem part_heldsE {p i : Nat} {S : List Hld} (hr : riseH S) (hf : ∀ x ∈ S, hldOk x = true ∧ x.Ok) (hl : S.length ≤ 100) : heldsE (partG p i S) = 0 := by
  have hlen : (partG p i S).length ≤ 100 := Nat.le_trans (List.length_filter_le _ _) hl
  have hr2 : riseH (partG p i S) := hr.filter _
  rw [riseH_E hr2 fun x hx => (hf x (List.mem_filter.1 hx).1).1, if_neg (by omega)]
theorem exp_part {p i : Nat} {S : List Hld} (hp : 1 ≤ p) (hi : i < p) (hr : riseH S) (hf : ∀ x ∈ S, hldOk x = true ∧ x.Ok) (hl : S.length ≤ 100) :
    expE (firstG p i : Nat) (firstG p (i + 1) : Nat) S = 0 ∧ expB (firstG p i : Nat) (firstG p (i + 1) : Nat) S = heldsB (partG p i S) := by
  have h1 := firstG_mono (p := p) (i := i)
  have h2 := firstG_le hp (i := i + 1) hi
  have hs : spanB (firstG p i : Nat) (firstG p (i + 1) : Nat) = true := by
    simp only [spanB, Bool.and_eq_true, decide_eq_true_eq]; omega
  have h3 := part_heldsE (p := p) (i := i) hr hf hl
  rw [expE, if_pos hs, expB, if_pos hs]
  exact ⟨h3, rfl⟩
theorem read_part {S : List Hld} (h : heldsE S = 0) (hf : ∀ x ∈ S, hldOk x = true ∧ x.Ok) : readHelds (heldsB S) = some S := helds_read h fun x hx => (hf x hx).2.2.2
theorem parts_reads {p : Nat} {S : List Hld} (hr : riseH S) (hf : ∀ x ∈ S, hldOk x = true ∧ x.Ok) (hl : S.length ≤ 100) (bs : List (List UInt8)) (hb : bs = (List.range p).map fun i => heldsB (partG p i S)) :
    bs.all (fun b => (readHelds b).isSome) = true ∧ readsH bs = (List.range p).flatMap fun i => partG p i S := by
  have hh : ∀ i, readHelds (heldsB (partG p i S)) = some (partG p i S) := fun i => read_part (part_heldsE hr hf hl) fun x hx => hf x (List.mem_filter.1 hx).1
  subst hb
  constructor
  · rw [List.all_eq_true]
    intro b hb
    obtain ⟨i, _, rfl⟩ := List.mem_map.1 hb
    rw [hh]; rfl
  · rw [readsH, List.map_map, List.flatMap_def]
    congr 1
    refine List.map_congr_left fun i _ => ?_
    show (readHelds (heldsB (partG p i S))).getD [] = _
    rw [hh]; rfl
theorem parts_whole {p : Nat} {S : List Hld} (hp : 1 ≤ p) (hr : riseH S) (hf : ∀ x ∈ S, hldOk x = true ∧ x.Ok) (hl : S.length ≤ 100) (bs : List (List UInt8)) (hb : bs = (List.range p).map fun i => heldsB (partG p i S)) :
    whE bs = 0 ∧ whB bs = heldsB S := by
  obtain ⟨h1, h2⟩ := parts_reads hr hf hl bs hb
  have hpm : ((List.range p).flatMap fun i => partG p i S).Perm S := by
    have := parts_perm hp S p
    rwa [belowG_all hp] at this
  have hE : heldsE S = 0 := by rw [riseH_E hr fun x hx => (hf x hx).1, if_neg (by omega)]
  have hso : sortH (readsH bs) = S := by rw [h2]; exact sortH_of hpm hr
  have hd : dupB (readsH bs) = false := by rw [h2, dup_perm hpm]; exact riseH_nodup' hr
  have h0 : whE bs = 0 := by rw [whE, if_pos h1, hd, hso, hE]; rfl
  exact ⟨h0, by rw [whB, if_pos h0, hso]⟩
theorem putAll_is (lo hi : Int) : ∀ (l S : List Hld), putAll S lo hi l = (l.filter (inG lo hi)).foldl (fun o h => hldPut h o) S := by
  intro l
  induction l with
  | nil => intro S; rfl
  | cons x xs ih =>
    intro S
    have : putAll S lo hi (x :: xs) = putAll (if inG lo hi x = true then hldPut x S else S) lo hi xs := rfl
    rw [this, ih, List.filter_cons]
    split
    · rw [List.foldl_cons]
    · rfl
theorem imp_part {p i : Nat} {S : List Hld} (hp : 1 ≤ p) (hi : i < p) (hr : riseH S) (hf : ∀ x ∈ S, hldOk x = true ∧ x.Ok) (hl : S.length ≤ 100) :
    impE [] (heldsB S) (firstG p i : Nat) (firstG p (i + 1) : Nat) = 0 ∧ impS [] (heldsB S) (firstG p i : Nat) (firstG p (i + 1) : Nat) = partG p i S := by
  have h1 := firstG_mono (p := p) (i := i)
  have h2 := firstG_le hp (i := i + 1) hi
  have hs : spanB (firstG p i : Nat) (firstG p (i + 1) : Nat) = true := by
    simp only [spanB, Bool.and_eq_true, decide_eq_true_eq]; omega
  have hE : heldsE S = 0 := by rw [riseH_E hr fun x hx => (hf x hx).1, if_neg (by omega)]
  have hrd := read_part hE hf
  have h0 : impE [] (heldsB S) (firstG p i : Nat) (firstG p (i + 1) : Nat) = 0 := by
    rw [impE, if_pos hs, hrd]
    have := moreH_le [] S (firstG p i : Nat) (firstG p (i + 1) : Nat)
    simp only [List.length_nil, Nat.zero_add]
    rw [if_neg (by omega)]
  refine ⟨h0, ?_⟩
  rw [impS, if_pos h0, hrd, Option.getD_some, putAll_is]
  exact sortH_of (.refl _) (hr.filter _)
theorem put_next {U T : List Hld} {m : Nat} {x : Hld} (hd : dupB U = false) (hl : U.length ≤ 100) (hT : T.Perm (U.take m)) (hr : riseH T) (hx : U[m]? = some x) (hok : hldOk x = true) : putHE T x = 0 ∧ (putH T x).Perm (U.take (m + 1)) := by
  have hTl : T.length ≤ 100 := by rw [hT.length_eq, List.length_take]; omega
  have h0 : putHE T x = 0 := putHE_good hok fun e => by omega
  refine ⟨h0, ?_⟩
  rw [putH_good h0]
  have hno : ∀ y ∈ T, ¬ (y.node = x.node ∧ y.key = x.key) := fun y hy e => by
    have hy2 := hT.mem_iff.1 hy
    obtain ⟨j, hj⟩ := List.mem_iff_getElem?.1 hy2
    rw [List.getElem?_take] at hj
    split at hj
    · rw [dup_iff, List.pairwise_iff_getElem] at hd
      obtain ⟨a1, b1⟩ := List.getElem?_eq_some_iff.1 hj
      obtain ⟨a2, b2⟩ := List.getElem?_eq_some_iff.1 hx
      have := hd j m a1 a2 (by omega)
      rw [b1, b2] at this
      exact this e
    · cases hj
  have hp := hldPut_perm (h := x) hr
  rw [offH_none hno] at hp
  rw [List.take_add_one, hx]
  exact hp.trans ((hT.cons x).trans (by simpa using (List.perm_append_singleton x (U.take m)).symm))
/-- What is in once the worker's states are put behind those of the workers ahead. -/
def unionG (q j : Nat) (S : List Hld) : List Hld := belowG q j S ++ partG q j S
theorem union_dup {q j : Nat} {S : List Hld} (hr : riseH S) : dupB (unionG q j S) = false := by
  rw [unionG, dup_perm (belowG_step S)]
  exact riseH_nodup' (hr.filter _)
theorem union_len {q j : Nat} {S : List Hld} : (unionG q j S).length ≤ S.length := by
  rw [unionG, (belowG_step S).length_eq]
  exact List.length_filter_le _ _
theorem union_at {q j k : Nat} {S : List Hld} {x : Hld} (h : (partG q j S)[k]? = some x) : (unionG q j S)[(belowG q j S).length + k]? = some x := by
  rw [unionG, List.getElem?_append_right (by omega)]
  simpa using h
theorem union_take {q j : Nat} {S : List Hld} : (unionG q j S).take ((belowG q j S).length + (partG q j S).length) = unionG q j S := by
  rw [← List.length_append]; exact List.take_length
theorem part_owner {q j : Nat} {S : List Hld} {x : Hld} (hq : 1 ≤ q) (h : x ∈ partG q j S) : gOf x.key * q / 16 = j := by
  have := (List.mem_filter.1 h).2
  simp only [inG, Bool.and_eq_true, decide_eq_true_eq] at this
  exact owner_is hq (by omega) (by omega)
def hA : Hld := ⟨1, ⟨#[97]⟩, 5, 0⟩
theorem hA_ok : hA.Ok := by unfold Hld.Ok i64ok hA; exact ⟨by decide, by decide, by decide, by decide⟩
theorem hA_put : putHE [] hA = 0 ∧ putH [] hA = [hA] := by
  have h : putHE [] hA = 0 := by decide
  exact ⟨h, by rw [putH_good h]; rfl⟩
end Go.Proofs.Ytcfijljagohmlaa
