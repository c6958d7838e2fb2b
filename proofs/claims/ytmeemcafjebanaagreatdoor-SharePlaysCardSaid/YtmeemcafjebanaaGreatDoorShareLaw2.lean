/- Plain facts that the walk of weirlaw2.SharePlays leans on. -/
import Derived.Test.YtmeemcafjebanaaGreatDoorShareLaw1
import Derived.Test.YtmeemcafjebanaaGreatDoorSteps
namespace Go.Proofs.YtmeemcafjebanaaGreatDoor
open Go.RowKit Go.Maps Go.WideMaps

theorem ShareIn.keepV {w w' : World} {base g : Nat} {pics : List Pic} (h : ShareIn w base g pics) (hk : KeepF (offT 28) w w') : ShareIn w' base g pics := by
  obtain ⟨Mp, Mc, C, h1, h2, h3, h4, h5, h6, h7, h8⟩ := h.rows
  obtain ⟨Dp, hp, lp⟩ := h6
  obtain ⟨Dc, hc, lc⟩ := h7
  exact ⟨⟨Mp, Mc, C, hk.blk h1 rfl, h2, h3, h4, h5, ⟨Dp, hk.map_ hp (fun _ _ => rfl), lp⟩, ⟨Dc, hk.map_ hc (fun _ _ => rfl), lc⟩, h8⟩, fun p hp => ⟨hk.own (h.fine p hp).1 (fun _ => rfl), (h.fine p hp).2⟩⟩
/-- Where a number stands among the first j, or -1. -/
def AtOk (b : Int) (ps : List Int) (j : Nat) (z : Int) : Prop := (z = -1 ∧ ∀ (i : Nat) (x : Int), i < j → ps[i]? = some x → x ≠ b) ∨ ∃ i : Nat, z = (i : Int) ∧ i < j ∧ ps[i]? = some b
theorem AtOk.start (b : Int) (ps : List Int) : AtOk b ps 0 (-1) := .inl ⟨rfl, fun i x h => absurd h (by omega)⟩
theorem AtOk.hit {b : Int} {ps : List Int} {j : Nat} {x : Int} (h : ps[j]? = some x) (e : x = b) : AtOk b ps (j + 1) (j : Int) := .inr ⟨j, rfl, Nat.lt_succ_self _, by rw [h, e]⟩
theorem AtOk.miss {b : Int} {ps : List Int} {j : Nat} {x z : Int} (h : AtOk b ps j z) (hx : ps[j]? = some x) (e : x ≠ b) : AtOk b ps (j + 1) z := by
  rcases h with ⟨h1, h2⟩ | ⟨i, h1, h2, h3⟩
  · refine .inl ⟨h1, fun i y hi hy => ?_⟩
    by_cases hij : i < j
    · exact h2 i y hij hy
    · obtain rfl : i = j := by omega
      rw [hx] at hy
      injection hy with hy
      rw [← hy]; exact e
  · exact .inr ⟨i, h1, by omega, h3⟩
theorem AtOk.range {b : Int} {ps : List Int} {j : Nat} {z : Int} (h : AtOk b ps j z) : -1 ≤ z ∧ z < j := by
  rcases h with ⟨h1, _⟩ | ⟨i, h1, h2, _⟩ <;> omega
theorem Rd.intv {w : World} {B n k : Nat} {A : Option Addr} {l : List Int} (h : Rd w B 1 A n (l.map (Value.int .i64))) (hk : k < n) (hl : l.length = n) : ∃ ad z, A = some ad ∧ l[k]? = some z ∧ w.cell? (ad.add k) = some (.int .i64 z) := by
  obtain ⟨ad, u, rfl, _, hu, hc⟩ := h.at_ hk
  have hx : l[k]? = some l[k] := List.getElem?_eq_getElem (by omega)
  rw [List.getElem?_map, hx] at hu
  injection hu with hu
  exact ⟨ad, l[k], rfl, hx, by rw [hc, ← hu]⟩

theorem el_intP : Elt Tryz.prog 26 3 (.int .i64 0) 1 8 := ⟨Tryz.underlying26, by kernel_rfl, rfl, by omega, by omega⟩
theorem el_list : Elt Tryz.prog 27 23 (.slice none 0 0) 1 24 := ⟨Tryz.underlying27, by kernel_rfl, rfl, by omega, by omega⟩
theorem ints_one (l : List Int) : ∀ u ∈ l.map (Value.int .i64), u.oneCell' = true := fun u hu => by
  obtain ⟨z, _, rfl⟩ := List.mem_map.1 hu; rfl
theorem kvs_one (Af : Option Addr) (cf : Nat) (l : List Nat) : ∀ u ∈ l.map (kvS Af cf), u.oneCell' = true := fun u hu => by
  obtain ⟨z, _, rfl⟩ := List.mem_map.1 hu; rfl
theorem own_neS {w : World} {b1 b2 n1 n2 s1 s2 : Nat} {e1 e2 : TypeId} {v1 v2 : Value} {x1 x2 : List Value} (h1 : w.ownsRow b1 e1 s1 v1 n1 x1) (h2 : w.ownsRow b2 e2 s2 v2 n2 x2) (hne : e1 ≠ e2) : ∀ g, v1.ownBlock = some g → v2.ownBlock ≠ some g := by
  intro g hg hg2
  rcases h1.2 with ⟨rfl, _⟩ | ⟨g1, c1, cur1, rfl, _, hb1, _⟩
  · simp [Value.ownBlock] at hg
  · rcases h2.2 with ⟨rfl, _⟩ | ⟨g2, c2, cur2, rfl, _, hb2, _⟩
    · simp [Value.ownBlock] at hg2
    · simp [Value.ownBlock] at hg hg2
      subst hg; subst hg2
      rw [hb1] at hb2
      injection hb2 with hb2
      injection hb2 with _ hb2 _
      exact hne hb2
theorem AtOk.no {b : Int} {ps : List Int} {np : Nat} {z : Int} (h : AtOk b ps np z) (hl : ps.length = np) (hz : ¬ 0 ≤ z) : b ∉ ps := by
  rcases h with ⟨_, h2⟩ | ⟨i, h1, _⟩
  · intro hm
    obtain ⟨i, hi⟩ := List.mem_iff_getElem?.1 hm
    have := (List.getElem?_eq_some_iff.1 hi).1
    exact h2 i b (by omega) hi rfl
  · omega
theorem AtOk.yes {b : Int} {ps : List Int} {np : Nat} {z : Int} (h : AtOk b ps np z) (hz : 0 ≤ z) : ∃ i : Nat, z = (i : Int) ∧ i < np ∧ ps[i]? = some b := by
  rcases h with ⟨h1, _⟩ | h
  · omega
  · exact h
theorem AtOk.some_ {fs : List ByteArray} {pics : List Pic} {ks : List Nat} {b : Int} {ps : List Int} {np : Nat} {z : Int} (h : AtOk b ps np z) (hs : SimS fs pics ps ks) (hl : ps.length = np) : (atP b pics).isSome = decide (0 ≤ z) := by
  rw [hs.at_ b]
  by_cases hz : 0 ≤ z
  · obtain ⟨i, _, _, hi⟩ := h.yes hz
    simp [hz, List.mem_of_getElem? hi]
  · simp [hz, h.no hl hz]
theorem takeE1 {pics : List Pic} {n : Int} {l : List ByteArray} (h : n < 0) : takeE pics n l = 1 := by rw [takeE, if_pos h]
theorem takeE8 {pics : List Pic} {n : Int} {l : List ByteArray} (h : ¬ n < 0) (h2 : (atP n pics).isSome = true) : takeE pics n l = 8 := by rw [takeE, if_neg h, if_pos h2]
theorem takeE4 {pics : List Pic} {n : Int} {l : List ByteArray} (h : ¬ n < 0) (h2 : (atP n pics).isSome = false) (h3 : 400 < l.length) : takeE pics n l = 4 := by rw [takeE, if_neg h, if_neg (by rw [h2]; decide), if_pos h3]
theorem takeE2 {pics : List Pic} {n : Int} {l : List ByteArray} (h : ¬ n < 0) (h2 : (atP n pics).isSome = false) (h3 : ¬ 400 < l.length) : takeE pics n l = if l.all namedB = true then 0 else 2 := by
  rw [takeE, if_neg h, if_neg (by rw [h2]; decide), if_neg h3]
  rcases l.all namedB <;> rfl
theorem take_len {fs : List ByteArray} {k n : Nat} (hk : k ≤ n) (h : fs.length = n) : (fs.take k).length = k := by rw [List.length_take]; omega
def namedN (fs : List ByteArray) (j : Nat) : Nat := if (fs.take j).all namedB = true then 0 else 2
theorem namedN_zero (fs : List ByteArray) : namedN fs 0 = 0 := rfl
theorem allN_step {fs : List ByteArray} {j : Nat} (h : j < fs.length) : (fs.take (j + 1)).all namedB = ((fs.take j).all namedB && namedB (strAt fs j)) := by
  rw [List.take_add_one, strAt_get h, List.all_append]
  simp
theorem namedN_yes {fs : List ByteArray} {j : Nat} (h : j < fs.length) (e : namedB (strAt fs j) = true) : namedN fs (j + 1) = namedN fs j := by
  rw [namedN, allN_step h, e, Bool.and_true]; rfl
theorem namedN_no {fs : List ByteArray} {j : Nat} (h : j < fs.length) (e : namedB (strAt fs j) = false) : namedN fs (j + 1) = 2 := by
  rw [namedN, allN_step h, e, Bool.and_false]; rfl
/-- The first j are less than b. -/
def LessThan (b : Int) (ps : List Int) (j : Nat) : Prop := ∀ x ∈ ps.take j, x < b
theorem LessThan.start (b : Int) (ps : List Int) : LessThan b ps 0 := fun x hx => by simp at hx
theorem LessThan.step {b y : Int} {ps : List Int} {j : Nat} (h : LessThan b ps j) (hy : ps[j]? = some y) (hlt : y < b) : LessThan b ps (j + 1) := by
  intro x hx
  rw [List.take_add_one, hy] at hx
  rcases List.mem_append.1 hx with hx | hx
  · exact h x hx
  · obtain rfl : x = y := by simpa using hx
    exact hlt
/-- From j on all are more than b. -/
theorem more_than {fs : List ByteArray} {pics : List Pic} {ks : List Nat} {b y : Int} {ps : List Int} {j : Nat} (hs : SimS fs pics ps ks) (hb : b ∉ ps) (hy : ps[j]? = some y) (hlt : ¬ y < b) : ∀ x ∈ ps.drop j, b < x := by
  have hne : y ≠ b := fun e => hb (by rw [← e]; exact List.mem_of_getElem? hy)
  have hlen := (List.getElem?_eq_some_iff.1 hy).1
  have hd : ps.drop j = y :: ps.drop (j + 1) := by
    rw [List.drop_eq_getElem_cons hlen]
    rw [List.getElem?_eq_getElem hlen] at hy
    injection hy with hy
    rw [hy]
  have hr := hs.rise
  rw [← List.take_append_drop j ps, hd] at hr
  obtain ⟨_, r2, _⟩ := List.pairwise_append.1 hr
  obtain ⟨r4, _⟩ := List.pairwise_cons.1 r2
  intro x hx
  rw [hd] at hx
  rcases List.mem_cons.1 hx with rfl | hx
  · omega
  · have := r4 x hx; omega
theorem more_end (b : Int) {ps : List Int} {j : Nat} (h : ps.length = j) : ∀ x ∈ ps.drop j, b < x := fun x hx => by
  rw [List.drop_of_length_le (by omega)] at hx
  simp at hx
theorem ListsAt.made {w : World} {base : Nat} {Af : Option Addr} {cf : Nat} {P Q : Value} {ps : List Int} {ks : List Nat} {n n1 n2 : Nat} {xs ys : List Value} (hP : w.ownsRow base 3 1 P n1 xs) (hQ : w.ownsRow base 23 1 Q n2 ys) (e1 : n1 = n) (e2 : n2 = n)
    (ex : xs = ps.map (Value.int .i64)) (ey : ys = ks.map (kvS Af cf)) : ListsAt w Af cf P Q ps ks n := by
  subst e1 ex ey
  subst e2
  obtain ⟨A, c, h1, h2, h3, _, h4⟩ := own_form hP
  obtain ⟨A', c', k1, k2, k3, _, k4⟩ := own_form hQ
  have l1 := h4.1
  have l2 := k4.1
  rw [List.length_map, Nat.mul_one] at l1 l2
  exact ⟨l1, l2, A, c, A', c', h1, h2, h3, k1, k2, k3, h4, k4⟩
theorem ListsAt.tail {w : World} {Af A A' : Option Addr} {cf c c' n G : Nat} {ps : List Int} {ks : List Nat} (h : ListsAt w Af cf (.slice A n c) (.slice A' n c') ps ks n) (hG : G ≤ n) :
    ListsAt w Af cf (.slice (if c = G then A else A.map (fun x => x.add G)) (n - G) (c - G)) (.slice (if c' = G then A' else A'.map (fun x => x.add G)) (n - G) (c' - G)) (ps.drop G) (ks.drop G) (n - G) := by
  obtain ⟨B, d, B', d', h1, h2, h3, h4, h5, h6, h7, h8⟩ := h.at_
  injection h1 with e1 _ e2
  injection h4 with e3 _ e4
  subst e1 e2 e3 e4
  have k1 := h7.cut hG h2
  have k2 := h8.cut hG h5
  rw [Nat.mul_one, ← List.map_drop] at k1 k2
  exact ⟨by rw [List.length_drop, h.pl], by rw [List.length_drop, h.kl], _, _, _, _, rfl, by omega, by omega, rfl, by omega, by omega, k1, k2⟩
theorem nil_far : ∀ g, (Value.slice none 0 0).ownBlock ≠ some g := fun g h => by simp [Value.ownBlock] at h
/-- What Take leaves: b is not among them. -/
theorem take_fresh {fs l : List ByteArray} {pics : List Pic} {ps : List Int} {ks : List Nat} {b : Int} (hs : SimS fs pics ps ks) (h : takeE pics b l = 0) : b ∉ ps := by
  intro hm
  have h2 := hs.at_ b
  rw [decide_eq_true hm] at h2
  by_cases h1 : b < 0
  · rw [takeE1 h1] at h; cases h
  · rw [takeE8 h1 h2] at h; cases h
def anyN (fs : List ByteArray) (m : ByteArray) (j : Nat) : Bool := (fs.take j).any fun z => decide (z = m)
theorem anyN_zero (fs : List ByteArray) (m : ByteArray) : anyN fs m 0 = false := rfl
theorem anyN_step {fs : List ByteArray} {j : Nat} (m : ByteArray) (h : j < fs.length) : anyN fs m (j + 1) = (anyN fs m j || decide (strAt fs j = m)) := by
  unfold anyN
  rw [List.take_add_one, strAt_get h, List.any_append]
  simp
theorem cntL_step {fs : List ByteArray} {ks : List Nat} {p k : Nat} (m : ByteArray) (h : ks[p]? = some k) : cntL fs (ks.take (p + 1)) m = cntL fs (ks.take p) m + if anyN fs m k = true then 1 else 0 := by
  unfold cntL
  rw [List.take_add_one, h, List.countP_append]
  show _ + (List.countP _ [k]) = _
  rw [List.countP_singleton]
  rfl
theorem cntL_le (fs : List ByteArray) (ks : List Nat) (m : ByteArray) : cntL fs ks m ≤ ks.length := List.countP_le_length
theorem firstsL_len (f : ByteArray → Nat) (fs : List ByteArray) (j : Nat) : (firstsL f fs (j + 1)).length = (firstsL f fs j).length + if newB f fs j = true then 1 else 0 := by
  rw [firstsL, List.length_append]
  split <;> rfl
theorem newB_eq (f : ByteArray → Nat) (fs : List ByteArray) (j : Nat) : newB f fs j = (decide (0 < f (strAt fs j)) && !anyN fs (strAt fs j) j) := rfl
theorem rise_at {l : List ByteArray} (h : riseK l) {j : Nat} (h0 : 0 < j) (hj : j < l.length) : Op.bytesLess (strAt l (j - 1)).toList (strAt l j).toList = true := by
  have h1 := strAt_get (fs := l) (j := j - 1) (by omega)
  have h2 := strAt_get (fs := l) hj
  obtain ⟨p, e1⟩ := List.getElem?_eq_some_iff.1 h1
  obtain ⟨q, e2⟩ := List.getElem?_eq_some_iff.1 h2
  have := List.pairwise_iff_getElem.1 h (j - 1) j p q (by omega)
  rw [e1, e2] at this
  exact this
end Go.Proofs.YtmeemcafjebanaaGreatDoor
