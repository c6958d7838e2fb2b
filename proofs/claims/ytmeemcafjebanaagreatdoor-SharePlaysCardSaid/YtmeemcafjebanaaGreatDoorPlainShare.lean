/- A share and the law's two lists side by side, in plain words. -/
import Derived.Test.YtmeemcafjebanaaGreatDoorShareKeep
namespace Go.Proofs.YtmeemcafjebanaaGreatDoor
open Go.RowKit Go.Maps Go.WideMaps

def prP (p : Pic) : Int × List ByteArray := (p.n, p.nm)
/-- The pictures that the two lists tell: numbers, and how many of the files each has. -/
def rowsS (fs : List ByteArray) (ps : List Int) (ks : List Nat) : List (Int × List ByteArray) := (ps.zip ks).map fun r => (r.1, dsort (fs.take r.2))
structure SimS (fs : List ByteArray) (pics : List Pic) (ps : List Int) (ks : List Nat) : Prop where
  rise : ps.Pairwise (· < ·)
  len : ks.length = ps.length
  fit : ∀ k ∈ ks, k ≤ fs.length
  perm : (pics.map prP).Perm (rowsS fs ps ks)
theorem rows_fst {fs : List ByteArray} {ps : List Int} {ks : List Nat} (h : ks.length = ps.length) : (rowsS fs ps ks).map Prod.fst = ps := by
  rw [rowsS, List.map_map]
  exact List.map_fst_zip (by omega)
theorem rows_app {fs : List ByteArray} {a b : List Int} {c d : List Nat} (h : a.length = c.length) : rowsS fs (a ++ b) (c ++ d) = rowsS fs a c ++ rowsS fs b d := by
  rw [rowsS, List.zip_append h, List.map_append]; rfl
theorem rows_cons (fs : List ByteArray) (n : Int) (k : Nat) (a : List Int) (c : List Nat) : rowsS fs (n :: a) (k :: c) = (n, dsort (fs.take k)) :: rowsS fs a c := rfl
section
variable {fs : List ByteArray} {pics : List Pic} {ps : List Int} {ks : List Nat}
theorem SimS.start (fs : List ByteArray) : SimS fs [] [] [] := ⟨.nil, rfl, fun k h => by simp at h, .nil⟩
theorem SimS.nums (h : SimS fs pics ps ks) : (pics.map Pic.n).Perm ps := by
  have := h.perm.map Prod.fst
  rw [rows_fst h.len, List.map_map] at this
  exact this
theorem SimS.plen (h : SimS fs pics ps ks) : pics.length = ps.length := by
  have := h.nums.length_eq
  rwa [List.length_map] at this
theorem SimS.numsL_ (h : SimS fs pics ps ks) : numsL pics = ps := by
  rw [numsL, show ((pics.map Pic.n).mergeSort fun x y => decide (x ≤ y)) = ps.mergeSort fun x y => decide (x ≤ y) from mergeSort_of_perm_i h.nums]
  exact List.mergeSort_of_pairwise (h.rise.imp fun {a b} hab => by simp; omega)
theorem SimS.at_ (h : SimS fs pics ps ks) (n : Int) : (atP n pics).isSome = decide (n ∈ ps) := by
  rcases ha : atP n pics with _ | p
  · rw [eq_comm]
    refine decide_eq_false fun hm => ?_
    obtain ⟨p, hp, e⟩ := List.mem_map.1 (h.nums.mem_iff.2 hm)
    exact atP_none.1 ha p hp e
  · obtain ⟨h1, h2⟩ := atP_some ha
    rw [eq_comm]
    exact decide_eq_true (h.nums.mem_iff.1 (List.mem_map.2 ⟨p, h1, h2⟩))
theorem SimS.cnt (h : SimS fs pics ps ks) (m : ByteArray) : cntP pics m = ks.countP fun k => (fs.take k).any fun z => decide (z = m) := by
  have e1 : cntP pics m = (pics.map prP).countP fun r => r.2.any fun z => decide (z = m) := by
    rw [List.countP_map]; rfl
  rw [e1, h.perm.countP_eq, rowsS, List.countP_map]
  have e2 : ((fun r : Int × List ByteArray => r.2.any fun z => decide (z = m)) ∘ fun r : Int × Nat => (r.1, dsort (fs.take r.2))) = fun r : Int × Nat => (fs.take r.2).any fun z => decide (z = m) := by
    funext r
    show (dsort (fs.take r.2)).any _ = _
    rw [Bool.eq_iff_iff, any_mem, any_mem, dsort_mem]
  rw [e2]
  have e3 : (ps.zip ks).map Prod.snd = ks := List.map_snd_zip (by rw [h.len]; exact Nat.le_refl _)
  conv => rhs; rw [← e3]
  rw [List.countP_map]; rfl
theorem SimS.take_ (h : SimS fs pics ps ks) {n : Int} {j k : Nat} (g : Option Nat) (c : Nat) (hk : k ≤ fs.length) (h1 : ∀ x ∈ ps.take j, x < n) (h2 : ∀ x ∈ ps.drop j, n < x) :
    SimS fs (⟨n, dsort (fs.take k), g, c⟩ :: pics) (ps.take j ++ n :: ps.drop j) (ks.take j ++ k :: ks.drop j) := by
  have hl := h.len
  refine ⟨?_, ?_, ?_, ?_⟩
  · have hr := h.rise
    rw [← List.take_append_drop j ps] at hr
    obtain ⟨r1, r2, r3⟩ := List.pairwise_append.1 hr
    refine List.pairwise_append.2 ⟨r1, List.pairwise_cons.2 ⟨h2, r2⟩, fun a ha b hb => ?_⟩
    rcases List.mem_cons.1 hb with rfl | hb
    · exact h1 a ha
    · exact r3 a ha b hb
  · simp [hl]
  · intro x hx
    rcases List.mem_append.1 hx with hx | hx
    · exact h.fit x (List.mem_of_mem_take hx)
    · rcases List.mem_cons.1 hx with rfl | hx
      · exact hk
      · exact h.fit x (List.mem_of_mem_drop hx)
  · have hp := h.perm
    rw [← List.take_append_drop j ps, ← List.take_append_drop j ks, rows_app (by simp [hl])] at hp
    rw [rows_app (by simp [hl]), rows_cons, List.map_cons]
    exact (hp.cons _).trans List.perm_middle.symm
theorem offMany_is (ns : List Int) : ∀ pics : List Pic, offMany pics ns = pics.filter fun z => !decide (z.n ∈ ns) := by
  induction ns with
  | nil => intro pics; exact (List.filter_eq_self.2 fun z _ => by simp).symm
  | cons n ns ih =>
    intro pics
    show offMany (offI n pics) ns = _
    rw [ih, offI_is, List.filter_filter]
    congr 1
    funext z
    by_cases e1 : z.n = n <;> by_cases e2 : z.n ∈ ns <;> simp [e1, e2]
theorem SimS.off (h : SimS fs pics ps ks) (ns : List Int) : ((offMany pics ns).map prP).Perm ((rowsS fs ps ks).filter fun r => !decide (r.1 ∈ ns)) := by
  have e : (offMany pics ns).map prP = (pics.map prP).filter fun r => !decide (r.1 ∈ ns) := by
    rw [offMany_is, List.filter_map]; rfl
  rw [e]
  exact h.perm.filter _
theorem rows_mem {r : Int × List ByteArray} (h : r ∈ rowsS fs ps ks) (hl : ks.length = ps.length) : r.1 ∈ ps := by
  have := List.mem_map_of_mem (f := Prod.fst) h
  rwa [rows_fst hl] at this
theorem SimS.keep_ (h : SimS fs pics ps ks) (m : Nat) : SimS fs (offMany pics (ps.take m)) (ps.drop m) (ks.drop m) := by
  have hl := h.len
  have hr := h.rise
  rw [← List.take_append_drop m ps] at hr
  obtain ⟨r1, r2, r3⟩ := List.pairwise_append.1 hr
  refine ⟨r2, by simp [hl], fun k hk => h.fit k (List.mem_of_mem_drop hk), ?_⟩
  have hp := h.off (ps.take m)
  have e : (rowsS fs ps ks).filter (fun r => !decide (r.1 ∈ ps.take m)) = rowsS fs (ps.drop m) (ks.drop m) := by
    conv => lhs; rw [← List.take_append_drop m ks]
    conv => lhs; arg 2; rw [← List.take_append_drop m ps]
    rw [rows_app (by simp [hl]), List.filter_append, List.filter_eq_nil_iff.2, List.nil_append, List.filter_eq_self.2]
    · intro r hr2
      have h1 := rows_mem hr2 (by simp [hl])
      simp
      intro h2
      have := r3 _ h2 _ h1
      omega
    · intro r hr2
      have h1 := rows_mem hr2 (by simp [hl])
      simp [h1]
  rw [e] at hp
  exact hp
theorem SimS.drop_ (h : SimS fs pics ps ks) {n : Int} {a : Nat} (ha : ps[a]? = some n) : SimS fs (offI n pics) (ps.take a ++ ps.drop (a + 1)) (ks.take a ++ ks.drop (a + 1)) := by
  have hl := h.len
  have hal := (List.getElem?_eq_some_iff.1 ha).1
  have hd : ps.drop a = n :: ps.drop (a + 1) := by
    rw [List.drop_eq_getElem_cons hal]
    rw [List.getElem?_eq_getElem hal] at ha
    injection ha with ha
    rw [ha]
  obtain ⟨ka, hk⟩ : ∃ ka, ks.drop a = ka :: ks.drop (a + 1) := ⟨_, List.drop_eq_getElem_cons (by omega)⟩
  have hr := h.rise
  rw [← List.take_append_drop a ps, hd] at hr
  obtain ⟨r1, r2, r3⟩ := List.pairwise_append.1 hr
  obtain ⟨r4, r5⟩ := List.pairwise_cons.1 r2
  refine ⟨List.pairwise_append.2 ⟨r1, r5, fun x hx y hy => r3 x hx y (List.mem_cons_of_mem _ hy)⟩, by simp [hl], fun k hk => ?_, ?_⟩
  · rcases List.mem_append.1 hk with hk | hk
    · exact h.fit k (List.mem_of_mem_take hk)
    · exact h.fit k (List.mem_of_mem_drop hk)
  · have hp := h.off [n]
    have e : (rowsS fs ps ks).filter (fun r => !decide (r.1 ∈ [n])) = rowsS fs (ps.take a ++ ps.drop (a + 1)) (ks.take a ++ ks.drop (a + 1)) := by
      conv => lhs; rw [← List.take_append_drop a ks, hk]
      conv => lhs; arg 2; rw [← List.take_append_drop a ps, hd]
      rw [rows_app (by simp [hl]), rows_app (by simp [hl]), rows_cons, List.filter_append, List.filter_cons_of_neg (by simp), List.filter_eq_self.2, List.filter_eq_self.2]
      · intro r hr2
        have h1 := rows_mem hr2 (by simp [hl])
        have := r4 _ h1
        simp
        omega
      · intro r hr2
        have h1 := rows_mem hr2 (by simp [hl])
        have := r3 _ h1 n List.mem_cons_self
        simp
        omega
    rw [e] at hp
    exact hp
end
end Go.Proofs.YtmeemcafjebanaaGreatDoor
