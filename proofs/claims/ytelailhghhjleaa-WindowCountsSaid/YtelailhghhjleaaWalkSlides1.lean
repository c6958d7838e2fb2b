/- window.Slide and window.Tumble: the panes of PlainSlide. -/
import Derived.Test.YtelailhghhjleaaWalkSlide
import Derived.Test.YtelailhghhjleaaPlainSlide4
namespace Go.Proofs.Ytelailhghhjleaa
open Go.RowKit Go.Sort Go.Shelf Go.Lib

def panesOf (l : List Rec) (size by_ slack : Int) : List Pane := if slideE l size by_ slack = 0 then refSlide size by_ slack l l.length else []
theorem slideE_parts {l : List Rec} {size by_ slack : Int} (h : slideE l size by_ slack = 0) : l.length ≤ 400 ∧ recsE l = 0 ∧ 1 ≤ size ∧ size ≤ 1000000 ∧ 1 ≤ by_ ∧ by_ ≤ 1000000 ∧ 0 ≤ slack ∧ slack ≤ 1000000 ∧ size ≤ 16 * by_ := by
  unfold slideE at h
  split at h
  · rename_i h1; exact absurd h h1
  · rename_i h1
    have hE : recsE l = 0 := by omega
    split at h
    · rename_i h2
      refine ⟨?_, hE, h2⟩
      unfold recsE at hE
      split at hE
      · cases hE
      · omega
    · cases h
theorem refSlide_len (size b slack : Int) (l : List Rec) : ∀ i, (refSlide size b slack l i).length ≤ 18 * i := by
  intro i
  induction i with
  | zero => exact Nat.le_refl _
  | succ i ih =>
    rw [refSlide]
    have := refTo_lenP (recAt l i) size b (markTo slack (l.take i)) (refSlide size b slack l i) 18
    omega
theorem panesOf_len (l : List Rec) (size by_ slack : Int) : (panesOf l size by_ slack).length ≤ 140737488355328 := by
  unfold panesOf
  split
  · rename_i h
    have h1 := (slideE_parts h).1
    have h2 := refSlide_len size by_ slack l l.length
    omega
  · simp
theorem apart_perm {P Q : List Pane} (hp : Q.Perm P) (h : Apart P) : Apart Q := (hp.pairwise_iff (fun hab e => hab ⟨e.1.symm, e.2.symm⟩)).2 h
theorem up_rise {Q : List Pane} (h : Up (ltOf paneCf) Q) (ha : Apart Q) : RiseP Q := by
  refine List.pairwise_iff_getElem.2 fun i j hi hj hij => ?_
  have h1 := List.pairwise_iff_getElem.1 h i j hi hj hij
  have h2 := List.pairwise_iff_getElem.1 ha i j hi hj hij
  have h3 := recLe_iff.1 (show ltOf recCf (recOf Q[j]) (recOf Q[i]) = false from h1)
  rcases h3 with h3 | ⟨h3, h4⟩
  · exact .inl h3
  · have h4' : Q[i].lo ≤ Q[j].lo := h4
    have h3' : Q[i].key.toList = Q[j].key.toList := h3
    exact .inr ⟨h3', by
      rcases Int.lt_or_le Q[i].lo Q[j].lo with h5 | h5
      · exact h5
      · exact absurd ⟨bytes_same h3', by omega⟩ h2⟩
theorem slide_is {l : List Rec} {size by_ slack : Int} {Q : List Pane} (h : slideE l size by_ slack = 0) (hp : Q.Perm (slideTo size by_ slack l l.length)) (hu : Up (ltOf paneCf) Q) : Q = panesOf l size by_ slack := by
  obtain ⟨_, h2, _, _, h5, _, _, _, h9⟩ := slideE_parts h
  obtain ⟨r1, r2⟩ := refSlide_ok (slack := slack) h5 h9 (fun r hr => (recOk_parts (recsE_all h2 r hr)).2.1) l.length (Nat.le_refl _)
  rw [panesOf, if_pos h]
  refine rise_one (up_rise hu (apart_perm hp (slideTo_apart _ _ _ _ _))) r2 fun p => ?_
  rw [hp.mem_iff, r1.mem_iff]
section
variable (A : Option Addr) (c B : Nat) (l : List Rec) (size by_ slack : Int) (w : World)
theorem slide_any (hr : Rd w B 3 A l.length (recCells l)) (hB : B ≤ w.heap.size) (hok : ∀ r ∈ l, r.Ok) (hl : l.length ≤ 140737488355328) (hby0 : -9223372036854775808 ≤ by_) (hby1 : by_ ≤ 9223372036854775807) :
    Calls Try.prog 39 #[.slice A l.length c, .int .i64 size, .int .i64 by_, .int .i64 slack] w fun e w' => ∃ A' c', e = .returned (.tuple #[.slice A' (panesOf l size by_ slack).length c', errV (slideE l size by_ slack)]) ∧ Rd w' w'.heap.size 6 A' (panesOf l size by_ slack).length (paneCells (panesOf l size by_ slack)) ∧ Below w.heap.size w w' := by
  by_cases h : slideE l size by_ slack = 0
  · obtain ⟨h1, h2, h3, h4, h5, h6, h7, h8, h9⟩ := slideE_parts h
    refine (slide_good A c B l size by_ slack w hr hB hok h1 h2 h3 h4 h5 h6 h7 h8 h9).mono ?_
    rintro e w' ⟨A', c', Q, rfl, q1, q2, q3, q4, q5, q6⟩
    have e1 := slide_is h q3 q4
    subst e1
    exact ⟨A', c', by rw [h]; rfl, q5, q6⟩
  · refine (slide_bad A c B l size by_ slack w hr hB hok hl hby0 hby1 h).mono ?_
    rintro e w' ⟨rfl, q6⟩
    rw [panesOf, if_neg h]
    exact ⟨none, 0, rfl, Rd.nil_, q6⟩
set_option maxRecDepth 100000 in
set_option maxHeartbeats 1000000 in
theorem tumble_any (hr : Rd w B 3 A l.length (recCells l)) (hB : B ≤ w.heap.size) (hok : ∀ r ∈ l, r.Ok) (hl : l.length ≤ 140737488355328) (hby0 : -9223372036854775808 ≤ size) (hby1 : size ≤ 9223372036854775807) :
    Calls Try.prog 15 #[.slice A l.length c, .int .i64 size, .int .i64 slack] w fun e w' => ∃ A' c', e = .returned (.tuple #[.slice A' (panesOf l size size slack).length c', errV (slideE l size size slack)]) ∧ Rd w' w'.heap.size 6 A' (panesOf l size size slack).length (paneCells (panesOf l size size slack)) ∧ Below w.heap.size w w' := by
  have hs := slide_any A c B l size size slack w hr hB hok hl hby0 hby1
  generalize panesOf l size size slack = Q at *
  generalize slideE l size size slack = E at *
  generalize l.length = n at *
  go_enter Try.func15, Try.ntmps15
  go_wp2_with fail
  refine hs.mono ?_
  rintro e w1 ⟨A', c', rfl, q5, q6⟩
  go_wp2_with fail
  go_ret2
  exact ⟨A', c', rfl, q5, q6⟩
end
end Go.Proofs.Ytelailhghhjleaa
