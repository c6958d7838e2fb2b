/- The reference's Slide: the panes that window.Slide gives. -/
import Derived.Test.YtelailhghhjleaaDoorWalkSlides1
import Derived.Test.YtelailhghhjleaaDoorWalkRSlide
import Derived.Test.YtelailhghhjleaaDoorWalkRSlideBad
namespace Go.Proofs.YtelailhghhjleaaDoor
open Go.RowKit Go.Sort Go.Shelf Go.Lib

section
variable (A : Option Addr) (c B : Nat) (l : List Rec) (size by_ slack : Int) (w : World)
theorem rslide_any (hr : Rd w B 3 A l.length (recCells l)) (hB : B ≤ w.heap.size) (hok : ∀ r ∈ l, r.Ok) (hl : l.length ≤ 140737488355328) (hby0 : -9223372036854775808 ≤ by_) (hby1 : by_ ≤ 9223372036854775807) :
    Calls Tryd.prog 23 #[.slice A l.length c, .int .i64 size, .int .i64 by_, .int .i64 slack] w fun e w' => ∃ A' c', e = .returned (.tuple #[.slice A' (panesOf l size by_ slack).length c', .int .i64 (slideE l size by_ slack : Nat)]) ∧ Rd w' w'.heap.size 6 A' (panesOf l size by_ slack).length (paneCells (panesOf l size by_ slack)) ∧ Below w.heap.size w w' := by
  by_cases h : slideE l size by_ slack = 0
  · obtain ⟨h1, h2, h3, h4, h5, h6, h7, h8, h9⟩ := slideE_parts h
    refine (rslide_good A c B l size by_ slack w hr hB hok h1 h2 h3 h4 h5 h6 h7 h8 h9).mono ?_
    rintro e w' ⟨v, rfl, q5, q6⟩
    rw [show panesOf l size by_ slack = refSlide size by_ slack l l.length by rw [panesOf, if_pos h]]
    obtain ⟨A', c', rfl, _, _, _, q7⟩ := own_form q5
    exact ⟨A', c', by rw [h]; rfl, q7, q6⟩
  · refine (rslide_bad A c B l size by_ slack w hr hB hok hl hby0 hby1 h).mono ?_
    rintro e w' ⟨rfl, q6⟩
    rw [panesOf, if_neg h]
    exact ⟨none, 0, rfl, Rd.nil_, q6⟩
end
end Go.Proofs.YtelailhghhjleaaDoor
