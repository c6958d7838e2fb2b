/- Tables put together, as plain data: what weirlaw2.TableMerges says. No program in sight. -/
import Derived.Test.YtcfijljagohmlaaGreatDoorPlainMix
import Derived.Test.YtcfijljagohmlaaGreatDoorPlainTabOk
namespace Go.Proofs.YtcfijljagohmlaaGreatDoor
open Go.RowKit

theorem rise_go : ∀ (l : List Ent) (p : Option Ent), riseE l → (∀ e ∈ l, entE e = 0) → (∀ q, p = some q → ∀ e ∈ l, klt q.key e.key = true) → entsGo p l = 0 := by
  intro l
  induction l with
  | nil => intro p _ _ _; rfl
  | cons x xs ih =>
    intro p h1 h2 h3
    rw [riseE, List.pairwise_cons] at h1
    have hx := h2 x List.mem_cons_self
    have hs : stuck p x = false := by
      rcases p with _ | q
      · rfl
      · have h4 : keyLt q.key x.key = true := h3 q rfl x List.mem_cons_self
        show (!keyLt q.key x.key) = false
        rw [h4]; rfl
    rw [entsGo, if_neg (by rw [hx]; simp), if_neg (by rw [hs]; simp)]
    exact ih (some x) h1.2 (fun e he => h2 e (List.mem_cons_of_mem _ he)) fun q hq e he => by
      injection hq with hq
      rw [← hq]; exact h1.1 e he
theorem rise_ents {l : List Ent} (h1 : riseE l) (h2 : ∀ e ∈ l, entE e = 0) : entsE l = if 400 < l.length then 4 else 0 := by
  rw [entsE]
  split
  · rfl
  · exact rise_go l none h1 h2 fun q hq => by cases hq
/-- What comes of lists that are all right. -/
theorem mix_fine {ls : List (List Ent)} (h : ∀ l ∈ ls, entsE l = 0) : ∀ e ∈ mixL ls.flatten, entE e = 0 := fun e he => by
  obtain ⟨l, hl, hm⟩ := List.mem_flatten.1 (mix_mem he)
  exact (entsE_all (h l hl)).2 e hm
theorem mix_filter_ents {ls : List (List Ent)} {f : Ent → Bool} (h : ∀ l ∈ ls, entsE l = 0) : entsE ((mixL ls.flatten).filter f) = if 400 < ((mixL ls.flatten).filter f).length then 4 else 0 :=
  rise_ents ((mix_rise _).filter _) fun e he => mix_fine h e (List.mem_filter.1 he).1
/-- Tables of lists that are all right read as these lists. -/
theorem reads_tab {ls : List (List Ent)} (h : ∀ l ∈ ls, entsE l = 0) : (ls.map tabB).map (fun b => (readTab b).getD []) = ls ∧ (ls.map tabB).all (fun b => (readTab b).isSome) = true := by
  constructor
  · rw [List.map_map]
    conv => rhs; rw [← List.map_id ls]
    refine List.map_congr_left fun l hl => ?_
    show (readTab (tabB l)).getD [] = id l
    rw [tab_read (h l hl)]; rfl
  · rw [List.all_eq_true]
    intro b hb
    obtain ⟨l, hl, rfl⟩ := List.mem_map.1 hb
    rw [tab_read (h l hl)]; rfl
end Go.Proofs.YtcfijljagohmlaaGreatDoor
