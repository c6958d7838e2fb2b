/- The order of window.sorted; its sort. -/
import Derived.Test.YtelailhghhjleaaShelfPane
import Derived.Test.YtelailhghhjleaaMemSlide
import Derived.Test.YtelailhghhjleaaWalkSess2
namespace Go.Proofs.Ytelailhghhjleaa
open Go.RowKit Go.Sort Go.Shelf Go.Lib

instance : Inhabited Pane := ⟨⟨⟨#[]⟩, 0, 0, 0, 0, 0⟩⟩
def recOf (p : Pane) : Rec := ⟨p.key, 0, p.lo⟩
def paneCf (x y : Pane) : Int := recCf (recOf x) (recOf y)
theorem paneSwo : SWO (ltOf paneCf) where
  irrefl x := recSwo.irrefl (recOf x)
  trans x y z := recSwo.trans (recOf x) (recOf y) (recOf z)
  ntrans x y z := recSwo.ntrans (recOf x) (recOf y) (recOf z)
def Pane.agg (p : Pane) : Value := .agg #[.string p.key, .int .i64 p.lo, .int .i64 p.hi, .int .i64 p.many, .int .i64 p.sum, .int .i64 p.late]
def Pane.obj (p : Pane) : Obj := .cells #[.string p.key, .int .i64 p.lo, .int .i64 p.hi, .int .i64 p.many, .int .i64 p.sum, .int .i64 p.late] 31
set_option maxRecDepth 100000 in
set_option maxHeartbeats 2000000 in
theorem panecmp_any (x y : Pane) (w : World) :
    Calls Try.prog 73 #[x.agg, y.agg] w fun e w' => e = .returned (.int .i64 (paneCf x y)) ∧ ∃ q os', w' = grow (w.drewN q) os' := by
  go_enter Try.func73, Try.ntmps73
  unfold Pane.agg
  go_wp2
  obtain ⟨o1, ho1⟩ : ∃ o, o = Obj.cells #[.string x.key, .int .i64 x.lo, .int .i64 x.hi, .int .i64 x.many, .int .i64 x.sum, .int .i64 x.late] 31 := ⟨_, rfl⟩
  obtain ⟨o2, ho2⟩ : ∃ o, o = Obj.cells #[.string y.key, .int .i64 y.lo, .int .i64 y.hi, .int .i64 y.many, .int .i64 y.sum, .int .i64 y.late] 31 := ⟨_, rfl⟩
  have b1 : Blk ((w.alloc o1).alloc o2) w.heap.size 31 #[.string x.key, .int .i64 x.lo, .int .i64 x.hi, .int .i64 x.many, .int .i64 x.sum, .int .i64 x.late] := by rw [ho1]; exact (Blk.new _ _ _).alloc _
  have b2 : Blk ((w.alloc o1).alloc o2) (w.heap.size + 1) 31 #[.string y.key, .int .i64 y.lo, .int .i64 y.hi, .int .i64 y.many, .int .i64 y.sum, .int .i64 y.late] := by
    have := Blk.new (w.alloc o1) 31 #[.string y.key, .int .i64 y.lo, .int .i64 y.hi, .int .i64 y.many, .int .i64 y.sum, .int .i64 y.late]
    rw [← ho2] at this; simpa using this
  have hgr : Hid ((w.alloc o1).alloc o2 = grow w (#[o1] ++ #[o2])) := Lib.hid (by rw [alloc_eq_grow, alloc_eq_grow, grow_grow])
  have hsz : ((w.alloc o1).alloc o2).heap.size = w.heap.size + 2 := by simp
  rw [← ho1, ← ho2]
  clear ho1 ho2
  generalize (w.alloc o1).alloc o2 = w1 at *
  have HS := Lib.hid hsz
  have c0 := b1.cell 0
  have c2 := b1.cell 1
  have e0 := b2.cell 0
  have e2 := b2.cell 1
  simp at c0 c2 e0 e2
  have l1 := b1.lt
  have l2 := b2.lt
  clear hsz
  have HO := Lib.hid (or_any w1.heap.size 2 (cmpS x.key y.key) (cmpI x.lo y.lo) (w1.alloc (.cells #[.int .i64 (cmpS x.key y.key), .int .i64 (cmpI x.lo y.lo)] 3)).drew (by simp) (by simp))
  go_region_held3 (fun w' => w'.cell? ⟨w.heap.size, 0, none⟩ = some (.string x.key) ∧ w'.cell? ⟨w.heap.size, 1, none⟩ = some (.int .i64 x.lo) ∧ w'.cell? ⟨w.heap.size + 1, 0, none⟩ = some (.string y.key) ∧ w'.cell? ⟨w.heap.size + 1, 1, none⟩ = some (.int .i64 y.lo)) (go_keep)
    ((first
      | (go_at_call 31; refine (cmpI_any _ _ _).mono ?_; rintro e w' ⟨rfl, rfl⟩)
      | (go_at_call 30; refine (cmpS_any _ _ _).mono ?_; rintro e w' ⟨rfl, rfl⟩)
      | (go_at_call 29; refine HO.out.mono ?_; rintro e w' ⟨rfl, rfl⟩)))
  go_wp2
  go_ret
  refine ⟨rfl, 1, (#[o1] ++ #[o2]) ++ #[.cells #[.int .i64 (cmpS x.key y.key), .int .i64 (cmpI x.lo y.lo)] 3], ?_⟩
  rw [hgr.out, alloc_eq_grow, grow_grow]
  rfl
theorem pane_lays (blk off size : Nat) (w : World) : CmpLays Try.prog 73 #[] Pane.cells 6 paneCf blk off size w :=
  fun _ _ _ _ x y => panecmp_any x y _
theorem paneK (x : Pane) : x.cells.length = 6 := rfl
theorem paneK1 (x : Pane) : ∀ v ∈ x.cells, v.oneCell' = true := by
  intro v hv
  simp only [Pane.cells, List.mem_cons, List.not_mem_nil, or_false] at hv
  rcases hv with rfl | rfl | rfl | rfl | rfl | rfl <;> rfl
theorem pane_sort {w : World} {base n : Nat} {v : Value} {l : List Pane} (h : w.ownsRow base 31 6 v n (paneCells l)) (hl : l.length = n) (hn : n < 4611686018427387904) (hb : base ≤ w.heap.size) : ∃ A c, v = .slice A n c ∧ n ≤ c ∧ c ≤ maxLen ∧
    Calls Try.prog 72 #[.slice A n c, .func (.func 73) #[] #[]] w fun e w' =>
      e = .returned (.tuple #[]) ∧ ∃ s : List Pane, s.Perm l ∧ Up (ltOf paneCf) s ∧ Rd w' w'.heap.size 6 A n (paneCells s) ∧ Below base w w' := by
  rcases h.2 with ⟨rfl, rfl⟩ | ⟨g, cap, cur, rfl, _, _, hnc, hcm, _, _⟩
  · refine ⟨none, 0, rfl, Nat.le_refl _, Nat.zero_le _, (AnyF.slices_SortFunc_none laysPane none 0 _ w).mono ?_⟩
    rintro e w' ⟨rfl, rfl⟩
    obtain rfl := List.eq_nil_of_length_eq_zero hl
    exact ⟨rfl, [], .refl _, List.Pairwise.nil, Rd.nil_, Below.refl _ _⟩
  · refine ⟨_, cap, rfl, hnc, hcm, ?_⟩
    obtain ⟨hH, hlt, hge⟩ := holdsK_own (enc := Pane.cells) paneK (by omega) h hl
    have hz : l.toArray.size = n := by simpa using hl
    have hc := AnyQ.slices_SortFunc laysPane 6 (fun _ => by kernel_rfl) (fun _ => by kernel_rfl) Pane.cells paneK paneK1 paneCf paneSwo 73 #[] g 0 cap l.toArray w
      (fun _ _ => by kernel_rfl) (pane_lays _ _ _ _) hH hlt (by omega)
    rw [hz] at hc
    refine hc.mono ?_
    rintro e w' ⟨rfl, d', q, os, hpm, hso, hw⟩
    have hS : SWK Pane.cells 6 w g 0 d' w' := ⟨q, os, hw⟩
    have hds : d'.size = n := by rw [hpm.1, hz]
    have hd : d' = (([] : List Pane) ++ (d'.toList ++ [])).toArray := by simp
    have hlen : d'.toList.length = n := by simpa using hds
    have hup : Up (ltOf paneCf) d'.toList := by
      refine up_of_sortedIn (x := []) (y := []) ?_
      rw [← hd, List.length_nil, Nat.zero_add, hlen]
      exact hso
    have hperm : d'.toList.Perm l := by
      have h3 := hpm.2.2
      have e1 : (d'.extract 0 n).toList = d'.toList := by
        simp
        exact List.take_of_length_le (by omega)
      have e2 : (l.toArray.extract 0 n).toList = l := by
        simp
        exact List.take_of_length_le (by omega)
      rw [e1, e2] at h3
      exact h3
    refine ⟨rfl, d'.toList, hperm, hup, ?_, below_swk hS hge hb⟩
    have := rd_of_holdsK (enc := Pane.cells) paneK (by omega) (holdsK_row (hS.holds hlt hH (hds.trans hz.symm))) (B := w'.heap.size) (hS.lt hlt)
    rw [hlen] at this
    exact this
end Go.Proofs.Ytelailhghhjleaa
