/- The order of states, and their sort. -/
import Derived.Test.YtcfijljagohmlaaShelfHld
import Derived.Test.YtcfijljagohmlaaWalkHeld
import Derived.Test.YtcfijljagohmlaaMemKeyed
import Derived.Test.YtcfijljagohmlaaMemSort
namespace Go.Proofs.Ytcfijljagohmlaa
open Go.RowKit Go.Sort Go.Shelf Go.Lib

instance : Inhabited Hld := ⟨⟨0, ⟨#[]⟩, 0, 0⟩⟩
theorem hldLt {x y : Hld} : ltOf cmpH x y = hlt x y := rfl
theorem hldSwo : SWO (ltOf cmpH) where
  irrefl x := by rw [hldLt]; exact hlt_irrefl _
  trans x y z := by rw [hldLt, hldLt, hldLt]; exact hlt_trans
  ntrans x y z := by
    rw [hldLt, hldLt, hldLt]
    intro h1 h2
    rcases hxz : hlt x z
    · rfl
    · rcases hlt_tri x y with t | t | t
      · rw [t] at h1; cases h1
      · rw [hlt_same t, h2] at hxz; cases hxz
      · have := hlt_trans t hxz; rw [this] at h2; cases h2
set_option maxRecDepth 100000 in
set_option maxHeartbeats 2000000 in
theorem hldcmp_any (x y : Hld) (w : World) :
    Calls Try.prog 50 #[x.val, y.val] w fun e w' => e = .returned (.int .i64 (cmpH x y)) ∧ ∃ q os', w' = grow (w.drewN q) os' := by
  go_enter Try.func50, Try.ntmps50
  unfold Hld.val
  go_wp2
  obtain ⟨o1, ho1⟩ : ∃ o, o = Obj.cells #[.int .i64 x.node, .string x.key, .int .i64 x.a, .int .i64 x.b] 47 := ⟨_, rfl⟩
  obtain ⟨o2, ho2⟩ : ∃ o, o = Obj.cells #[.int .i64 y.node, .string y.key, .int .i64 y.a, .int .i64 y.b] 47 := ⟨_, rfl⟩
  have b1 : Blk ((w.alloc o1).alloc o2) w.heap.size 47 #[.int .i64 x.node, .string x.key, .int .i64 x.a, .int .i64 x.b] := by rw [ho1]; exact (Blk.new _ _ _).alloc _
  have b2 : Blk ((w.alloc o1).alloc o2) (w.heap.size + 1) 47 #[.int .i64 y.node, .string y.key, .int .i64 y.a, .int .i64 y.b] := by
    have := Blk.new (w.alloc o1) 47 #[.int .i64 y.node, .string y.key, .int .i64 y.a, .int .i64 y.b]
    rw [← ho2] at this; simpa using this
  have hgr : Hid ((w.alloc o1).alloc o2 = grow w (#[o1] ++ #[o2])) := Lib.hid (by rw [alloc_eq_grow, alloc_eq_grow, grow_grow])
  have hsz : ((w.alloc o1).alloc o2).heap.size = w.heap.size + 2 := by simp
  rw [← ho1, ← ho2]
  clear ho1 ho2
  generalize (w.alloc o1).alloc o2 = w1 at *
  have HS := Lib.hid hsz
  have c0 := b1.cell 0
  have c1 := b1.cell 1
  have e0 := b2.cell 0
  have e1 := b2.cell 1
  simp at c0 c1 e0 e1
  have l1 := b1.lt
  have l2 := b2.lt
  clear hsz
  have HO := Lib.hid (or_any w1.heap.size 2 (cmpI x.node y.node) (cmpS x.key y.key) (w1.alloc (.cells #[.int .i64 (cmpI x.node y.node), .int .i64 (cmpS x.key y.key)] 3)).drew (by simp) (by simp))
  go_region_held3 (fun w' => w'.cell? ⟨w.heap.size, 0, none⟩ = some (.int .i64 x.node) ∧ w'.cell? ⟨w.heap.size, 1, none⟩ = some (.string x.key) ∧ w'.cell? ⟨w.heap.size + 1, 0, none⟩ = some (.int .i64 y.node) ∧ w'.cell? ⟨w.heap.size + 1, 1, none⟩ = some (.string y.key)) (go_keep)
    ((first
      | (go_at_call 73; refine (cmpI_any _ _ _).mono ?_; rintro e w' ⟨rfl, rfl⟩)
      | (go_at_call 74; refine (cmpS_any _ _ _).mono ?_; rintro e w' ⟨rfl, rfl⟩)
      | (go_at_call 72; refine HO.out.mono ?_; rintro e w' ⟨rfl, rfl⟩)))
  go_wp2
  go_ret
  refine ⟨rfl, 1, (#[o1] ++ #[o2]) ++ #[.cells #[.int .i64 (cmpI x.node y.node), .int .i64 (cmpS x.key y.key)] 3], ?_⟩
  rw [hgr.out, alloc_eq_grow, grow_grow]
  rfl
theorem hld_lays (blk off size : Nat) (w : World) : CmpLays Try.prog 50 #[] Hld.cells 4 cmpH blk off size w :=
  fun _ _ _ _ x y => hldcmp_any x y _
theorem hldK (x : Hld) : x.cells.length = 4 := rfl
theorem hldK1 (x : Hld) : ∀ v ∈ x.cells, v.oneCell' = true := by
  intro v hv
  simp only [Hld.cells, List.mem_cons, List.not_mem_nil, or_false] at hv
  rcases hv with rfl | rfl | rfl | rfl <;> rfl
theorem hld_sort {w : World} {base n : Nat} {v : Value} {l : List Hld} (h : w.ownsRow base 47 4 v n (hldCells l)) (hl : l.length = n) (hn : n < 4611686018427387904) (hb : base ≤ w.heap.size) : ∃ A c, v = .slice A n c ∧ n ≤ c ∧ c ≤ maxLen ∧
    Calls Try.prog 56 #[.slice A n c, .func (.func 50) #[] #[]] w fun e w' =>
      e = .returned (.tuple #[]) ∧ ∃ s : List Hld, s.Perm l ∧ Up (ltOf cmpH) s ∧ Rd w' w'.heap.size 4 A n (hldCells s) ∧ Below base w w' := by
  rcases h.2 with ⟨rfl, rfl⟩ | ⟨g, cap, cur, rfl, _, _, hnc, hcm, _, _⟩
  · refine ⟨none, 0, rfl, Nat.le_refl _, Nat.zero_le _, (AnyF.slices_SortFunc_none laysHld none 0 _ w).mono ?_⟩
    rintro e w' ⟨rfl, rfl⟩
    obtain rfl := List.eq_nil_of_length_eq_zero hl
    exact ⟨rfl, [], .refl _, List.Pairwise.nil, Rd.nil_, Below.refl _ _⟩
  · refine ⟨_, cap, rfl, hnc, hcm, ?_⟩
    obtain ⟨hH, hlt, hge⟩ := holdsK_own (enc := Hld.cells) hldK (by omega) h hl
    have hz : l.toArray.size = n := by simpa using hl
    have hc := AnyQ.slices_SortFunc laysHld 4 (fun _ => by kernel_rfl) (fun _ => by kernel_rfl) Hld.cells hldK hldK1 cmpH hldSwo 50 #[] g 0 cap l.toArray w
      (fun _ _ => by kernel_rfl) (hld_lays _ _ _ _) hH hlt (by omega)
    rw [hz] at hc
    refine hc.mono ?_
    rintro e w' ⟨rfl, d', q, os, hpm, hso, hw⟩
    have hS : SWK Hld.cells 4 w g 0 d' w' := ⟨q, os, hw⟩
    have hds : d'.size = n := by rw [hpm.1, hz]
    have hd : d' = (([] : List Hld) ++ (d'.toList ++ [])).toArray := by simp
    have hlen : d'.toList.length = n := by simpa using hds
    have hup : Up (ltOf cmpH) d'.toList := by
      refine up_of_sortedIn (x := []) (y := []) ?_
      rw [← hd, List.length_nil, Nat.zero_add, hlen]
      exact hso
    have hperm : d'.toList.Perm l := by
      have h3 := hpm.2.2
      have e1 : (d'.extract 0 n).toList = d'.toList := by
        simp
        exact List.take_of_length_le (by omega)
      have e2 : (l.toArray.extract 0 n).toList = l := by
        simp
        exact List.take_of_length_le (by omega)
      rw [e1, e2] at h3
      exact h3
    refine ⟨rfl, d'.toList, hperm, hup, ?_, below_swk hS hge hb⟩
    have := rd_of_holdsK (enc := Hld.cells) hldK (by omega) (holdsK_row (hS.holds hlt hH (hds.trans hz.symm))) (B := w'.heap.size) (hS.lt hlt)
    rw [hlen] at this
    exact this

end Go.Proofs.Ytcfijljagohmlaa
