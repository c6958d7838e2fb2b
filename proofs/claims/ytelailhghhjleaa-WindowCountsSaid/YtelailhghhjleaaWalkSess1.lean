/- The walks of window.time, window.Session's order, slices.Clone at records. -/
import Derived.Test.YtelailhghhjleaaProg
import Derived.Test.YtelailhghhjleaaPlainSess
import Derived.Test.YtelailhghhjleaaWalkCmp
import Derived.Test.YtelailhghhjleaaWalkCheck
import Derived.Test.YtelailhghhjleaaMemSort
import Derived.Lib.SliceRun
namespace Go.Proofs.Ytelailhghhjleaa
open Go.RowKit Go.Sort Go.Shelf Go.Lib

theorem el_recC : Elt Try.prog 22 29 (.agg #[.string ByteArray.empty, .int .i64 0, .int .i64 0]) 3 32 := ⟨Try.underlying22, by kernel_rfl, rfl, by omega, by omega⟩
theorem recCells_one (l : List Rec) : ∀ u ∈ recCells l, u.oneCell' = true := by
  intro u hu
  obtain ⟨r, _, hr⟩ := List.mem_flatMap.1 hu
  simp only [Rec.cells, List.mem_cons, List.not_mem_nil, or_false] at hr
  rcases hr with rfl | rfl | rfl <;> rfl

set_option maxRecDepth 100000 in
set_option maxHeartbeats 1000000 in
theorem time_any (x : Int) (w : World) :
    Calls Try.prog 25 #[.int .i64 x] w fun e w' => e = .returned (.bool (decide (1 ≤ x) && decide (x ≤ 1000000))) ∧ w = w' := by
  by_cases h2 : 1 ≤ x
  · by_cases h3 : x ≤ 1000000
    · have e : (decide (1 ≤ x) && decide (x ≤ 1000000)) = true := by simp [h2, h3]
      rw [e]; clear e
      go_enter Try.func25, Try.ntmps25
      go_wp2
      go_ret
      exact ⟨by simp, rfl⟩
    · have e : (decide (1 ≤ x) && decide (x ≤ 1000000)) = false := by simp [h3]
      rw [e]; clear e
      go_enter Try.func25, Try.ntmps25
      go_wp2
      go_ret
      exact ⟨by simp, rfl⟩
  · have e : (decide (1 ≤ x) && decide (x ≤ 1000000)) = false := by simp [h2]
    rw [e]; clear e
    go_enter Try.func25, Try.ntmps25
    go_wp2
    go_ret
    exact ⟨by simp, rfl⟩

theorem grow_drew (w : World) (os : Array Obj) : (grow w os).drew = grow (w.drewN 1) os := rfl
set_option maxRecDepth 100000 in
set_option maxHeartbeats 2000000 in
theorem sesscmp_any (x y : Rec) (w : World) :
    Calls Try.prog 28 #[x.val, y.val] w fun e w' => e = .returned (.int .i64 (recCf x y)) ∧ ∃ q os', w' = grow (w.drewN q) os' := by
  go_enter Try.func28, Try.ntmps28
  unfold Rec.val
  go_wp2
  obtain ⟨o1, ho1⟩ : ∃ o, o = Obj.cells #[.string x.key, .int .i64 x.num, .int .i64 x.time] 29 := ⟨_, rfl⟩
  obtain ⟨o2, ho2⟩ : ∃ o, o = Obj.cells #[.string y.key, .int .i64 y.num, .int .i64 y.time] 29 := ⟨_, rfl⟩
  have b1 : Blk ((w.alloc o1).alloc o2) w.heap.size 29 #[.string x.key, .int .i64 x.num, .int .i64 x.time] := by rw [ho1]; exact (Blk.new _ _ _).alloc _
  have b2 : Blk ((w.alloc o1).alloc o2) (w.heap.size + 1) 29 #[.string y.key, .int .i64 y.num, .int .i64 y.time] := by
    have := Blk.new (w.alloc o1) 29 #[.string y.key, .int .i64 y.num, .int .i64 y.time]
    rw [← ho2] at this; simpa using this
  have hgr : Hid ((w.alloc o1).alloc o2 = grow w (#[o1] ++ #[o2])) := Lib.hid (by rw [alloc_eq_grow, alloc_eq_grow, grow_grow])
  have hsz : ((w.alloc o1).alloc o2).heap.size = w.heap.size + 2 := by simp
  rw [← ho1, ← ho2]
  clear ho1 ho2
  generalize (w.alloc o1).alloc o2 = w1 at *
  have HS := Lib.hid hsz
  have c0 := b1.cell 0
  have c2 := b1.cell 2
  have e0 := b2.cell 0
  have e2 := b2.cell 2
  simp at c0 c2 e0 e2
  have l1 := b1.lt
  have l2 := b2.lt
  clear hsz
  have HO := Lib.hid (or_any w1.heap.size 2 (cmpS x.key y.key) (cmpI x.time y.time) (w1.alloc (.cells #[.int .i64 (cmpS x.key y.key), .int .i64 (cmpI x.time y.time)] 3)).drew (by simp) (by simp))
  go_region_held3 (fun w' => w'.cell? ⟨w.heap.size, 0, none⟩ = some (.string x.key) ∧ w'.cell? ⟨w.heap.size, 2, none⟩ = some (.int .i64 x.time) ∧ w'.cell? ⟨w.heap.size + 1, 0, none⟩ = some (.string y.key) ∧ w'.cell? ⟨w.heap.size + 1, 2, none⟩ = some (.int .i64 y.time)) (go_keep)
    ((first
      | (go_at_call 31; refine (cmpI_any _ _ _).mono ?_; rintro e w' ⟨rfl, rfl⟩)
      | (go_at_call 30; refine (cmpS_any _ _ _).mono ?_; rintro e w' ⟨rfl, rfl⟩)
      | (go_at_call 29; refine HO.out.mono ?_; rintro e w' ⟨rfl, rfl⟩)))
  go_wp2
  go_ret
  refine ⟨rfl, 1, (#[o1] ++ #[o2]) ++ #[.cells #[.int .i64 (cmpS x.key y.key), .int .i64 (cmpI x.time y.time)] 3], ?_⟩
  rw [hgr.out, alloc_eq_grow, grow_grow]
  rfl
set_option maxRecDepth 100000 in
set_option maxHeartbeats 1000000 in
theorem cloneK_any (A : Option Addr) (c B : Nat) (l : List Rec) (w : World) (hr : Rd w B 3 A l.length (recCells l)) (hB : B ≤ w.heap.size) (hl : l.length ≤ 4398046511104) :
    Calls Try.prog 26 #[.slice A l.length c] w fun e w' => ∃ v, e = .returned v ∧ w'.ownsRow w.heap.size 29 3 v l.length (recCells l) ∧ Below w.heap.size w w' := by
  obtain ⟨n, hn⟩ : ∃ n, n = l.length := ⟨_, rfl⟩
  rw [← hn] at hr hl ⊢
  rcases A with _ | ad
  · have hn0 : n = 0 := by
      rcases Nat.eq_zero_or_pos n with h | h
      · exact h
      · obtain ⟨_, h, _⟩ := hr.2 h; cases h
    subst hn0
    have hl0 : l = [] := List.eq_nil_of_length_eq_zero hn.symm
    subst hl0
    clear hn
    have q := fun W => Lib.run_eql_slice_nil (P := Try.prog) W 22 29 none 0 c 0 0 Try.underlying22
    go_enter Try.func26, Try.ntmps26
    go_wp2
    go_ret
    exact ⟨_, rfl, World.ownsRow_nil _ _ _ _, Below.refl _ _⟩
  · clear hn
    have hb := (Below.refl w.heap.size w).alloc (Nat.le_refl _) (.cells #[] 29)
    have hown : (w.alloc (.cells #[] 29)).ownsRow w.heap.size 29 3 (.slice (some ⟨w.heap.size, 0, none⟩) 0 0) 0 [] := ⟨rfl, .inr ⟨w.heap.size, 0, _, rfl, Nat.le_refl _, heap_alloc_new w _, Nat.le_refl _, Nat.zero_le _, rfl, rfl⟩⟩
    have q := fun W => Lib.run_eql_slice_nil (P := Try.prog) W 22 29 (some ad) n c 0 0 Try.underlying22
    have hr2 := hr.alloc hB (.cells #[] 29)
    go_enter Try.func26, Try.ntmps26
    go_wp2_with (first
      | (with_reducible show wpList _ _ _ (⟨some 7, _, _, _, _, _⟩ :: _) _ _; go_must (refine wpList_rd (.tmp 5) (.tmp 6) el_recC rfl rfl hown rfl hr2 rfl (recCells_one _) (by omega) (by simp) ?_); intro v1 w1 hown1 hb1 hg1 ha1))
    go_ret
    exact ⟨v1, rfl, by simpa using hown1, hb.trans hb1⟩
end Go.Proofs.Ytelailhghhjleaa
