/- ShelfHld WalkHldCmp in one text. -/
import Derived.Shelf.SlGeneric
import Derived.Shelf.SlSortCmp.WholeK
import Derived.Shelf.SlSortCmp.NoneTotal
import Derived.Test.YtcfijljagohmlaaGreatDoorProg
import Derived.Test.YtcfijljagohmlaaGreatDoorWalkHeld
import Derived.Test.YtcfijljagohmlaaGreatDoorMemKeys
import Derived.Test.YtcfijljagohmlaaGreatDoorMemSort
/- Contracts of the kit's shelf, laid at this program: written by the kit's lay-plain.mjs, numbers turned into names by shelf2tpl.py. -/
namespace Go.Proofs.YtcfijljagohmlaaGreatDoor
open Go.Shelf
def laysHld_ren : Go.Shelf.Ren := ⟨fun | 6 => 42 | 15 => 79 | 14 => 78 | 28 => 116 | 29 => 117 | 20 => 108 | 21 => 109 | 22 => 110 | 23 => 111 | 24 => 112 | 25 => 113 | 26 => 114 | 27 => 115 | 46 => 141 | 47 => 142 | 48 => 143 | 49 => 144 | 50 => 145 | 57 => 155 | n => n, fun | 22 => 25 | 24 => 29 | 25 => 85 | 3 => 3 | 39 => 127 | 0 => 0 | 53 => 137 | 55 => 122 | 4 => 4 | 46 => 158 | 45 => 157 | 50 => 153 | 5 => 5 | 9 => 9 | 66 => 193 | 70 => 196 | 76 => 218 | 77 => 219 | n => n, fun | n => n⟩
theorem laysHld : Go.Proofs.SlLaysF0.n6 Tryz.prog laysHld_ren := {
  mixed := by kernel_rfl
  f6 := ⟨Tryz.f42.name, by decide, Tryz.func42.trans (congrArg some (by kernel_rfl))⟩
  f14 := ⟨Tryz.f78.name, by decide, Tryz.func78.trans (congrArg some (by kernel_rfl))⟩
  f15 := Tryz.func79.trans (congrArg some (by kernel_rfl))
  f20 := ⟨Tryz.f108.name, by decide, Tryz.func108.trans (congrArg some (by kernel_rfl))⟩
  f21 := ⟨Tryz.f109.name, by decide, Tryz.func109.trans (congrArg some (by kernel_rfl))⟩
  f22 := ⟨Tryz.f110.name, by decide, Tryz.func110.trans (congrArg some (by kernel_rfl))⟩
  f23 := ⟨Tryz.f111.name, by decide, Tryz.func111.trans (congrArg some (by kernel_rfl))⟩
  f24 := ⟨Tryz.f112.name, by decide, Tryz.func112.trans (congrArg some (by kernel_rfl))⟩
  f25 := ⟨Tryz.f113.name, by decide, Tryz.func113.trans (congrArg some (by kernel_rfl))⟩
  f26 := ⟨Tryz.f114.name, by decide, Tryz.func114.trans (congrArg some (by kernel_rfl))⟩
  f27 := ⟨Tryz.f115.name, by decide, Tryz.func115.trans (congrArg some (by kernel_rfl))⟩
  f28 := Tryz.func116.trans (congrArg some (by kernel_rfl))
  f29 := Tryz.func117.trans (congrArg some (by kernel_rfl))
  f46 := ⟨Tryz.f141.name, by decide, Tryz.func141.trans (congrArg some (by kernel_rfl))⟩
  f47 := Tryz.func142.trans (congrArg some (by kernel_rfl))
  f48 := Tryz.func143.trans (congrArg some (by kernel_rfl))
  f49 := ⟨Tryz.f144.name, by decide, Tryz.func144.trans (congrArg some (by kernel_rfl))⟩
  f50 := ⟨Tryz.f145.name, by decide, Tryz.func145.trans (congrArg some (by kernel_rfl))⟩
  f57 := ⟨Tryz.f155.name, by decide, Tryz.func155.trans (congrArg some (by kernel_rfl))⟩
  t0 := Tryz.underlying0
  a0 := Tryz.isAgg0
  z0 := Tryz.sizeOf0
  v0 := Tryz.zeroValue0
  t3 := Tryz.underlying3
  a3 := Tryz.isAgg3
  z3 := Tryz.sizeOf3
  v3 := Tryz.zeroValue3
  t4 := Tryz.underlying4
  a4 := Tryz.isAgg4
  z4 := Tryz.sizeOf4
  v4 := Tryz.zeroValue4
  t5 := Tryz.underlying5
  a5 := Tryz.isAgg5
  z5 := Tryz.sizeOf5
  v5 := Tryz.zeroValue5
  t9 := Tryz.underlying9
  a9 := Tryz.isAgg9
  z9 := Tryz.sizeOf9
  v9 := Tryz.zeroValue9
  t22 := Tryz.underlying25
  a22 := Tryz.isAgg25
  z22 := Tryz.sizeOf25
  v22 := Tryz.zeroValue25
  t25 := Tryz.underlying85
  a25 := Tryz.isAgg85
  z25 := Tryz.sizeOf85
  v25 := Tryz.zeroValue85
  t39 := Tryz.underlying127
  a39 := Tryz.isAgg127
  z39 := Tryz.sizeOf127
  v39 := Tryz.zeroValue127
  t45 := Tryz.underlying157
  a45 := Tryz.isAgg157
  z45 := Tryz.sizeOf157
  v45 := Tryz.zeroValue157
  t46 := Tryz.underlying158
  a46 := Tryz.isAgg158
  z46 := Tryz.sizeOf158
  v46 := Tryz.zeroValue158
  t50 := Tryz.underlying153
  a50 := Tryz.isAgg153
  z50 := Tryz.sizeOf153
  v50 := Tryz.zeroValue153
  t53 := Tryz.underlying137
  a53 := Tryz.isAgg137
  z53 := Tryz.sizeOf137
  v53 := Tryz.zeroValue137
  t55 := Tryz.underlying122
  a55 := Tryz.isAgg122
  z55 := Tryz.sizeOf122
  v55 := Tryz.zeroValue122
  t66 := Tryz.underlying193
  a66 := Tryz.isAgg193
  z66 := Tryz.sizeOf193
  v66 := Tryz.zeroValue193
  t70 := Tryz.underlying196
  a70 := Tryz.isAgg196
  z70 := Tryz.sizeOf196
  v70 := Tryz.zeroValue196
  t76 := Tryz.underlying218
  a76 := Tryz.isAgg218
  z76 := Tryz.sizeOf218
  v76 := Tryz.zeroValue218
  t77 := Tryz.underlying219
  a77 := Tryz.isAgg219
  z77 := Tryz.sizeOf219
  v77 := Tryz.zeroValue219 }
end Go.Proofs.YtcfijljagohmlaaGreatDoor

/- The order of states, and their sort. -/
namespace Go.Proofs.YtcfijljagohmlaaGreatDoor
open Go.RowKit Go.Sort Go.Shelf Go.Lib

instance : Inhabited Hld := ⟨⟨0, ⟨#[]⟩, 0, 0⟩⟩
theorem hldLt {x y : Hld} : ltOf cmpH x y = hlt x y := rfl
theorem hldSwo : SWO (ltOf cmpH) where
  irrefl x := by rw [hldLt]; exact hlt_irrefl _
  trans x y z := by rw [hldLt, hldLt, hldLt]; exact hlt_trans
  ntrans x y z := by
    rw [hldLt, hldLt, hldLt]
    intro h1 h2
    rcases hxz : hlt x z
    · rfl
    · rcases hlt_tri x y with t | t | t
      · rw [t] at h1; cases h1
      · rw [hlt_same t, h2] at hxz; cases hxz
      · have := hlt_trans t hxz; rw [this] at h2; cases h2
set_option maxRecDepth 100000 in
set_option maxHeartbeats 2000000 in
theorem hldcmp_any (x y : Hld) (w : World) :
    Calls Tryz.prog 43 #[x.val, y.val] w fun e w' => e = .returned (.int .i64 (cmpH x y)) ∧ ∃ q os', w' = grow (w.drewN q) os' := by
  go_enter Tryz.func43, Tryz.ntmps43
  unfold Hld.val
  go_wp2
  obtain ⟨o1, ho1⟩ : ∃ o, o = Obj.cells #[.int .i64 x.node, .string x.key, .int .i64 x.a, .int .i64 x.b] 29 := ⟨_, rfl⟩
  obtain ⟨o2, ho2⟩ : ∃ o, o = Obj.cells #[.int .i64 y.node, .string y.key, .int .i64 y.a, .int .i64 y.b] 29 := ⟨_, rfl⟩
  have b1 : Blk ((w.alloc o1).alloc o2) w.heap.size 29 #[.int .i64 x.node, .string x.key, .int .i64 x.a, .int .i64 x.b] := by rw [ho1]; exact (Blk.new _ _ _).alloc _
  have b2 : Blk ((w.alloc o1).alloc o2) (w.heap.size + 1) 29 #[.int .i64 y.node, .string y.key, .int .i64 y.a, .int .i64 y.b] := by
    have := Blk.new (w.alloc o1) 29 #[.int .i64 y.node, .string y.key, .int .i64 y.a, .int .i64 y.b]
    rw [← ho2] at this; simpa using this
  have hgr : Hid ((w.alloc o1).alloc o2 = grow w (#[o1] ++ #[o2])) := Lib.hid (by rw [alloc_eq_grow, alloc_eq_grow, grow_grow])
  have hsz : ((w.alloc o1).alloc o2).heap.size = w.heap.size + 2 := by simp
  rw [← ho1, ← ho2]
  clear ho1 ho2
  generalize (w.alloc o1).alloc o2 = w1 at *
  have HS := Lib.hid hsz
  have c0 := b1.cell 0
  have c1 := b1.cell 1
  have e0 := b2.cell 0
  have e1 := b2.cell 1
  simp at c0 c1 e0 e1
  have l1 := b1.lt
  have l2 := b2.lt
  clear hsz
  have HO := Lib.hid (or_any w1.heap.size 2 (cmpI x.node y.node) (cmpS x.key y.key) (w1.alloc (.cells #[.int .i64 (cmpI x.node y.node), .int .i64 (cmpS x.key y.key)] 3)).drew (by simp) (by simp))
  go_region_held3 (fun w' => w'.cell? ⟨w.heap.size, 0, none⟩ = some (.int .i64 x.node) ∧ w'.cell? ⟨w.heap.size, 1, none⟩ = some (.string x.key) ∧ w'.cell? ⟨w.heap.size + 1, 0, none⟩ = some (.int .i64 y.node) ∧ w'.cell? ⟨w.heap.size + 1, 1, none⟩ = some (.string y.key)) (go_keep)
    ((first
      | (go_at_call 81; refine (cmpI_any _ _ _).mono ?_; rintro e w' ⟨rfl, rfl⟩)
      | (go_at_call 82; refine (cmpS_any _ _ _).mono ?_; rintro e w' ⟨rfl, rfl⟩)
      | (go_at_call 80; refine HO.out.mono ?_; rintro e w' ⟨rfl, rfl⟩)))
  go_wp2
  go_ret
  refine ⟨rfl, 1, (#[o1] ++ #[o2]) ++ #[.cells #[.int .i64 (cmpI x.node y.node), .int .i64 (cmpS x.key y.key)] 3], ?_⟩
  rw [hgr.out, alloc_eq_grow, grow_grow]
  rfl
theorem hld_lays (blk off size : Nat) (w : World) : CmpLays Tryz.prog 43 #[] Hld.cells 4 cmpH blk off size w :=
  fun _ _ _ _ x y => hldcmp_any x y _
theorem hldK (x : Hld) : x.cells.length = 4 := rfl
theorem hldK1 (x : Hld) : ∀ v ∈ x.cells, v.oneCell' = true := by
  intro v hv
  simp only [Hld.cells, List.mem_cons, List.not_mem_nil, or_false] at hv
  rcases hv with rfl | rfl | rfl | rfl <;> rfl
theorem hld_sort {w : World} {base n : Nat} {v : Value} {l : List Hld} (h : w.ownsRow base 29 4 v n (hldCells l)) (hl : l.length = n) (hn : n < 4611686018427387904) (hb : base ≤ w.heap.size) : ∃ A c, v = .slice A n c ∧ n ≤ c ∧ c ≤ maxLen ∧
    Calls Tryz.prog 42 #[.slice A n c, .func (.func 43) #[] #[]] w fun e w' =>
      e = .returned (.tuple #[]) ∧ ∃ s : List Hld, s.Perm l ∧ Up (ltOf cmpH) s ∧ Rd w' w'.heap.size 4 A n (hldCells s) ∧ Below base w w' := by
  rcases h.2 with ⟨rfl, rfl⟩ | ⟨g, cap, cur, rfl, _, _, hnc, hcm, _, _⟩
  · refine ⟨none, 0, rfl, Nat.le_refl _, Nat.zero_le _, (AnyF.slices_SortFunc_none laysHld none 0 _ w).mono ?_⟩
    rintro e w' ⟨rfl, rfl⟩
    obtain rfl := List.eq_nil_of_length_eq_zero hl
    exact ⟨rfl, [], .refl _, List.Pairwise.nil, Rd.nil_, Below.refl _ _⟩
  · refine ⟨_, cap, rfl, hnc, hcm, ?_⟩
    obtain ⟨hH, hlt, hge⟩ := holdsK_own (enc := Hld.cells) hldK (by omega) h hl
    have hz : l.toArray.size = n := by simpa using hl
    have hc := AnyQ.slices_SortFunc laysHld 4 (fun _ => by kernel_rfl) (fun _ => by kernel_rfl) Hld.cells hldK hldK1 cmpH hldSwo 43 #[] g 0 cap l.toArray w
      (fun _ _ => by kernel_rfl) (hld_lays _ _ _ _) hH hlt (by omega)
    rw [hz] at hc
    refine hc.mono ?_
    rintro e w' ⟨rfl, d', q, os, hpm, hso, hw⟩
    have hS : SWK Hld.cells 4 w g 0 d' w' := ⟨q, os, hw⟩
    have hds : d'.size = n := by rw [hpm.1, hz]
    have hd : d' = (([] : List Hld) ++ (d'.toList ++ [])).toArray := by simp
    have hlen : d'.toList.length = n := by simpa using hds
    have hup : Up (ltOf cmpH) d'.toList := by
      refine up_of_sortedIn (x := []) (y := []) ?_
      rw [← hd, List.length_nil, Nat.zero_add, hlen]
      exact hso
    have hperm : d'.toList.Perm l := by
      have h3 := hpm.2.2
      have e1 : (d'.extract 0 n).toList = d'.toList := by
        simp
        exact List.take_of_length_le (by omega)
      have e2 : (l.toArray.extract 0 n).toList = l := by
        simp
        exact List.take_of_length_le (by omega)
      rw [e1, e2] at h3
      exact h3
    refine ⟨rfl, d'.toList, hperm, hup, ?_, below_swk hS hge hb⟩
    have := rd_of_holdsK (enc := Hld.cells) hldK (by omega) (holdsK_row (hS.holds hlt hH (hds.trans hz.symm))) (B := w'.heap.size) (hS.lt hlt)
    rw [hlen] at this
    exact this

end Go.Proofs.YtcfijljagohmlaaGreatDoor
