/- WalkDelE MemLsm WalkIns in one text. -/
import Derived.Test.YtcfijljagohmlaaGreatDoorWalkMix
import Derived.Deep.CutBlock
import Derived.Deep.CutRange
import Derived.Test.YtcfijljagohmlaaGreatDoorMapL
import Derived.Test.YtcfijljagohmlaaGreatDoorWalkTMerge
import Derived.Test.YtcfijljagohmlaaGreatDoorLsmPlain
import Derived.Lib.AppendZerosOnto
import Derived.Lib.Overlaps
import Derived.Laws.IdiomCopy
import Derived.Deep.RegionLaw
/- slices.IndexFunc, slices.ContainsFunc and slices.DeleteFunc at entries, whatever the predicate. -/
namespace Go.Proofs.YtcfijljagohmlaaGreatDoor
open Go.RowKit

/-- How many there are ahead of the first one that is struck. -/
def preP (p : Ent → Bool) (l : List Ent) : Nat := (l.takeWhile fun x => !p x).length
theorem preP_le (p : Ent → Bool) (l : List Ent) : preP p l ≤ l.length := by
  rw [preP]
  induction l with
  | nil => exact Nat.le_refl _
  | cons x xs ih => rw [List.takeWhile_cons]; split <;> simp; exact ih
theorem preP_hit {p : Ent → Bool} : ∀ {l : List Ent} {k : Nat} {x : Ent}, l[k]? = some x → k ≤ preP p l → p x = true → preP p l = k := by
  intro l
  induction l with
  | nil => intro k x h; simp at h
  | cons y ys ih =>
    intro k x h hk hp
    unfold preP at hk ⊢
    rw [List.takeWhile_cons] at hk ⊢
    cases k with
    | zero =>
      have : y = x := by simpa using h
      rw [this, hp]; rfl
    | succ k =>
      rcases hy : p y
      · rw [hy] at hk
        simp at hk ⊢
        exact ih (by simpa using h) (by unfold preP; simpa using hk) hp
      · rw [hy] at hk; simp at hk
theorem preP_miss {p : Ent → Bool} : ∀ {l : List Ent} {k : Nat} {x : Ent}, l[k]? = some x → k ≤ preP p l → p x = false → k + 1 ≤ preP p l := by
  intro l
  induction l with
  | nil => intro k x h; simp at h
  | cons y ys ih =>
    intro k x h hk hp
    unfold preP at hk ⊢
    rw [List.takeWhile_cons] at hk ⊢
    cases k with
    | zero =>
      have : y = x := by simpa using h
      rw [this, hp]; simp
    | succ k =>
      rcases hy : p y
      · rw [hy] at hk
        simp at hk ⊢
        exact ih (by simpa using h) (by unfold preP; simpa using hk) hp
      · rw [hy] at hk; simp at hk
theorem preP_take {p : Ent → Bool} : ∀ {l : List Ent} {k : Nat}, k ≤ preP p l → (l.take k).filter (fun x => !p x) = l.take k := by
  intro l
  induction l with
  | nil => intro k _; simp
  | cons y ys ih =>
    intro k hk
    cases k with
    | zero => rfl
    | succ k =>
      unfold preP at hk
      rw [List.takeWhile_cons] at hk
      rcases hy : p y
      · rw [hy] at hk
        simp at hk
        rw [List.take_succ_cons, List.filter_cons, hy, if_pos (by rfl), ih (by unfold preP; simpa using hk)]
      · rw [hy] at hk; simp at hk
theorem preP_any {p : Ent → Bool} {l : List Ent} : l.any p = decide (preP p l < l.length) := by
  induction l with
  | nil => rfl
  | cons y ys ih =>
    rw [List.any_cons, ih, preP, preP, List.takeWhile_cons]
    rcases hy : p y <;> simp
/-- What IndexFunc answers. -/
def idxR (p : Ent → Bool) (l : List Ent) (n : Nat) : Int := if preP p l = n then -1 else (preP p l : Nat)
/-- What is asked of a predicate: it may lay blocks of its own. -/
def PredE (g : FuncId) (lb : Array Value) (p : Ent → Bool) (I : World → Prop) : Prop :=
  ∀ (W : World) (x : Ent), I W → Calls Tryz.prog g (#[x.val] ++ lb) W fun e w' => e = .returned (.bool (p x)) ∧ Below W.heap.size W w'
set_option maxRecDepth 100000 in
set_option maxHeartbeats 2000000 in
theorem idx_any (fn : FuncId) (lb : Array Value) (p : Ent → Bool) (I : World → Prop) (eg : ∀ args w, (callFunc fn args).run Tryz.prog w = .ok (.enter fn args) w) (hp : PredE fn lb p I) (A : Option Addr) (c n B : Nat) (l : List Ent) (w : World) (hI : ∀ W, Below w.heap.size w W → I W)
    (hr : Rd w B 3 A n (entCells l)) (hln : l.length = n) (hB : B ≤ w.heap.size) (hn : n ≤ 140737488355328) :
    Calls Tryz.prog 105 #[.slice A n c, .func (.func fn) #[] lb] w fun e w' => e = .returned (.int .i64 (idxR p l n)) ∧ Below w.heap.size w w' := by
  have HLN := Lib.hid hln
  have HP := Lib.hid hp
  have HI := Lib.hid hI
  clear hln hp hI
  go_enter Tryz.func105, Tryz.ntmps105
  go_wp2_with fail
  go_loopw [8] (fun x wr => ∃ k : Nat, k ≤ n ∧ x = .int .i64 k ∧ Hid (k ≤ preP p l) ∧ Below w.heap.size w wr) (fun x _ => n - (intOf x).toNat)
  case atStart => exact ⟨0, Nat.zero_le _, rfl, Lib.hid (Nat.zero_le _), Below.refl _ _⟩
  obtain ⟨k, hk, rfl, HK, hbel⟩ := hrel
  by_cases hlt : k < n
  · obtain ⟨ad, x, rfl, hbk, hx, g0, g1, g2⟩ := hr.ent_ hlt HLN.out hbel hB
    have hk0 : (0 : Int) ≤ (k : Int) := by omega
    have hk1 : (k : Int) < (n : Int) := by omega
    have hcall := HP.out wr x (HI.out wr hbel)
    unfold Ent.val at hcall
    rcases hpx : p x
    · have HM := Lib.hid (preP_miss hx HK.out hpx)
      rw [hpx] at hcall
      clear hx hpx
      go_wp2_with (go_at_fn fn; refine hcall.mono ?_; rintro e w2 ⟨rfl, hb2⟩)
      go_roundw
      case rel => exact ⟨k + 1, hlt, by go_num, HM, hbel.trans (hb2.mono hbel.size)⟩
      case measure => simp [intOf]; omega
    · have HM : Hid (idxR p l n = (k : Int)) := Lib.hid (by rw [idxR, preP_hit hx HK.out hpx, if_neg (by omega)])
      rw [hpx] at hcall
      clear hx hpx
      go_wp2_with (go_at_fn fn; refine hcall.mono ?_; rintro e w2 ⟨rfl, hb2⟩)
      go_ret
      exact ⟨by rw [HM.out]; rfl, hbel.trans (hb2.mono hbel.size)⟩
  · obtain rfl : k = n := by omega
    have HM : Hid (idxR p l k = -1) := Lib.hid (by have := preP_le p l; have := HLN.out; have := HK.out; rw [idxR, if_pos (by omega)])
    go_wp2_with fail
    go_ret
    exact ⟨by rw [HM.out]; rfl, hbel⟩
set_option maxRecDepth 100000 in
set_option maxHeartbeats 2000000 in
theorem has_any (fn : FuncId) (lb : Array Value) (p : Ent → Bool) (I : World → Prop) (eg : ∀ args w, (callFunc fn args).run Tryz.prog w = .ok (.enter fn args) w) (hp : PredE fn lb p I) (A : Option Addr) (c n B : Nat) (l : List Ent) (w : World) (hI : ∀ W, Below w.heap.size w W → I W)
    (hr : Rd w B 3 A n (entCells l)) (hln : l.length = n) (hB : B ≤ w.heap.size) (hn : n ≤ 140737488355328) :
    Calls Tryz.prog 96 #[.slice A n c, .func (.func fn) #[] lb] w fun e w' => e = .returned (.bool (l.any p)) ∧ Below w.heap.size w w' := by
  have h := idx_any fn lb p I eg hp A c n B l w hI hr hln hB hn
  have hle := preP_le p l
  rw [preP_any]
  unfold idxR at h
  obtain ⟨q, hq⟩ : ∃ q, q = preP p l := ⟨_, rfl⟩
  rw [← hq] at h hle ⊢
  clear hq hr
  have HLN := Lib.hid hln
  by_cases hqn : q = n
  · rw [if_pos hqn] at h
    have HQ : Hid (decide (q < l.length) = false) := Lib.hid (by rw [HLN.out]; exact decide_eq_false (by omega))
    go_enter Tryz.func96, Tryz.ntmps96
    go_wp2_with (go_at_call 105; go_must (refine h.mono ?_); rintro e w2 ⟨rfl, hb2⟩)
    go_ret
    exact ⟨by rw [HQ.out]; rfl, hb2⟩
  · rw [if_neg hqn] at h
    have HQ : Hid (decide (q < l.length) = true) := Lib.hid (by rw [HLN.out]; exact decide_eq_true (by omega))
    have hq0 : (0 : Int) ≤ (q : Int) := by omega
    go_enter Tryz.func96, Tryz.ntmps96
    go_wp2_with (go_at_call 105; go_must (refine h.mono ?_); rintro e w2 ⟨rfl, hb2⟩)
    go_ret
    exact ⟨by rw [HQ.out]; simp, hb2⟩
/-- Where some are kept: how many of the first j. -/
def kept (p : Ent → Bool) (l : List Ent) (j : Nat) : List Ent := (l.take j).filter fun x => !p x
theorem kept_next {p : Ent → Bool} {l : List Ent} {j : Nat} {x : Ent} (h : l[j]? = some x) : kept p l (j + 1) = kept p l j ++ if p x = true then [] else [x] := by
  rw [kept, kept, List.take_add_one, h, List.filter_append, Option.toList_some, List.filter_cons, List.filter_nil]
  rcases p x <;> rfl
theorem kept_le (p : Ent → Bool) (l : List Ent) (j : Nat) : (kept p l j).length ≤ j := Nat.le_trans (List.length_filter_le _ _) (by simp; omega)
theorem run_clear_ents (w : World) (ty : TypeId) (g o n c : Nat) (hn : 0 < n) (h : w.there g o (n * 3)) :
    ∃ vs : List Value, vs.length = n * 3 ∧ (Builtin.clear_ #[57] ty #[.slice (some ⟨g, o, none⟩) n c]).run Tryz.prog w = .ok (.tuple #[]) (w.setCells g o vs) := by
  have hz : (zeroValue 67).run Tryz.prog w = .ok (.agg #[.string ByteArray.empty, .string ByteArray.empty, .bool false]) w := zent w
  have hl : (Builtin.zeroCells #[.string ByteArray.empty, .string ByteArray.empty, .bool false] n).toList.length = n * 3 := by simp [Builtin.zeroCells]
  have hone : ∀ v ∈ (Builtin.zeroCells #[.string ByteArray.empty, .string ByteArray.empty, .bool false] n).toList, v.oneCell' = true := by
    intro v hv
    simp only [Builtin.zeroCells, Array.toList_map, List.mem_map] at hv
    obtain ⟨i, _, rfl⟩ := hv
    have h3 : i % 3 = 0 ∨ i % 3 = 1 ∨ i % 3 = 2 := by omega
    rcases h3 with h3 | h3 | h3 <;> simp [h3, Value.oneCell']
  refine ⟨_, hl, ?_⟩
  have hst := run_storeCells_cells (P := Tryz.prog) g o (Builtin.zeroCells #[.string ByteArray.empty, .string ByteArray.empty, .bool false] n).toList 0 w (fun j hj => by simpa using (h j (by omega)).1) (fun j hj => by simpa using (h j (by omega)).2) hone
  simp only [Nat.add_zero] at hst
  obtain ⟨m, rfl⟩ : ∃ m, n = m + 1 := ⟨n - 1, by omega⟩
  simp [Builtin.clear_, run_underlying Tryz.underlying57, hz, Value.cells, hst]
set_option maxRecDepth 100000 in
set_option maxHeartbeats 4000000 in
theorem dele_any (fn : FuncId) (p : Ent → Bool) (eg : ∀ args w, (callFunc fn args).run Tryz.prog w = .ok (.enter fn args) w) (hp : PredE fn #[] p fun _ => True) (v0 : Value) (n base : Nat) (l : List Ent) (w : World)
    (ho : w.ownsRow base 67 3 v0 n (entCells l)) (hln : l.length = n) (hn : n ≤ 1000000) :
    Calls Tryz.prog 67 #[v0, .func (.func fn) #[] #[]] w fun e w' => ∃ v, e = .returned v ∧ w'.ownsRow base 67 3 v (l.filter fun x => !p x).length (entCells (l.filter fun x => !p x)) ∧ w.grownBy w' v0.ownBlock := by
  obtain ⟨A, c, rfl, hnc, hcm, _, hr⟩ := own_form ho
  have hidx := idx_any fn #[] p (fun _ => True) eg hp A c n w.heap.size l w (fun _ _ => trivial) hr hln (Nat.le_refl _) (by omega)
  have hle := preP_le p l
  by_cases hq : preP p l = n
  · rw [idxR, if_pos hq] at hidx
    have HR : Hid ((l.filter fun x => !p x) = l) := Lib.hid (by have := preP_take (p := p) (l := l) (k := l.length) (by omega); rwa [List.take_length] at this)
    have HLN := Lib.hid hln
    have HO := Lib.hid ho
    clear hr ho hln hq hle
    go_enter Tryz.func67, Tryz.ntmps67
    go_wp2_with (go_at_call 105; go_must (refine hidx.mono ?_); rintro e w2 ⟨rfl, hb2⟩)
    go_ret
    exact ⟨_, rfl, by rw [HR.out, HLN.out]; exact own_up HO.out hb2, only_of_below hb2 _⟩
  · rw [idxR, if_neg hq] at hidx
    have hlt0 : preP p l < n := by omega
    rcases ho.2 with ⟨e0, e1⟩ | ⟨g, cap, cur, e0, _⟩
    · omega
    · injection e0 with e1 e2 e3
      subst e1
      subst e3
      obtain ⟨hsh, hbg, _, _⟩ := shape_own ho
      obtain ⟨adr, he, hab, hcell⟩ := hr.2 (by omega)
      injection he with he
      subst he
      have hat0 : ∀ k x, l[k]? = some x → EntAt w g k x := fun k x hx => by
        obtain ⟨e0, e1, e2⟩ := entCells_at hx
        have h0 := hcell _ _ e0
        have h1 := hcell _ _ e1
        have h2 := hcell _ _ e2
        have ha : ∀ j, (Addr.add ⟨g, 0, none⟩ j : Addr) = ⟨g, j, none⟩ := fun j => by
          unfold Addr.add
          split
          · rename_i h0; rw [h0]
          · simp
        rw [ha] at h0 h1 h2
        exact ⟨h0, h1, h2⟩
      obtain ⟨i0, hi0⟩ : ∃ i0, i0 = preP p l := ⟨_, rfl⟩
      have hk0 : kept p l i0 = l.take i0 := preP_take (by omega)
      have hk1 : kept p l (i0 + 1) = l.take i0 := by
        have hx : l[i0]? = some l[i0] := List.getElem?_eq_getElem (by omega)
        rw [kept_next hx, hk0]
        rcases hpx : p l[i0]
        · have := preP_miss (p := p) hx (by omega) hpx; omega
        · simp
      have HK1 := Lib.hid hk1
      rw [← hi0] at hidx hlt0
      have HLN := Lib.hid hln
      have HAT := Lib.hid hat0
      have HP := Lib.hid hp
      clear hr ho hln hq hle hat0 hcell hab hi0 hk0 hk1 hp e2
      go_enter Tryz.func67, Tryz.ntmps67
      have hi00 : ((i0 : Int) == -1) = false := by rw [beq_eq_false_iff_ne]; omega
      go_wp2_with (go_at_call 105; go_must (refine hidx.mono ?_); rintro e w2 ⟨rfl, hb2⟩)
      go_loopw [5, 6] (fun x y wr => ∃ j : Nat, i0 < j ∧ j ≤ n ∧ x = .int .i64 (kept p l j).length ∧ y = .int .i64 j ∧ (kept p l j).length < j ∧ ShapeR wr g 67 (c * 3) ∧ Hid (∀ k x, (kept p l j)[k]? = some x → EntAt wr g k x) ∧ Hid (∀ k x, j ≤ k → l[k]? = some x → EntAt wr g k x) ∧ w.grownBy wr (some g)) (fun _ y _ => n - (intOf y).toNat)
      case atStart =>
        have hg2 : w2.heap[g]? = w.heap[g]? := hb2.block g hsh.lt
        have hl0 : (kept p l (i0 + 1)).length = i0 := by rw [HK1.out, List.length_take, HLN.out]; omega
        refine ⟨i0 + 1, by omega, by omega, by rw [hl0], by go_num, by rw [hl0]; omega, hsh.same hg2, Lib.hid (fun k x hx => ?_), Lib.hid (fun k x _ hx => (HAT.out k x hx).same hg2), only_of_below hb2 _⟩
        rw [HK1.out, List.getElem?_take] at hx
        split at hx
        · exact (HAT.out k x hx).same hg2
        · cases hx
      clear hb2 hidx hsh
      obtain ⟨j, hij, hjn, rfl, rfl, hkj, hsh, HA, HB, hgr⟩ := hrel
      obtain ⟨i, hi⟩ : ∃ i, i = (kept p l j).length := ⟨_, rfl⟩
      rw [← hi] at hkj ⊢
      have HI := Lib.hid hi
      clear hi
      have hgl := hsh.lt
      by_cases hlt : j < n
      · obtain ⟨x, hx⟩ : ∃ x, l[j]? = some x := ⟨_, List.getElem?_eq_getElem (by rw [HLN.out]; exact hlt)⟩
        obtain ⟨g0, g1, g2⟩ := HB.out j x (Nat.le_refl _) hx
        have HN := Lib.hid (kept_next (p := p) hx)
        have hj0 : (0 : Int) ≤ (j : Int) := by omega
        have hj1 : (j : Int) < (n : Int) := by omega
        have hi0' : (0 : Int) ≤ (i : Int) := by omega
        have hi1' : (i : Int) < (n : Int) := by omega
        have hbx := Blk.new wr 67 #[.string x.key, .string x.value, .bool x.dead]
        have hshA := hsh.same (Below.heap_alloc wr (.cells #[.string x.key, .string x.value, .bool x.dead] 67) g hgl)
        have hgrA := only_alloc hgr (.cells #[.string x.key, .string x.value, .bool x.dead] 67)
        have hcall := HP.out (wr.alloc (.cells #[.string x.key, .string x.value, .bool x.dead] 67)) x trivial
        unfold Ent.val at hcall
        rcases hpx : p x
        · rw [hpx] at hcall HN
          have HN2 : Hid (kept p l (j + 1) = kept p l j ++ [x]) := Lib.hid (by rw [HN.out]; rfl)
          have HX := Lib.hid hx
          clear hx hpx HN
          go_upto_region 9 with (go_at_fn fn; go_must (refine hcall.mono ?_); rintro e w3 ⟨rfl, hb3⟩)
          have hbx3 := hbx.up hb3
          have hsh3 := hshA.same (hb3.block g hshA.lt)
          have hgr3 := only_trans hgrA (only_of_below hb3 _)
          have z0 := hbx3.cell 0
          have z1 := hbx3.cell 1
          have z2 := hbx3.cell 2
          simp at z0 z1 z2
          obtain ⟨u0, k0⟩ := Option.isSome_iff_exists.1 (hsh3.some_ (j := i * 3) (by omega))
          obtain ⟨u1, k1⟩ := Option.isSome_iff_exists.1 (hsh3.some_ (j := i * 3 + 1) (by omega))
          obtain ⟨u2, k2⟩ := Option.isSome_iff_exists.1 (hsh3.some_ (j := i * 3 + 2) (by omega))
          have f0 := hsh3.frozen (i * 3)
          have f1 := hsh3.frozen (i * 3 + 1)
          have f2 := hsh3.frozen (i * 3 + 2)
          go_wp2_with fail
          have hl3 : (kept p l (j + 1)).length = i + 1 := by rw [HN2.out, List.length_append, ← HI.out]; rfl
          have hsm : w3.heap[g]? = wr.heap[g]? := (hb3.block g hshA.lt).trans (Below.heap_alloc wr _ g hgl)
          go_roundw
          case rel =>
            refine ⟨j + 1, by omega, by omega, by rw [hl3]; go_num, by go_num, by rw [hl3]; omega, hsh3.setMany [.string x.key, .string x.value, .bool x.dead] (i * 3) _, Lib.hid (fun k y hy => ?_), Lib.hid (fun k y hk hy => ((HB.out k y (by omega) hy).same hsm).apart (by omega) _ _ _), only_trans hgr3 (setCells_grown g [.string x.key, .string x.value, .bool x.dead] (i * 3) _)⟩
            rw [HN2.out] at hy
            rcases Nat.lt_trichotomy k i with hki | hki | hki
            · rw [List.getElem?_append_left (by rw [← HI.out]; exact hki)] at hy
              exact ((HA.out k y hy).same hsm).apart (by omega) _ _ _
            · subst hki
              rw [HI.out, List.getElem?_append_right (Nat.le_refl _), Nat.sub_self] at hy
              obtain rfl : x = y := by simpa using hy
              exact EntAt.put hsh3 (by omega) x
            · have := (List.getElem?_eq_some_iff.1 hy).1
              rw [List.length_append, ← HI.out] at this
              simp at this
              omega
          case measure => simp [intOf]; omega
        · rw [hpx] at hcall HN
          have HN2 : Hid (kept p l (j + 1) = kept p l j) := Lib.hid (by rw [HN.out]; simp)
          clear hx hpx HN
          go_wp2_with (go_at_fn fn; go_must (refine hcall.mono ?_); rintro e w3 ⟨rfl, hb3⟩)
          have hsm : w3.heap[g]? = wr.heap[g]? := (hb3.block g hshA.lt).trans (Below.heap_alloc wr _ g hgl)
          go_roundw
          case rel => exact ⟨j + 1, by omega, by omega, by rw [HN2.out, ← HI.out], by go_num, by rw [HN2.out, ← HI.out]; omega, hsh.same hsm, Lib.hid (fun k y hy => by rw [HN2.out] at hy; exact (HA.out k y hy).same hsm), Lib.hid (fun k y hk hy => (HB.out k y (by omega) hy).same hsm), only_trans hgrA (only_of_below hb3 _)⟩
          case measure => simp [intOf]; omega
      · obtain rfl : j = n := by omega
        have HK : Hid (kept p l j = l.filter fun x => !p x) := Lib.hid (by rw [kept, ← HLN.out, List.take_length])
        obtain ⟨vs, _, hcl⟩ := run_clear_ents wr 0 g (i * 3) (j - i) (c - i) (by omega) (hsh.there (by omega))
        have hi0' : (0 : Int) ≤ (i : Int) := by omega
        have hij' : (i : Int) ≤ (j : Int) := by omega
        have hic' : (i : Int) < (c : Int) := by omega
        have HIJ := Lib.hid hkj
        go_wp2_with fail
        go_ret
        refine ⟨_, rfl, ?_, only_trans hgr (setCells_grown g _ _ _)⟩
        rw [← HK.out, ← HI.out]
        refine own_shape (hsh.setMany _ _ _) hbg (by omega) hcm (by rw [entCells_length, ← HI.out]) (entCells_of fun k x hx => ?_)
        have hki : k < i := by rw [HI.out]; exact (List.getElem?_eq_some_iff.1 hx).1
        obtain ⟨c0, c1, c2⟩ := HA.out k x hx
        have hout : ∀ q, q < 3 → (wr.setCells g (i * 3) vs).cell? ⟨g, k * 3 + q, none⟩ = wr.cell? ⟨g, k * 3 + q, none⟩ := fun q hq =>
          World.cell?_setCells_out g vs (i * 3) wr ⟨g, k * 3 + q, none⟩ (fun _ _ => by left; show k * 3 + q < i * 3; omega)
        exact ⟨(hout 0 (by omega)).trans c0, (hout 1 (by omega)).trans c1, (hout 2 (by omega)).trans c2⟩
end Go.Proofs.YtcfijljagohmlaaGreatDoor

/- A store of keys, and its look-alike, in memory; what of memory is fixed. -/
namespace Go.Proofs.YtcfijljagohmlaaGreatDoor
open Go.RowKit Go.Maps Go.WideMaps

/-- Blocks of some kinds have not turned. -/
structure KeepF (f : Obj → Bool) (w w' : World) : Prop where
  os : w'.os = w.os
  tape : w'.tape = w.tape
  output : w'.output = w.output
  size : w.heap.size ≤ w'.heap.size
  block : ∀ (k : Nat) (o : Obj), w.heap[k]? = some o → f o = true → w'.heap[k]? = some o
section
variable {f : Obj → Bool} {a b c w w' : World}
theorem KeepF.refl (f : Obj → Bool) (w : World) : KeepF f w w := ⟨rfl, rfl, rfl, Nat.le_refl _, fun _ _ h _ => h⟩
theorem KeepF.trans (h : KeepF f a b) (k : KeepF f b c) : KeepF f a c :=
  ⟨k.os.trans h.os, k.tape.trans h.tape, k.output.trans h.output, Nat.le_trans h.size k.size, fun i o hi ho => k.block i o (h.block i o hi ho) ho⟩
theorem keepF_below (h : Below w.heap.size w w') : KeepF f w w' := ⟨h.os, h.tape, h.output, h.size, fun k _ hk _ => (h.block k (heap_lt hk)).trans hk⟩
theorem keepF_grown {row : Option Nat} (h : w.grownBy w' row) (hf : ∀ (k : Nat) (o : Obj), row = some k → w.heap[k]? = some o → f o = false) : KeepF f w w' :=
  ⟨h.os, h.tape, h.output, h.size, fun k o hk ho => (h.block k (heap_lt hk) fun e => by rw [hf k o e.symm hk] at ho; cases ho).trans hk⟩
theorem KeepF.up (h : KeepF f a w) (hb : Below w.heap.size w w') : KeepF f a w' := h.trans (keepF_below hb)
theorem KeepF.set_ (h : KeepF f a w) {p : Addr} (hp : ∀ o, w.heap[p.block]? = some o → f o = false) (u : Value) : KeepF f a (w.setCell p u) :=
  ⟨h.os, h.tape, h.output, by simpa [World.setCell] using h.size, fun k o hk ho => by
    have h1 := h.block k o hk ho
    rw [Below.heap_setCell w p u k (fun e => by rw [hp o (e ▸ h1)] at ho; cases ho)]
    exact h1⟩
theorem KeepF.drew (h : KeepF f a w) : KeepF f a w.drew := ⟨h.os, h.tape, h.output, h.size, h.block⟩
theorem KeepF.drewN (h : KeepF f a w) (n : Nat) : KeepF f a (w.drewN n) := ⟨h.os, h.tape, h.output, h.size, h.block⟩
theorem KeepF.blk (h : KeepF f w w') {g : Nat} {t : TypeId} {cs : Array Value} (hb : Blk w g t cs) (hf : f (.cells cs t (0, 0)) = true) : Blk w' g t cs := h.block g _ hb hf
theorem KeepF.own (h : KeepF f w w') {base : Nat} {e : TypeId} {size n : Nat} {v : Value} {xs : List Value} (ho : w.ownsRow base e size v n xs) (hf : ∀ cur, f (.cells cur e (0, 0)) = true) : w'.ownsRow base e size v n xs := by
  refine ⟨ho.1, ?_⟩
  rcases ho.2 with hn | ⟨g, cap, cur, rfl, hbb, hgg, rest⟩
  · exact .inl hn
  · exact .inr ⟨g, cap, cur, rfl, hbb, h.block g _ hgg (hf cur), rest⟩
theorem KeepF.map_ (h : KeepF f w w') {P : Program} {k : TypeId} {R : Value → Option (DataW Unit × List MemPlace)} {b n : Nat} {D : DataW Unit} (ho : w.ownsMap P k R b n D) (hf : ∀ es cl, f (.map es cl) = true) : w'.ownsMap P k R b n D := by
  obtain ⟨es, clock, h1, rest⟩ := ho
  exact ⟨es, clock, h.block b _ h1 (hf _ _), rest⟩
end
/-- What a store's steps turn not. -/
def fixL : Obj → Bool
  | .cells _ t _ => !(t == 117) && !(t == 23) && !(t == 57)
  | .map _ _ => false
  | _ => true
def kfE (x : Ent) : Lit := klS x.key
theorem kfE_lit (x : Ent) : WideAt.IsKeyLit (kfE x) := by trivial
/-- A store at block g, its map at block M, its tables and lists at rows of its own. -/
structure LsmIn (w : World) (base g M : Nat) (lim : Int) (s : Lsm) : Prop where
  ok : LsmOk s
  gb : base ≤ g
  Mb : base ≤ M
  map_ : ∃ D, w.ownsMap Tryz.prog 9 entR M s.F.length D ∧ MapL kfE entD D s.F
  rows : ∃ vt vl bs es, Blk w g 117 #[.int .i64 lim, .map (some M), vt, vl] ∧ OwnBB w base vt bs ∧ OwnEE w base vl es ∧ bs.map Bl.b = s.LS.map tabB ∧ es.map El.l = s.LS
section
variable {w w' : World} {base g M : Nat} {lim : Int} {s : Lsm}
theorem OwnBB.same {v : Value} {es : List Bl} (h : OwnBB w base v es) (hk : ∀ {e : TypeId} {size n : Nat} {v : Value} {xs : List Value}, w.ownsRow base e size v n xs → w'.ownsRow base e size v n xs) : OwnBB w' base v es := ⟨hk h.row, fun e he => hk (h.ok e he)⟩
theorem OwnEE.same {v : Value} {es : List El} (h : OwnEE w base v es) (hk : ∀ {e : TypeId} {size n : Nat} {v : Value} {xs : List Value}, w.ownsRow base e size v n xs → w'.ownsRow base e size v n xs) : OwnEE w' base v es := ⟨hk h.row, fun e he => hk (h.ok e he)⟩
theorem LsmIn.up (h : LsmIn w base g M lim s) (hb : Below w.heap.size w w') : LsmIn w' base g M lim s :=
  ⟨h.ok, h.gb, h.Mb, (by
    obtain ⟨D, h1, h2⟩ := h.map_
    exact ⟨D, own_up_map h1 hb, h2⟩), (by
    obtain ⟨vt, vl, bs, es, h1, h2, h3, h4, h5⟩ := h.rows
    exact ⟨vt, vl, bs, es, (hb.block g h1.lt).trans h1, h2.up hb, h3.up hb, h4, h5⟩)⟩
theorem LsmIn.drewN (h : LsmIn w base g M lim s) (q : Nat) : LsmIn (w.drewN q) base g M lim s := h.up (below_drewN (Below.refl _ _) q)
theorem LsmIn.keep {f : Obj → Bool} (h : LsmIn w base g M lim s) (hk : KeepF f w w') (hS : ∀ cs, f (.cells cs 117 (0, 0)) = true) (h1 : ∀ cs, f (.cells cs 23 (0, 0)) = true) (h2 : ∀ cs, f (.cells cs 5 (0, 0)) = true)
    (h3 : ∀ cs, f (.cells cs 57 (0, 0)) = true) (h4 : ∀ cs, f (.cells cs 67 (0, 0)) = true) (hm : ∀ es cl, f (.map es cl) = true) : LsmIn w' base g M lim s :=
  ⟨h.ok, h.gb, h.Mb, (by
    obtain ⟨D, k1, k2⟩ := h.map_
    exact ⟨D, hk.map_ k1 hm, k2⟩), (by
    obtain ⟨vt, vl, bs, es, k1, k2, k3, k4, k5⟩ := h.rows
    exact ⟨vt, vl, bs, es, hk.blk k1 (hS _), ⟨hk.own k2.row h1, fun e he => hk.own (k2.ok e he) h2⟩, ⟨hk.own k3.row h3, fun e he => hk.own (k3.ok e he) h4⟩, k4, k5⟩)⟩
theorem LsmIn.ltg (h : LsmIn w base g M lim s) : g < w.heap.size := by obtain ⟨vt, vl, bs, es, h1, _⟩ := h.rows; exact h1.lt
theorem LsmIn.ltM (h : LsmIn w base g M lim s) : M < w.heap.size := by obtain ⟨D, h1, _⟩ := h.map_; exact h1.lt
theorem mapE_has {D : DataW Unit} {L : List Ent} (h : MapL kfE entD D L) (k : ByteArray) : Maps.has D (klS k) = (entOf L k).isSome := by
  rcases he : entOf L k with _ | y
  · exact h.not_has fun x hx e => entOf_none.1 he x hx (klS_inj e)
  · have := h.there y (entOf_some he).1
    rw [kfE, (entOf_some he).2] at this
    exact this
end
end Go.Proofs.YtcfijljagohmlaaGreatDoor

/- slices.Insert of one at the head of a slice of slices (bytes; entries). -/
namespace Go.Proofs.YtcfijljagohmlaaGreatDoor
open Go.RowKit

theorem wpList_copyI {P : Program} (w : World) {ops : Array Oper} {rest : List Oper} {o : Oper} {a : Act} {Q : Exit → Act → World → Prop} (hgd : o.guard = none) (d s : Operand) (t t' : TypeId)
    (ho : o.op = .call { callee := .builtin .copy, args := #[d, s], argTypes := #[t, t'] }) (v u : Value) (hd : a.eval d = v) (hs : a.eval s = u) {v' : Value} {w' : World}
    (hr : (Builtin.copy_ #[t, t'] o.type #[v, u]).run P w = .ok v' w') (h : wpList P ops Q rest (a.put o.dst v') w') : wpList P ops Q (o :: rest) a w :=
  wpList_plain hgd fun _ hK => by
    unfold Oper.wp execOp
    simp only [ho, resolve, invoke, builtin, Sem.run_bind, Sem.run_pure, Result.andThen_ok, List.map_toArray, List.map_cons, List.map_nil, hd, hs, hr]
    exact hK _ _ h
theorem step_copyI {P : Program} {ops : Array Oper} {o : Oper} {a : Act} {w : World} {K : Act → World → Prop} {Q : Exit → Act → World → Prop} {E : Prop}
    (hg : o.guard = none) (d x : Operand) (dT sT : TypeId) (hop : o.op = Op.call { callee := Callee.builtin Builtin.copy, args := #[d, x], argTypes := #[dT, sT] })
    (v u : Value) (hd : a.eval d = v) (hx : a.eval x = u) {v' : Value} {w' : World} (hr : (Builtin.copy_ #[dT, sT] o.type #[v, u]).run P w = .ok v' w') (hK : K (a.put o.dst v') w') :
    if Region.wanted o (yielded ops a.tmps) = true then Oper.wp P o a w K Q else E := by
  have hw : Region.wanted o (yielded ops a.tmps) = true := by simp [Region.wanted, hg]
  rw [if_pos hw]
  unfold Oper.wp
  simp [execOp, hop, resolve, invoke, builtin, hd, hx, hr, Result.andThen]
  exact hK
theorem one_all {u : Value} (h : u.oneCell' = true) : ∀ v ∈ [u], v.oneCell' = true := fun v hv => by rw [List.mem_singleton.1 hv]; exact h
set_option maxRecDepth 100000 in
set_option maxHeartbeats 4000000 in
theorem ins_bytes (base n vb : Nat) (v0 x : Value) (xs : List Value) (w : World) (ho : w.ownsRow base 23 1 v0 n xs) (hb : Blk w vb 23 #[x]) (hne : v0.ownBlock ≠ some vb) (h1 : x.oneCell' = true) (h1s : ∀ u ∈ xs, u.oneCell' = true) (hn : n ≤ 1000000) (hbw : base ≤ w.heap.size) :
    Calls Tryz.prog 65 #[v0, .int .i64 0, .slice (some ⟨vb, 0, none⟩) 1 1] w fun e w' => ∃ v, e = .returned v ∧ w'.ownsRow base 23 1 v (n + 1) (x :: xs) ∧ w.grownBy w' v0.ownBlock := by
  have hrx : Rd w w.heap.size 1 (some ⟨vb, 0, none⟩) 1 [x] := ⟨rfl, fun _ => ⟨_, rfl, hb.lt, fun j u hj => by
    rcases j with _ | j
    · have := hb.cell 0
      simp at this hj
      rw [← hj]; exact this
    · simp at hj⟩⟩
  have hxl := ho.1
  rcases Nat.eq_zero_or_pos n with hn0 | hn0
  · subst hn0
    have hxs : xs = [] := List.eq_nil_of_length_eq_zero (by simpa using hxl)
    subst hxs
    have hown := ho
    obtain ⟨A, c, rfl, _, hcm, _, _⟩ := own_form ho
    clear ho
    rcases A with _ | ad
    · go_enter Tryz.func65, Tryz.ntmps65
      go_wp2_with (first
        | (with_reducible show wpList _ _ _ (⟨some 25, _, _, _, _, _⟩ :: _) _ _; go_must (refine wpList_rd (.tmp 23) (.tmp 24) el_slB rfl rfl hown rfl hrx rfl (one_all h1) (by omega) hbw ?_); intro v1 w1 hown1 hb1 hg1 ha1))
      go_ret
      exact ⟨v1, rfl, hown1, hg1⟩
    · go_enter Tryz.func65, Tryz.ntmps65
      go_wp2_with (first
        | (with_reducible show wpList _ _ _ (⟨some 25, _, _, _, _, _⟩ :: _) _ _; go_must (refine wpList_rd (.tmp 23) (.tmp 24) el_slB rfl rfl hown rfl hrx rfl (one_all h1) (by omega) hbw ?_); intro v1 w1 hown1 hb1 hg1 ha1))
      go_ret
      exact ⟨v1, rfl, hown1, hg1⟩
  · have hown := ho
    rcases ho.2 with ⟨_, e1⟩ | ⟨g, c, cur, rfl, _⟩
    · omega
    obtain ⟨hsh, hbg, hnc, hcm⟩ := shape_own ho
    rw [Nat.mul_one] at hsh
    obtain ⟨A', c', e', _, _, _, hr⟩ := own_form ho
    injection e' with e1 _ e2
    subst e1 e2
    obtain ⟨adr, he, hab, hcl0⟩ := hr.2 hn0
    injection he with he
    subst he
    have hadd : ∀ j, (Addr.add ⟨g, 0, none⟩ j : Addr) = ⟨g, j, none⟩ := fun j => by
      unfold Addr.add
      split
      · rename_i h0; rw [h0]
      · simp
    have hcl : ∀ j u, xs[j]? = some u → w.cell? ⟨g, j, none⟩ = some u := fun j u hj => by
      have := hcl0 j u hj
      rwa [hadd] at this
    have hvg : vb ≠ g := fun e => hne (by rw [e]; rfl)
    rw [Nat.mul_one] at hxl
    have hsz1 : (Tryz.prog.info? 23).map (·.size) = some 1 := by kernel_rfl
    have hc63 : c ≤ 9223372036854775807 := by unfold maxLen at hcm; omega
    have hz2 : ((0 : Int) == (n : Int)) = false := by rw [beq_eq_false_iff_ne]; omega
    have hbx0 : w.cell? ⟨vb, 0, none⟩ = some x := by have := hb.cell 0; simpa using this
    have hfin : ∀ (W : World) (G h : Nat), ShapeR W h 23 G → base ≤ h → n + 1 ≤ G → G ≤ maxLen → W.cell? ⟨h, 0, none⟩ = some x → (∀ j u, xs[j]? = some u → W.cell? ⟨h, 1 + j, none⟩ = some u) → W.ownsRow base 23 1 (.slice (some ⟨h, 0, none⟩) (n + 1) G) (n + 1) (x :: xs) := fun W G h q1 q2 q3 q4 q5 q6 =>
      own_shape (by rw [Nat.mul_one]; exact q1) q2 q3 q4 (by rw [List.length_cons, hxl]; omega) (fun j u hj => by
        rcases j with _ | j
        · obtain rfl : x = u := by simpa using hj
          exact q5
        · have := q6 j u (by simpa using hj)
          rwa [Nat.add_comm] at this)
    by_cases hroom : n + 1 ≤ c
    · have hov : ∀ lb cb, (callFunc 101 #[.slice (some ⟨vb, 0, none⟩) 1 1, .slice (some ⟨g, 1, none⟩) lb cb]).run Tryz.prog w = .ok (.value (.bool false)) w := fun lb cb => by
        obtain ⟨cur2, hcur, hcs⟩ := hsh
        rw [run_callFunc_extern Tryz.func101 (by kernel_rfl) (by kernel_rfl) (by kernel_rfl) (e := Extern.SlicesOverlaps.overlaps #[24, 24] #[4]) (by kernel_rfl),
          Lib.run_overlaps_apart w 24 4 23 Tryz.underlying24 1 (fun _ => by kernel_rfl) ⟨vb, 0, none⟩ ⟨g, 1, none⟩ 1 1 lb cb hvg 23 23 1 c (by unfold Blk at hb; simp [World.shape?, hb]) (by simp [World.shape?, hcur, hcs]) (by omega) (hb.frozen 0) (hb.frozen 1)]
        rfl
      have hcp1 : ∀ ty dc sc, (Builtin.copy_ #[24, 24] ty #[.slice (some ⟨g, 1, none⟩) (n + 1 - 1) dc, .slice (some ⟨g, 0, none⟩) (n + 1) sc]).run Tryz.prog w.drew = .ok (goInt xs.length) (w.drew.setCells g 1 xs) := fun ty dc sc =>
        run_copy_cells w.drew _ _ ty 23 g 1 (n + 1 - 1) dc ⟨g, 0, none⟩ (n + 1) sc xs Tryz.underlying24 hsz1 (by rw [hxl]; simp only [Nat.min_def]; split <;> omega)
          (fun j v hj => by rw [hadd]; exact hcl j v hj) (fun j hj => hsh.some_ (by omega)) (fun j hj => hsh.frozen _) h1s
      have hsh1 : ShapeR (w.drew.setCells g 1 xs) g 23 c := ShapeR.setMany _ _ _ (hsh.same rfl)
      have hx1 : (w.drew.setCells g 1 xs).cell? ⟨vb, 0, none⟩ = some x := by
        rw [World.cell?_of_block (heap_setCells g xs 1 w.drew vb hvg)]
        exact hbx0
      obtain ⟨W1, hW1⟩ : ∃ W1, W1 = w.drew.setCells g 1 xs := ⟨_, rfl⟩
      rw [← hW1] at hcp1 hsh1 hx1
      have hcp2 : ∀ ty dc, (Builtin.copy_ #[24, 24] ty #[.slice (some ⟨g, 0, none⟩) (n + 1) dc, .slice (some ⟨vb, 0, none⟩) 1 1]).run Tryz.prog W1 = .ok (goInt [x].length) (W1.setCells g 0 [x]) := fun ty dc =>
        run_copy_cells W1 _ _ ty 23 g 0 (n + 1) dc ⟨vb, 0, none⟩ 1 1 [x] Tryz.underlying24 hsz1 (by simp only [Nat.min_def, List.length_singleton]; split <;> omega)
          (fun j v hj => by
            rcases j with _ | j
            · obtain rfl : x = v := by simpa using hj
              exact hx1
            · simp at hj) (fun j hj => hsh1.some_ (by simp at hj; omega)) (fun j hj => hsh1.frozen _) (one_all h1)
      have HW1 := Lib.hid hW1
      have hb1 : ¬ (c < n + 1) := by omega
      have hb2 : ¬ ((c : Int) < (n : Int) + 1) := by omega
      have hb3 : ¬ (c = 1) := by omega
      have hb4 : ((n : Int) + 1).toNat = n + 1 := by omega
      have hb5 : (0 : Int) ≤ (n : Int) + 1 := by omega
      have hb6 : (n : Int) + 1 ≤ (c : Int) := by omega
      have hb7 : (1 : Int) ≤ (n : Int) + 1 := by omega
      have hw1 : IntKind.i64.wrap (1 : Int) = 1 := by rw [IntKind.wrap_i64]; rfl
      clear hr hcl0 hab hcl hadd hown ho hW1
      go_enter Tryz.func65, Tryz.ntmps65
      go_wp2_with (simp only [hov])
      go_region_law (refine step_copyI rfl (.tmp 73) (.tmp 76) 24 24 rfl (.slice (some ⟨g, 1, none⟩) (n + 1 - 1) (c - 1)) (.slice (some ⟨g, 0, none⟩) (n + 1) c) (by simp [Act.eval, Act.put]) (by simp [Act.eval, Act.put]) (hcp1 _ _ _) ?_)
      go_wp2_with (first
        | (with_reducible show wpList _ _ _ (⟨some 82, _, _, _, _, _⟩ :: _) _ _; go_must (refine wpList_copyI _ rfl (.tmp 80) (.tmp 81) 24 24 rfl _ _ rfl rfl (hcp2 _ _) ?_)))
      go_ret
      refine ⟨_, rfl, hfin _ c g (hsh1.set_ _ _ _) hbg hroom hcm ?_ ?_, ?_⟩
      · have := World.cell?_setCells_in g [x] 0 W1 (fun j hj => hsh1.some_ (by simp at hj; omega)) 0 (by simp)
        exact this
      · intro j u hj
        have hjl := (List.getElem?_eq_some_iff.1 hj).1
        have e1 := World.cell?_setCells_out g [x] 0 W1 ⟨g, 1 + j, none⟩ (fun _ _ => by right; show 0 + 1 ≤ 1 + j; omega)
        have e2 := World.cell?_setCells_in g xs 1 w.drew (fun k hk => hsh.some_ (by omega)) j hjl
        rw [e1, HW1.out, e2, ← hj, List.getElem?_eq_getElem hjl]
      · rw [HW1.out]
        exact only_set (only_trans (only_drew (only_refl w (some g))) (setCells_grown g xs 1 w.drew)) 0 x
    · obtain rfl : c = n := by omega
      obtain ⟨i0, hi0⟩ := Option.isSome_iff_exists.1 (show (Tryz.prog.info? 23).isSome = true by kernel_rfl)
      have hz0 : i0.zero = some (.slice none 0 0) := by
        have := (show (Tryz.prog.info? 23).bind (·.zero) = some (.slice none 0 0) by kernel_rfl)
        rwa [hi0] at this
      have hzs : i0.size = 1 := by
        have := (show (Tryz.prog.info? 23).map (·.size) = some 1 by kernel_rfl)
        rw [hi0] at this
        simpa using this
      have hzb : i0.bytes = 24 := by
        have := (show (Tryz.prog.info? 23).map (·.bytes) = some 24 by kernel_rfl)
        rw [hi0] at this
        simpa using this
      have hold : (Builtin.firstCells i0.size 0 (.slice (some ⟨g, 0, none⟩) 0 c)).run Tryz.prog w.drew = .ok ([] : List Value).toArray w.drew := by
        rw [hzs]
        exact run_firstCells_some w.drew 1 0 ⟨g, 0, none⟩ 0 c [] (by simp) (fun j v hj => by simp at hj)
      have hrz : ∀ ty, (Builtin.append_ #[24, 3] ty #[.slice (some ⟨g, 0, none⟩) 0 c, .int .i64 ((c : Int) + 1)]).run Tryz.prog w =
          .ok (.slice (some ⟨w.heap.size, 0, none⟩) (c + 1) (grownCap w (c + 1) c 23)) (w.drew.alloc (.cells (([] : List Value).toArray ++ Builtin.zeroCells (Value.slice none 0 0).cells (c + 1) ++ Builtin.zeroCells (Value.slice none 0 0).cells (grownCap w (c + 1) c 23 - (c + 1))) 23)) := fun ty => by
        have h := Lib.run_append_grow_zeros w 24 3 ty 23 i0 _ .i64 .i64 Tryz.underlying24 Tryz.underlying3 hi0 hz0 (some ⟨g, 0, none⟩) 0 c [] hold (c + 1) (by omega) (by omega) (by omega) (by omega) (by rw [hzb]; omega) (by rw [hzb, Nat.zero_add]; exact growslice_fits (by omega) (by omega))
        rw [Nat.zero_add] at h
        exact h
      have hGn : c + 1 ≤ grownCap w (c + 1) c 23 := grownCap_ge w _ _ _
      have hGm : grownCap w (c + 1) c 23 ≤ maxLen := grownCap_le_maxLen w (c + 1) c 23 (by unfold maxLen; omega)
      obtain ⟨G, hG⟩ : ∃ G, G = grownCap w (c + 1) c 23 := ⟨_, rfl⟩
      obtain ⟨ROW, hROW⟩ : ∃ ROW : Array Value, ROW = ([] : List Value).toArray ++ Builtin.zeroCells (Value.slice none 0 0).cells (c + 1) ++ Builtin.zeroCells (Value.slice none 0 0).cells (G - (c + 1)) := ⟨_, rfl⟩
      rw [← hG] at hrz hGn hGm
      rw [← hROW] at hrz
      have hRl : ROW.size = G := by
        rw [hROW]
        simp [Builtin.zeroCells, Value.cells]
        omega
      have hshR : ShapeR (w.drew.alloc (.cells ROW 23)) w.heap.size 23 G := ⟨ROW, heap_alloc_new w.drew _, hRl⟩
      obtain ⟨h, hh⟩ : ∃ h, h = w.heap.size := ⟨_, rfl⟩
      rw [← hh] at hrz hshR
      obtain ⟨W1, hW1⟩ : ∃ W1, W1 = w.drew.alloc (.cells ROW 23) := ⟨_, rfl⟩
      rw [← hW1] at hrz hshR
      have hb1 : Below w.heap.size w W1 := by rw [hW1]; exact (Below.refl _ _).drew.alloc (Nat.le_refl _) _
      have hcpA : ∀ W : World, (∀ z, W.cell? z = W1.cell? z) → (∀ z, W.frozen? z = W1.frozen? z) → ∀ ty dc, (Builtin.copy_ #[24, 24] ty #[.slice (some ⟨h, 0, none⟩) (c + 1) dc, .slice (some ⟨vb, 0, none⟩) 1 1]).run Tryz.prog W = .ok (goInt [x].length) (W.setCells h 0 [x]) := fun W hWc hWf ty dc =>
        run_copy_cells W _ _ ty 23 h 0 (c + 1) dc ⟨vb, 0, none⟩ 1 1 [x] Tryz.underlying24 hsz1 (by simp only [Nat.min_def, List.length_singleton]; split <;> omega)
          (fun j v hj => by
            rcases j with _ | j
            · obtain rfl : x = v := by simpa using hj
              rw [hWc]
              exact (hb1.cell (p := ⟨vb, 0, none⟩) hb.lt).trans hbx0
            · simp at hj) (fun j hj => by rw [hWc]; exact hshR.some_ (by simp at hj; omega)) (fun j hj => by rw [hWf]; exact hshR.frozen _) (one_all h1)
      have hgh : g ≠ h := by
        have := hsh.lt
        omega
      have hshS : ShapeR (W1.setCells h 0 [x]) h 23 G := hshR.setMany _ _ _
      have hclS : ∀ j u, xs[j]? = some u → (W1.setCells h 0 [x]).cell? ⟨g, j, none⟩ = some u := fun j u hj => by
        rw [World.cell?_of_block (heap_setCells h [x] 0 W1 g hgh)]
        exact (hb1.cell (p := ⟨g, j, none⟩) hsh.lt).trans (hcl j u hj)
      have hcpB : ∀ W : World, (∀ z, W.cell? z = (W1.setCells h 0 [x]).cell? z) → (∀ z, W.frozen? z = (W1.setCells h 0 [x]).frozen? z) → ∀ ty dc sc, (Builtin.copy_ #[24, 24] ty #[.slice (some ⟨h, 1, none⟩) (c + 1 - 1) dc, .slice (some ⟨g, 0, none⟩) c sc]).run Tryz.prog W = .ok (goInt xs.length) (W.setCells h 1 xs) := fun W hWc hWf ty dc sc =>
        run_copy_cells W _ _ ty 23 h 1 (c + 1 - 1) dc ⟨g, 0, none⟩ c sc xs Tryz.underlying24 hsz1 (by rw [hxl]; simp only [Nat.min_def]; split <;> omega)
          (fun j v hj => by rw [hadd, hWc]; exact hclS j v hj) (fun j hj => by rw [hWc]; exact hshS.some_ (by omega)) (fun j hj => by rw [hWf]; exact hshS.frozen _) h1s
      have hGc := hcpB ((W1.setCells h 0 [x]).drew) (fun _ => rfl) (fun _ => rfl)
      have hAc := hcpA W1 (fun _ => rfl) (fun _ => rfl)
      have HHH := Lib.hid hh
      have hz3 : (c : Int) < (c : Int) + 1 := by omega
      have hb4 : ((c : Int) + 1).toNat = c + 1 := by omega
      have hb7 : (1 : Int) ≤ (c : Int) + 1 := by omega
      have hw1 : IntKind.i64.wrap (1 : Int) = 1 := by rw [IntKind.wrap_i64]; rfl
      have hG1 : ¬ (G = 1) := by omega
      have hG0 : ¬ (G = 0) := by omega
      have hc0 : ¬ (c = 0) := by omega
      have HWW := Lib.hid hW1
      clear hr hcl0 hab hcl hadd hown ho hW1 hROW hRl hG hold hi0 hz0 hzs hzb hclS hcpA hcpB hh
      go_enter Tryz.func65, Tryz.ntmps65
      go_wp2_with (first
        | (with_reducible show wpList _ _ _ (⟨some 40, _, _, _, _, _⟩ :: _) _ _; go_must (refine Lib.wpList_append_run _ rfl _ _ _ _ rfl _ _ rfl rfl _ _ (hrz _) ?_))
        | (with_reducible show wpList _ _ _ (⟨some 45, _, _, _, _, _⟩ :: _) _ _; go_must (refine wpList_copyI _ rfl (.tmp 43) (.tmp 44) 24 24 rfl _ _ rfl rfl (hAc _ _) ?_)))
      go_region_law (refine step_copyI rfl (.tmp 50) (.tmp 53) 24 24 rfl (.slice (some ⟨h, 1, none⟩) (c + 1 - 1) (G - 1)) (.slice (some ⟨g, 0, none⟩) c c) (by simp [Act.eval, Act.put]) (by simp [Act.eval, Act.put]) (hGc _ _ _) ?_)
      go_wp2_with fail
      go_ret
      have hshD : ShapeR ((W1.setCells h 0 [x]).drew) h 23 G := hshS.same rfl
      refine ⟨_, rfl, hfin _ G h (hshD.setMany _ _ _) (by rw [HHH.out]; exact hbw) hGn hGm ?_ ?_, ?_⟩
      · rw [World.cell?_setCells_out h xs 1 ((W1.setCells h 0 [x]).drew) ⟨h, 0, none⟩ (fun _ _ => by left; show 0 < 1; omega)]
        exact World.cell?_setCells_in h [x] 0 W1 (fun j hj => hshR.some_ (by simp at hj; omega)) 0 (by simp)
      · intro j u hj
        have hjl := (List.getElem?_eq_some_iff.1 hj).1
        have e2 := World.cell?_setCells_in h xs 1 ((W1.setCells h 0 [x]).drew) (fun k hk => hshD.some_ (by omega)) j hjl
        rw [e2, ← hj, List.getElem?_eq_getElem hjl]
      · have hbz : Below w.heap.size w (((W1.setCells h 0 [x]).drew).setCells h 1 xs) := by
          refine ⟨?_, ?_, ?_, ?_, fun k hk => ?_⟩
          · exact (setCells_grown h xs 1 _).os.trans ((setCells_grown h [x] 0 W1).os.trans hb1.os)
          · exact (setCells_grown h xs 1 _).tape.trans ((setCells_grown h [x] 0 W1).tape.trans hb1.tape)
          · exact (setCells_grown h xs 1 _).output.trans ((setCells_grown h [x] 0 W1).output.trans hb1.output)
          · exact Nat.le_trans hb1.size (Nat.le_trans (setCells_grown h [x] 0 W1).size (setCells_grown h xs 1 ((W1.setCells h 0 [x]).drew)).size)
          · have hkh : k ≠ h := by rw [HHH.out]; omega
            rw [heap_setCells h xs 1 _ k hkh]
            exact (heap_setCells h [x] 0 W1 k hkh).trans (hb1.block k hk)
        exact only_of_below hbz _
set_option maxRecDepth 100000 in
set_option maxHeartbeats 4000000 in
theorem ins_ents (base n vb : Nat) (v0 x : Value) (xs : List Value) (w : World) (ho : w.ownsRow base 57 1 v0 n xs) (hb : Blk w vb 57 #[x]) (hne : v0.ownBlock ≠ some vb) (h1 : x.oneCell' = true) (h1s : ∀ u ∈ xs, u.oneCell' = true) (hn : n ≤ 1000000) (hbw : base ≤ w.heap.size) :
    Calls Tryz.prog 66 #[v0, .int .i64 0, .slice (some ⟨vb, 0, none⟩) 1 1] w fun e w' => ∃ v, e = .returned v ∧ w'.ownsRow base 57 1 v (n + 1) (x :: xs) ∧ w.grownBy w' v0.ownBlock := by
  have hrx : Rd w w.heap.size 1 (some ⟨vb, 0, none⟩) 1 [x] := ⟨rfl, fun _ => ⟨_, rfl, hb.lt, fun j u hj => by
    rcases j with _ | j
    · have := hb.cell 0
      simp at this hj
      rw [← hj]; exact this
    · simp at hj⟩⟩
  have hxl := ho.1
  rcases Nat.eq_zero_or_pos n with hn0 | hn0
  · subst hn0
    have hxs : xs = [] := List.eq_nil_of_length_eq_zero (by simpa using hxl)
    subst hxs
    have hown := ho
    obtain ⟨A, c, rfl, _, hcm, _, _⟩ := own_form ho
    clear ho
    rcases A with _ | ad
    · go_enter Tryz.func66, Tryz.ntmps66
      go_wp2_with (first
        | (with_reducible show wpList _ _ _ (⟨some 25, _, _, _, _, _⟩ :: _) _ _; go_must (refine wpList_rd (.tmp 23) (.tmp 24) el_slE rfl rfl hown rfl hrx rfl (one_all h1) (by omega) hbw ?_); intro v1 w1 hown1 hb1 hg1 ha1))
      go_ret
      exact ⟨v1, rfl, hown1, hg1⟩
    · go_enter Tryz.func66, Tryz.ntmps66
      go_wp2_with (first
        | (with_reducible show wpList _ _ _ (⟨some 25, _, _, _, _, _⟩ :: _) _ _; go_must (refine wpList_rd (.tmp 23) (.tmp 24) el_slE rfl rfl hown rfl hrx rfl (one_all h1) (by omega) hbw ?_); intro v1 w1 hown1 hb1 hg1 ha1))
      go_ret
      exact ⟨v1, rfl, hown1, hg1⟩
  · have hown := ho
    rcases ho.2 with ⟨_, e1⟩ | ⟨g, c, cur, rfl, _⟩
    · omega
    obtain ⟨hsh, hbg, hnc, hcm⟩ := shape_own ho
    rw [Nat.mul_one] at hsh
    obtain ⟨A', c', e', _, _, _, hr⟩ := own_form ho
    injection e' with e1 _ e2
    subst e1 e2
    obtain ⟨adr, he, hab, hcl0⟩ := hr.2 hn0
    injection he with he
    subst he
    have hadd : ∀ j, (Addr.add ⟨g, 0, none⟩ j : Addr) = ⟨g, j, none⟩ := fun j => by
      unfold Addr.add
      split
      · rename_i h0; rw [h0]
      · simp
    have hcl : ∀ j u, xs[j]? = some u → w.cell? ⟨g, j, none⟩ = some u := fun j u hj => by
      have := hcl0 j u hj
      rwa [hadd] at this
    have hvg : vb ≠ g := fun e => hne (by rw [e]; rfl)
    rw [Nat.mul_one] at hxl
    have hsz1 : (Tryz.prog.info? 57).map (·.size) = some 1 := by kernel_rfl
    have hc63 : c ≤ 9223372036854775807 := by unfold maxLen at hcm; omega
    have hz2 : ((0 : Int) == (n : Int)) = false := by rw [beq_eq_false_iff_ne]; omega
    have hbx0 : w.cell? ⟨vb, 0, none⟩ = some x := by have := hb.cell 0; simpa using this
    have hfin : ∀ (W : World) (G h : Nat), ShapeR W h 57 G → base ≤ h → n + 1 ≤ G → G ≤ maxLen → W.cell? ⟨h, 0, none⟩ = some x → (∀ j u, xs[j]? = some u → W.cell? ⟨h, 1 + j, none⟩ = some u) → W.ownsRow base 57 1 (.slice (some ⟨h, 0, none⟩) (n + 1) G) (n + 1) (x :: xs) := fun W G h q1 q2 q3 q4 q5 q6 =>
      own_shape (by rw [Nat.mul_one]; exact q1) q2 q3 q4 (by rw [List.length_cons, hxl]; omega) (fun j u hj => by
        rcases j with _ | j
        · obtain rfl : x = u := by simpa using hj
          exact q5
        · have := q6 j u (by simpa using hj)
          rwa [Nat.add_comm] at this)
    by_cases hroom : n + 1 ≤ c
    · have hov : ∀ lb cb, (callFunc 103 #[.slice (some ⟨vb, 0, none⟩) 1 1, .slice (some ⟨g, 1, none⟩) lb cb]).run Tryz.prog w = .ok (.value (.bool false)) w := fun lb cb => by
        obtain ⟨cur2, hcur, hcs⟩ := hsh
        rw [run_callFunc_extern Tryz.func103 (by kernel_rfl) (by kernel_rfl) (by kernel_rfl) (e := Extern.SlicesOverlaps.overlaps #[115, 115] #[4]) (by kernel_rfl),
          Lib.run_overlaps_apart w 115 4 57 Tryz.underlying115 1 (fun _ => by kernel_rfl) ⟨vb, 0, none⟩ ⟨g, 1, none⟩ 1 1 lb cb hvg 57 57 1 c (by unfold Blk at hb; simp [World.shape?, hb]) (by simp [World.shape?, hcur, hcs]) (by omega) (hb.frozen 0) (hb.frozen 1)]
        rfl
      have hcp1 : ∀ ty dc sc, (Builtin.copy_ #[115, 115] ty #[.slice (some ⟨g, 1, none⟩) (n + 1 - 1) dc, .slice (some ⟨g, 0, none⟩) (n + 1) sc]).run Tryz.prog w.drew = .ok (goInt xs.length) (w.drew.setCells g 1 xs) := fun ty dc sc =>
        run_copy_cells w.drew _ _ ty 57 g 1 (n + 1 - 1) dc ⟨g, 0, none⟩ (n + 1) sc xs Tryz.underlying115 hsz1 (by rw [hxl]; simp only [Nat.min_def]; split <;> omega)
          (fun j v hj => by rw [hadd]; exact hcl j v hj) (fun j hj => hsh.some_ (by omega)) (fun j hj => hsh.frozen _) h1s
      have hsh1 : ShapeR (w.drew.setCells g 1 xs) g 57 c := ShapeR.setMany _ _ _ (hsh.same rfl)
      have hx1 : (w.drew.setCells g 1 xs).cell? ⟨vb, 0, none⟩ = some x := by
        rw [World.cell?_of_block (heap_setCells g xs 1 w.drew vb hvg)]
        exact hbx0
      obtain ⟨W1, hW1⟩ : ∃ W1, W1 = w.drew.setCells g 1 xs := ⟨_, rfl⟩
      rw [← hW1] at hcp1 hsh1 hx1
      have hcp2 : ∀ ty dc, (Builtin.copy_ #[115, 115] ty #[.slice (some ⟨g, 0, none⟩) (n + 1) dc, .slice (some ⟨vb, 0, none⟩) 1 1]).run Tryz.prog W1 = .ok (goInt [x].length) (W1.setCells g 0 [x]) := fun ty dc =>
        run_copy_cells W1 _ _ ty 57 g 0 (n + 1) dc ⟨vb, 0, none⟩ 1 1 [x] Tryz.underlying115 hsz1 (by simp only [Nat.min_def, List.length_singleton]; split <;> omega)
          (fun j v hj => by
            rcases j with _ | j
            · obtain rfl : x = v := by simpa using hj
              exact hx1
            · simp at hj) (fun j hj => hsh1.some_ (by simp at hj; omega)) (fun j hj => hsh1.frozen _) (one_all h1)
      have HW1 := Lib.hid hW1
      have hb1 : ¬ (c < n + 1) := by omega
      have hb2 : ¬ ((c : Int) < (n : Int) + 1) := by omega
      have hb3 : ¬ (c = 1) := by omega
      have hb4 : ((n : Int) + 1).toNat = n + 1 := by omega
      have hb5 : (0 : Int) ≤ (n : Int) + 1 := by omega
      have hb6 : (n : Int) + 1 ≤ (c : Int) := by omega
      have hb7 : (1 : Int) ≤ (n : Int) + 1 := by omega
      have hw1 : IntKind.i64.wrap (1 : Int) = 1 := by rw [IntKind.wrap_i64]; rfl
      clear hr hcl0 hab hcl hadd hown ho hW1
      go_enter Tryz.func66, Tryz.ntmps66
      go_wp2_with (simp only [hov])
      go_region_law (refine step_copyI rfl (.tmp 73) (.tmp 76) 115 115 rfl (.slice (some ⟨g, 1, none⟩) (n + 1 - 1) (c - 1)) (.slice (some ⟨g, 0, none⟩) (n + 1) c) (by simp [Act.eval, Act.put]) (by simp [Act.eval, Act.put]) (hcp1 _ _ _) ?_)
      go_wp2_with (first
        | (with_reducible show wpList _ _ _ (⟨some 82, _, _, _, _, _⟩ :: _) _ _; go_must (refine wpList_copyI _ rfl (.tmp 80) (.tmp 81) 115 115 rfl _ _ rfl rfl (hcp2 _ _) ?_)))
      go_ret
      refine ⟨_, rfl, hfin _ c g (hsh1.set_ _ _ _) hbg hroom hcm ?_ ?_, ?_⟩
      · have := World.cell?_setCells_in g [x] 0 W1 (fun j hj => hsh1.some_ (by simp at hj; omega)) 0 (by simp)
        exact this
      · intro j u hj
        have hjl := (List.getElem?_eq_some_iff.1 hj).1
        have e1 := World.cell?_setCells_out g [x] 0 W1 ⟨g, 1 + j, none⟩ (fun _ _ => by right; show 0 + 1 ≤ 1 + j; omega)
        have e2 := World.cell?_setCells_in g xs 1 w.drew (fun k hk => hsh.some_ (by omega)) j hjl
        rw [e1, HW1.out, e2, ← hj, List.getElem?_eq_getElem hjl]
      · rw [HW1.out]
        exact only_set (only_trans (only_drew (only_refl w (some g))) (setCells_grown g xs 1 w.drew)) 0 x
    · obtain rfl : c = n := by omega
      obtain ⟨i0, hi0⟩ := Option.isSome_iff_exists.1 (show (Tryz.prog.info? 57).isSome = true by kernel_rfl)
      have hz0 : i0.zero = some (.slice none 0 0) := by
        have := (show (Tryz.prog.info? 57).bind (·.zero) = some (.slice none 0 0) by kernel_rfl)
        rwa [hi0] at this
      have hzs : i0.size = 1 := by
        have := (show (Tryz.prog.info? 57).map (·.size) = some 1 by kernel_rfl)
        rw [hi0] at this
        simpa using this
      have hzb : i0.bytes = 24 := by
        have := (show (Tryz.prog.info? 57).map (·.bytes) = some 24 by kernel_rfl)
        rw [hi0] at this
        simpa using this
      have hold : (Builtin.firstCells i0.size 0 (.slice (some ⟨g, 0, none⟩) 0 c)).run Tryz.prog w.drew = .ok ([] : List Value).toArray w.drew := by
        rw [hzs]
        exact run_firstCells_some w.drew 1 0 ⟨g, 0, none⟩ 0 c [] (by simp) (fun j v hj => by simp at hj)
      have hrz : ∀ ty, (Builtin.append_ #[115, 3] ty #[.slice (some ⟨g, 0, none⟩) 0 c, .int .i64 ((c : Int) + 1)]).run Tryz.prog w =
          .ok (.slice (some ⟨w.heap.size, 0, none⟩) (c + 1) (grownCap w (c + 1) c 57)) (w.drew.alloc (.cells (([] : List Value).toArray ++ Builtin.zeroCells (Value.slice none 0 0).cells (c + 1) ++ Builtin.zeroCells (Value.slice none 0 0).cells (grownCap w (c + 1) c 57 - (c + 1))) 57)) := fun ty => by
        have h := Lib.run_append_grow_zeros w 115 3 ty 57 i0 _ .i64 .i64 Tryz.underlying115 Tryz.underlying3 hi0 hz0 (some ⟨g, 0, none⟩) 0 c [] hold (c + 1) (by omega) (by omega) (by omega) (by omega) (by rw [hzb]; omega) (by rw [hzb, Nat.zero_add]; exact growslice_fits (by omega) (by omega))
        rw [Nat.zero_add] at h
        exact h
      have hGn : c + 1 ≤ grownCap w (c + 1) c 57 := grownCap_ge w _ _ _
      have hGm : grownCap w (c + 1) c 57 ≤ maxLen := grownCap_le_maxLen w (c + 1) c 57 (by unfold maxLen; omega)
      obtain ⟨G, hG⟩ : ∃ G, G = grownCap w (c + 1) c 57 := ⟨_, rfl⟩
      obtain ⟨ROW, hROW⟩ : ∃ ROW : Array Value, ROW = ([] : List Value).toArray ++ Builtin.zeroCells (Value.slice none 0 0).cells (c + 1) ++ Builtin.zeroCells (Value.slice none 0 0).cells (G - (c + 1)) := ⟨_, rfl⟩
      rw [← hG] at hrz hGn hGm
      rw [← hROW] at hrz
      have hRl : ROW.size = G := by
        rw [hROW]
        simp [Builtin.zeroCells, Value.cells]
        omega
      have hshR : ShapeR (w.drew.alloc (.cells ROW 57)) w.heap.size 57 G := ⟨ROW, heap_alloc_new w.drew _, hRl⟩
      obtain ⟨h, hh⟩ : ∃ h, h = w.heap.size := ⟨_, rfl⟩
      rw [← hh] at hrz hshR
      obtain ⟨W1, hW1⟩ : ∃ W1, W1 = w.drew.alloc (.cells ROW 57) := ⟨_, rfl⟩
      rw [← hW1] at hrz hshR
      have hb1 : Below w.heap.size w W1 := by rw [hW1]; exact (Below.refl _ _).drew.alloc (Nat.le_refl _) _
      have hcpA : ∀ W : World, (∀ z, W.cell? z = W1.cell? z) → (∀ z, W.frozen? z = W1.frozen? z) → ∀ ty dc, (Builtin.copy_ #[115, 115] ty #[.slice (some ⟨h, 0, none⟩) (c + 1) dc, .slice (some ⟨vb, 0, none⟩) 1 1]).run Tryz.prog W = .ok (goInt [x].length) (W.setCells h 0 [x]) := fun W hWc hWf ty dc =>
        run_copy_cells W _ _ ty 57 h 0 (c + 1) dc ⟨vb, 0, none⟩ 1 1 [x] Tryz.underlying115 hsz1 (by simp only [Nat.min_def, List.length_singleton]; split <;> omega)
          (fun j v hj => by
            rcases j with _ | j
            · obtain rfl : x = v := by simpa using hj
              rw [hWc]
              exact (hb1.cell (p := ⟨vb, 0, none⟩) hb.lt).trans hbx0
            · simp at hj) (fun j hj => by rw [hWc]; exact hshR.some_ (by simp at hj; omega)) (fun j hj => by rw [hWf]; exact hshR.frozen _) (one_all h1)
      have hgh : g ≠ h := by
        have := hsh.lt
        omega
      have hshS : ShapeR (W1.setCells h 0 [x]) h 57 G := hshR.setMany _ _ _
      have hclS : ∀ j u, xs[j]? = some u → (W1.setCells h 0 [x]).cell? ⟨g, j, none⟩ = some u := fun j u hj => by
        rw [World.cell?_of_block (heap_setCells h [x] 0 W1 g hgh)]
        exact (hb1.cell (p := ⟨g, j, none⟩) hsh.lt).trans (hcl j u hj)
      have hcpB : ∀ W : World, (∀ z, W.cell? z = (W1.setCells h 0 [x]).cell? z) → (∀ z, W.frozen? z = (W1.setCells h 0 [x]).frozen? z) → ∀ ty dc sc, (Builtin.copy_ #[115, 115] ty #[.slice (some ⟨h, 1, none⟩) (c + 1 - 1) dc, .slice (some ⟨g, 0, none⟩) c sc]).run Tryz.prog W = .ok (goInt xs.length) (W.setCells h 1 xs) := fun W hWc hWf ty dc sc =>
        run_copy_cells W _ _ ty 57 h 1 (c + 1 - 1) dc ⟨g, 0, none⟩ c sc xs Tryz.underlying115 hsz1 (by rw [hxl]; simp only [Nat.min_def]; split <;> omega)
          (fun j v hj => by rw [hadd, hWc]; exact hclS j v hj) (fun j hj => by rw [hWc]; exact hshS.some_ (by omega)) (fun j hj => by rw [hWf]; exact hshS.frozen _) h1s
      have hGc := hcpB ((W1.setCells h 0 [x]).drew) (fun _ => rfl) (fun _ => rfl)
      have hAc := hcpA W1 (fun _ => rfl) (fun _ => rfl)
      have HHH := Lib.hid hh
      have hz3 : (c : Int) < (c : Int) + 1 := by omega
      have hb4 : ((c : Int) + 1).toNat = c + 1 := by omega
      have hb7 : (1 : Int) ≤ (c : Int) + 1 := by omega
      have hw1 : IntKind.i64.wrap (1 : Int) = 1 := by rw [IntKind.wrap_i64]; rfl
      have hG1 : ¬ (G = 1) := by omega
      have hG0 : ¬ (G = 0) := by omega
      have hc0 : ¬ (c = 0) := by omega
      have HWW := Lib.hid hW1
      clear hr hcl0 hab hcl hadd hown ho hW1 hROW hRl hG hold hi0 hz0 hzs hzb hclS hcpA hcpB hh
      go_enter Tryz.func66, Tryz.ntmps66
      go_wp2_with (first
        | (with_reducible show wpList _ _ _ (⟨some 40, _, _, _, _, _⟩ :: _) _ _; go_must (refine Lib.wpList_append_run _ rfl _ _ _ _ rfl _ _ rfl rfl _ _ (hrz _) ?_))
        | (with_reducible show wpList _ _ _ (⟨some 45, _, _, _, _, _⟩ :: _) _ _; go_must (refine wpList_copyI _ rfl (.tmp 43) (.tmp 44) 115 115 rfl _ _ rfl rfl (hAc _ _) ?_)))
      go_region_law (refine step_copyI rfl (.tmp 50) (.tmp 53) 115 115 rfl (.slice (some ⟨h, 1, none⟩) (c + 1 - 1) (G - 1)) (.slice (some ⟨g, 0, none⟩) c c) (by simp [Act.eval, Act.put]) (by simp [Act.eval, Act.put]) (hGc _ _ _) ?_)
      go_wp2_with fail
      go_ret
      have hshD : ShapeR ((W1.setCells h 0 [x]).drew) h 57 G := hshS.same rfl
      refine ⟨_, rfl, hfin _ G h (hshD.setMany _ _ _) (by rw [HHH.out]; exact hbw) hGn hGm ?_ ?_, ?_⟩
      · rw [World.cell?_setCells_out h xs 1 ((W1.setCells h 0 [x]).drew) ⟨h, 0, none⟩ (fun _ _ => by left; show 0 < 1; omega)]
        exact World.cell?_setCells_in h [x] 0 W1 (fun j hj => hshR.some_ (by simp at hj; omega)) 0 (by simp)
      · intro j u hj
        have hjl := (List.getElem?_eq_some_iff.1 hj).1
        have e2 := World.cell?_setCells_in h xs 1 ((W1.setCells h 0 [x]).drew) (fun k hk => hshD.some_ (by omega)) j hjl
        rw [e2, ← hj, List.getElem?_eq_getElem hjl]
      · have hbz : Below w.heap.size w (((W1.setCells h 0 [x]).drew).setCells h 1 xs) := by
          refine ⟨?_, ?_, ?_, ?_, fun k hk => ?_⟩
          · exact (setCells_grown h xs 1 _).os.trans ((setCells_grown h [x] 0 W1).os.trans hb1.os)
          · exact (setCells_grown h xs 1 _).tape.trans ((setCells_grown h [x] 0 W1).tape.trans hb1.tape)
          · exact (setCells_grown h xs 1 _).output.trans ((setCells_grown h [x] 0 W1).output.trans hb1.output)
          · exact Nat.le_trans hb1.size (Nat.le_trans (setCells_grown h [x] 0 W1).size (setCells_grown h xs 1 ((W1.setCells h 0 [x]).drew)).size)
          · have hkh : k ≠ h := by rw [HHH.out]; omega
            rw [heap_setCells h xs 1 _ k hkh]
            exact (heap_setCells h [x] 0 W1 k hkh).trans (hb1.block k hk)
        exact only_of_below hbz _
end Go.Proofs.YtcfijljagohmlaaGreatDoor
