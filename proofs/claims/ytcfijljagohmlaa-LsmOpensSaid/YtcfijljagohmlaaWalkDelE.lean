/- slices.IndexFunc, slices.ContainsFunc and slices.DeleteFunc at entries, whatever the predicate. -/
import Derived.Test.YtcfijljagohmlaaWalkMix
import Derived.Deep.CutBlock
import Derived.Deep.CutRange
namespace Go.Proofs.Ytcfijljagohmlaa
open Go.RowKit

/-- How many there are ahead of the first one that is struck. -/
def preP (p : Ent → Bool) (l : List Ent) : Nat := (l.takeWhile fun x => !p x).length
theorem preP_le (p : Ent → Bool) (l : List Ent) : preP p l ≤ l.length := by
  rw [preP]
  induction l with
  | nil => exact Nat.le_refl _
  | cons x xs ih => rw [List.takeWhile_cons]; split <;> simp; exact ih
theorem preP_hit {p : Ent → Bool} : ∀ {l : List Ent} {k : Nat} {x : Ent}, l[k]? = some x → k ≤ preP p l → p x = true → preP p l = k := by
  intro l
  induction l with
  | nil => intro k x h; simp at h
  | cons y ys ih =>
    intro k x h hk hp
    unfold preP at hk ⊢
    rw [List.takeWhile_cons] at hk ⊢
    cases k with
    | zero =>
      have : y = x := by simpa using h
      rw [this, hp]; rfl
    | succ k =>
      rcases hy : p y
      · rw [hy] at hk
        simp at hk ⊢
        exact ih (by simpa using h) (by unfold preP; simpa using hk) hp
      · rw [hy] at hk; simp at hk
theorem preP_miss {p : Ent → Bool} : ∀ {l : List Ent} {k : Nat} {x : Ent}, l[k]? = some x → k ≤ preP p l → p x = false → k + 1 ≤ preP p l := by
  intro l
  induction l with
  | nil => intro k x h; simp at h
  | cons y ys ih =>
    intro k x h hk hp
    unfold preP at hk ⊢
    rw [List.takeWhile_cons] at hk ⊢
    cases k with
    | zero =>
      have : y = x := by simpa using h
      rw [this, hp]; simp
    | succ k =>
      rcases hy : p y
      · rw [hy] at hk
        simp at hk ⊢
        exact ih (by simpa using h) (by unfold preP; simpa using hk) hp
      · rw [hy] at hk; simp at hk
theorem preP_take {p : Ent → Bool} : ∀ {l : List Ent} {k : Nat}, k ≤ preP p l → (l.take k).filter (fun x => !p x) = l.take k := by
  intro l
  induction l with
  | nil => intro k _; simp
  | cons y ys ih =>
    intro k hk
    cases k with
    | zero => rfl
    | succ k =>
      unfold preP at hk
      rw [List.takeWhile_cons] at hk
      rcases hy : p y
      · rw [hy] at hk
        simp at hk
        rw [List.take_succ_cons, List.filter_cons, hy, if_pos (by rfl), ih (by unfold preP; simpa using hk)]
      · rw [hy] at hk; simp at hk
theorem preP_any {p : Ent → Bool} {l : List Ent} : l.any p = decide (preP p l < l.length) := by
  induction l with
  | nil => rfl
  | cons y ys ih =>
    rw [List.any_cons, ih, preP, preP, List.takeWhile_cons]
    rcases hy : p y <;> simp
/-- What IndexFunc answers. -/
def idxR (p : Ent → Bool) (l : List Ent) (n : Nat) : Int := if preP p l = n then -1 else (preP p l : Nat)
/-- What is asked of a predicate: it may lay blocks of its own. -/
def PredE (g : FuncId) (lb : Array Value) (p : Ent → Bool) (I : World → Prop) : Prop :=
  ∀ (W : World) (x : Ent), I W → Calls Try.prog g (#[x.val] ++ lb) W fun e w' => e = .returned (.bool (p x)) ∧ Below W.heap.size W w'
set_option maxRecDepth 100000 in
set_option maxHeartbeats 2000000 in
theorem idx_any (fn : FuncId) (lb : Array Value) (p : Ent → Bool) (I : World → Prop) (eg : ∀ args w, (callFunc fn args).run Try.prog w = .ok (.enter fn args) w) (hp : PredE fn lb p I) (A : Option Addr) (c n B : Nat) (l : List Ent) (w : World) (hI : ∀ W, Below w.heap.size w W → I W)
    (hr : Rd w B 3 A n (entCells l)) (hln : l.length = n) (hB : B ≤ w.heap.size) (hn : n ≤ 140737488355328) :
    Calls Try.prog 82 #[.slice A n c, .func (.func fn) #[] lb] w fun e w' => e = .returned (.int .i64 (idxR p l n)) ∧ Below w.heap.size w w' := by
  have HLN := Lib.hid hln
  have HP := Lib.hid hp
  have HI := Lib.hid hI
  clear hln hp hI
  go_enter Try.func82, Try.ntmps82
  go_wp2_with fail
  go_loopw [8] (fun x wr => ∃ k : Nat, k ≤ n ∧ x = .int .i64 k ∧ Hid (k ≤ preP p l) ∧ Below w.heap.size w wr) (fun x _ => n - (intOf x).toNat)
  case atStart => exact ⟨0, Nat.zero_le _, rfl, Lib.hid (Nat.zero_le _), Below.refl _ _⟩
  obtain ⟨k, hk, rfl, HK, hbel⟩ := hrel
  by_cases hlt : k < n
  · obtain ⟨ad, x, rfl, hbk, hx, g0, g1, g2⟩ := hr.ent_ hlt HLN.out hbel hB
    have hk0 : (0 : Int) ≤ (k : Int) := by omega
    have hk1 : (k : Int) < (n : Int) := by omega
    have hcall := HP.out wr x (HI.out wr hbel)
    unfold Ent.val at hcall
    rcases hpx : p x
    · have HM := Lib.hid (preP_miss hx HK.out hpx)
      rw [hpx] at hcall
      clear hx hpx
      go_wp2_with (go_at_fn fn; refine hcall.mono ?_; rintro e w2 ⟨rfl, hb2⟩)
      go_roundw
      case rel => exact ⟨k + 1, hlt, by go_num, HM, hbel.trans (hb2.mono hbel.size)⟩
      case measure => simp [intOf]; omega
    · have HM : Hid (idxR p l n = (k : Int)) := Lib.hid (by rw [idxR, preP_hit hx HK.out hpx, if_neg (by omega)])
      rw [hpx] at hcall
      clear hx hpx
      go_wp2_with (go_at_fn fn; refine hcall.mono ?_; rintro e w2 ⟨rfl, hb2⟩)
      go_ret
      exact ⟨by rw [HM.out]; rfl, hbel.trans (hb2.mono hbel.size)⟩
  · obtain rfl : k = n := by omega
    have HM : Hid (idxR p l k = -1) := Lib.hid (by have := preP_le p l; have := HLN.out; have := HK.out; rw [idxR, if_pos (by omega)])
    go_wp2_with fail
    go_ret
    exact ⟨by rw [HM.out]; rfl, hbel⟩
set_option maxRecDepth 100000 in
set_option maxHeartbeats 2000000 in
theorem has_any (fn : FuncId) (lb : Array Value) (p : Ent → Bool) (I : World → Prop) (eg : ∀ args w, (callFunc fn args).run Try.prog w = .ok (.enter fn args) w) (hp : PredE fn lb p I) (A : Option Addr) (c n B : Nat) (l : List Ent) (w : World) (hI : ∀ W, Below w.heap.size w W → I W)
    (hr : Rd w B 3 A n (entCells l)) (hln : l.length = n) (hB : B ≤ w.heap.size) (hn : n ≤ 140737488355328) :
    Calls Try.prog 77 #[.slice A n c, .func (.func fn) #[] lb] w fun e w' => e = .returned (.bool (l.any p)) ∧ Below w.heap.size w w' := by
  have h := idx_any fn lb p I eg hp A c n B l w hI hr hln hB hn
  have hle := preP_le p l
  rw [preP_any]
  unfold idxR at h
  obtain ⟨q, hq⟩ : ∃ q, q = preP p l := ⟨_, rfl⟩
  rw [← hq] at h hle ⊢
  clear hq hr
  have HLN := Lib.hid hln
  by_cases hqn : q = n
  · rw [if_pos hqn] at h
    have HQ : Hid (decide (q < l.length) = false) := Lib.hid (by rw [HLN.out]; exact decide_eq_false (by omega))
    go_enter Try.func77, Try.ntmps77
    go_wp2_with (go_at_call 82; go_must (refine h.mono ?_); rintro e w2 ⟨rfl, hb2⟩)
    go_ret
    exact ⟨by rw [HQ.out]; rfl, hb2⟩
  · rw [if_neg hqn] at h
    have HQ : Hid (decide (q < l.length) = true) := Lib.hid (by rw [HLN.out]; exact decide_eq_true (by omega))
    have hq0 : (0 : Int) ≤ (q : Int) := by omega
    go_enter Try.func77, Try.ntmps77
    go_wp2_with (go_at_call 82; go_must (refine h.mono ?_); rintro e w2 ⟨rfl, hb2⟩)
    go_ret
    exact ⟨by rw [HQ.out]; simp, hb2⟩
/-- Where some are kept: how many of the first j. -/
def kept (p : Ent → Bool) (l : List Ent) (j : Nat) : List Ent := (l.take j).filter fun x => !p x
theorem kept_next {p : Ent → Bool} {l : List Ent} {j : Nat} {x : Ent} (h : l[j]? = some x) : kept p l (j + 1) = kept p l j ++ if p x = true then [] else [x] := by
  rw [kept, kept, List.take_add_one, h, List.filter_append, Option.toList_some, List.filter_cons, List.filter_nil]
  rcases p x <;> rfl
theorem kept_le (p : Ent → Bool) (l : List Ent) (j : Nat) : (kept p l j).length ≤ j := Nat.le_trans (List.length_filter_le _ _) (by simp; omega)
theorem run_clear_ents (w : World) (ty : TypeId) (g o n c : Nat) (hn : 0 < n) (h : w.there g o (n * 3)) :
    ∃ vs : List Value, vs.length = n * 3 ∧ (Builtin.clear_ #[72] ty #[.slice (some ⟨g, o, none⟩) n c]).run Try.prog w = .ok (.tuple #[]) (w.setCells g o vs) := by
  have hz : (zeroValue 107).run Try.prog w = .ok (.agg #[.string ByteArray.empty, .string ByteArray.empty, .bool false]) w := zent w
  have hl : (Builtin.zeroCells #[.string ByteArray.empty, .string ByteArray.empty, .bool false] n).toList.length = n * 3 := by simp [Builtin.zeroCells]
  have hone : ∀ v ∈ (Builtin.zeroCells #[.string ByteArray.empty, .string ByteArray.empty, .bool false] n).toList, v.oneCell' = true := by
    intro v hv
    simp only [Builtin.zeroCells, Array.toList_map, List.mem_map] at hv
    obtain ⟨i, _, rfl⟩ := hv
    have h3 : i % 3 = 0 ∨ i % 3 = 1 ∨ i % 3 = 2 := by omega
    rcases h3 with h3 | h3 | h3 <;> simp [h3, Value.oneCell']
  refine ⟨_, hl, ?_⟩
  have hst := run_storeCells_cells (P := Try.prog) g o (Builtin.zeroCells #[.string ByteArray.empty, .string ByteArray.empty, .bool false] n).toList 0 w (fun j hj => by simpa using (h j (by omega)).1) (fun j hj => by simpa using (h j (by omega)).2) hone
  simp only [Nat.add_zero] at hst
  obtain ⟨m, rfl⟩ : ∃ m, n = m + 1 := ⟨n - 1, by omega⟩
  simp [Builtin.clear_, run_underlying Try.underlying72, hz, Value.cells, hst]
set_option maxRecDepth 100000 in
set_option maxHeartbeats 4000000 in
theorem dele_any (fn : FuncId) (p : Ent → Bool) (eg : ∀ args w, (callFunc fn args).run Try.prog w = .ok (.enter fn args) w) (hp : PredE fn #[] p fun _ => True) (v0 : Value) (n base : Nat) (l : List Ent) (w : World)
    (ho : w.ownsRow base 107 3 v0 n (entCells l)) (hln : l.length = n) (hn : n ≤ 1000000) :
    Calls Try.prog 62 #[v0, .func (.func fn) #[] #[]] w fun e w' => ∃ v, e = .returned v ∧ w'.ownsRow base 107 3 v (l.filter fun x => !p x).length (entCells (l.filter fun x => !p x)) ∧ w.grownBy w' v0.ownBlock := by
  obtain ⟨A, c, rfl, hnc, hcm, _, hr⟩ := own_form ho
  have hidx := idx_any fn #[] p (fun _ => True) eg hp A c n w.heap.size l w (fun _ _ => trivial) hr hln (Nat.le_refl _) (by omega)
  have hle := preP_le p l
  by_cases hq : preP p l = n
  · rw [idxR, if_pos hq] at hidx
    have HR : Hid ((l.filter fun x => !p x) = l) := Lib.hid (by have := preP_take (p := p) (l := l) (k := l.length) (by omega); rwa [List.take_length] at this)
    have HLN := Lib.hid hln
    have HO := Lib.hid ho
    clear hr ho hln hq hle
    go_enter Try.func62, Try.ntmps62
    go_wp2_with (go_at_call 82; go_must (refine hidx.mono ?_); rintro e w2 ⟨rfl, hb2⟩)
    go_ret
    exact ⟨_, rfl, by rw [HR.out, HLN.out]; exact own_up HO.out hb2, only_of_below hb2 _⟩
  · rw [idxR, if_neg hq] at hidx
    have hlt0 : preP p l < n := by omega
    rcases ho.2 with ⟨e0, e1⟩ | ⟨g, cap, cur, e0, _⟩
    · omega
    · injection e0 with e1 e2 e3
      subst e1
      subst e3
      obtain ⟨hsh, hbg, _, _⟩ := shape_own ho
      obtain ⟨adr, he, hab, hcell⟩ := hr.2 (by omega)
      injection he with he
      subst he
      have hat0 : ∀ k x, l[k]? = some x → EntAt w g k x := fun k x hx => by
        obtain ⟨e0, e1, e2⟩ := entCells_at hx
        have h0 := hcell _ _ e0
        have h1 := hcell _ _ e1
        have h2 := hcell _ _ e2
        have ha : ∀ j, (Addr.add ⟨g, 0, none⟩ j : Addr) = ⟨g, j, none⟩ := fun j => by
          unfold Addr.add
          split
          · rename_i h0; rw [h0]
          · simp
        rw [ha] at h0 h1 h2
        exact ⟨h0, h1, h2⟩
      obtain ⟨i0, hi0⟩ : ∃ i0, i0 = preP p l := ⟨_, rfl⟩
      have hk0 : kept p l i0 = l.take i0 := preP_take (by omega)
      have hk1 : kept p l (i0 + 1) = l.take i0 := by
        have hx : l[i0]? = some l[i0] := List.getElem?_eq_getElem (by omega)
        rw [kept_next hx, hk0]
        rcases hpx : p l[i0]
        · have := preP_miss (p := p) hx (by omega) hpx; omega
        · simp
      have HK1 := Lib.hid hk1
      rw [← hi0] at hidx hlt0
      have HLN := Lib.hid hln
      have HAT := Lib.hid hat0
      have HP := Lib.hid hp
      clear hr ho hln hq hle hat0 hcell hab hi0 hk0 hk1 hp e2
      go_enter Try.func62, Try.ntmps62
      have hi00 : ((i0 : Int) == -1) = false := by rw [beq_eq_false_iff_ne]; omega
      go_wp2_with (go_at_call 82; go_must (refine hidx.mono ?_); rintro e w2 ⟨rfl, hb2⟩)
      go_loopw [5, 6] (fun x y wr => ∃ j : Nat, i0 < j ∧ j ≤ n ∧ x = .int .i64 (kept p l j).length ∧ y = .int .i64 j ∧ (kept p l j).length < j ∧ ShapeR wr g 107 (c * 3) ∧ Hid (∀ k x, (kept p l j)[k]? = some x → EntAt wr g k x) ∧ Hid (∀ k x, j ≤ k → l[k]? = some x → EntAt wr g k x) ∧ w.grownBy wr (some g)) (fun _ y _ => n - (intOf y).toNat)
      case atStart =>
        have hg2 : w2.heap[g]? = w.heap[g]? := hb2.block g hsh.lt
        have hl0 : (kept p l (i0 + 1)).length = i0 := by rw [HK1.out, List.length_take, HLN.out]; omega
        refine ⟨i0 + 1, by omega, by omega, by rw [hl0], by go_num, by rw [hl0]; omega, hsh.same hg2, Lib.hid (fun k x hx => ?_), Lib.hid (fun k x _ hx => (HAT.out k x hx).same hg2), only_of_below hb2 _⟩
        rw [HK1.out, List.getElem?_take] at hx
        split at hx
        · exact (HAT.out k x hx).same hg2
        · cases hx
      clear hb2 hidx hsh
      obtain ⟨j, hij, hjn, rfl, rfl, hkj, hsh, HA, HB, hgr⟩ := hrel
      obtain ⟨i, hi⟩ : ∃ i, i = (kept p l j).length := ⟨_, rfl⟩
      rw [← hi] at hkj ⊢
      have HI := Lib.hid hi
      clear hi
      have hgl := hsh.lt
      by_cases hlt : j < n
      · obtain ⟨x, hx⟩ : ∃ x, l[j]? = some x := ⟨_, List.getElem?_eq_getElem (by rw [HLN.out]; exact hlt)⟩
        obtain ⟨g0, g1, g2⟩ := HB.out j x (Nat.le_refl _) hx
        have HN := Lib.hid (kept_next (p := p) hx)
        have hj0 : (0 : Int) ≤ (j : Int) := by omega
        have hj1 : (j : Int) < (n : Int) := by omega
        have hi0' : (0 : Int) ≤ (i : Int) := by omega
        have hi1' : (i : Int) < (n : Int) := by omega
        have hbx := Blk.new wr 107 #[.string x.key, .string x.value, .bool x.dead]
        have hshA := hsh.same (Below.heap_alloc wr (.cells #[.string x.key, .string x.value, .bool x.dead] 107) g hgl)
        have hgrA := only_alloc hgr (.cells #[.string x.key, .string x.value, .bool x.dead] 107)
        have hcall := HP.out (wr.alloc (.cells #[.string x.key, .string x.value, .bool x.dead] 107)) x trivial
        unfold Ent.val at hcall
        rcases hpx : p x
        · rw [hpx] at hcall HN
          have HN2 : Hid (kept p l (j + 1) = kept p l j ++ [x]) := Lib.hid (by rw [HN.out]; rfl)
          have HX := Lib.hid hx
          clear hx hpx HN
          go_upto_region 9 with (go_at_fn fn; go_must (refine hcall.mono ?_); rintro e w3 ⟨rfl, hb3⟩)
          have hbx3 := hbx.up hb3
          have hsh3 := hshA.same (hb3.block g hshA.lt)
          have hgr3 := only_trans hgrA (only_of_below hb3 _)
          have z0 := hbx3.cell 0
          have z1 := hbx3.cell 1
          have z2 := hbx3.cell 2
          simp at z0 z1 z2
          obtain ⟨u0, k0⟩ := Option.isSome_iff_exists.1 (hsh3.some_ (j := i * 3) (by omega))
          obtain ⟨u1, k1⟩ := Option.isSome_iff_exists.1 (hsh3.some_ (j := i * 3 + 1) (by omega))
          obtain ⟨u2, k2⟩ := Option.isSome_iff_exists.1 (hsh3.some_ (j := i * 3 + 2) (by omega))
          have f0 := hsh3.frozen (i * 3)
          have f1 := hsh3.frozen (i * 3 + 1)
          have f2 := hsh3.frozen (i * 3 + 2)
          go_wp2_with fail
          have hl3 : (kept p l (j + 1)).length = i + 1 := by rw [HN2.out, List.length_append, ← HI.out]; rfl
          have hsm : w3.heap[g]? = wr.heap[g]? := (hb3.block g hshA.lt).trans (Below.heap_alloc wr _ g hgl)
          go_roundw
          case rel =>
            refine ⟨j + 1, by omega, by omega, by rw [hl3]; go_num, by go_num, by rw [hl3]; omega, hsh3.setMany [.string x.key, .string x.value, .bool x.dead] (i * 3) _, Lib.hid (fun k y hy => ?_), Lib.hid (fun k y hk hy => ((HB.out k y (by omega) hy).same hsm).apart (by omega) _ _ _), only_trans hgr3 (setCells_grown g [.string x.key, .string x.value, .bool x.dead] (i * 3) _)⟩
            rw [HN2.out] at hy
            rcases Nat.lt_trichotomy k i with hki | hki | hki
            · rw [List.getElem?_append_left (by rw [← HI.out]; exact hki)] at hy
              exact ((HA.out k y hy).same hsm).apart (by omega) _ _ _
            · subst hki
              rw [HI.out, List.getElem?_append_right (Nat.le_refl _), Nat.sub_self] at hy
              obtain rfl : x = y := by simpa using hy
              exact EntAt.put hsh3 (by omega) x
            · have := (List.getElem?_eq_some_iff.1 hy).1
              rw [List.length_append, ← HI.out] at this
              simp at this
              omega
          case measure => simp [intOf]; omega
        · rw [hpx] at hcall HN
          have HN2 : Hid (kept p l (j + 1) = kept p l j) := Lib.hid (by rw [HN.out]; simp)
          clear hx hpx HN
          go_wp2_with (go_at_fn fn; go_must (refine hcall.mono ?_); rintro e w3 ⟨rfl, hb3⟩)
          have hsm : w3.heap[g]? = wr.heap[g]? := (hb3.block g hshA.lt).trans (Below.heap_alloc wr _ g hgl)
          go_roundw
          case rel => exact ⟨j + 1, by omega, by omega, by rw [HN2.out, ← HI.out], by go_num, by rw [HN2.out, ← HI.out]; omega, hsh.same hsm, Lib.hid (fun k y hy => by rw [HN2.out] at hy; exact (HA.out k y hy).same hsm), Lib.hid (fun k y hk hy => (HB.out k y (by omega) hy).same hsm), only_trans hgrA (only_of_below hb3 _)⟩
          case measure => simp [intOf]; omega
      · obtain rfl : j = n := by omega
        have HK : Hid (kept p l j = l.filter fun x => !p x) := Lib.hid (by rw [kept, ← HLN.out, List.take_length])
        obtain ⟨vs, _, hcl⟩ := run_clear_ents wr 0 g (i * 3) (j - i) (c - i) (by omega) (hsh.there (by omega))
        have hi0' : (0 : Int) ≤ (i : Int) := by omega
        have hij' : (i : Int) ≤ (j : Int) := by omega
        have hic' : (i : Int) < (c : Int) := by omega
        have HIJ := Lib.hid hkj
        go_wp2_with fail
        go_ret
        refine ⟨_, rfl, ?_, only_trans hgr (setCells_grown g _ _ _)⟩
        rw [← HK.out, ← HI.out]
        refine own_shape (hsh.setMany _ _ _) hbg (by omega) hcm (by rw [entCells_length, ← HI.out]) (entCells_of fun k x hx => ?_)
        have hki : k < i := by rw [HI.out]; exact (List.getElem?_eq_some_iff.1 hx).1
        obtain ⟨c0, c1, c2⟩ := HA.out k x hx
        have hout : ∀ q, q < 3 → (wr.setCells g (i * 3) vs).cell? ⟨g, k * 3 + q, none⟩ = wr.cell? ⟨g, k * 3 + q, none⟩ := fun q hq =>
          World.cell?_setCells_out g vs (i * 3) wr ⟨g, k * 3 + q, none⟩ (fun _ _ => by left; show k * 3 + q < i * 3; omega)
        exact ⟨(hout 0 (by omega)).trans c0, (hout 1 (by omega)).trans c1, (hout 2 (by omega)).trans c2⟩
end Go.Proofs.Ytcfijljagohmlaa
