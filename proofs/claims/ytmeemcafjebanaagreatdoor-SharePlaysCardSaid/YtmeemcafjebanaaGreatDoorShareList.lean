/- The walks of (*Share).Live, Pictures, Count and share.New. -/
import Derived.Test.YtmeemcafjebanaaGreatDoorShareTake
import Derived.Test.YtmeemcafjebanaaGreatDoorShelfShare
import Derived.Test.YtmeemcafjebanaaGreatDoorDiskNames
namespace Go.Proofs.YtmeemcafjebanaaGreatDoor
open Go.RowKit Go.Maps Go.WideMaps Go.Sort Go.Shelf

set_option maxRecDepth 100000 in
set_option maxHeartbeats 2000000 in
theorem snew_any (w : World) :
    Calls Tryz.prog 5 #[] w fun r w' => ∃ g, r = .returned (.pointer (some ⟨g, 0, none⟩)) ∧ ShareIn w' w.heap.size g [] ∧ Below w.heap.size w w' := by
  have hmm := @run_makeMap Tryz.prog
  go_enter Tryz.func5, Tryz.ntmps5
  go_wp2_with fail
  go_ret
  have hm1 : PMap ((w.alloc (.map #[] 0)).alloc (.map #[] 0)) w.heap.size [] := ⟨_, (World.ownsMap_made w Tryz.prog 3 slR).alloc _, MapL.start⟩
  have hm2 : CMap ((w.alloc (.map #[] 0)).alloc (.map #[] 0)) (w.heap.size + 1) [] := by
    have := World.ownsMap_made (w.alloc (.map #[] 0)) Tryz.prog 9 cR
    rw [show (w.alloc (.map #[] 0)).heap.size = w.heap.size + 1 from by simp] at this
    exact ⟨_, this, MapL.start⟩
  have hb0 : Below w.heap.size w ((w.alloc (.map #[] 0)).alloc (.map #[] 0)) := ((Below.refl _ w).alloc (Nat.le_refl _) _).alloc (by simp) _
  have hsz : ((w.alloc (.map #[] 0)).alloc (.map #[] 0)).heap.size = w.heap.size + 1 + 1 := by simp
  have hbl := Blk.new ((w.alloc (.map #[] 0)).alloc (.map #[] 0)) 70 #[.map (some w.heap.size), .map (some (w.heap.size + 1))]
  rw [hsz] at hbl
  have hb1 := (Below.refl _ ((w.alloc (.map #[] 0)).alloc (.map #[] 0))).alloc (Nat.le_refl _) (.cells #[.map (some w.heap.size), .map (some (w.heap.size + 1))] 70)
  exact ⟨_, rfl, ⟨⟨_, _, [], hbl, by omega, Nat.le_refl _, Nat.le_succ _, by omega, hm1.up hb1, hm2.up hb1, ⟨fun x hx => by simp at hx, fun nm h => by simp [cntP] at h⟩⟩, fun p hp => by simp at hp⟩, hb0.trans (hb1.mono hb0.size)⟩
set_option maxRecDepth 100000 in
theorem count_any (base g : Nat) (pics : List Pic) (nm : ByteArray) (w : World) (h : ShareIn w base g pics) (hs : nm.size ≤ maxLen) :
    Calls Tryz.prog 13 #[.pointer (some ⟨g, 0, none⟩), .string nm] w fun r w' => r = .returned (.int .i64 (cntP pics nm)) ∧ w' = w := by
  obtain ⟨Mp, Mc, C, hblk, hbg, hMp, hMc, hne, hP, hC, hcnt⟩ := h.rows
  have hlk := hC.look hs
  rw [hcnt.at_ nm] at hlk
  have c1 := hblk.cell 1
  simp at c1
  generalize cntP pics nm = kk at *
  go_enter Tryz.func13, Tryz.ntmps13
  go_wp2_with fail
  go_ret
  exact ⟨rfl, rfl⟩
/-! ### the names in order -/
theorem skeys_here (mb : Option Nat) (W : World) : CallsIn Fence.wide 5 Tryz.prog 39 #[.map mb] W fun e w' => e = .returned (.func (.func 59) #[] #[.pointer (some ⟨W.heap.size, 0, none⟩)]) ∧ w' = W.alloc (.cells #[.map mb] 68) :=
  AnyZ.keys_in laysKeysS Fence.wide 5 trivial rfl mb W
set_option maxHeartbeats 1000000 in
theorem ssorted_here (b nn : Nat) (D0 : DataW Unit) (w : World) (hown : w.ownsMap Tryz.prog 9 cR b nn D0) (hmax : Maps.size D0 ≤ maxLen) (hbytes : Maps.size D0 * 16 ≤ 140737488355328) :
    CallsIn Fence.wide 5 Tryz.prog 38 #[.func (.func 59) #[] #[.pointer (some ⟨w.heap.size, 0, none⟩)]] (w.alloc (.cells #[.map (some b)] 68)) fun e w' => ∃ (v : Value) (ss : List (List UInt8)), e = .returned v ∧ ss.Perm (strKeys D0) ∧
      w'.ownsRow (w.alloc (.cells #[.map (some b)] 68)).heap.size 9 1 v ss.length ((ss.mergeSort (fun x y => decide (x ≤ y))).map encStr) ∧ (v = .slice none 0 0 ↔ ss = []) ∧ Below (w.alloc (.cells #[.map (some b)] 68)).heap.size (w.alloc (.cells #[.map (some b)] 68)) w' := by
  have hbl := hown.lt
  have hseq : SeqGives Fence.wide 2 Tryz.prog 59 #[.pointer (some ⟨w.heap.size, 0, none⟩)] encStr (fun ss => ss.Perm (strKeys D0)) (Maps.size D0) (w.alloc (.cells #[.map (some b)] 68)) :=
    AnyZ.keys_gives (ρ := laysKeysS_ren) { laysKeysS with } Fence.wide _ trivial rfl (by omega) w.heap.size b nn D0 _ (by simp) (by simp) (by
      obtain ⟨es, clock, hb, Ft, hs, hD⟩ := hown
      exact ⟨es, clock, (Below.heap_alloc _ _ b hbl).trans hb, Ft, hs, hD⟩)
  exact AnyZ.sorted_in laysSorted Fence.wide 5 trivial trivial trivial trivial rfl (by omega) (sortsHere _) (enters_of Tryz.func34 (by kernel_rfl) rfl) 59 #[.pointer (some ⟨w.heap.size, 0, none⟩)] trivial (enters_of Tryz.func59 (by kernel_rfl) rfl) _ _ hmax hbytes _ hseq
theorem strKeys_cn {w : World} {M n : Nat} {D : DataW Unit} {l : List Cn} (hown : w.ownsMap Tryz.prog 9 cR M n D) (h : MapL kfC cD D l) {ss : List (List UInt8)} (hp : ss.Perm (strKeys D)) : ss.Perm (l.map fun x => kb x.name) := by
  refine hp.trans ?_
  obtain ⟨es, hD, hpw, _⟩ := hown.entries kstr
  obtain ⟨es', hD', hko⟩ := hown.keysOf
  obtain rfl : es = es' := by rw [hD] at hD'; simpa using hD'
  subst hD
  refine (perm_strKeys hpw (fun p hp => by obtain ⟨v, hv⟩ := hko p hp; obtain ⟨x, _, hx, _⟩ := Maps.keyOf_str Tryz.underlying9 hv; exact ⟨x, hx⟩) ?_ fun x => ?_).symm
  · refine List.pairwise_map.2 (h.apart.imp fun {a b} hne e => hne ?_)
    exact congrArg Lit.string e
  · constructor
    · intro hx
      obtain ⟨y, hy, rfl⟩ := List.mem_map.1 hx
      exact h.there y hy
    · intro hx
      obtain ⟨y, hy, e⟩ := h.dom _ hx
      refine List.mem_map.2 ⟨y, hy, ?_⟩
      injection e with e
      exact e.symm
/-- Sorted, and none twice: they rise. -/
theorem sorted_rise {ss : List (List UInt8)} (hn : ss.Nodup) : riseK ((ss.mergeSort fun x y => decide (x ≤ y)).map bk) := by
  rw [riseK, List.pairwise_map]
  have h1 : (ss.mergeSort fun x y => decide (x ≤ y)).Pairwise fun a b => decide (a ≤ b) = true := List.pairwise_mergeSort (fun a b c h1 h2 => by simp only [decide_eq_true_eq] at *; exact List.le_trans h1 h2) (fun a b => by simp only [Bool.or_eq_true, decide_eq_true_eq]; exact List.le_total a b) _
  have h2 : (ss.mergeSort fun x y => decide (x ≤ y)).Nodup := (List.mergeSort_perm ss _).nodup_iff.2 hn
  refine (h1.and h2).imp fun {a b} ⟨hab, hne⟩ => ?_
  rw [klt_kb, kb_bk, kb_bk]
  have hab : a ≤ b := by simpa using hab
  rcases bl_tri a b with t | t | t
  · exact t
  · exact absurd t hne
  · exact absurd t (List.not_lt.2 hab)
set_option maxHeartbeats 1000000 in
theorem live_any (base g : Nat) (pics : List Pic) (w : World) (h : ShareIn w base g pics) (hpl : pics.length ≤ 300) :
    Calls Tryz.prog 14 #[.pointer (some ⟨g, 0, none⟩)] w fun e w' => ∃ (v : Value) (l : List ByteArray), e = .returned v ∧ w'.ownsRow w.heap.size 9 1 v l.length (l.map sv) ∧ riseK l ∧ (∀ m, m ∈ l ↔ 0 < cntP pics m) ∧ Below w.heap.size w w' := by
  obtain ⟨Mp, Mc, C, hblk, _, _, _, _, _, hC, hcnt⟩ := h.rows
  have hclen := cn_len hC hcnt fun m hm => cntP_mem hm
  have hfl4 := flat_le400 (pics := pics) fun p hp => (h.fine p hp).2.2.2
  obtain ⟨D, hD, hL⟩ := hC
  have hsz : Maps.size D = C.length := hL.size
  have hmax : Maps.size D ≤ maxLen := by unfold maxLen; omega
  have hbytes : Maps.size D * 16 ≤ 140737488355328 := by omega
  have c1 := hblk.cell 1
  simp at c1
  have HP := Lib.hid (fun (ss : List (List UInt8)) (hp : ss.Perm (strKeys D)) => (show ∃ l : List ByteArray, ss.length = l.length ∧ (ss.mergeSort fun x y => decide (x ≤ y)).map encStr = l.map sv ∧ riseK l ∧ (∀ m, m ∈ l ↔ 0 < cntP pics m) from by
    have h1 := strKeys_cn hD hL hp
    have hnd : ss.Nodup := h1.nodup_iff.2 (List.pairwise_map.2 (hL.apart.imp fun {a b} hne e => hne (congrArg Lit.string e)))
    refine ⟨(ss.mergeSort fun x y => decide (x ≤ y)).map bk, by simp, (sv_enc _).symm, sorted_rise hnd, fun m => ?_⟩
    rw [List.mem_map]
    constructor
    · rintro ⟨x, hx, rfl⟩
      rw [List.mem_mergeSort] at hx
      obtain ⟨y, hy, rfl⟩ := List.mem_map.1 (h1.mem_iff.1 hx)
      obtain ⟨k1, k2⟩ := hcnt.is_ y hy
      rw [bk_kb, ← k1]; exact k2
    · intro hm
      obtain ⟨y, hy, rfl⟩ := hcnt.has m hm
      exact ⟨kb y.name, by rw [List.mem_mergeSort]; exact h1.mem_iff.2 (List.mem_map.2 ⟨y, hy, rfl⟩), bk_kb _⟩))
  clear hsz hclen hfl4 hL
  refine (callsIn_wide (n := 6)).1 ?_
  have hfK : Fence.wide.fn 39 := trivial
  have hfS : Fence.wide.fn 38 := trivial
  refine callsIn_of_wp Tryz.func14 rfl trivial ?_ rfl
  simp only [Tryz.ntmps14, List.size_toArray, List.length_cons, List.length_nil, Nat.reduceAdd, Nat.reduceSub, Array.replicate_succ, Array.replicate_zero, List.push_toArray, List.append_toArray, List.nil_append, List.cons_append]
  gi_wp2_with (first
    | (gi_at_call 39; refine (skeys_here _ _).mono ?_; rintro e w' ⟨rfl, rfl⟩)
    | (gi_at_call 38; refine (ssorted_here Mc _ D w hD hmax hbytes).mono ?_; rintro e w' ⟨v, ss, rfl, hS, hrow, hnil, hb⟩))
  go_ret
  obtain ⟨l, h1, h2, h3, h4⟩ := HP.out ss hS
  rw [h1, h2] at hrow
  exact ⟨v, l, rfl, ownsRow_base_a hrow (by simp), h3, h4, ((Below.refl _ w).alloc (Nat.le_refl _) _).trans (hb.mono (by simp))⟩
/-! ### the numbers in order -/
theorem sortsI (m : Nat) : AnyZI.SortsIn Tryz.prog laysSortedI_ren Fence.wide m :=
  ⟨fun blk off cap ss W hH hblk hsz => callsIn_wide.2 (Any.slices_Sort_int laysSortI blk off cap ss W hH hblk hsz),
   fun p cap W => callsIn_wide.2 (Any.slices_Sort_int_none laysSortI p cap W)⟩
theorem pkeys_here (mb : Option Nat) (W : World) : CallsIn Fence.wide 5 Tryz.prog 37 #[.map mb] W fun e w' => e = .returned (.func (.func 57) #[] #[.pointer (some ⟨W.heap.size, 0, none⟩)]) ∧ w' = W.alloc (.cells #[.map mb] 67) :=
  AnyZI.keys_in laysKeysI Fence.wide 5 trivial rfl mb W
set_option maxHeartbeats 1000000 in
theorem psorted_here (b nn : Nat) (D0 : DataW Unit) (w : World) (hown : w.ownsMap Tryz.prog 3 slR b nn D0) (hmax : Maps.size D0 ≤ maxLen) (hbytes : Maps.size D0 * 8 ≤ 140737488355328) :
    CallsIn Fence.wide 5 Tryz.prog 36 #[.func (.func 57) #[] #[.pointer (some ⟨w.heap.size, 0, none⟩)]] (w.alloc (.cells #[.map (some b)] 67)) fun e w' => ∃ (v : Value) (ss : List Int), e = .returned v ∧ ss.Perm (intKeys D0) ∧
      w'.ownsRow (w.alloc (.cells #[.map (some b)] 67)).heap.size 3 1 v ss.length ((ss.mergeSort (fun x y => decide (x ≤ y))).map encZ) ∧ (v = .slice none 0 0 ↔ ss = []) ∧ Below (w.alloc (.cells #[.map (some b)] 67)).heap.size (w.alloc (.cells #[.map (some b)] 67)) w' := by
  have hbl := hown.lt
  have hseq : SeqGives Fence.wide 2 Tryz.prog 57 #[.pointer (some ⟨w.heap.size, 0, none⟩)] encZ (fun ss => ss.Perm (intKeys D0)) (Maps.size D0) (w.alloc (.cells #[.map (some b)] 67)) :=
    AnyZI.keys_gives (ρ := laysKeysI_ren) { laysKeysI with } Fence.wide _ trivial rfl (by omega) w.heap.size b nn D0 _ (by simp) (by simp) (by
      obtain ⟨es, clock, hb, Ft, hs, hD⟩ := hown
      exact ⟨es, clock, (Below.heap_alloc _ _ b hbl).trans hb, Ft, hs, hD⟩)
  exact AnyZI.sorted_in laysSortedI Fence.wide 5 trivial trivial trivial trivial rfl (by omega) (sortsI _) (enters_of Tryz.func56 (by kernel_rfl) rfl) 57 #[.pointer (some ⟨w.heap.size, 0, none⟩)] trivial (enters_of Tryz.func57 (by kernel_rfl) rfl) _ _ hmax hbytes _ hseq
theorem intKeys_pic {w : World} {M n : Nat} {D : DataW Unit} {l : List Pic} (hown : w.ownsMap Tryz.prog 3 slR M n D) (h : MapL kfP pD D l) {ss : List Int} (hp : ss.Perm (intKeys D)) : ss.Perm (l.map Pic.n) := by
  refine hp.trans ?_
  obtain ⟨es, hD, hpw, _⟩ := hown.entries kint
  obtain ⟨es', hD', hko⟩ := hown.keysOf
  obtain rfl : es = es' := by rw [hD] at hD'; simpa using hD'
  subst hD
  refine (perm_intKeys hpw (fun p hp => by obtain ⟨v, hv⟩ := hko p hp; obtain ⟨x, _, hx, _⟩ := Maps.keyOf_i64 Tryz.underlying3 hv; exact ⟨x, hx⟩) ?_ fun x => ?_).symm
  · refine List.pairwise_map.2 (h.apart.imp fun {a b} hne e => hne (by rw [kfP, kfP, e]))
  · constructor
    · intro hx
      obtain ⟨y, hy, rfl⟩ := List.mem_map.1 hx
      exact h.there y hy
    · intro hx
      obtain ⟨y, hy, e⟩ := h.dom _ hx
      refine List.mem_map.2 ⟨y, hy, ?_⟩
      have e : Lit.int .i64 x = Lit.int .i64 y.n := e
      injection e with _ e
      exact e.symm
/-- The numbers in order. -/
def numsL (pics : List Pic) : List Int := (pics.map Pic.n).mergeSort fun x y => decide (x ≤ y)
set_option maxHeartbeats 1000000 in
theorem pictures_any (base g : Nat) (pics : List Pic) (w : World) (h : ShareIn w base g pics) (hpl : pics.length ≤ 300) :
    Calls Tryz.prog 12 #[.pointer (some ⟨g, 0, none⟩)] w fun e w' => ∃ v, e = .returned v ∧ w'.ownsRow w.heap.size 3 1 v pics.length ((numsL pics).map (Value.int .i64)) ∧ Below w.heap.size w w' := by
  obtain ⟨Mp, Mc, C, hblk, _, _, _, _, hP, _, _⟩ := h.rows
  obtain ⟨D, hD, hL⟩ := hP
  have hsz : Maps.size D = pics.length := hL.size
  have hmax : Maps.size D ≤ maxLen := by unfold maxLen; omega
  have hbytes : Maps.size D * 8 ≤ 140737488355328 := by omega
  have c0 := hblk.cell 0
  simp at c0
  have HP := Lib.hid (fun (ss : List Int) (hp : ss.Perm (intKeys D)) => (show ss.length = pics.length ∧ (ss.mergeSort fun x y => decide (x ≤ y)) = numsL pics from by
    have h1 := intKeys_pic hD hL hp
    exact ⟨by rw [h1.length_eq, List.length_map], mergeSort_of_perm_i h1⟩))
  clear hsz hL
  refine (callsIn_wide (n := 6)).1 ?_
  have hfK : Fence.wide.fn 37 := trivial
  have hfS : Fence.wide.fn 36 := trivial
  refine callsIn_of_wp Tryz.func12 rfl trivial ?_ rfl
  simp only [Tryz.ntmps12, List.size_toArray, List.length_cons, List.length_nil, Nat.reduceAdd, Nat.reduceSub, Array.replicate_succ, Array.replicate_zero, List.push_toArray, List.append_toArray, List.nil_append, List.cons_append]
  gi_wp2_with (first
    | (gi_at_call 37; refine (pkeys_here _ _).mono ?_; rintro e w' ⟨rfl, rfl⟩)
    | (gi_at_call 36; refine (psorted_here Mp _ D w hD hmax hbytes).mono ?_; rintro e w' ⟨v, ss, rfl, hS, hrow, hnil, hb⟩))
  go_ret
  obtain ⟨h1, h2⟩ := HP.out ss hS
  rw [h1, h2] at hrow
  exact ⟨v, rfl, ownsRow_base_a hrow (by simp), ((Below.refl _ w).alloc (Nat.le_refl _) _).trans (hb.mono (by simp))⟩
end Go.Proofs.YtmeemcafjebanaaGreatDoor
