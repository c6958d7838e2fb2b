/- The walk of (*Share).Keep. -/
import Derived.Test.YtmeemcafjebanaaGreatDoorShareList
import Derived.Test.YtmeemcafjebanaaGreatDoorShareDrop
namespace Go.Proofs.YtmeemcafjebanaaGreatDoor
open Go.RowKit Go.Maps Go.WideMaps

theorem PMap.wf {w : World} {M : Nat} {l : List Pic} (h : PMap w M l) : ∀ p ∈ l, (Lit.int .i64 p.n).wf = true := by
  intro p hp
  obtain ⟨D, hD, hL⟩ := h
  have hh := hL.there p hp
  obtain ⟨es, rfl, hko⟩ := hD.keysOf
  rw [has_eq, List.any_eq_true] at hh
  obtain ⟨e, he, hs⟩ := hh
  obtain ⟨v, hv⟩ := hko e he
  obtain ⟨x, _, hx, hw⟩ := Maps.keyOf_i64 Tryz.underlying3 hv
  rw [hx] at hs
  have : x = p.n := by simpa [Lit.sameKey, kfP] using hs
  rw [← this]; exact hw
/-- Those that are left. -/
def offMany (pics : List Pic) (ns : List Int) : List Pic := ns.foldl (fun l n => offI n l) pics
theorem offMany_mem {p : Pic} : ∀ {ns : List Int} {pics : List Pic}, p ∈ offMany pics ns ↔ p ∈ pics ∧ p.n ∉ ns := by
  intro ns
  induction ns with
  | nil => intro pics; simp [offMany]
  | cons n ns ih =>
    intro pics
    show p ∈ offMany (offI n pics) ns ↔ _
    rw [ih, mem_offI, List.mem_cons, not_or, and_assoc]
theorem offMany_step {pics : List Pic} {ns : List Int} {i : Nat} {x : Int} (h : ns[i]? = some x) : offMany pics (ns.take (i + 1)) = offI x (offMany pics (ns.take i)) := by
  rw [offMany, List.take_add_one, h, List.foldl_append]; rfl
theorem offMany_len (ns : List Int) : ∀ pics : List Pic, (offMany pics ns).length ≤ pics.length := by
  induction ns with
  | nil => intro pics; exact Nat.le_refl _
  | cons n ns ih => intro pics; exact Nat.le_trans (ih (offI n pics)) (by rw [offI_is]; exact List.length_filter_le _ _)
theorem atP_mem {pics : List Pic} {n : Int} (h : ∃ p ∈ pics, p.n = n) : ∃ p, atP n pics = some p := by
  rcases ha : atP n pics with _ | p
  · obtain ⟨p, hp, e⟩ := h
    exact absurd e (atP_none.1 ha p hp)
  · exact ⟨p, rfl⟩
theorem numsL_perm (pics : List Pic) : (numsL pics).Perm (pics.map Pic.n) := List.mergeSort_perm _ _
theorem numsL_len (pics : List Pic) : (numsL pics).length = pics.length := by rw [(numsL_perm pics).length_eq, List.length_map]
theorem nodup_takeI {l : List Int} (h : l.Nodup) {i : Nat} {x : Int} (hx : l[i]? = some x) : x ∉ l.take i := by
  intro hm
  obtain ⟨j, hj⟩ := List.mem_iff_getElem?.1 hm
  have hlt := (List.getElem?_eq_some_iff.1 hj).1
  have hji : j < i := by rw [List.length_take] at hlt; omega
  rw [List.getElem?_take_of_lt hji] at hj
  have hil := (List.getElem?_eq_some_iff.1 hx).1
  have := (List.getElem?_inj (by omega : j < l.length) h).1 (hj.trans hx.symm)
  omega
/-- How many go. -/
def goneK (many : Int) (n : Nat) : Nat := (max 0 ((n : Int) - max 0 many)).toNat
set_option maxRecDepth 100000 in
set_option maxHeartbeats 4000000 in
theorem keep_any (base g : Nat) (pics : List Pic) (many : Int) (w : World) (h : ShareIn w base g pics) (hpl : pics.length ≤ 300) (hbw : base ≤ w.heap.size) (hm0 : -9223372036854775808 ≤ many) (hm1 : many ≤ 9223372036854775807) :
    Calls Tryz.prog 10 #[.pointer (some ⟨g, 0, none⟩), .int .i64 many] w fun r w' => ∃ A c, r = .returned (.slice A (goneK many pics.length) c) ∧ Rd w' w'.heap.size 1 A (goneK many pics.length) (((numsL pics).take (goneK many pics.length)).map (Value.int .i64)) ∧ ShareIn w' base g (offMany pics ((numsL pics).take (goneK many pics.length))) ∧ Below base w w' ∧ KeepF offMap w w' := by
  have hpc := pictures_any base g pics w h hpl
  have hnd : (numsL pics).Nodup := (numsL_perm pics).nodup_iff.2 (List.pairwise_map.2 (by obtain ⟨_, _, _, _, _, _, _, _, hP, _, _⟩ := h.rows; exact hP.apart))
  have HND := Lib.hid hnd
  have hnl := numsL_len pics
  have HDR := Lib.hid (fun (W : World) (i : Nat) (x : Int) (hx : (numsL pics)[i]? = some x) (hS : ShareIn W base g (offMany pics ((numsL pics).take i))) (hb : base ≤ W.heap.size) =>
    (show Calls Tryz.prog 9 #[.pointer (some ⟨g, 0, none⟩), .int .i64 x] W fun r w' => r = .returned (errV 0) ∧ ShareIn w' base g (offMany pics ((numsL pics).take (i + 1))) ∧ Below base W w' ∧ KeepF offMap W w' from by
      have hm : x ∈ pics.map Pic.n := (numsL_perm pics).mem_iff.1 (List.mem_of_getElem? hx)
      obtain ⟨p, hp, hpn⟩ := List.mem_map.1 hm
      have hp2 : p ∈ offMany pics ((numsL pics).take i) := offMany_mem.2 ⟨hp, by rw [hpn]; exact nodup_takeI hnd hx⟩
      obtain ⟨p2, hat⟩ := atP_mem ⟨p, hp2, hpn⟩
      have hwf : (Lit.int .i64 x).wf = true := by
        obtain ⟨_, _, _, _, _, _, _, _, hP, _, _⟩ := hS.rows
        rw [← hpn]; exact hP.wf p hp2
      rw [offMany_step hx]
      exact drop_yes base g _ x p2 W hS hwf (Nat.le_trans (offMany_len _ _) hpl) hb hat))
  obtain ⟨k, hk⟩ : ∃ k, k = goneK many pics.length := ⟨_, rfl⟩
  have hk2 : k = (max 0 ((pics.length : Int) - max 0 many)).toNat := hk
  obtain ⟨N, hN⟩ : ∃ N, N = numsL pics := ⟨_, rfl⟩
  obtain ⟨pl, hpl2⟩ : ∃ pl, pl = pics.length := ⟨_, rfl⟩
  rw [← hN] at hpc HDR hnl ⊢
  rw [← hk]
  rw [← hpl2] at hpc hk2 hpl hnl
  have HNL := Lib.hid hnl
  have hkl : k ≤ pl := by omega
  have hS0 := h
  have HK2 := Lib.hid hk2
  clear hnd hnl hk hN hpl2 h HND hk2
  go_enter Tryz.func10, Tryz.ntmps10
  go_upto_region 2 with (go_at_call 12; go_must (refine hpc.mono ?_); rintro e w1 ⟨v1, rfl, hown1, hb1⟩)
  obtain ⟨A1, c1, rfl, hnc, hcm, _, hr1⟩ := own_form hown1
  have hS1 := hS0.up hb1
  have hbw1 := hb1.mono hbw
  have hkw1 : KeepF offMap w w1 := keepF_below hb1
  have hm2 : max 0 ((pl : Int) - max 0 many) = (k : Int) := by have := HK2.out; omega
  clear hpc hS0
  go_upto_region 3 with fail
  have HO1 := Lib.hid hown1
  clear hr1 hown1 hm2 hnc hcm
  generalize max 0 many = mz at *
  go_wp2_with fail
  go_loopw [20] (fun iv wr => ∃ i : Nat, i ≤ k ∧ iv = .int .i64 i ∧ ShareIn wr base g (offMany pics (N.take i)) ∧ KeepF offMap w1 wr ∧ Below base w wr) (fun iv _ => k - (intOf iv).toNat)
  case atStart => exact ⟨0, Nat.zero_le _, rfl, hS1, KeepF.refl _ _, hbw1⟩
  clear hS1 hbw1
  obtain ⟨i, hi, rfl, hS, hkr, hbel⟩ := hrel
  have hr := own_rd (hkr.own HO1.out (fun _ => rfl))
  by_cases hlt : i < k
  · have hx : N[i]? = some (N.getD i 0) := by
      have := HNL.out
      rw [List.getD_eq_getElem?_getD, List.getElem?_eq_getElem (by omega)]; rfl
    obtain ⟨ad, u, rfl, _, hu, g0⟩ := hr.at_ (k := i) (by omega)
    obtain rfl : u = .int .i64 (N.getD i 0) := by
      rw [List.getElem?_map, hx] at hu
      injection hu with hu
      exact hu.symm
    have hdr := HDR.out wr i _ hx hS (Nat.le_trans hbw hbel.size)
    generalize N.getD i 0 = x at *
    have hi0 : (0 : Int) ≤ (i : Int) := by omega
    have hi1 : (i : Int) < (k : Int) := by omega
    clear hx hu
    go_wp2_with (go_at_call 9; go_must (refine hdr.mono ?_); rintro e w3 ⟨rfl, hS3, hb3, hk3⟩)
    go_roundw
    case rel => exact ⟨i + 1, hlt, by go_num, hS3, hkr.trans hk3, hbel.trans hb3⟩
    case measure => simp [intOf]; omega
  · obtain rfl : i = k := by omega
    have hrt := hr.take hkl
    rw [Nat.mul_one, ← List.map_take] at hrt
    have HRT := Lib.hid hrt
    clear hrt
    go_wp2_with fail
    go_ret
    exact ⟨A1, c1, rfl, HRT.out, hS, hbel, hkw1.trans hkr⟩
end Go.Proofs.YtmeemcafjebanaaGreatDoor
