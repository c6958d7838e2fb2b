/- The walks of slices.IndexFunc and slices.ContainsFunc at texts, asked for one that is no name. -/
import Derived.Test.YtmeemcafjebanaaGreatDoorShareMem
import Derived.Test.YtmeemcafjebanaaGreatDoorDiskNamed
import Derived.Shelf.Abstract
namespace Go.Proofs.YtmeemcafjebanaaGreatDoor
open Go.RowKit Go.Maps Go.WideMaps Go.Shelf

theorem take1_enters : ∀ args W, (callFunc 31 args).run Tryz.prog W = .ok (.enter 31 args) W := enters_of Tryz.func31 (by kernel_rfl) rfl
set_option maxRecDepth 100000 in
theorem take1_any (s : ByteArray) (w : World) (hs : s.size ≤ 9223372036854775807) :
    Calls Tryz.prog 31 #[.string s] w fun e w' => e = .returned (.bool (!namedB s)) ∧ Below w.heap.size w w' := by
  have hnm := named_any s w hs
  go_enter Tryz.func31, Tryz.ntmps31
  go_wp2_with (go_at_call 32; go_must (refine hnm.mono ?_); rintro e w1 ⟨rfl, hb1⟩)
  go_ret
  exact ⟨rfl, hb1⟩
set_option maxRecDepth 100000 in
set_option maxHeartbeats 2000000 in
theorem idxs_any (A : Option Addr) (c n B : Nat) (l : List ByteArray) (w : World) (hr : Rd w B 1 A n (l.map sv)) (hln : l.length = n) (hB : B ≤ w.heap.size) (hn : n ≤ 140737488355328) (hsz : ∀ x ∈ l, x.size ≤ 9223372036854775807) :
    Calls Tryz.prog 51 #[.slice A n c, .func (.func 31) #[] #[]] w fun e w' => ∃ r : Int, e = .returned (.int .i64 r) ∧ (l.all namedB = true ∧ r = -1 ∨ l.all namedB = false ∧ 0 ≤ r) ∧ Below w.heap.size w w' := by
  have HLN := Lib.hid hln
  have HSZ := Lib.hid hsz
  have eg := take1_enters
  clear hln hsz
  go_enter Tryz.func51, Tryz.ntmps51
  go_wp2_with fail
  go_loopw [8] (fun x wr => ∃ k : Nat, k ≤ n ∧ x = .int .i64 k ∧ Hid ((l.take k).all namedB = true) ∧ Below w.heap.size w wr) (fun x _ => n - (intOf x).toNat)
  case atStart => exact ⟨0, Nat.zero_le _, rfl, Lib.hid rfl, Below.refl _ _⟩
  obtain ⟨k, hk, rfl, HK, hbel⟩ := hrel
  by_cases hlt : k < n
  · have hx : l[k]? = some (strAt l k) := by
      have := HLN.out
      rw [strAt, List.getD_eq_getElem?_getD, List.getElem?_eq_getElem (by omega)]; rfl
    obtain ⟨ad, rfl, _, g0⟩ := (hr.below hbel hB).str_ hlt
    obtain ⟨x, hxe⟩ : ∃ x, x = strAt l k := ⟨_, rfl⟩
    rw [← hxe] at g0 hx
    have hk0 : (0 : Int) ≤ (k : Int) := by omega
    have hk1 : (k : Int) < (n : Int) := by omega
    have hcall := take1_any x wr (HSZ.out x (List.mem_of_getElem? hx))
    have HX := Lib.hid hx
    clear hxe hx
    rcases hpx : namedB x
    · rw [hpx] at hcall
      have HM : Hid (l.all namedB = false) := Lib.hid (by
        rcases h : l.all namedB
        · rfl
        · rw [List.all_eq_true.1 h x (List.mem_of_getElem? HX.out)] at hpx; cases hpx)
      clear hpx
      go_wp2_with (go_at_fn 31; refine hcall.mono ?_; rintro e w2 ⟨rfl, hb2⟩)
      go_ret
      exact ⟨(k : Int), rfl, .inr ⟨HM.out, hk0⟩, hbel.trans (hb2.mono hbel.size)⟩
    · rw [hpx] at hcall
      have HM : Hid ((l.take (k + 1)).all namedB = true) := Lib.hid (by
        rw [List.take_add_one, HX.out, List.all_append, HK.out]
        simpa using hpx)
      clear hpx
      go_wp2_with (go_at_fn 31; refine hcall.mono ?_; rintro e w2 ⟨rfl, hb2⟩)
      go_roundw
      case rel => exact ⟨k + 1, hlt, by go_num, HM, hbel.trans (hb2.mono hbel.size)⟩
      case measure => simp [intOf]; omega
  · obtain rfl : k = n := by omega
    have HM : Hid (l.all namedB = true) := Lib.hid (by rw [← HK.out, List.take_of_length_le (Nat.le_of_eq HLN.out)])
    go_wp2_with fail
    go_ret
    exact ⟨-1, rfl, .inl ⟨HM.out, rfl⟩, hbel⟩
set_option maxRecDepth 100000 in
set_option maxHeartbeats 2000000 in
theorem nonames_any (A : Option Addr) (c n B : Nat) (l : List ByteArray) (w : World) (hr : Rd w B 1 A n (l.map sv)) (hln : l.length = n) (hB : B ≤ w.heap.size) (hn : n ≤ 140737488355328) (hsz : ∀ x ∈ l, x.size ≤ 9223372036854775807) :
    Calls Tryz.prog 30 #[.slice A n c, .func (.func 31) #[] #[]] w fun e w' => e = .returned (.bool (!l.all namedB)) ∧ Below w.heap.size w w' := by
  have h := idxs_any A c n B l w hr hln hB hn hsz
  rcases hb : l.all namedB
  · have h2 : Calls Tryz.prog 51 #[.slice A n c, .func (.func 31) #[] #[]] w fun e w' => ∃ r : Int, e = .returned (.int .i64 r) ∧ 0 ≤ r ∧ Below w.heap.size w w' := h.mono fun e w' ⟨r, h1, h2, h3⟩ => ⟨r, h1, by rw [hb] at h2; simpa using h2, h3⟩
    clear h hb hsz
    go_enter Tryz.func30, Tryz.ntmps30
    go_wp2_with (go_at_call 51; go_must (refine h2.mono ?_); rintro e w2 ⟨r, rfl, hr0, hb2⟩)
    go_ret
    exact ⟨by simp, hb2⟩
  · have h2 : Calls Tryz.prog 51 #[.slice A n c, .func (.func 31) #[] #[]] w fun e w' => e = .returned (.int .i64 (-1)) ∧ Below w.heap.size w w' := h.mono fun e w' ⟨r, h1, h2, h3⟩ => ⟨by rw [hb] at h2; rw [h1]; simp at h2; rw [h2], h3⟩
    clear h hb hsz
    go_enter Tryz.func30, Tryz.ntmps30
    go_wp2_with (go_at_call 51; go_must (refine h2.mono ?_); rintro e w2 ⟨rfl, hb2⟩)
    go_ret
    exact ⟨rfl, hb2⟩
end Go.Proofs.YtmeemcafjebanaaGreatDoor
