/- The walks of weirref2.Entries and weirref2.Part. -/
import Derived.Test.YtcfijljagohmlaaDoorWalkTab
import Derived.Test.YtcfijljagohmlaaDoorWalkSearch
namespace Go.Proofs.YtcfijljagohmlaaDoor
open Go.RowKit

set_option maxRecDepth 100000 in
set_option maxHeartbeats 4000000 in
theorem entries_any (A : Option Addr) (c B : Nat) (l : List Ent) (w : World) (hr : Rd w B 3 A l.length (entCells l)) (hok : ∀ r ∈ l, r.Ok) (hl : l.length ≤ 140737488355328) :
    Calls Tryd.prog 21 #[.slice A l.length c] w fun e w' => e = .returned (.int .i64 (entsE l : Nat)) ∧ ∃ q, w' = w.drewN q := by
  obtain ⟨n, hn⟩ : ∃ n, n = l.length := ⟨_, rfl⟩
  have Hn := Lib.hid hn
  rw [← hn] at hr hl ⊢
  clear hn
  by_cases hbig : 400 < n
  · go_enter Tryd.func21, Tryd.ntmps21
    go_wp2
    go_ret
    exact ⟨by rw [entsE_long (l := l) (by have := Hn.out; omega)]; rfl, 0, rfl⟩
  go_enter Tryd.func21, Tryd.ntmps21
  go_wp2_with fail
  go_loopw [3] (fun i wr => ∃ k q : Nat, k ≤ n ∧ i = .int .i64 k ∧ Hid (entsGo none l = entsGo (prevE l k) (l.drop k)) ∧ Hid (wr = w.drewN q)) (fun i _ => n - (intOf i).toNat)
  case atStart => exact ⟨0, 0, Nat.zero_le _, rfl, Lib.hid rfl, Lib.hid rfl⟩
  obtain ⟨k, q, hk, rfl, Hgo, HW⟩ := hrel
  have hrr : Rd wr B 3 A n (entCells l) := by rw [HW.out]; exact hr.drewN q
  by_cases hlt : k < n
  · obtain ⟨ad, r, rfl, _, hx, g0, g1, g2⟩ := hrr.ent_ hlt (Hn.out).symm (Below.refl B wr) (Nat.le_refl _)
    obtain ⟨hro1, hro2⟩ := hok r (List.mem_of_getElem? hx)
    have Hx := Lib.hid hx
    clear hx
    have hk0 : (0 : Int) ≤ (k : Int) := by omega
    have hk1 : (k : Int) < (n : Int) := by omega
    by_cases h1 : 120 < r.key.size
    · have HR : Hid (entE r = 1) := Lib.hid (by rw [entE, if_pos (.inl h1)])
      go_wp2_with fail
      go_ret
      have e1 := entsE_of (l := l) (by have := Hn.out; omega) (Hgo.out.trans ((ego_bad Hx.out (by rw [HR.out]; decide)).trans HR.out))
      exact ⟨by rw [e1]; rfl, q, HW.out⟩
    by_cases h2 : 120 < r.value.size
    · have HR : Hid (entE r = 1) := Lib.hid (by rw [entE, if_pos (.inr h2)])
      go_wp2_with fail
      go_ret
      have e1 := entsE_of (l := l) (by have := Hn.out; omega) (Hgo.out.trans ((ego_bad Hx.out (by rw [HR.out]; decide)).trans HR.out))
      exact ⟨by rw [e1]; rfl, q, HW.out⟩
    by_cases h3 : r.dead = true ∧ r.value.toList ≠ []
    · have HR : Hid (entE r = 3) := Lib.hid (by rw [entE, if_neg (by omega), if_pos h3])
      obtain ⟨h4, h5⟩ := h3
      have t1 : r.value.toList.isEmpty = false := by simpa using h5
      rw [h4] at g2
      go_wp2_with fail
      go_ret
      have e1 := entsE_of (l := l) (by have := Hn.out; omega) (Hgo.out.trans ((ego_bad Hx.out (by rw [HR.out]; decide)).trans HR.out))
      exact ⟨by rw [e1]; rfl, q, HW.out⟩
    · have HR : Hid (entE r = 0) := Lib.hid (by rw [entE, if_neg (by omega), if_neg h3])
      rcases hd : r.dead
      · rw [hd] at g2
        clear hd h3
        rcases k with _ | j
        · have HG := Lib.hid (Hgo.out.trans (ego_next0 Hx.out HR.out))
          simp only [Nat.zero_mul, Addr.add, if_true] at g0 g1 g2
          go_wp2_with fail
          go_quiet (fail)
          have HQ : Hid (wr.drewN nq = w.drewN (q + nq)) := Lib.hid (by rw [HW.out, World.drewN_drewN])
          generalize wr.drewN nq = wq at *
          go_wp2_with fail
          go_roundw
          case rel => exact ⟨1, q + nq, by omega, by go_num, HG, HQ⟩
          case measure => simp [intOf]; omega
        · obtain ⟨ad', p, hp', _, hxp, p0, p1, p2⟩ := hrr.ent_ (k := j) (by omega) (Hn.out).symm (Below.refl B wr) (Nat.le_refl _)
          injection hp' with hp'
          subst hp'
          have Hxp := Lib.hid hxp
          clear hxp p1 p2
          have hi0 : (0 : Int) ≤ (j : Int) := by omega
          have hi1 : (j : Int) < (n : Int) := by omega
          have hi2 : IntKind.i64.wrap ((j : Int) + 1 - 1) = (j : Int) := by rw [IntWalk.i64_in _ (by omega)]; omega
          have hi3 : IntKind.i64.wrap (j : Int) = (j : Int) := IntWalk.i64_in _ (by omega)
          rcases hcmp : keyLt p.key r.key
          · have HG := Lib.hid (Hgo.out.trans (ego_order Hxp.out Hx.out HR.out hcmp))
            have tc : (Op.bytesLess p.key.toList r.key.toList) = false := hcmp
            clear hcmp
            go_wp2_with fail
            go_quiet (fail)
            have HQ : Hid (wr.drewN nq = w.drewN (q + nq)) := Lib.hid (by rw [HW.out, World.drewN_drewN])
            generalize wr.drewN nq = wq at *
            go_wp2_with fail
            go_ret
            have e1 := entsE_of (l := l) (by have := Hn.out; omega) HG.out
            exact ⟨by rw [e1]; rfl, q + nq, HQ.out⟩
          · have HG := Lib.hid (Hgo.out.trans (ego_next Hxp.out Hx.out HR.out hcmp))
            have tc : (Op.bytesLess p.key.toList r.key.toList) = true := hcmp
            clear hcmp
            go_wp2_with fail
            go_quiet (fail)
            have HQ : Hid (wr.drewN nq = w.drewN (q + nq)) := Lib.hid (by rw [HW.out, World.drewN_drewN])
            generalize wr.drewN nq = wq at *
            go_wp2_with fail
            go_roundw
            case rel => exact ⟨j + 1 + 1, q + nq, by omega, by go_num, HG, HQ⟩
            case measure => simp [intOf]; omega
      · have t1 : r.value.toList.isEmpty = true := by simpa [hd] using h3
        rw [hd] at g2
        clear hd h3
        rcases k with _ | j
        · have HG := Lib.hid (Hgo.out.trans (ego_next0 Hx.out HR.out))
          simp only [Nat.zero_mul, Addr.add, if_true] at g0 g1 g2
          go_wp2_with fail
          go_quiet (fail)
          have HQ : Hid (wr.drewN nq = w.drewN (q + nq)) := Lib.hid (by rw [HW.out, World.drewN_drewN])
          generalize wr.drewN nq = wq at *
          go_wp2_with fail
          go_roundw
          case rel => exact ⟨1, q + nq, by omega, by go_num, HG, HQ⟩
          case measure => simp [intOf]; omega
        · obtain ⟨ad', p, hp', _, hxp, p0, p1, p2⟩ := hrr.ent_ (k := j) (by omega) (Hn.out).symm (Below.refl B wr) (Nat.le_refl _)
          injection hp' with hp'
          subst hp'
          have Hxp := Lib.hid hxp
          clear hxp p1 p2
          have hi0 : (0 : Int) ≤ (j : Int) := by omega
          have hi1 : (j : Int) < (n : Int) := by omega
          have hi2 : IntKind.i64.wrap ((j : Int) + 1 - 1) = (j : Int) := by rw [IntWalk.i64_in _ (by omega)]; omega
          have hi3 : IntKind.i64.wrap (j : Int) = (j : Int) := IntWalk.i64_in _ (by omega)
          rcases hcmp : keyLt p.key r.key
          · have HG := Lib.hid (Hgo.out.trans (ego_order Hxp.out Hx.out HR.out hcmp))
            have tc : (Op.bytesLess p.key.toList r.key.toList) = false := hcmp
            clear hcmp
            go_wp2_with fail
            go_quiet (fail)
            have HQ : Hid (wr.drewN nq = w.drewN (q + nq)) := Lib.hid (by rw [HW.out, World.drewN_drewN])
            generalize wr.drewN nq = wq at *
            go_wp2_with fail
            go_ret
            have e1 := entsE_of (l := l) (by have := Hn.out; omega) HG.out
            exact ⟨by rw [e1]; rfl, q + nq, HQ.out⟩
          · have HG := Lib.hid (Hgo.out.trans (ego_next Hxp.out Hx.out HR.out hcmp))
            have tc : (Op.bytesLess p.key.toList r.key.toList) = true := hcmp
            clear hcmp
            go_wp2_with fail
            go_quiet (fail)
            have HQ : Hid (wr.drewN nq = w.drewN (q + nq)) := Lib.hid (by rw [HW.out, World.drewN_drewN])
            generalize wr.drewN nq = wq at *
            go_wp2_with fail
            go_roundw
            case rel => exact ⟨j + 1 + 1, q + nq, by omega, by go_num, HG, HQ⟩
            case measure => simp [intOf]; omega
  · go_wp2_with fail
    go_ret
    have e1 := entsE_of (l := l) (by have := Hn.out; omega) (Hgo.out.trans (by rw [List.drop_eq_nil_of_le (by have := Hn.out; omega), entsGo]))
    exact ⟨by rw [e1]; rfl, q, HW.out⟩
theorem flat3_len (l : List Ent) : (l.flatMap Ent.cells).length = l.length * 3 := by
  induction l with
  | nil => rfl
  | cons x l ih => rw [List.flatMap_cons, List.length_append, ih, List.length_cons, show x.cells.length = 3 from rfl]; omega
/-- The entries from a key on, below another one. -/
def inPart (low high : ByteArray) (e : Ent) : Bool := !klt e.key low && (high.toList.isEmpty || klt e.key high)
def partE (low high : ByteArray) (l : List Ent) : List Ent := l.filter (inPart low high)

set_option maxRecDepth 100000 in
set_option maxHeartbeats 4000000 in
theorem rpart_any (A : Option Addr) (c B : Nat) (l : List Ent) (low high : ByteArray) (w : World) (hr : Rd w B 3 A l.length (entCells l)) (hB : B ≤ w.heap.size) (hl : l.length ≤ 400) :
    Calls Tryd.prog 27 #[.slice A l.length c, .string low, .string high] w fun e w' => ∃ v, e = .returned v ∧ w'.ownsRow w.heap.size 57 3 v (partE low high l).length (entCells (partE low high l)) ∧ Below w.heap.size w w' := by
  obtain ⟨n, hn⟩ : ∃ n, n = l.length := ⟨_, rfl⟩
  have Hn := Lib.hid hn
  rw [← hn] at hr hl ⊢
  clear hn
  go_enter Tryd.func27, Tryd.ntmps27
  go_wp2_with fail
  go_loopw [7, 8] (fun o i wr => ∃ k m : Nat, k ≤ n ∧ m ≤ k ∧ i = .int .i64 k ∧ wr.ownsRow w.heap.size 57 3 o m (entCells (partE low high (l.take k))) ∧ Below w.heap.size w wr) (fun _ i _ => n - (intOf i).toNat)
  case atStart => exact ⟨0, 0, Nat.zero_le _, Nat.le_refl _, rfl, World.ownsRow_nil _ _ _ _, Below.refl _ _⟩
  obtain ⟨k, m, hk, hm, rfl, hown, hbel⟩ := hrel
  have hws := hbel.size
  by_cases hlt : k < n
  · obtain ⟨ad, r, rfl, _, hx, g0, g1, g2⟩ := hr.ent_ hlt (Hn.out).symm hbel hB
    have hstep : partE low high (l.take (k + 1)) = partE low high (l.take k) ++ (if inPart low high r = true then [r] else []) := by
      rw [List.take_add_one, hx, partE, partE, List.filter_append]
      simp [List.filter_cons]
    have HST := Lib.hid hstep
    clear hstep hx
    have hk0 : (0 : Int) ≤ (k : Int) := by omega
    have hk1 : (k : Int) < (n : Int) := by omega
    rcases h1 : klt r.key low
    · have t1 : Op.bytesLess r.key.toList low.toList = false := h1
      rcases h2 : high.toList.isEmpty
      · have t2 := h2
        rcases h3 : klt r.key high
        · have t3 : Op.bytesLess r.key.toList high.toList = false := h3
          have HI : Hid (inPart low high r = false) := Lib.hid (by rw [inPart, h1, h2, h3]; rfl)
          clear h1 h2 h3
          go_wp2_with fail
          go_roundw
          case rel => exact ⟨k + 1, m, by omega, by omega, by go_num, by rw [HST.out, HI.out]; simpa using hown, hbel⟩
          case measure => simp [intOf]; omega
        · have t3 : Op.bytesLess r.key.toList high.toList = true := h3
          have HI : Hid (inPart low high r = true) := Lib.hid (by rw [inPart, h1, h2, h3]; rfl)
          clear h1 h2 h3
          go_wp2_with (first
            | (with_reducible show wpList _ _ _ (⟨some 41, _, _, _, _, _⟩ :: _) _ _; go_must (refine wpList_newg (.tmp 35) (.tmp 40) el_ent rfl rfl hown rfl rfl (by simp) rfl rfl (by omega) hws ?_); intro v4 w4 hown4 hb4 hg4 ha4))
          go_roundw
          case rel =>
            refine ⟨k + 1, m + 1, by omega, by omega, by go_num, ?_, hbel.trans hb4⟩
            rw [HST.out, HI.out]
            simpa [entCells, Ent.cells] using hown4
          case measure => simp [intOf]; omega
      · have t2 := h2
        have h3 := h2
        have HI : Hid (inPart low high r = true) := Lib.hid (by rw [inPart, h1, h2]; rfl)
        clear h1 h2 h3
        go_wp2_with (first
          | (with_reducible show wpList _ _ _ (⟨some 41, _, _, _, _, _⟩ :: _) _ _; go_must (refine wpList_newg (.tmp 35) (.tmp 40) el_ent rfl rfl hown rfl rfl (by simp) rfl rfl (by omega) hws ?_); intro v4 w4 hown4 hb4 hg4 ha4))
        go_roundw
        case rel =>
          refine ⟨k + 1, m + 1, by omega, by omega, by go_num, ?_, hbel.trans hb4⟩
          rw [HST.out, HI.out]
          simpa [entCells, Ent.cells] using hown4
        case measure => simp [intOf]; omega
    · have t1 : Op.bytesLess r.key.toList low.toList = true := h1
      have h2 := h1
      have h3 := h1
      have HI : Hid (inPart low high r = false) := Lib.hid (by rw [inPart, h1]; rfl)
      clear h1 h2 h3
      go_wp2_with fail
      go_roundw
      case rel => exact ⟨k + 1, m, by omega, by omega, by go_num, by rw [HST.out, HI.out]; simpa using hown, hbel⟩
      case measure => simp [intOf]; omega
  · go_wp2_with fail
    go_ret
    have hkn : l.take k = l := List.take_of_length_le (by have := Hn.out; omega)
    rw [hkn] at hown
    have hml : m = (partE low high l).length := by
      have := hown.1
      rw [entCells, flat3_len] at this
      omega
    rw [← hml]
    exact ⟨_, rfl, hown, hbel⟩
end Go.Proofs.YtcfijljagohmlaaDoor
