/- The walks of keyed.in, some, All, Export. -/
import Derived.Test.YtcfijljagohmlaaGreatDoorWalkKeyed
import Derived.Test.YtcfijljagohmlaaGreatDoorWalkReadHelds
import Derived.Maps.RangeWalk
namespace Go.Proofs.YtcfijljagohmlaaGreatDoor
open Go.RowKit Go.Maps Go.WideMaps Go.Sort

theorem inG_true {lo hi : Int} {h : Hld} (h1 : lo ≤ (gOf h.key : Int)) (h2 : (gOf h.key : Int) < hi) : inG lo hi h = true := by simp [inG, h1, h2]
theorem inG_lo {lo hi : Int} {h : Hld} (h1 : ¬ lo ≤ (gOf h.key : Int)) : inG lo hi h = false := by simp only [inG, Bool.and_eq_false_iff, decide_eq_false_iff_not]; exact .inl h1
theorem inG_hi {lo hi : Int} {h : Hld} (h1 : ¬ (gOf h.key : Int) < hi) : inG lo hi h = false := by simp only [inG, Bool.and_eq_false_iff, decide_eq_false_iff_not]; exact .inr h1
set_option maxRecDepth 100000 in
set_option maxHeartbeats 400000 in
theorem kin_any (h : Hld) (lo hi : Int) (w : World) (hk : h.key.size ≤ 140737488355328) :
    Calls Tryz.prog 56 #[h.val, .int .i64 lo, .int .i64 hi] w fun e w' => e = .returned (.bool (inG lo hi h)) ∧ Below w.heap.size w w' := by
  have hbx := Blk.new w 29 #[.int .i64 h.node, .string h.key, .int .i64 h.a, .int .i64 h.b]
  have hb0 := (Below.refl w.heap.size w).alloc (Nat.le_refl _) (.cells #[.int .i64 h.node, .string h.key, .int .i64 h.a, .int .i64 h.b] 29)
  have ho := of_any h.key (w.alloc (.cells #[.int .i64 h.node, .string h.key, .int .i64 h.a, .int .i64 h.b] 29)) hk
  have Ht := Lib.hid (@inG_true lo hi h)
  have Hl := Lib.hid (@inG_lo lo hi h)
  have Hh := Lib.hid (@inG_hi lo hi h)
  generalize inG lo hi h = r at *
  have hz : (0 : Int) ≤ (gOf h.key : Int) := by omega
  have hz2 : (gOf h.key : Int) < 16 := by have := gOf_lt h.key; omega
  generalize gOf h.key = n at *
  go_enter Tryz.func56, Tryz.ntmps56
  unfold Hld.val
  by_cases h1 : lo ≤ (n : Int)
  · by_cases h2 : (n : Int) < hi
    · have E := Lib.hid (Ht.out h1 h2)
      go_wp2_with (first | (go_at_call 93; go_must (refine ho.mono ?_); rintro e w1 ⟨rfl, hb1⟩))
      go_ret
      exact ⟨by rw [E.out]; first | rfl | (simp; omega), hb0.trans (hb1.mono (by simp))⟩
    · have E := Lib.hid (Hh.out h2)
      go_wp2_with (first | (go_at_call 93; go_must (refine ho.mono ?_); rintro e w1 ⟨rfl, hb1⟩))
      go_ret
      exact ⟨by rw [E.out]; first | rfl | (simp; omega), hb0.trans (hb1.mono (by simp))⟩
  · have E := Lib.hid (Hl.out h1)
    go_wp2_with (first | (go_at_call 93; go_must (refine ho.mono ?_); rintro e w1 ⟨rfl, hb1⟩))
    go_ret
    exact ⟨by rw [E.out]; first | rfl | (simp; omega), hb0.trans (hb1.mono (by simp))⟩

set_option maxRecDepth 100000 in
set_option maxHeartbeats 4000000 in
theorem ksome_any (g M : Nat) (S : List Hld) (lo hi : Int) (w : World) (hk : KIn w g M S) (hS : S.length ≤ 1000000) :
    Calls Tryz.prog 57 #[.pointer (some ⟨g, 0, none⟩), .int .i64 lo, .int .i64 hi] w fun e w' => ∃ A c, e = .returned (.slice A (S.filter (inG lo hi)).length c) ∧ (S.filter (inG lo hi)).length ≤ c ∧ c ≤ maxLen ∧ Rd w' w'.heap.size 4 A (S.filter (inG lo hi)).length (hldCells (S.filter (inG lo hi))) ∧ Below w.heap.size w w' := by
  obtain ⟨LO, hLO⟩ : ∃ LO, LO = S.filter (inG lo hi) := ⟨_, rfl⟩
  have HLO := Lib.hid hLO
  rw [← hLO]
  obtain ⟨fw, hfw⟩ : ∃ fw, fw = inG lo hi := ⟨_, rfl⟩
  have HFW := Lib.hid hfw
  clear hLO hfw
  obtain ⟨D0, hown, hD⟩ := hk.own
  have HKI := Lib.hid hk
  have c0 := hk.blk.cell 0
  simp at c0
  have hMl := hk.ltM
  have HM0 := Lib.hid hD
  clear hk hD
  go_enter Tryz.func57, Tryz.ntmps57
  have hws : w.heap.size ≤ w.heap.size := Nat.le_refl _
  have hbel : Below w.heap.size w w := Below.refl _ _
  go_wp2_with (first
    | (at_range; go_must (refine wpList_range_own _ rfl _ 93 rfl 97 29 kat Tryz.underlying93 hldR M S.length D0 rfl hown ?_); intro w0 hrg0 hg0 hs0))
  go_frame
  go_loopw [7] (fun o wr => ∃ (left : Lit → Bool) (cnt : Nat) (O : List Hld), wr.ranges Tryz.prog 97 hldR M w.heap.size S.length D0 left cnt ∧ CollL kfH S fw D0 left O ∧ wr.ownsRow (w.heap.size + 1) 29 4 o O.length (hldCells O) ∧ w.heap.size + 1 ≤ wr.heap.size ∧ Below w.heap.size w wr) (fun _ wr => wr.rangeLeft M w.heap.size)
  case atStart => exact ⟨_, _, [], hrg0, CollL.start HM0.out, World.ownsRow_nil _ _ _ _, by omega, hbel.grown hg0 hws (fun j hj => by cases hj)⟩
  clear hrg0 hg0 hs0 hown
  obtain ⟨left, cnt, O, hrg, hco, hro, hsz, hbel2⟩ := hrel
  have hfew : O.length ≤ S.length := hco.few
  have HC := Lib.hid hco
  clear hco
  go_wp2_with (first
    | (at_next; go_must (refine wpList_next_ranges _ rfl _ rfl 97 kat hldR (fun p : Value => p) (fun e : Hld => .agg #[.int .i64 e.node, .string e.key, .int .i64 e.a, .int .i64 e.b]) (fun key kl h => ⟨key, rfl⟩) (fun v y hv => by obtain ⟨e, rfl, _⟩ := hldR_inv hv; exact ⟨e, rfl⟩) M w.heap.size S.length D0 left cnt rfl hrg ?_ ?_)))
  · intro hc0 hl0
    have HPM := Lib.hid (HC.out.done HM0.out hl0)
    obtain ⟨A5, c5, rfl, hnc, hcm, hsort⟩ := hld_sort hro rfl (by omega) hsz
    clear hro
    go_wp2_with (first
      | (go_at_call 42; go_must (refine hsort.mono ?_); rintro e w5 ⟨rfl, s, hsp, hsu, hrd5, hb5⟩))
    go_ret
    have e1 : s = LO := by
      rw [HLO.out, ← HFW.out]
      exact up_riseH (hsp.trans HPM.out) (HKI.out.rise.filter _) (List.Pairwise.imp (fun {a b} (h : ltOf cmpH b a = false) => h) hsu)
    have hlO : O.length = LO.length := by rw [← e1, hsp.length_eq]
    rw [e1, hlO] at hrd5
    exact ⟨A5, c5, by rw [hlO]; rfl, by rw [← hlO]; exact hnc, hcm, hrd5, hbel2.trans (hb5.mono (by omega))⟩
  · intro x e kl y1 y2 w1 cnt1 hkx hlk hRc hat hrg1 hlt1 hg1 hs1 hen
    obtain ⟨p, hp, rfl⟩ := HM0.out.dom kl (HC.out.has kl hlk)
    have hpe : p = e := by
      rw [hldR_mk] at hRc
      injection hRc with hRc
      injection hRc with hRc _
      have h1 := hat .nil
      rw [HM0.out.at_ p hp] at h1
      exact hldD_inj (h1.trans hRc.symm)
    subst hpe
    have hpk : p.key.size ≤ 140737488355328 := by
      have h1 := (HKI.out.fine p hp).1
      have := hldOk_key h1
      omega
    have hb1 : Below w.heap.size w w1 := hbel2.grown hg1 hbel2.size (fun j hj => by cases hj; exact hws)
    have hro1 := own_far hro hg1 (fun k hk e => by injection e with e; have := (hro.lt k hk).1; omega)
    have hsz1 : w.heap.size + 1 ≤ w1.heap.size := by omega
    clear hat hRc hkx hro hbel2
    have hbx := Blk.new w1 29 #[.int .i64 p.node, .string p.key, .int .i64 p.a, .int .i64 p.b]
    have hrg2 := hrg1.kept (World.grownBy_alloc w1 (.cells #[.int .i64 p.node, .string p.key, .int .i64 p.a, .int .i64 p.b] 29) none) (by simp) (by simp)
    have hb2 := hb1.alloc hb1.size (.cells #[.int .i64 p.node, .string p.key, .int .i64 p.a, .int .i64 p.b] 29)
    have hro2 := hro1.alloc (.cells #[.int .i64 p.node, .string p.key, .int .i64 p.a, .int .i64 p.b] 29)
    have hszx : w.heap.size + 1 ≤ (w1.alloc (.cells #[.int .i64 p.node, .string p.key, .int .i64 p.a, .int .i64 p.b] 29)).heap.size := by simp; omega
    have hin := kin_any p lo hi (w1.alloc (.cells #[.int .i64 p.node, .string p.key, .int .i64 p.a, .int .i64 p.b] 29)) hpk
    rw [← HFW.out] at hin
    have hbyx : (O.length + 1) * 40 ≤ 140737488355328 := by omega
    rcases hf : fw p
    · have HST := Lib.hid (HC.out.skip HM0.out hp hf)
      rw [hf] at hin
      clear hf
      go_wp2_with (first
        | (go_at_call 56; go_must (refine hin.mono ?_); rintro e w3 ⟨rfl, hb3⟩))
      have hrg3 := hrg2.kept (up_grown hb3 none) (by simp) (by simp)
      refine ⟨⟨_, cnt1, O, hrg3, HST.out, own_up hro2 hb3, Nat.le_trans hszx hb3.size, hb2.trans (hb3.mono hb2.size)⟩, ?_⟩
      rw [hrg3.left_eq, hrg.left_eq]; exact hlt1
    · have HST := Lib.hid (HC.out.step HM0.out hp hf hlk (kfH_lit p))
      rw [hf] at hin
      clear hf
      go_upto_region 6 with (first
        | (go_at_call 56; go_must (refine hin.mono ?_); rintro e w3 ⟨rfl, hb3⟩))
      have hrg3 := hrg2.kept (up_grown hb3 none) (by simp) (by simp)
      have hro3 := own_up hro2 hb3
      have hbx3 := hbx.up hb3
      have hszy := Nat.le_trans hszx hb3.size
      have hb4 := hb2.trans (hb3.mono hb2.size)
      rw [hs1] at hbx3
      obtain ⟨gx, hgx⟩ : ∃ gx, gx = wr.heap.size := ⟨_, rfl⟩
      rw [← hgx] at hbx3 ⊢
      clear hgx hbx hb2 hro2 hszx hb3 hrg2 hin
      have x0 := hbx3.cell 0
      have x1 := hbx3.cell 1
      have x2 := hbx3.cell 2
      have x3 := hbx3.cell 3
      simp at x0 x1 x2 x3
      go_wp2_with (first
        | (with_reducible show wpList _ _ _ (⟨some 26, _, _, _, _, _⟩ :: _) _ _; go_must (refine wpList_newg (.tmp 23) (.tmp 25) el_held rfl rfl hro3 rfl rfl rfl rfl rfl hbyx hszy ?_); intro v4 w4 hown4 hb5 hg4 ha4))
      have hrg4 := hrg3.kept hg4 (fun e => by have := (hro3.lt M e.symm).1; omega) (fun e => by have := (hro3.lt w.heap.size e.symm).1; omega)
      refine ⟨⟨_, cnt1, O ++ [p], hrg4, HST.out, by rw [List.length_append, hldCells_snoc]; exact hown4, Nat.le_trans hszy hb5.size, hb4.trans (hb5.mono (by omega))⟩, ?_⟩
      rw [hrg4.left_eq, hrg.left_eq]; exact hlt1
theorem hldOkAll {S : List Hld} {f : Hld → Bool} (h : ∀ x ∈ S, hldOk x = true ∧ x.Ok) : ∀ x ∈ S.filter f, hldOk x = true ∧ x.Ok := fun x hx => h x (List.mem_filter.1 hx).1
set_option maxRecDepth 100000 in
set_option maxHeartbeats 400000 in
theorem kall_any (g M : Nat) (S : List Hld) (w : World) (hk : KIn w g M S) (hS : S.length ≤ 1000000) :
    Calls Tryz.prog 16 #[.pointer (some ⟨g, 0, none⟩)] w fun e w' => ∃ A c, e = .returned (.slice A S.length c) ∧ S.length ≤ c ∧ c ≤ maxLen ∧ Rd w' w'.heap.size 4 A S.length (hldCells S) ∧ Below w.heap.size w w' := by
  have h := ksome_any g M S 0 16 w hk hS
  rw [List.filter_eq_self.2 fun x _ => inG_all x] at h
  go_enter Tryz.func16, Tryz.ntmps16
  go_wp2_with fail
  refine h.mono ?_
  rintro e w' ⟨A, c, rfl, h1, h2, h3, h4⟩
  go_wp2_with fail
  go_ret
  exact ⟨A, c, rfl, h1, h2, h3, h4⟩
def spanB (lo hi : Int) : Bool := decide (0 ≤ lo) && decide (lo ≤ hi) && decide (hi ≤ 16)
set_option maxRecDepth 100000 in
set_option maxHeartbeats 400000 in
theorem kspan_any (lo hi : Int) (w : World) :
    Calls Tryz.prog 55 #[.int .i64 lo, .int .i64 hi] w fun e w' => e = .returned (.bool (spanB lo hi)) ∧ w = w' := by
  go_enter Tryz.func55, Tryz.ntmps55
  by_cases h1 : 0 ≤ lo
  · by_cases h2 : lo ≤ hi
    · have e : spanB lo hi = decide (hi ≤ 16) := by simp [spanB, h1, h2]
      have E := Lib.hid e
      clear e
      go_wp2
      all_goals go_ret
      all_goals exact ⟨by rw [E.out]; first | rfl | (simp; omega), rfl⟩
    · have e : spanB lo hi = false := by simp [spanB, h2]
      have E := Lib.hid e
      clear e
      go_wp2
      all_goals go_ret
      all_goals exact ⟨by rw [E.out]; first | rfl | (simp; omega), rfl⟩
  · have e : spanB lo hi = false := by simp [spanB, h1]
    have E := Lib.hid e
    clear e
    go_wp2
    all_goals go_ret
    all_goals exact ⟨by rw [E.out]; first | rfl | (simp; omega), rfl⟩
/-- What Export gives: the fault, the bytes. -/
def expE (lo hi : Int) (S : List Hld) : Nat := if spanB lo hi = true then heldsE (S.filter (inG lo hi)) else 1
def expB (lo hi : Int) (S : List Hld) : List UInt8 := if spanB lo hi = true then heldsB (S.filter (inG lo hi)) else []
set_option maxRecDepth 100000 in
set_option maxHeartbeats 400000 in
theorem kexport_any (g M : Nat) (S : List Hld) (lo hi : Int) (w : World) (hk : KIn w g M S) (hS : S.length ≤ 1000000) :
    Calls Tryz.prog 20 #[.pointer (some ⟨g, 0, none⟩), .int .i64 lo, .int .i64 hi] w fun e w' => ∃ v, e = .returned (.tuple #[v, errV (expE lo hi S)]) ∧ w'.ownsRow w.heap.size 5 1 v (expB lo hi S).length ((expB lo hi S).map bv) ∧ Below w.heap.size w w' := by
  have h := ksome_any g M S lo hi w hk hS
  have hok := hldOkAll (f := inG lo hi) hk.fine
  have hlen : (S.filter (inG lo hi)).length ≤ 1000000 := Nat.le_trans (List.length_filter_le _ _) hS
  have hsp := kspan_any lo hi w
  rcases hs : spanB lo hi
  · have E1 : Hid (expE lo hi S = 1) := Lib.hid (by rw [expE, hs]; rfl)
    have E2 : Hid (expB lo hi S = []) := Lib.hid (by rw [expB, hs]; rfl)
    rw [hs] at hsp
    clear hs h hok hlen
    go_enter Tryz.func20, Tryz.ntmps20
    go_wp2_with (first | (go_at_call 55; go_must (refine hsp.mono ?_); rintro e w' ⟨rfl, rfl⟩))
    go_ret2
    exact ⟨_, by rw [E1.out]; rfl, by rw [E2.out]; exact World.ownsRow_nil _ _ _ _, Below.refl _ _⟩
  · have E1 : Hid (expE lo hi S = heldsE (S.filter (inG lo hi))) := Lib.hid (by rw [expE, hs]; rfl)
    have E2 : Hid (expB lo hi S = heldsB (S.filter (inG lo hi))) := Lib.hid (by rw [expB, hs]; rfl)
    rw [hs] at hsp
    clear hs
    have HB := Lib.hid (fun W A c (hr : Rd W W.heap.size 4 A (S.filter (inG lo hi)).length (hldCells (S.filter (inG lo hi)))) => helds_any A c W.heap.size (S.filter (inG lo hi)) W hr (Nat.le_refl _) (fun x hx => (hok x hx).2) (by omega))
    generalize S.filter (inG lo hi) = L at *
    go_enter Tryz.func20, Tryz.ntmps20
    go_wp2_with (first
      | (go_at_call 55; go_must (refine hsp.mono ?_); rintro e w' ⟨rfl, rfl⟩)
      | (go_at_call 57; go_must (refine h.mono ?_); rintro e w2 ⟨A2, c2, rfl, h1, h2, h3, hb2⟩)
      | (go_at_call 44; go_must (refine (HB.out w2 A2 c2 h3).mono ?_); rintro e w3 ⟨v3, rfl, ho3, hb3⟩))
    go_ret2
    exact ⟨_, by rw [E1.out]; rfl, by rw [E2.out]; exact own_base ho3 hb2.size, below_up hb2 hb3⟩
end Go.Proofs.YtcfijljagohmlaaGreatDoor
