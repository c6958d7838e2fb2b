/- Slices of lines in memory; the walks of audit.Check, audit.both, weirref2.Lines. -/
import Derived.Test.YtelailhghhjleaaDoorProg
import Derived.Test.YtelailhghhjleaaDoorPlainLines
import Derived.Test.YtelailhghhjleaaDoorErr
import Derived.Test.YtelailhghhjleaaDoorBase2
import Derived.BigQuiet
import Derived.WideLaws
import Derived.Deep.QuietTactic
namespace Go.Proofs.YtelailhghhjleaaDoor
open Go.RowKit

/-- A line as it lies in memory: its numbers' slice. -/
structure Pl where
  ln : Ln
  A : Option Addr
  c : Nat
deriving Inhabited
def Pl.val (p : Pl) : Value := .slice p.A p.ln.nums.length p.c
def Pl.cells (p : Pl) : List Value := [.string p.ln.key, p.val]
def plCells (ps : List Pl) : List Value := ps.flatMap Pl.cells
def lnsOf (ps : List Pl) : List Ln := ps.map Pl.ln
structure Pl.Ok (w : World) (B : Nat) (p : Pl) : Prop where
  cap : p.ln.nums.length ≤ p.c
  max : p.c ≤ maxLen
  rd : Rd w B 1 p.A p.ln.nums.length (p.ln.nums.map iv)
  wf : ∀ x ∈ p.ln.nums, (Lit.int .i64 x).wf = true
structure RdPs (w : World) (B : Nat) (A : Option Addr) (n : Nat) (ps : List Pl) : Prop where
  len : ps.length = n
  rd : Rd w B 2 A n (plCells ps)
  ok : ∀ p ∈ ps, p.Ok w B
theorem plCells_len (ps : List Pl) : (plCells ps).length = ps.length * 2 := by
  induction ps with
  | nil => rfl
  | cons x l ih => rw [plCells] at ih ⊢; rw [List.flatMap_cons, List.length_append, ih, List.length_cons, show x.cells.length = 2 from rfl]; omega
theorem plCells_at {ps : List Pl} {k : Nat} {p : Pl} (h : ps[k]? = some p) : (plCells ps)[k * 2]? = some (.string p.ln.key) ∧ (plCells ps)[k * 2 + 1]? = some p.val := by
  have e := fun i (hi : i < 2) => flat_at Pl.cells 2 (fun _ => rfl) ps k i hi
  rw [h] at e
  exact ⟨e 0 (by omega), e 1 (by omega)⟩
theorem plCells_one (ps : List Pl) : ∀ u ∈ plCells ps, u.oneCell' = true := by
  intro u hu
  obtain ⟨p, _, hp⟩ := List.mem_flatMap.1 hu
  simp only [Pl.cells, List.mem_cons, List.not_mem_nil, or_false] at hp
  rcases hp with rfl | rfl <;> rfl
section
variable {w w' : World} {B D n : Nat} {A : Option Addr} {ps : List Pl} {p : Pl}
theorem Pl.Ok.below (h : p.Ok w B) (hb : Below D w w') (hD : B ≤ D) : p.Ok w' B := ⟨h.cap, h.max, h.rd.below hb hD, h.wf⟩
theorem Pl.Ok.more (h : p.Ok w B) {B' : Nat} (hB : B ≤ B') : p.Ok w B' := ⟨h.cap, h.max, h.rd.more hB, h.wf⟩
theorem Pl.Ok.len (h : p.Ok w B) : p.ln.nums.length ≤ 9223372036854775807 := by
  have h1 := h.cap; have h2 := h.max; unfold maxLen at h2; omega
theorem RdPs.below (h : RdPs w B A n ps) (hb : Below D w w') (hD : B ≤ D) : RdPs w' B A n ps := ⟨h.len, h.rd.below hb hD, fun p hp => (h.ok p hp).below hb hD⟩
theorem RdPs.more (h : RdPs w B A n ps) {B' : Nat} (hB : B ≤ B') : RdPs w B' A n ps := ⟨h.len, h.rd.more hB, fun p hp => (h.ok p hp).more hB⟩
theorem RdPs.drewN (h : RdPs w B A n ps) (k : Nat) : RdPs (w.drewN k) B A n ps := ⟨h.len, h.rd.drewN k, fun p hp => ⟨(h.ok p hp).cap, (h.ok p hp).max, (h.ok p hp).rd.drewN k, (h.ok p hp).wf⟩⟩
theorem RdPs.at_ (h : RdPs w B A n ps) {k : Nat} (hk : k < n) : ∃ ad p, A = some ad ∧ ad.block < B ∧ ps[k]? = some p ∧ w.cell? (ad.add (k * 2)) = some (.string p.ln.key) ∧ w.cell? ⟨(ad.add (k * 2)).block, (ad.add (k * 2)).off + 1, none⟩ = some p.val ∧ p.Ok w B := by
  have hl : k < ps.length := by rw [h.len]; exact hk
  obtain ⟨ad, e, hb, hc⟩ := h.rd.2 (by omega)
  obtain ⟨h0, h1⟩ := plCells_at (List.getElem?_eq_getElem hl)
  exact ⟨ad, ps[k], e, hb, List.getElem?_eq_getElem hl, hc _ _ h0, by rw [← add_more]; exact hc _ _ h1, h.ok _ (List.getElem_mem hl)⟩
theorem lnsOf_at {k : Nat} (h : ps[k]? = some p) : (lnsOf ps)[k]? = some p.ln := by rw [lnsOf, List.getElem?_map, h]; rfl
theorem lnsOf_len : (lnsOf ps).length = ps.length := by simp [lnsOf]
end
theorem cells2 {w : World} {g : Nat} {t : TypeId} {a b : Value} (h : Blk w g t #[a, b]) : w.cell? ⟨g, 0, none⟩ = some a ∧ w.cell? ⟨g, 1, none⟩ = some b := ⟨h.cell 0, h.cell 1⟩

set_option maxRecDepth 100000 in
set_option maxHeartbeats 4000000 in
theorem acheck_any (A : Option Addr) (c B n : Nat) (ps : List Pl) (w : World) (hr : RdPs w B A n ps) (hB : B ≤ w.heap.size) (hl : n ≤ 140737488355328) :
    Calls Tryd.prog 32 #[.slice A n c] w fun e w' => e = .returned (errV (linesE (lnsOf ps))) ∧ Below w.heap.size w w' := by
  have Hn := Lib.hid hr.len.symm
  by_cases hbig : 400 < n
  · go_enter Tryd.func32, Tryd.ntmps32
    go_wp2
    go_ret
    exact ⟨by rw [linesE_long (by rw [lnsOf_len, ← Hn.out]; exact hbig)]; rfl, Below.refl _ _⟩
  go_enter Tryd.func32, Tryd.ntmps32
  go_wp2_with fail
  go_loopw [11] (fun i wr => ∃ k : Nat, k ≤ n ∧ i = .int .i64 k ∧ Hid (linesGo none (lnsOf ps) = linesGo (prevK (lnsOf ps) k) ((lnsOf ps).drop k)) ∧ Below w.heap.size w wr) (fun i _ => n - (intOf i).toNat)
  case atStart => exact ⟨0, Nat.zero_le _, rfl, Lib.hid rfl, Below.refl _ _⟩
  obtain ⟨k, hk, rfl, Hgo, hbel⟩ := hrel
  have hws := hbel.size
  have hrr := hr.below hbel hB
  by_cases hlt : k < n
  · obtain ⟨ad, p, rfl, _, hx0, g0, g1, hpo⟩ := hrr.at_ hlt
    have Hx := Lib.hid (lnsOf_at hx0)
    clear hx0
    have hpl := hpo.len
    obtain ⟨m, hm⟩ : ∃ m, m = p.ln.nums.length := ⟨_, rfl⟩
    have Hm := Lib.hid hm
    unfold Pl.val at g1
    rw [← hm] at g1 hpl
    clear hm
    have hk0 : (0 : Int) ≤ (k : Int) := by omega
    have hk1 : (k : Int) < (n : Int) := by omega
    by_cases h1 : 400 < m
    · have e1 := linesE_of (l := lnsOf ps) (by rw [lnsOf_len, ← Hn.out]; omega) (Hgo.out.trans (lngo_many Hx.out (by have := Hm.out; omega)))
      have H1 := Lib.hid e1
      clear e1
      go_wp2_with fail
      go_ret
      exact ⟨by rw [H1.out]; rfl, hbel.alloc hws _⟩
    · have h1' : ¬ ((400 : Int) < (m : Int)) := by omega
      rcases k with _ | j
      · have HS : Hid (lnStuck (prevK (lnsOf ps) 0) p.ln.key = false) := Lib.hid rfl
        simp only [Nat.zero_mul, Addr.add, if_true] at g0 g1
        go_wp2_with fail
        go_quiet (fail)
        have hbel3 := below_drewN (hbel.alloc hws (.cells #[.string p.ln.key, .slice p.A m p.c] 64)) nq
        by_cases hz : m = 0
        · have e1 := linesE_of (l := lnsOf ps) (by rw [lnsOf_len, ← Hn.out]; omega) (Hgo.out.trans (lngo_none Hx.out (by have := Hm.out; omega) HS.out (by have := Hm.out; omega)))
          have H1 := Lib.hid e1
          clear e1
          subst hz
          go_wp2_with fail
          go_ret
          exact ⟨by rw [H1.out]; rfl, hbel3⟩
        · have hz0 : ¬ ((m : Int) = 0) := by omega
          have HG := Lib.hid (Hgo.out.trans (lngo_next Hx.out (by have := Hm.out; omega) HS.out (by have := Hm.out; omega)))
          go_wp2_with fail
          go_roundw
          case rel => exact ⟨0 + 1, by omega, by go_num, HG, hbel3⟩
          case measure => simp [intOf]; omega
      · obtain ⟨ad', q, hq', _, hxq, q0, q1, _⟩ := hrr.at_ (k := j) (by omega)
        injection hq' with hq'
        subst hq'
        have Hxq := Lib.hid (lnsOf_at hxq)
        clear hxq q1
        have hi0 : (0 : Int) ≤ (j : Int) := by omega
        have hi1 : (j : Int) < (n : Int) := by omega
        have hi2 : IntKind.i64.wrap ((j : Int) + 1 - 1) = (j : Int) := by rw [IntWalk.i64_in _ (by omega)]; omega
        have hi3 : IntKind.i64.wrap (j : Int) = (j : Int) := IntWalk.i64_in _ (by omega)
        rcases hcmp : klt q.ln.key p.ln.key
        · have HS : Hid (lnStuck (prevK (lnsOf ps) (j + 1)) p.ln.key = true) := Lib.hid (by rw [prevK_at Hxq.out, lnStuck, hcmp]; rfl)
          have tc : (Op.bytesLess q.ln.key.toList p.ln.key.toList) = false := hcmp
          have e1 := linesE_of (l := lnsOf ps) (by rw [lnsOf_len, ← Hn.out]; omega) (Hgo.out.trans (lngo_order Hx.out (by have := Hm.out; omega) HS.out))
          have H1 := Lib.hid e1
          clear hcmp e1
          go_wp2_with fail
          obtain ⟨x0, x1⟩ := cells2 (Blk.new wr 64 #[.string p.ln.key, .slice p.A m p.c])
          have q2 := (World.cell?_alloc_lt wr (.cells #[.string p.ln.key, .slice p.A m p.c] 64) (ad.add (j * 2)) (by rw [block_add]; omega)).trans q0
          have hbel2 := hbel.alloc hws (.cells #[.string p.ln.key, .slice p.A m p.c] 64)
          generalize wr.alloc (.cells #[.string p.ln.key, .slice p.A m p.c] 64) = wa at *
          go_quiet (fail)
          go_wp2_with fail
          go_ret
          exact ⟨by rw [H1.out]; rfl, below_drewN hbel2 _⟩
        · have HS : Hid (lnStuck (prevK (lnsOf ps) (j + 1)) p.ln.key = false) := Lib.hid (by rw [prevK_at Hxq.out, lnStuck, hcmp]; rfl)
          have tc : (Op.bytesLess q.ln.key.toList p.ln.key.toList) = true := hcmp
          clear hcmp
          go_wp2_with fail
          obtain ⟨x0, x1⟩ := cells2 (Blk.new wr 64 #[.string p.ln.key, .slice p.A m p.c])
          have q2 := (World.cell?_alloc_lt wr (.cells #[.string p.ln.key, .slice p.A m p.c] 64) (ad.add (j * 2)) (by rw [block_add]; omega)).trans q0
          have hbel2 := hbel.alloc hws (.cells #[.string p.ln.key, .slice p.A m p.c] 64)
          generalize wr.alloc (.cells #[.string p.ln.key, .slice p.A m p.c] 64) = wa at *
          go_quiet (fail)
          have hbel3 := below_drewN hbel2 nq
          by_cases hz : m = 0
          · have e1 := linesE_of (l := lnsOf ps) (by rw [lnsOf_len, ← Hn.out]; omega) (Hgo.out.trans (lngo_none Hx.out (by have := Hm.out; omega) HS.out (by have := Hm.out; omega)))
            have H1 := Lib.hid e1
            clear e1
            subst hz
            go_wp2_with fail
            go_ret
            exact ⟨by rw [H1.out]; rfl, hbel3⟩
          · have hz0 : ¬ ((m : Int) = 0) := by omega
            have HG := Lib.hid (Hgo.out.trans (lngo_next Hx.out (by have := Hm.out; omega) HS.out (by have := Hm.out; omega)))
            go_wp2_with fail
            go_roundw
            case rel => exact ⟨(j+1) + 1, by omega, by go_num, HG, hbel3⟩
            case measure => simp [intOf]; omega
  · have e1 := linesE_of (l := lnsOf ps) (by rw [lnsOf_len, ← Hn.out]; omega) (Hgo.out.trans (lngo_done (by rw [lnsOf_len, ← Hn.out]; omega)))
    have H1 := Lib.hid e1
    clear e1
    go_wp2_with fail
    go_ret
    exact ⟨by rw [H1.out]; rfl, hbel⟩

/-- The fault of either. -/
def bothE (a b : List Ln) : Nat := if linesE a ≠ 0 then linesE a else linesE b
set_option maxRecDepth 100000 in
set_option maxHeartbeats 1000000 in
theorem both_any (A1 A2 : Option Addr) (c1 c2 B n1 n2 : Nat) (p1 p2 : List Pl) (w : World) (hr1 : RdPs w B A1 n1 p1) (hr2 : RdPs w B A2 n2 p2) (hB : B ≤ w.heap.size) (hl1 : n1 ≤ 140737488355328) (hl2 : n2 ≤ 140737488355328) :
    Calls Tryd.prog 54 #[.slice A1 n1 c1, .slice A2 n2 c2] w fun e w' => e = .returned (errV (bothE (lnsOf p1) (lnsOf p2))) ∧ Below w.heap.size w w' := by
  by_cases h1 : linesE (lnsOf p1) = 0
  · have HE : Hid (errV (linesE (lnsOf p1)) = .nilIface) := Lib.hid (by rw [h1]; rfl)
    have HB : Hid (bothE (lnsOf p1) (lnsOf p2) = linesE (lnsOf p2)) := Lib.hid (by rw [bothE, if_neg (by simp [h1])])
    clear h1
    go_enter Tryd.func54, Tryd.ntmps54
    go_wp2_with (first
      | (go_at_call_of 32 A1; go_must (refine (acheck_any A1 c1 B n1 p1 _ hr1 hB hl1).mono ?_); rintro e w1 ⟨rfl, hb1⟩; rw [HE.out])
      | (go_at_call_of 32 A2; go_must (refine (acheck_any A2 c2 B n2 p2 _ (hr2.below hb1 hB) (Nat.le_trans hB hb1.size) hl2).mono ?_); rintro e w2 ⟨rfl, hb2⟩))
    go_ret
    exact ⟨by rw [HB.out]; rfl, below_up hb1 hb2⟩
  · have HE : Hid (errV (linesE (lnsOf p1)) = .iface 75 (.int .i64 (linesE (lnsOf p1) : Nat))) := Lib.hid (by rw [errV, if_neg h1])
    have HB : Hid (bothE (lnsOf p1) (lnsOf p2) = linesE (lnsOf p1)) := Lib.hid (by rw [bothE, if_pos h1])
    clear h1
    go_enter Tryd.func54, Tryd.ntmps54
    go_wp2_with (first
      | (go_at_call_of 32 A1; go_must (refine (acheck_any A1 c1 B n1 p1 _ hr1 hB hl1).mono ?_); rintro e w1 ⟨rfl, hb1⟩; rw [HE.out]))
    go_ret
    exact ⟨by rw [HB.out, HE.out]; rfl, hb1⟩

end Go.Proofs.YtelailhghhjleaaDoor
