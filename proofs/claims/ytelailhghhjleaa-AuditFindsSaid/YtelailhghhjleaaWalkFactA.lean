/- audit.Judge at what AuditFinds tries first. -/
import Derived.Test.YtelailhghhjleaaWalkJudge
import Derived.Test.YtelailhghhjleaaWalkTurned
import Derived.StillTailTactics
import Derived.Deep.CutBlock
import Derived.Deep.CutRange
namespace Go.Proofs.Ytelailhghhjleaa
open Go.RowKit

theorem el_intf : Elt Try.prog 34 3 (.int .i64 0) 1 8 := ⟨Try.underlying34, by kernel_rfl, rfl, by omega, by omega⟩
theorem fact_any (w : World) :
    Calls Try.prog 17 #[.slice (some ⟨w.heap.size + 1, 0, none⟩) 1 1, .slice none 0 0] ((w.alloc (.cells #[.int .i64 1] 3)).alloc (.cells #[.string ⟨#[97]⟩, .slice (some ⟨w.heap.size, 0, none⟩) 1 1] 51)) fun e w' =>
      e = .returned (.tuple #[.int .i64 1, .string ⟨#[97]⟩, .int .i64 0, .nilIface]) ∧ Below w.heap.size w w' := by
  obtain ⟨w1, hw1⟩ : ∃ w1, w1 = w.alloc (.cells #[.int .i64 1] 3) := ⟨_, rfl⟩
  have hb1 : Below w.heap.size w w1 := hw1 ▸ (Below.refl w.heap.size w).alloc (Nat.le_refl _) _
  have hx1 : Blk w1 w.heap.size 3 #[.int .i64 1] := hw1 ▸ Blk.new w 3 #[.int .i64 1]
  have hs1 : w1.heap.size = w.heap.size + 1 := by rw [hw1]; simp
  rw [← hw1, ← hs1]
  have hb2 := (Below.refl w1.heap.size w1).alloc (Nat.le_refl _) (.cells #[.string ⟨#[97]⟩, .slice (some ⟨w.heap.size, 0, none⟩) 1 1] 51)
  have hx2 := Blk.new w1 51 #[.string ⟨#[97]⟩, .slice (some ⟨w.heap.size, 0, none⟩) 1 1]
  have hx3 := hx1.up hb2
  obtain ⟨x0, x1⟩ := cells2 hx2
  have y0 := hx3.cell 0
  simp at y0
  generalize w1.alloc (.cells #[.string ⟨#[97]⟩, .slice (some ⟨w.heap.size, 0, none⟩) 1 1] 51) = w2 at *
  have hs2 := hx2.lt
  have hP : RdPs w2 w2.heap.size (some ⟨w1.heap.size, 0, none⟩) [(⟨⟨⟨#[97]⟩, [1]⟩, some ⟨w.heap.size, 0, none⟩, 1⟩ : Pl)].length [⟨⟨⟨#[97]⟩, [1]⟩, some ⟨w.heap.size, 0, none⟩, 1⟩] := by
    refine ⟨rfl, ⟨rfl, fun _ => ⟨_, rfl, hs2, fun j u hu => ?_⟩⟩, fun p hp => ?_⟩
    · rcases j with _ | _ | j
      · obtain rfl : Value.string ⟨#[97]⟩ = u := by simpa [plCells, Pl.cells] using hu
        exact x0
      · obtain rfl : Value.slice (some ⟨w.heap.size, 0, none⟩) 1 1 = u := by simpa [plCells, Pl.cells, Pl.val] using hu
        exact x1
      · simp [plCells, Pl.cells] at hu
    · obtain rfl := List.mem_singleton.1 hp
      refine ⟨Nat.le_refl _, by show 1 ≤ maxLen; unfold maxLen; omega, ⟨rfl, fun _ => ⟨_, rfl, by simp only; omega, fun j u hu => ?_⟩⟩, fun x hx => ?_⟩
      · rcases j with _ | j
        · obtain rfl : Value.int .i64 1 = u := by simpa [iv] using hu
          exact y0
        · simp at hu
      · obtain rfl : x = 1 := by simpa using hx
        decide
  have hN : RdPs w2 w2.heap.size none ([] : List Pl).length [] := ⟨rfl, Rd.nil_, fun p hp => by cases hp⟩
  have e1 : lnsOf [(⟨⟨⟨#[97]⟩, [1]⟩, some ⟨w.heap.size, 0, none⟩, 1⟩ : Pl)] = factA := rfl
  have hj := judge_good (some ⟨w1.heap.size, 0, none⟩) none 1 0 w2.heap.size _ [] w2 hP hN (Nat.le_refl _) (Nat.le_refl _) (Nat.le_refl _) (by unfold maxLen; omega) (Nat.zero_le _) (by rw [e1]; exact factA_ok) (by rw [linesE]; rfl)
  rw [e1, show lnsOf [] = [] from rfl, factA_judge] at hj
  refine hj.mono fun e w' ⟨he, hb⟩ => ⟨he, ?_⟩
  have h12 := hb1.trans (hb2.mono (by omega))
  exact h12.trans (hb.mono h12.size)

theorem fact_at (w : World) {s s1 : Nat} (hs : w.heap.size = s) (h1 : s + 1 = s1) :
    Calls Try.prog 17 #[.slice (some ⟨s1, 0, none⟩) 1 1, .slice none 0 0] ((w.alloc (.cells #[.int .i64 1] 3)).alloc (.cells #[.string ⟨#[97]⟩, .slice (some ⟨s, 0, none⟩) 1 1] 51)) fun e w' =>
      e = .returned (.tuple #[.int .i64 1, .string ⟨#[97]⟩, .int .i64 0, .nilIface]) ∧ Below w.heap.size w w' := by
  subst h1 hs
  exact fact_any w
/-- What stays while AuditFinds runs: the lines, the place. -/
structure FS (w W : World) (gi : Nat) (A : Option Addr) (n c i : Nat) : Prop where
  bel : Below w.heap.size w W
  l : Blk W w.heap.size 47 #[.slice A n c]
  i : Blk W gi 3 #[.int .i64 i]
section
variable {w W W' : World} {gi n c i : Nat} {A : Option Addr}
theorem FS.up (h : FS w W gi A n c i) (hb : Below W.heap.size W W') : FS w W' gi A n c i := ⟨below_up h.bel hb, h.l.up hb, h.i.up hb⟩
theorem FS.cells (h : FS w W gi A n c i) : W.cell? ⟨w.heap.size, 0, none⟩ = some (.slice A n c) ∧ W.cell? ⟨gi, 0, none⟩ = some (.int .i64 i) := ⟨h.l.cell 0, h.i.cell 0⟩
theorem FS.at_ (h : FS w W gi A n c i) {a : Addr} {v : Value} (hb : a.block < w.heap.size) (hc : w.cell? a = some v) : W.cell? a = some v := (h.bel.cell hb).trans hc
theorem FS.drew (h : FS w W gi A n c i) : FS w W.drew gi A n c i := ⟨h.bel.drew, h.l.drew, h.i.drew⟩
end
theorem turned_judged {ps : List Pl} {i : Nat} {p qn : Pl} {kd pt : Nat} (h : LnsOk (lnsOf ps)) (hp : ps[i]? = some p) (hk : p.ln.key = qn.ln.key) (hv : qn.ln.nums.length ≤ 400) (hj : lineJ p.ln.nums qn.ln.nums = (kd, pt)) (h0 : kd ≠ 0) {n : Nat} (hn : n = ps.length) :
    linesE (lnsOf (turnP ps i qn n)) = 0 ∧ judge (lnsOf ps) (lnsOf (turnP ps i qn n)) = (kd, p.ln.key, pt) := by
  subst hn
  have e := turnP_lns hp hk (Nat.le_refl ps.length)
  have e2 : turnTo (lnsOf ps) i qn.ln.nums ps.length = turnL (lnsOf ps) i qn.ln.nums := by rw [turnL, lnsOf_len]
  rw [e, e2]
  exact ⟨linesE_ok_iff.2 (turn_ok h hv), judge_turn h (lnsOf_at hp) hv hj h0⟩
/-- The closure, then audit.Judge. -/
theorem turned_at {w W : World} {gi n c i : Nat} {ad : Addr} {ps : List Pl} {p qn : Pl} (hF : FS w W gi (some ad) n c i) (hr : RdPs w w.heap.size (some ad) ps.length ps) (hn : n = ps.length) (hok : LnsOk (lnsOf ps)) (hp : ps[i]? = some p) (hk : p.ln.key = qn.ln.key) (hq : qn.Ok W W.heap.size) {mq : Nat} (hmq : mq = qn.ln.nums.length) :
    Calls Try.prog 18 #[.slice qn.A mq qn.c, .pointer (some ⟨w.heap.size, 0, none⟩), .pointer (some ⟨gi, 0, none⟩)] W fun e w' => ∃ A' c' m, e = .returned (.slice A' m c') ∧ m ≤ c' ∧ c' ≤ maxLen ∧ RdPs w' w'.heap.size A' m (turnP ps i qn n) ∧ Below W.heap.size W w' := by
  subst hn hmq
  have hn4 : ps.length ≤ 400 := by have := hok.len; rwa [lnsOf_len] at this
  exact turned_any w.heap.size gi (some ad) c ps.length i ps qn p W hF.l hF.i ((hr.below hF.bel (Nat.le_refl _)).more hF.bel.size) hq hn4 hp hk
theorem judged_at {w W : World} {gi n c i m c' : Nat} {ad : Addr} {A' : Option Addr} {ps : List Pl} {p qn : Pl} {kd pt : Nat} (hF : FS w W gi (some ad) n c i) (hr : RdPs w w.heap.size (some ad) ps.length ps) (hn : n = ps.length) (hc : n ≤ c) (hm : c ≤ maxLen) (hok : LnsOk (lnsOf ps)) (hE : linesE (lnsOf ps) = 0)
    (hp : ps[i]? = some p) (hk : p.ln.key = qn.ln.key) (hv : qn.ln.nums.length ≤ 400) (hj : lineJ p.ln.nums qn.ln.nums = (kd, pt)) (h0 : kd ≠ 0) (hr' : RdPs W W.heap.size A' m (turnP ps i qn n)) (hc' : m ≤ c') (hm' : c' ≤ maxLen) :
    Calls Try.prog 17 #[.slice (some ad) n c, .slice A' m c'] W fun e w' => e = .returned (.tuple #[.int .i64 kd, .string p.ln.key, .int .i64 pt, .nilIface]) ∧ Below W.heap.size W w' := by
  obtain ⟨e1, e2⟩ := turned_judged hok hp hk hv hj h0 hn
  have hl := hr'.len
  subst hn hl
  have hg := judge_good (some ad) A' c c' W.heap.size ps (turnP ps i qn ps.length) W ((hr.below hF.bel (Nat.le_refl _)).more hF.bel.size) hr' (Nat.le_refl _) hc hc' hm hm' hE e1
  rw [e2] at hg
  exact hg
theorem round_place (a : Int) {m : Nat} (h : 0 < m) (h4 : m ≤ 400) : ∃ j : Nat, (wrap64 (wrap64 (a.tmod m + (m + 1)) - 1)).tmod m = (j : Int) ∧ j < m := by
  have h1 : -(m : Int) < a.tmod m := Int.lt_tmod_of_pos _ (by omega)
  have h4 : a.tmod m < m := Int.tmod_lt_of_pos _ (by omega)
  have h5 : wrap64 (wrap64 (a.tmod m + (m + 1)) - 1) = a.tmod m + m := by unfold wrap64; omega
  have h2 : 0 ≤ (a.tmod m + m).tmod m := Int.tmod_nonneg _ (by omega)
  have h3 : (a.tmod m + m).tmod m < m := Int.tmod_lt_of_pos _ (by omega)
  rw [h5]
  exact ⟨((a.tmod m + m).tmod m).toNat, by omega, by omega⟩
theorem nums_at {w W : World} {B n j : Nat} {ad : Addr} {l : List Int} {x : Int} (h : Rd w B 1 (some ad) n (l.map iv)) (hl : l.length = n) (hb : Below B w W) (hj : j < n) (hx : l[j]? = some x) : W.cell? (ad.add j) = some (.int .i64 x) := by
  obtain ⟨ad', z, e, hz, _, hc⟩ := h.intw hj hl hb (Nat.le_refl _)
  injection e with e
  subst e
  rw [hx] at hz
  injection hz with hz
  subst hz
  exact hc
theorem own_blk {w : World} {base : Nat} {e : TypeId} {n : Nat} {v : Value} {xs : List Value} (h : w.ownsRow base e 1 v n xs) (hn : 0 < n) : ∃ g c, ∃ cur : Array Value, v = .slice (some ⟨g, 0, none⟩) n c ∧ base ≤ g ∧ Blk w g e cur ∧ n ≤ c ∧ c ≤ maxLen ∧ n ≤ cur.size ∧ cur.toList.take n = xs := by
  rcases h.2 with ⟨_, h0⟩ | ⟨g, c, cur, rfl, hb, hg, hnc, hcm, hcs, ht⟩
  · omega
  · exact ⟨g, c, cur, rfl, hb, hg, hnc, hcm, by omega, by simpa using ht⟩
theorem rd_blk {w : World} {B g n : Nat} {e : TypeId} {cur : Array Value} {xs : List Value} (h : Blk w g e cur) (hn : n ≤ cur.size) (ht : cur.toList.take n = xs) (hB : g < B) : Rd w B 1 (some ⟨g, 0, none⟩) n xs := by
  refine ⟨by rw [← ht, List.length_take, Array.length_toList]; omega, fun _ => ⟨_, rfl, hB, fun j u hu => ?_⟩⟩
  have ha : (Addr.add ⟨g, 0, none⟩ j : Addr) = ⟨g, j, none⟩ := by
    unfold Addr.add
    split
    · rename_i h0; rw [h0]
    · simp
  rw [ha, h.cell]
  rw [← ht, List.getElem?_take] at hu
  split at hu
  · rw [← hu, Array.getElem?_toList]
  · cases hu
theorem swap_cells {cur : Array Value} {n j : Nat} {ws : List Int} {x y : Int} (ht : cur.toList.take n = ws.map iv) (hx : atD ws j = x) (hy : atD ws (j + 1) = y) :
    ((cur.setIfInBounds j (.int .i64 y)).setIfInBounds (j + 1) (.int .i64 x)).toList.take n = (swapN ws j).map iv := by
  rw [Array.toList_setIfInBounds, Array.toList_setIfInBounds, List.take_set, List.take_set, ht, swapN, List.map_set, List.map_set, hx, hy]; rfl
end Go.Proofs.Ytelailhghhjleaa
