/- The walk of weirlaw4.AuditPrefix. -/
import Derived.Test.YtelailhghhjleaaWalkLess
import Derived.Test.YtelailhghhjleaaWalkMerge
import Derived.Test.YtelailhghhjleaaWalkJudge
import Derived.Test.YtelailhghhjleaaPlainPrefix
namespace Go.Proofs.Ytelailhghhjleaa
open Go.RowKit Go.Lib

/-- A line's beginning, and its rest, as they lie in memory. -/
def pA (cut : Int) (p : Pl) : Option Pl := if 0 < cutK cut p.ln.nums.length then some ⟨⟨p.ln.key, p.ln.nums.take (cutK cut p.ln.nums.length)⟩, p.A, p.c⟩ else none
def pB (cut : Int) (p : Pl) : Option Pl := if cutK cut p.ln.nums.length < p.ln.nums.length then some ⟨⟨p.ln.key, p.ln.nums.drop (cutK cut p.ln.nums.length)⟩, p.A.map (fun x => x.add (cutK cut p.ln.nums.length)), p.c - cutK cut p.ln.nums.length⟩ else none
theorem pA_key {cut : Int} {p q : Pl} (e : pA cut p = some q) : q.ln.key = p.ln.key := by
  rw [pA] at e
  split at e
  · injection e with e; rw [← e]
  · cases e
theorem pB_key {cut : Int} {p q : Pl} (e : pB cut p = some q) : q.ln.key = p.ln.key := by
  rw [pB] at e
  split at e
  · injection e with e; rw [← e]
  · cases e
theorem lnsOf_pA (cut : Int) (ps : List Pl) : lnsOf (ps.filterMap (pA cut)) = cutA cut (lnsOf ps) := by
  rw [lnsOf, cutA, lnsOf, List.map_filterMap, List.filterMap_map]
  congr 1
  funext p
  simp only [Function.comp, pA, cutA1]
  split <;> simp
theorem lnsOf_pB (cut : Int) (ps : List Pl) : lnsOf (ps.filterMap (pB cut)) = cutB cut (lnsOf ps) := by
  rw [lnsOf, cutB, lnsOf, List.map_filterMap, List.filterMap_map]
  congr 1
  funext p
  simp only [Function.comp, pB, cutB1]
  split <;> simp
theorem pA_ok {w : World} {B : Nat} {cut : Int} {p q : Pl} (h : p.Ok w B) (e : pA cut p = some q) : q.Ok w B := by
  rw [pA] at e
  split at e
  · injection e with e
    subst e
    have hk := cutK_le cut p.ln.nums.length
    have hl : (p.ln.nums.take (cutK cut p.ln.nums.length)).length = cutK cut p.ln.nums.length := by rw [List.length_take]; omega
    refine ⟨by simp only [hl]; exact Nat.le_trans hk h.cap, h.max, ?_, fun x hx => h.wf x (List.mem_of_mem_take hx)⟩
    have := h.rd.take hk
    rw [Nat.mul_one, ← List.map_take] at this
    simp only [hl]
    exact this
  · cases e
theorem pB_ok {w : World} {B : Nat} {cut : Int} {p q : Pl} (h : p.Ok w B) (e : pB cut p = some q) : q.Ok w B := by
  rw [pB] at e
  split at e
  · rename_i hlt
    injection e with e
    subst e
    have hc := h.cap
    have hm := h.max
    refine ⟨by simp only [List.length_drop]; omega, by simp only; omega, ?_, fun x hx => h.wf x (List.mem_of_mem_drop hx)⟩
    have := h.rd.cut_lt4 hlt hc
    rw [Nat.mul_one, ← List.map_drop] at this
    simp only [List.length_drop]
    exact this
  · cases e
theorem filt_ok {w : World} {B n : Nat} {A : Option Addr} {ps : List Pl} {f : Pl → Option Pl} (h : RdPs w B A n ps) (hf : ∀ p q : Pl, p.Ok w B → f p = some q → q.Ok w B) : ∀ q ∈ ps.filterMap f, q.Ok w B := fun q hq => by
  obtain ⟨p, hp, e⟩ := List.mem_filterMap.1 hq
  exact hf p q (h.ok p hp) e
def ApartV (a b : Value) : Prop := ∀ g, a.ownBlock = some g → b.ownBlock ≠ some g
theorem ApartV.symm {a b : Value} (h : ApartV a b) : ApartV b a := fun g h1 h2 => h g h2 h1
theorem ApartV.step {wd : World} {va v4 vb : Value} {base n : Nat} {e : TypeId} {s : Nat} {xs : List Value} (h : ApartV va vb) (ha : v4.ownBlock = va.ownBlock ∨ v4.ownBlock = some (wd.heap.size + 1)) (hb : wd.ownsRow base e s vb n xs) : ApartV v4 vb := fun g h1 h2 => by
  rcases ha with ha | ha
  · exact h g (ha.symm.trans h1) h2
  · rw [ha] at h1
    injection h1 with h1
    have := (hb.lt g h2).2
    omega
theorem filt_step {f : Pl → Option Pl} {ps : List Pl} {j : Nat} {p q : Pl} (h : ps[j]? = some p) (e : f p = some q) : plCells ((ps.take (j + 1)).filterMap f) = plCells ((ps.take j).filterMap f) ++ q.cells := by
  rw [List.take_add_one, h, List.filterMap_append, plCells_append]
  simp [e, plCells]
theorem filt_stay {f : Pl → Option Pl} {ps : List Pl} {j : Nat} {p : Pl} (h : ps[j]? = some p) (e : f p = none) : (ps.take (j + 1)).filterMap f = (ps.take j).filterMap f := by
  rw [List.take_add_one, h, List.filterMap_append]
  simp [e]
theorem less_bound {cut : Int} {l : List Ln} {j : Nat} {x : Ln} (h : LnsOk l) (hx : l[j]? = some x) : lessN cut (l.take j) + x.nums.length ≤ 160000 := by
  have h1 := cut_sum cut (l.take j)
  have h2 := sumL_next hx
  have h3 := sumL_take_le l (j + 1)
  have h4 := sumL_le h
  omega
theorem factp_any (w : World) :
    Calls Try.prog 19 #[.slice (some ⟨w.heap.size + 1, 0, none⟩) 1 1, .slice none 0 0] ((w.alloc (.cells #[.int .i64 1, .int .i64 2] 3)).alloc (.cells #[.string ⟨#[97]⟩, .slice (some ⟨w.heap.size, 0, none⟩) 2 2] 51)) fun e w' =>
      e = .returned (.tuple #[.int .i64 2, .nilIface]) ∧ Below w.heap.size w w' := by
  obtain ⟨w1, hw1⟩ : ∃ w1, w1 = w.alloc (.cells #[.int .i64 1, .int .i64 2] 3) := ⟨_, rfl⟩
  have hb1 : Below w.heap.size w w1 := hw1 ▸ (Below.refl w.heap.size w).alloc (Nat.le_refl _) _
  have hx1 : Blk w1 w.heap.size 3 #[.int .i64 1, .int .i64 2] := hw1 ▸ Blk.new w 3 #[.int .i64 1, .int .i64 2]
  have hs1 : w1.heap.size = w.heap.size + 1 := by rw [hw1]; simp
  rw [← hw1, ← hs1]
  have hb2 := (Below.refl w1.heap.size w1).alloc (Nat.le_refl _) (.cells #[.string ⟨#[97]⟩, .slice (some ⟨w.heap.size, 0, none⟩) 2 2] 51)
  have hx2 := Blk.new w1 51 #[.string ⟨#[97]⟩, .slice (some ⟨w.heap.size, 0, none⟩) 2 2]
  have hx3 := hx1.up hb2
  obtain ⟨x0, x1⟩ := cells2 hx2
  obtain ⟨y0, y1⟩ := cells2 hx3
  generalize w1.alloc (.cells #[.string ⟨#[97]⟩, .slice (some ⟨w.heap.size, 0, none⟩) 2 2] 51) = w2 at *
  have hs2 := hx2.lt
  have hP : RdPs w2 w2.heap.size (some ⟨w1.heap.size, 0, none⟩) 1 [(⟨⟨⟨#[97]⟩, [1, 2]⟩, some ⟨w.heap.size, 0, none⟩, 2⟩ : Pl)] := by
    refine ⟨rfl, ⟨rfl, fun _ => ⟨_, rfl, hs2, fun j u hu => ?_⟩⟩, fun p hp => ?_⟩
    · rcases j with _ | _ | j
      · obtain rfl : Value.string ⟨#[97]⟩ = u := by simpa [plCells, Pl.cells] using hu
        exact x0
      · obtain rfl : Value.slice (some ⟨w.heap.size, 0, none⟩) 2 2 = u := by simpa [plCells, Pl.cells, Pl.val] using hu
        exact x1
      · simp [plCells, Pl.cells] at hu
    · obtain rfl := List.mem_singleton.1 hp
      refine ⟨Nat.le_refl _, by show 2 ≤ maxLen; unfold maxLen; omega, ⟨rfl, fun _ => ⟨_, rfl, by simp only; omega, fun j u hu => ?_⟩⟩, fun x hx => ?_⟩
      · rcases j with _ | _ | j
        · obtain rfl : Value.int .i64 1 = u := by simpa [iv] using hu
          exact y0
        · obtain rfl : Value.int .i64 2 = u := by simpa [iv] using hu
          exact y1
        · simp at hu
      · simp at hx
        rcases hx with rfl | rfl <;> decide
  have hN : RdPs w2 w2.heap.size none 0 [] := ⟨rfl, Rd.nil_, fun _ h => (List.not_mem_nil h).elim⟩
  have e1 : lnsOf [(⟨⟨⟨#[97]⟩, [1, 2]⟩, some ⟨w.heap.size, 0, none⟩, 2⟩ : Pl)] = factP := rfl
  have hj := aless_any (some ⟨w1.heap.size, 0, none⟩) none 1 0 w2.heap.size 1 0 _ [] w2 hP hN (Nat.le_refl _) (by omega) (by omega)
  rw [e1, show lnsOf [] = [] from rfl] at hj
  have hL : lessE factP [] = 0 := by
    have : bothL factP [] = 0 := by rw [bothL, if_neg (by rw [factP_ok]; simp), linesE]; rfl
    rw [lessE, if_neg (by rw [this]; simp)]; rfl
  have hV : lessV factP [] = 2 := by rw [lessV, if_pos hL]; rfl
  rw [hL, hV] at hj
  refine hj.mono ?_
  rintro e w' ⟨rfl, hb⟩
  exact ⟨rfl, hb1.trans ((hb2.trans (hb.mono hb2.size)).mono hb1.size)⟩
theorem cutK_neg {cut : Int} {m : Nat} (h : cut ≤ 0) : cutK cut m = 0 := by rw [cutK]; omega
theorem cutK_mid {k m : Nat} (h : k ≤ m) : cutK (k : Int) m = k := by rw [cutK]; omega
theorem cutK_big {cut : Int} {m : Nat} (h : (m : Int) ≤ cut) : cutK cut m = m := by rw [cutK]; omega
theorem step_newd {P : Program} {ops : Array Oper} {o : Oper} {a : Act} {K : Act → World → Prop} {Q : Exit → Act → World → Prop} {F : Prop} {w : World} (s x : Operand) {t e : TypeId} {z : Value} {size bytes : Nat} (E : Elt P t e z size bytes)
    (hgd : o.guard = none) (ho : o.op = .call { callee := .builtin .append, args := #[s, x], argTypes := #[t, t] })
    {base : Nat} {v : Value} {n : Nat} {xs : List Value} (hown : w.drew.ownsRow base e size v n xs) (hs : a.eval s = v)
    {g m c : Nat} {cs : Array Value} (hx : a.eval x = .slice (some ⟨g, 0, none⟩) m c) (hg : w.drew.heap.size = g) (hl : cs.size = m * size) (h1 : cs.toList.all Value.oneCell' = true)
    (hbytes : (n + m) * bytes ≤ 140737488355328) (hbase : base ≤ w.drew.heap.size)
    (h : ∀ v' w', w'.ownsRow base e size v' (n + m) (xs ++ cs.toList) → Below base w.drew w' → w.drew.grownBy w' v.ownBlock → (v'.ownBlock = v.ownBlock ∨ v'.ownBlock = some (w.drew.heap.size + 1)) → K (a.put o.dst v') w') :
    if Region.wanted o (yielded ops a.tmps) = true then Oper.wp P o a (w.alloc (.cells cs e)).drew K Q else F := by
  have e1 : (w.alloc (.cells cs e)).drew = w.drew.alloc (.cells cs e) := rfl
  rw [e1]
  exact step_newg s x E hgd ho hown hs hx hg hl h1 hbytes hbase h
theorem pl_eta (p : Pl) {ns : List Int} (h : ns = p.ln.nums) : (⟨⟨p.ln.key, ns⟩, p.A, p.c⟩ : Pl) = p := by rw [h]
theorem pA_zero {cut : Int} {p : Pl} (h : cutK cut p.ln.nums.length = 0) : pA cut p = none := by rw [pA, h, if_neg (by omega)]
theorem pB_zero {cut : Int} {p : Pl} (h : cutK cut p.ln.nums.length = 0) (h0 : 0 < p.ln.nums.length) : pB cut p = some p := by
  rw [pB, h, if_pos h0, List.drop_zero, Nat.sub_zero]
  have : p.A.map (fun x => x.add 0) = p.A := by cases p.A <;> simp [Addr.add]
  rw [this]
theorem pA_full {cut : Int} {p : Pl} (h : cutK cut p.ln.nums.length = p.ln.nums.length) (h0 : 0 < p.ln.nums.length) : pA cut p = some p := by
  rw [pA, h, if_pos h0, List.take_length]
theorem pB_full {cut : Int} {p : Pl} (h : cutK cut p.ln.nums.length = p.ln.nums.length) : pB cut p = none := by rw [pB, h, if_neg (by omega)]
theorem pA_mid {k : Nat} {p : Pl} (h : k ≤ p.ln.nums.length) (h0 : 0 < k) : pA (k : Int) p = some ⟨⟨p.ln.key, p.ln.nums.take k⟩, p.A, p.c⟩ := by rw [pA, cutK_mid h, if_pos h0]
theorem pB_mid {k : Nat} {p : Pl} (h : k < p.ln.nums.length) : pB (k : Int) p = some ⟨⟨p.ln.key, p.ln.nums.drop k⟩, p.A.map (fun x => x.add k), p.c - k⟩ := by rw [pB, cutK_mid (Nat.le_of_lt h), if_pos h]
/-- The loop's state. -/
structure PS (w wr : World) (cut : Int) (ps : List Pl) (j ma mb t : Nat) (oa ob : Value) : Prop where
  a : wr.ownsRow w.heap.size 51 2 oa ma (plCells ((ps.take j).filterMap (pA cut)))
  b : wr.ownsRow w.heap.size 51 2 ob mb (plCells ((ps.take j).filterMap (pB cut)))
  ap : ApartV oa ob
  la : ma ≤ j
  lb : mb ≤ j
  t : t = lessN cut ((lnsOf ps).take j)
  bel : Below w.heap.size w wr
section
variable {w wr : World} {cut : Int} {ps : List Pl} {j ma mb t : Nat} {oa ob : Value} {p : Pl}
theorem PS.start : PS w w cut ps 0 0 0 0 (.slice none 0 0) (.slice none 0 0) := ⟨World.ownsRow_nil _ _ _ _, World.ownsRow_nil _ _ _ _, (fun g h => by cases h), Nat.le_refl _, Nat.le_refl _, rfl, Below.refl _ _⟩
theorem PS.tt (h : PS w wr cut ps j ma mb t oa ob) (hp : ps[j]? = some p) : t + (p.ln.nums.length - cutK cut p.ln.nums.length) = lessN cut ((lnsOf ps).take (j + 1)) := by
  rw [lessN_next (lnsOf_at hp), ← h.t]
/-- Only a has grown. -/
theorem PS.onlyA {v4 : Value} {w4 : World} (h : PS w wr cut ps j ma mb t oa ob) (hp : ps[j]? = some p) {q : Pl} (e : pA cut p = some q) (hn : pB cut p = none)
    (ho : w4.ownsRow w.heap.size 51 2 v4 (ma + 1) (plCells ((ps.take j).filterMap (pA cut)) ++ q.cells)) (hb : Below w.heap.size wr.drew w4) (hg : wr.drew.grownBy w4 oa.ownBlock) (ha : v4.ownBlock = oa.ownBlock ∨ v4.ownBlock = some (wr.drew.heap.size + 1)) :
    PS w w4 cut ps (j + 1) (ma + 1) mb (t + (p.ln.nums.length - cutK cut p.ln.nums.length)) v4 ob where
  a := by rw [filt_step hp e]; exact ho
  b := by rw [filt_stay hp hn]; exact own_far (World.ownsRow.drew h.b) hg (fun g h1 h2 => h.ap g h2 h1)
  ap := h.ap.step ha (World.ownsRow.drew h.b)
  la := by have := h.la; omega
  lb := by have := h.lb; omega
  t := h.tt hp
  bel := h.bel.drew.trans hb
/-- Only b. -/
theorem PS.onlyB {v4 : Value} {w4 : World} (h : PS w wr cut ps j ma mb t oa ob) (hp : ps[j]? = some p) {q : Pl} (e : pB cut p = some q) (hn : pA cut p = none)
    (ho : w4.ownsRow w.heap.size 51 2 v4 (mb + 1) (plCells ((ps.take j).filterMap (pB cut)) ++ q.cells)) (hb : Below w.heap.size wr.drew w4) (hg : wr.drew.grownBy w4 ob.ownBlock) (ha : v4.ownBlock = ob.ownBlock ∨ v4.ownBlock = some (wr.drew.heap.size + 1)) :
    PS w w4 cut ps (j + 1) ma (mb + 1) (t + (p.ln.nums.length - cutK cut p.ln.nums.length)) oa v4 where
  b := by rw [filt_step hp e]; exact ho
  a := by rw [filt_stay hp hn]; exact own_far (World.ownsRow.drew h.a) hg (fun g h1 h2 => h.ap g h1 h2)
  ap := (h.ap.symm.step ha (World.ownsRow.drew h.a)).symm
  la := by have := h.la; omega
  lb := by have := h.lb; omega
  t := h.tt hp
  bel := h.bel.drew.trans hb
/-- Both, one behind the other. -/
theorem PS.two {v4 v5 : Value} {w4 w5 : World} (h : PS w wr cut ps j ma mb t oa ob) (hp : ps[j]? = some p) {q r : Pl} (e : pA cut p = some q) (e2 : pB cut p = some r)
    (ho : w4.ownsRow w.heap.size 51 2 v4 (ma + 1) (plCells ((ps.take j).filterMap (pA cut)) ++ q.cells)) (hb : Below w.heap.size wr.drew w4) (ha : v4.ownBlock = oa.ownBlock ∨ v4.ownBlock = some (wr.drew.heap.size + 1))
    (ho2 : w5.ownsRow w.heap.size 51 2 v5 (mb + 1) (plCells ((ps.take j).filterMap (pB cut)) ++ r.cells)) (hb2 : Below w.heap.size w4.drew w5) (hg2 : w4.drew.grownBy w5 ob.ownBlock) (ha2 : v5.ownBlock = ob.ownBlock ∨ v5.ownBlock = some (w4.drew.heap.size + 1)) :
    PS w w5 cut ps (j + 1) (ma + 1) (mb + 1) (t + (p.ln.nums.length - cutK cut p.ln.nums.length)) v4 v5 where
  a := by
    rw [filt_step hp e]
    exact own_far (World.ownsRow.drew ho) hg2 (fun g h1 h2 => (h.ap.step ha (World.ownsRow.drew h.b)) g h1 h2)
  b := by rw [filt_step hp e2]; exact ho2
  ap := ((h.ap.step ha (World.ownsRow.drew h.b)).symm.step ha2 (World.ownsRow.drew ho)).symm
  la := by have := h.la; omega
  lb := by have := h.lb; omega
  t := h.tt hp
  bel := (h.bel.drew.trans hb).drew.trans hb2
theorem PS.bb {w4 : World} (h : PS w wr cut ps j ma mb t oa ob) (hg : wr.drew.grownBy w4 oa.ownBlock) : w4.ownsRow w.heap.size 51 2 ob mb (plCells ((ps.take j).filterMap (pB cut))) := own_far (World.ownsRow.drew h.b) hg (fun g h1 h2 => h.ap g h2 h1)
end
set_option maxRecDepth 100000 in
set_option maxHeartbeats 4000000 in
theorem lawprefix_any (A : Option Addr) (c : Nat) (ps : List Pl) (cut : Int) (w : World) (hr : RdPs w w.heap.size A ps.length ps) (hlc : ps.length ≤ c) (hcm : c ≤ maxLen) (hks : ∀ p ∈ ps, p.ln.key.size ≤ maxLen) (hl : ps.length ≤ 140737488355328)
    (hc0 : -9223372036854775808 ≤ cut) (hc1 : cut ≤ 9223372036854775807) :
    Calls Try.prog 7 #[.slice A ps.length c, .int .i64 cut] w fun e w' => e = .returned (.bool true) ∧ Below w.heap.size w w' := by
  have HC := Lib.hid (fun W (h : Below w.heap.size w W) => acheck_any A c w.heap.size ps.length ps W (hr.below h (Nat.le_refl _)) h.size hl)
  have HF0 := Lib.hid (factp_any w)
  have HR := Lib.hid hr
  obtain ⟨n, hn⟩ : ∃ n, n = ps.length := ⟨_, rfl⟩
  have HN := Lib.hid hn
  rw [← hn] at hr HC hlc hl ⊢
  clear hn
  by_cases hE : linesE (lnsOf ps) = 0
  · have hok := linesE_ok hE
    have hn4 : n ≤ 400 := by have := hok.len; rw [lnsOf_len] at this; have := HN.out; omega
    have HOK := Lib.hid hok
    have HEE := Lib.hid hE
    have HK := Lib.hid hks
    rw [hE, errV_zero] at HC
    clear hE hok hks
    go_enter Try.func7, Try.ntmps7
    go_wp2_with (first
      | (go_at_call 19; go_must (refine HF0.out.mono ?_); rintro e w1 ⟨rfl, hb1⟩)
      | (go_at_call 20; go_must (refine (HC.out _ hb1).mono ?_); rintro e w2 ⟨rfl, hb2⟩))
    have hb12 := below_up hb1 hb2
    have HB12 := Lib.hid hb12
    have hst : PS w w2 cut ps 0 0 0 0 (.slice none 0 0) (.slice none 0 0) := ⟨World.ownsRow_nil _ _ _ _, World.ownsRow_nil _ _ _ _, (fun g h => by cases h), Nat.le_refl _, Nat.le_refl _, rfl, hb12⟩
    clear hb1 hb2
    go_loopw [8, 9, 10, 11] (fun oa ob x i wr => ∃ j ma mb t : Nat, j ≤ n ∧ i = .int .i64 j ∧ x = .int .i64 t ∧ PS w wr cut ps j ma mb t oa ob) (fun _ _ _ i _ => n - (intOf i).toNat)
    case atStart => exact ⟨0, 0, 0, 0, Nat.zero_le _, rfl, rfl, hst⟩
    clear hst hb12
    obtain ⟨j, ma, mb, t, hj, rfl, rfl, hps⟩ := hrel
    have hws := hps.bel.size
    by_cases hlt : j < n
    · obtain ⟨ad, p, rfl, hab, hx0, g0, g1, hpo⟩ := (hr.below hps.bel (Nat.le_refl _)).at_ hlt
      have hcap := hpo.cap
      have hmax := hpo.max
      have HPA := Lib.hid hpo.rd.2
      clear hpo
      have hbw : (ad.add (j * 2)).block < w.heap.size := by rw [block_add]; exact hab
      have hp1 := HOK.out.some_ p.ln (List.mem_of_getElem? (lnsOf_at hx0))
      have hp4 := HOK.out.few p.ln (List.mem_of_getElem? (lnsOf_at hx0))
      have htb := less_bound (cut := cut) HOK.out (lnsOf_at hx0)
      rw [← hps.t] at htb
      have HX := Lib.hid hx0
      have hownA := hps.a
      have hownB := hps.b
      have hla := hps.la
      have hlb := hps.lb
      obtain ⟨m, hm⟩ : ∃ m, m = p.ln.nums.length := ⟨_, rfl⟩
      have Hm := Lib.hid hm
      unfold Pl.val at g1
      rw [← hm] at g1 hp1 hp4 htb hcap
      have HPS := Lib.hid hps
      clear hx0 hm hps
      have hi0 : (0 : Int) ≤ (j : Int) := by omega
      have hi1 : (j : Int) < (n : Int) := by omega
      by_cases hneg : cut ≤ 0
      · have hK : cutK cut p.ln.nums.length = 0 := cutK_neg hneg
        have HT : Hid (t + (p.ln.nums.length - cutK cut p.ln.nums.length) = t + m) := Lib.hid (by rw [hK, ← Hm.out, Nat.sub_zero])
        have HB := Lib.hid (pB_zero hK (by rw [← Hm.out]; exact hp1))
        have HA := Lib.hid (pA_zero hK)
        clear hK
        by_cases hneg2 : cut < 0
        · go_wp2_with fail
          have hownAd := World.ownsRow.drew hownB
          have hbyA : (mb + 1) * 40 ≤ 140737488355328 := by omega
          have hszd : w.heap.size ≤ wr.drew.heap.size := hws
          have c0d : wr.drew.cell? (ad.add (j * 2)) = some (.string p.ln.key) := g0
          have c1d : wr.drew.cell? ⟨(ad.add (j * 2)).block, (ad.add (j * 2)).off + 1, none⟩ = some (.slice p.A m p.c) := g1
          have hbl0 : (ad.add (j * 2)).block < wr.drew.heap.size := Nat.lt_of_lt_of_le hbw hszd
          have c0a := fun o => (World.cell?_alloc_lt wr.drew o (ad.add (j * 2)) hbl0).trans c0d
          have c1a := fun o => (World.cell?_alloc_lt wr.drew o ⟨(ad.add (j * 2)).block, (ad.add (j * 2)).off + 1, none⟩ hbl0).trans c1d
          go_region_held3 (fun w' => w'.cell? (ad.add (j * 2)) = some (.string p.ln.key) ∧ w'.cell? ⟨(ad.add (j * 2)).block, (ad.add (j * 2)).off + 1, none⟩ = some (.slice p.A m p.c)) (first | exact ⟨c0d, c1d⟩ | exact ⟨c0a _, c1a _⟩ | exact ⟨(hb5.cell hbw).trans c0d, (hb5.cell (p := ⟨(ad.add (j * 2)).block, (ad.add (j * 2)).off + 1, none⟩) hbw).trans c1d⟩)
            ((first
              | (with_reducible show (if Region.wanted (⟨some 95, _, _, _, _, _⟩ : Oper) _ = true then _ else _); go_must (first | refine step_newd (.tmp 80) (.tmp 94) el_line rfl rfl hownAd rfl rfl rfl rfl rfl hbyA hszd ?_ | refine step_newg (.tmp 80) (.tmp 94) el_line rfl rfl hownAd rfl rfl rfl rfl rfl hbyA hszd ?_); intro v5 w5 hown5 hb5 hg5 ha5)))
          have hps5 := HPS.out.onlyB HX.out HB.out HA.out (by rw [Pl.cells, Pl.val, ← Hm.out]; exact hown5) hb5 hg5 ha5
          rw [HT.out] at hps5
          have HPS5 := Lib.hid hps5
          clear hps5 hown5
          go_wp2_with fail
          go_roundw
          case rel => exact ⟨j + 1, ma, mb + 1, t + m, by omega, by go_num, by go_num, HPS5.out⟩
          case measure => simp [intOf]; omega
        · obtain rfl : cut = 0 := by omega
          go_wp2_with fail
          have hownAd := World.ownsRow.drew hownB
          have hbyA : (mb + 1) * 40 ≤ 140737488355328 := by omega
          have hszd : w.heap.size ≤ wr.drew.heap.size := hws
          have c0d : wr.drew.cell? (ad.add (j * 2)) = some (.string p.ln.key) := g0
          have c1d : wr.drew.cell? ⟨(ad.add (j * 2)).block, (ad.add (j * 2)).off + 1, none⟩ = some (.slice p.A m p.c) := g1
          have hbl0 : (ad.add (j * 2)).block < wr.drew.heap.size := Nat.lt_of_lt_of_le hbw hszd
          have c0a := fun o => (World.cell?_alloc_lt wr.drew o (ad.add (j * 2)) hbl0).trans c0d
          have c1a := fun o => (World.cell?_alloc_lt wr.drew o ⟨(ad.add (j * 2)).block, (ad.add (j * 2)).off + 1, none⟩ hbl0).trans c1d
          go_region_held3 (fun w' => w'.cell? (ad.add (j * 2)) = some (.string p.ln.key) ∧ w'.cell? ⟨(ad.add (j * 2)).block, (ad.add (j * 2)).off + 1, none⟩ = some (.slice p.A m p.c)) (first | exact ⟨c0d, c1d⟩ | exact ⟨c0a _, c1a _⟩ | exact ⟨(hb5.cell hbw).trans c0d, (hb5.cell (p := ⟨(ad.add (j * 2)).block, (ad.add (j * 2)).off + 1, none⟩) hbw).trans c1d⟩)
            ((first
              | (with_reducible show (if Region.wanted (⟨some 95, _, _, _, _, _⟩ : Oper) _ = true then _ else _); go_must (first | refine step_newd (.tmp 80) (.tmp 94) el_line rfl rfl hownAd rfl rfl rfl rfl rfl hbyA hszd ?_ | refine step_newg (.tmp 80) (.tmp 94) el_line rfl rfl hownAd rfl rfl rfl rfl rfl hbyA hszd ?_); intro v5 w5 hown5 hb5 hg5 ha5)))
          have hps5 := HPS.out.onlyB HX.out HB.out HA.out (by rw [Pl.cells, Pl.val, ← Hm.out]; exact hown5) hb5 hg5 ha5
          rw [HT.out] at hps5
          have HPS5 := Lib.hid hps5
          clear hps5 hown5
          go_wp2_with fail
          go_roundw
          case rel => exact ⟨j + 1, ma, mb + 1, t + m, by omega, by go_num, by go_num, HPS5.out⟩
          case measure => simp [intOf]; omega
      · by_cases hbig : (m : Int) ≤ cut
        · have hK : cutK cut p.ln.nums.length = p.ln.nums.length := cutK_big (by rw [← Hm.out]; exact hbig)
          have HT : Hid (t + (p.ln.nums.length - cutK cut p.ln.nums.length) = t) := Lib.hid (by rw [hK, Nat.sub_self, Nat.add_zero])
          have HA := Lib.hid (pA_full hK (by rw [← Hm.out]; exact hp1))
          have HB := Lib.hid (pB_full hK)
          clear hK
          by_cases hbig2 : (m : Int) < cut
          · go_wp2_with fail
            have hownAd := World.ownsRow.drew hownA
            have hbyA : (ma + 1) * 40 ≤ 140737488355328 := by omega
            have hszd : w.heap.size ≤ wr.drew.heap.size := hws
            have c0d : wr.drew.cell? (ad.add (j * 2)) = some (.string p.ln.key) := g0
            have c1d : wr.drew.cell? ⟨(ad.add (j * 2)).block, (ad.add (j * 2)).off + 1, none⟩ = some (.slice p.A m p.c) := g1
            have hbl0 : (ad.add (j * 2)).block < wr.drew.heap.size := Nat.lt_of_lt_of_le hbw hszd
            have c0a := fun o => (World.cell?_alloc_lt wr.drew o (ad.add (j * 2)) hbl0).trans c0d
            have c1a := fun o => (World.cell?_alloc_lt wr.drew o ⟨(ad.add (j * 2)).block, (ad.add (j * 2)).off + 1, none⟩ hbl0).trans c1d
            go_region_held3 (fun w' => w'.cell? (ad.add (j * 2)) = some (.string p.ln.key) ∧ w'.cell? ⟨(ad.add (j * 2)).block, (ad.add (j * 2)).off + 1, none⟩ = some (.slice p.A m p.c)) (first | exact ⟨c0d, c1d⟩ | exact ⟨c0a _, c1a _⟩ | exact ⟨(hb4.cell hbw).trans c0d, (hb4.cell (p := ⟨(ad.add (j * 2)).block, (ad.add (j * 2)).off + 1, none⟩) hbw).trans c1d⟩)
              ((first
                | (with_reducible show (if Region.wanted (⟨some 76, _, _, _, _, _⟩ : Oper) _ = true then _ else _); go_must (first | refine step_newd (.tmp 61) (.tmp 75) el_line rfl rfl hownAd rfl rfl rfl rfl rfl hbyA hszd ?_ | refine step_newg (.tmp 61) (.tmp 75) el_line rfl rfl hownAd rfl rfl rfl rfl rfl hbyA hszd ?_); intro v4 w4 hown4 hb4 hg4 ha4)))
            have hps5 := HPS.out.onlyA HX.out HA.out HB.out (by rw [Pl.cells, Pl.val, ← Hm.out]; exact hown4) hb4 hg4 ha4
            rw [HT.out] at hps5
            have HPS5 := Lib.hid hps5
            clear hps5 hown4
            go_wp2_with fail
            go_roundw
            case rel => exact ⟨j + 1, ma + 1, mb, t, by omega, by go_num, by go_num, HPS5.out⟩
            case measure => simp [intOf]; omega
          · obtain rfl : cut = (m : Int) := by omega
            go_wp2_with fail
            have hownAd := World.ownsRow.drew hownA
            have hbyA : (ma + 1) * 40 ≤ 140737488355328 := by omega
            have hszd : w.heap.size ≤ wr.drew.heap.size := hws
            have c0d : wr.drew.cell? (ad.add (j * 2)) = some (.string p.ln.key) := g0
            have c1d : wr.drew.cell? ⟨(ad.add (j * 2)).block, (ad.add (j * 2)).off + 1, none⟩ = some (.slice p.A m p.c) := g1
            have hbl0 : (ad.add (j * 2)).block < wr.drew.heap.size := Nat.lt_of_lt_of_le hbw hszd
            have c0a := fun o => (World.cell?_alloc_lt wr.drew o (ad.add (j * 2)) hbl0).trans c0d
            have c1a := fun o => (World.cell?_alloc_lt wr.drew o ⟨(ad.add (j * 2)).block, (ad.add (j * 2)).off + 1, none⟩ hbl0).trans c1d
            go_region_held3 (fun w' => w'.cell? (ad.add (j * 2)) = some (.string p.ln.key) ∧ w'.cell? ⟨(ad.add (j * 2)).block, (ad.add (j * 2)).off + 1, none⟩ = some (.slice p.A m p.c)) (first | exact ⟨c0d, c1d⟩ | exact ⟨c0a _, c1a _⟩ | exact ⟨(hb4.cell hbw).trans c0d, (hb4.cell (p := ⟨(ad.add (j * 2)).block, (ad.add (j * 2)).off + 1, none⟩) hbw).trans c1d⟩)
              ((first
                | (with_reducible show (if Region.wanted (⟨some 76, _, _, _, _, _⟩ : Oper) _ = true then _ else _); go_must (first | refine step_newd (.tmp 61) (.tmp 75) el_line rfl rfl hownAd rfl rfl rfl rfl rfl hbyA hszd ?_ | refine step_newg (.tmp 61) (.tmp 75) el_line rfl rfl hownAd rfl rfl rfl rfl rfl hbyA hszd ?_); intro v4 w4 hown4 hb4 hg4 ha4)))
            have hps5 := HPS.out.onlyA HX.out HA.out HB.out (by rw [Pl.cells, Pl.val, ← Hm.out]; exact hown4) hb4 hg4 ha4
            rw [HT.out] at hps5
            have HPS5 := Lib.hid hps5
            clear hps5 hown4
            go_wp2_with fail
            go_roundw
            case rel => exact ⟨j + 1, ma + 1, mb, t, by omega, by go_num, by go_num, HPS5.out⟩
            case measure => simp [intOf]; omega
        · obtain ⟨k, rfl⟩ : ∃ k : Nat, cut = (k : Int) := ⟨cut.toNat, by omega⟩
          have hk0 : 0 < k := by omega
          have hkm : k < m := by omega
          obtain ⟨adp, hA, _, _⟩ := HPA.out (by rw [← Hm.out]; omega)
          have HAD := Lib.hid hA
          rw [hA] at g1
          have hK : cutK (k : Int) p.ln.nums.length = k := cutK_mid (by rw [← Hm.out]; omega)
          have HT : Hid (t + (p.ln.nums.length - cutK (k : Int) p.ln.nums.length) = t + m - k) := Lib.hid (by rw [hK, ← Hm.out]; omega)
          have HA := Lib.hid (pA_mid (k := k) (p := p) (by rw [← Hm.out]; omega) hk0)
          have HB := Lib.hid (pB_mid (k := k) (p := p) (by rw [← Hm.out]; exact hkm))
          have HQ : Hid (Pl.cells ⟨⟨p.ln.key, p.ln.nums.take k⟩, p.A, p.c⟩ = [.string p.ln.key, .slice (some adp) k p.c]) := Lib.hid (by
            have : (p.ln.nums.take k).length = k := by rw [List.length_take, ← Hm.out]; omega
            rw [Pl.cells, Pl.val]; simp only [this, HAD.out])
          have HQ2 : Hid (Pl.cells ⟨⟨p.ln.key, p.ln.nums.drop k⟩, p.A.map (fun x => x.add k), p.c - k⟩ = [.string p.ln.key, .slice (some (adp.add k)) (m - k) (p.c - k)]) := Lib.hid (by
            have : (p.ln.nums.drop k).length = m - k := by rw [List.length_drop, ← Hm.out]
            rw [Pl.cells, Pl.val]; simp only [this, HAD.out, Option.map_some])
          clear hK hA
          have f1 : ((k : Int)).toNat = k := by omega
          have f2 : k ≤ m := by omega
          have f4 : ¬ (p.c = k) := by omega
          have f6 : k ≤ p.c := by omega
          go_wp2_with fail
          have hownAd := World.ownsRow.drew hownA
          have hbyA : (ma + 1) * 40 ≤ 140737488355328 := by omega
          have hszd : w.heap.size ≤ wr.drew.heap.size := hws
          have c0d : wr.drew.cell? (ad.add (j * 2)) = some (.string p.ln.key) := g0
          have c1d : wr.drew.cell? ⟨(ad.add (j * 2)).block, (ad.add (j * 2)).off + 1, none⟩ = some (.slice (adp|>some) m p.c) := g1
          have hbl0 : (ad.add (j * 2)).block < wr.drew.heap.size := Nat.lt_of_lt_of_le hbw hszd
          have c0a := fun o => (World.cell?_alloc_lt wr.drew o (ad.add (j * 2)) hbl0).trans c0d
          have c1a := fun o => (World.cell?_alloc_lt wr.drew o ⟨(ad.add (j * 2)).block, (ad.add (j * 2)).off + 1, none⟩ hbl0).trans c1d
          go_region_held3 (fun w' => w'.cell? (ad.add (j * 2)) = some (.string p.ln.key) ∧ w'.cell? ⟨(ad.add (j * 2)).block, (ad.add (j * 2)).off + 1, none⟩ = some (.slice (adp|>some) m p.c)) (first | exact ⟨c0d, c1d⟩ | exact ⟨c0a _, c1a _⟩ | exact ⟨(hb4.cell hbw).trans c0d, (hb4.cell (p := ⟨(ad.add (j * 2)).block, (ad.add (j * 2)).off + 1, none⟩) hbw).trans c1d⟩)
            ((first
              | (with_reducible show (if Region.wanted (⟨some 76, _, _, _, _, _⟩ : Oper) _ = true then _ else _); go_must (first | refine step_newd (.tmp 61) (.tmp 75) el_line rfl rfl hownAd rfl rfl rfl rfl rfl hbyA hszd ?_ | refine step_newg (.tmp 61) (.tmp 75) el_line rfl rfl hownAd rfl rfl rfl rfl rfl hbyA hszd ?_); intro v4 w4 hown4 hb4 hg4 ha4)))
          have hownB4 := HPS.out.bb hg4
          have hws4 : w.heap.size ≤ w4.heap.size := Nat.le_trans hws hb4.size
          have g04 : w4.cell? (ad.add (j * 2)) = some (.string p.ln.key) := (hb4.cell hbw).trans g0
          have g14 : w4.cell? ⟨(ad.add (j * 2)).block, (ad.add (j * 2)).off + 1, none⟩ = some (.slice (some adp) m p.c) := (hb4.cell (p := ⟨(ad.add (j * 2)).block, (ad.add (j * 2)).off + 1, none⟩) hbw).trans g1
          clear hownAd hbyA hszd c0d c1d hbl0 c0a c1a
          go_wp2_with fail
          have hownAd := World.ownsRow.drew hownB4
          have hbyA : (mb + 1) * 40 ≤ 140737488355328 := by omega
          have hszd : w.heap.size ≤ w4.drew.heap.size := hws4
          have c0d : w4.drew.cell? (ad.add (j * 2)) = some (.string p.ln.key) := g04
          have c1d : w4.drew.cell? ⟨(ad.add (j * 2)).block, (ad.add (j * 2)).off + 1, none⟩ = some (.slice (adp|>some) m p.c) := g14
          have hbl0 : (ad.add (j * 2)).block < w4.drew.heap.size := Nat.lt_of_lt_of_le hbw hszd
          have c0a := fun o => (World.cell?_alloc_lt w4.drew o (ad.add (j * 2)) hbl0).trans c0d
          have c1a := fun o => (World.cell?_alloc_lt w4.drew o ⟨(ad.add (j * 2)).block, (ad.add (j * 2)).off + 1, none⟩ hbl0).trans c1d
          go_region_held3 (fun w' => w'.cell? (ad.add (j * 2)) = some (.string p.ln.key) ∧ w'.cell? ⟨(ad.add (j * 2)).block, (ad.add (j * 2)).off + 1, none⟩ = some (.slice (adp|>some) m p.c)) (first | exact ⟨c0d, c1d⟩ | exact ⟨c0a _, c1a _⟩ | exact ⟨(hb5.cell hbw).trans c0d, (hb5.cell (p := ⟨(ad.add (j * 2)).block, (ad.add (j * 2)).off + 1, none⟩) hbw).trans c1d⟩)
            ((first
              | (with_reducible show (if Region.wanted (⟨some 95, _, _, _, _, _⟩ : Oper) _ = true then _ else _); go_must (first | refine step_newd (.tmp 80) (.tmp 94) el_line rfl rfl hownAd rfl rfl rfl rfl rfl hbyA hszd ?_ | refine step_newg (.tmp 80) (.tmp 94) el_line rfl rfl hownAd rfl rfl rfl rfl rfl hbyA hszd ?_); intro v5 w5 hown5 hb5 hg5 ha5)))
          have hps5 := HPS.out.two HX.out HA.out HB.out (by rw [HQ.out]; exact hown4) hb4 ha4 (by rw [HQ2.out]; exact hown5) hb5 hg5 ha5
          rw [HT.out] at hps5
          have HPS5 := Lib.hid hps5
          clear hps5 hown4 hown5
          go_wp2_with fail
          go_roundw
          case rel => exact ⟨j + 1, ma + 1, mb + 1, t + m - k, by omega, by go_num, by first | go_num | (congr 1; omega), HPS5.out⟩
          case measure => simp [intOf]; omega
    · have e : j = n := by omega
      subst e
      have htk : ps.take j = ps := List.take_of_length_le (by have := HN.out; omega)
      have htk2 : (lnsOf ps).take j = lnsOf ps := List.take_of_length_le (by rw [lnsOf_len]; have := HN.out; omega)
      have hbel := hps.bel
      have HT : Hid (t = lessN cut (lnsOf ps)) := Lib.hid (by rw [hps.t, htk2])
      have hrowA := hps.a
      have hrowB := hps.b
      rw [htk] at hrowA hrowB
      obtain ⟨Aa, ca, rfl, a1, a2, _, a3⟩ := own_form hrowA
      obtain ⟨Ab, cb, rfl, b1, b2, _, b3⟩ := own_form hrowB
      have hlA : (ps.filterMap (pA cut)).length = ma := by have := hrowA.1; rw [plCells_len] at this; omega
      have hlB : (ps.filterMap (pB cut)).length = mb := by have := hrowB.1; rw [plCells_len] at this; omega
      have hra : RdPs wr wr.heap.size Aa ma (ps.filterMap (pA cut)) := ⟨hlA, a3, fun q hq => ((filt_ok hr (fun p q h e => pA_ok h e) q hq).below hbel (Nat.le_refl _)).more hws⟩
      have hrb : RdPs wr wr.heap.size Ab mb (ps.filterMap (pB cut)) := ⟨hlB, b3, fun q hq => ((filt_ok hr (fun p q h e => pB_ok h e) q hq).below hbel (Nat.le_refl _)).more hws⟩
      have hrl : RdPs wr wr.heap.size A j ps := ⟨hr.len, (hr.rd.below hbel (Nat.le_refl _)).more hws, fun p hp => ((hr.ok p hp).below hbel (Nat.le_refl _)).more hws⟩
      have hLA := lnsOf_pA cut ps
      have hLB := lnsOf_pB cut ps
      have okA := cutA_ok HOK.out cut
      have okB := cutB_ok HOK.out cut
      have hEA : linesE (lnsOf (ps.filterMap (pA cut))) = 0 := by rw [hLA]; exact linesE_ok_iff.2 okA
      have hla := hps.la
      have hlb := hps.lb
      have hj := judge_good A Aa c ca wr.heap.size ps (ps.filterMap (pA cut)) wr (HN.out ▸ hrl) (hlA.symm ▸ hra) (Nat.le_refl _) (HN.out ▸ hlc) (by rw [hlA]; exact a1) hcm a2 HEE.out hEA
      rw [← HN.out, hlA, hLA, cut_judge HOK.out cut, ← HT.out] at hj
      have hle : ∀ W, Below wr.heap.size wr W → Calls Try.prog 19 #[.slice A j c, .slice Aa ma ca] W fun e w' => e = .returned (.tuple #[.int .i64 (t : Nat), .nilIface]) ∧ Below W.heap.size W w' := fun W h => by
        have := aless_any A Aa c ca wr.heap.size j ma ps (ps.filterMap (pA cut)) W (hrl.below h (Nat.le_refl _)) (hra.below h (Nat.le_refl _)) h.size (by omega) (by omega)
        have e0 : lessE (lnsOf ps) (cutA cut (lnsOf ps)) = 0 := by
          have : bothL (lnsOf ps) (cutA cut (lnsOf ps)) = 0 := by rw [bothL, if_neg (by rw [HEE.out]; simp)]; exact linesE_ok_iff.2 okA
          rw [lessE, if_neg (by rw [this]; simp), if_pos (cut_pref HOK.out cut)]
        have e1 : lessV (lnsOf ps) (cutA cut (lnsOf ps)) = (t : Nat) := by
          have := cut_sum cut (lnsOf ps)
          rw [lessV, if_pos e0, HT.out]; omega
        rw [hLA, e0, e1] at this
        exact this
      have hmg : ∀ W, Below wr.heap.size wr W → Calls Try.prog 21 #[.slice Aa ma ca, .slice Ab mb cb] W fun e w' => ∃ Am cm s, e = .returned (.tuple #[.slice Am j cm, .nilIface]) ∧ lnsOf s = lnsOf ps ∧ RdPs w' w'.heap.size Am j s ∧ Below W.heap.size W w' := fun W h => by
        have := merge_any Aa Ab ca cb wr.heap.size ma mb (ps.filterMap (pA cut)) (ps.filterMap (pB cut)) W (hra.below h (Nat.le_refl _)) (hrb.below h (Nat.le_refl _)) h.size a1 a2 b1 b2 (by omega) (by omega) (fun q hq => by
          rcases List.mem_append.1 hq with hq | hq
          · obtain ⟨p, hp, e⟩ := List.mem_filterMap.1 hq
            rw [pA_key e]; exact HK.out p hp
          · obtain ⟨p, hp, e⟩ := List.mem_filterMap.1 hq
            rw [pB_key e]; exact HK.out p hp)
        have e0 : mergeE (cutA cut (lnsOf ps)) (cutB cut (lnsOf ps)) = 0 := by
          have : bothL (cutA cut (lnsOf ps)) (cutB cut (lnsOf ps)) = 0 := by rw [bothL, if_neg (by rw [linesE_ok_iff.2 okA]; simp)]; exact linesE_ok_iff.2 okB
          rw [mergeE, if_neg (by rw [this]; simp), cut_merge HOK.out cut, if_neg (by rw [HEE.out]; simp)]
        have e1 : mergeO (cutA cut (lnsOf ps)) (cutB cut (lnsOf ps)) = lnsOf ps := by rw [mergeO, if_pos e0, cut_merge HOK.out cut]
        rw [hLA, hLB, e0, e1] at this
        refine this.mono ?_
        rintro e w' ⟨v, rfl, ⟨Am, cm, s, rfl, _, _, m3, m4⟩, hb⟩
        have hs : s.length = j := by have := congrArg List.length m3; rw [lnsOf_len, lnsOf_len, ← HN.out] at this; exact this
        rw [hs] at m4 ⊢
        exact ⟨Am, cm, s, rfl, m3, m4, hb⟩
      have hls : ∀ W Am cm s, Below wr.heap.size wr W → lnsOf s = lnsOf ps → RdPs W W.heap.size Am j s → Calls Try.prog 22 #[.slice Am j cm, .slice A j c] W fun e w' => e = .returned (.bool true) ∧ Below W.heap.size W w' := fun W Am cm s h hs hm => by
        have hrl2 := hrl.below h (Nat.le_refl _)
        refine lines_same Am A cm c W.heap.size j s ps W hm ⟨hrl2.len, hrl2.rd.more h.size, fun p hp => (hrl2.ok p hp).more h.size⟩ (Nat.le_refl _) (by omega) (fun p hp => ?_) hs
        have := HOK.out.few p.ln (hs ▸ List.mem_map_of_mem hp)
        omega
      have hdp : ∀ W, Below wr.heap.size wr W → Calls Try.prog 23 #[.slice Aa ma ca, .slice A j c] W fun e w' => e = .returned (.bool true) ∧ Below W.heap.size W w' := fun W h => by
        have := dprefix_any Aa A ca c wr.heap.size ma j (ps.filterMap (pA cut)) ps W (hra.below h (Nat.le_refl _)) (hrl.below h (Nat.le_refl _)) h.size (by omega) (by omega) (fun p hp => okA.few p.ln (hLA ▸ List.mem_map_of_mem hp)) (fun p hp => HOK.out.few p.ln (List.mem_map_of_mem hp))
        rw [hLA, cut_pref HOK.out cut] at this
        exact this
      have HJ := Lib.hid hj
      have HLE := Lib.hid hle
      have HMG := Lib.hid hmg
      have HLS := Lib.hid hls
      have HDP := Lib.hid hdp
      clear hj hle hmg hls hdp hra hrb hrl hLA hLB okA okB hEA hlA hlB a3 b3 hrowA hrowB hps htk htk2 hr
      rcases Nat.eq_zero_or_pos t with ht | ht
      · have HJ2 := HJ.out
        rw [if_neg (by omega)] at HJ2
        subst ht
        go_wp2_with (first
          | (go_at_call 17; go_must (refine HJ2.mono ?_); rintro e w3 ⟨rfl, hb3⟩)
          | (go_at_call 19; go_must (refine (HLE.out _ hb3).mono ?_); rintro e w4 ⟨rfl, hb4⟩; have hb34 := below_up hb3 hb4)
          | (go_at_call 21; go_must (refine (HMG.out _ hb34).mono ?_); rintro e w5 ⟨Am, cm, sm, rfl, m3, m4, hb5⟩; have hb35 := below_up hb34 hb5)
          | (go_at_call 22; go_must (refine (HLS.out _ Am cm sm hb35 m3 m4).mono ?_); rintro e w6 ⟨rfl, hb6⟩; have hb36 := below_up hb35 hb6)
          | (go_at_call 23; go_must (refine (HDP.out _ hb36).mono ?_); rintro e w7 ⟨rfl, hb7⟩; have hb37 := below_up hb36 hb7))
        go_ret
        exact ⟨by first | (simp; done) | (simp; omega), below_up hbel hb37⟩
      · have HJ2 := HJ.out
        rw [if_pos ht] at HJ2
        have ht2 : (0 : Int) < (t : Int) := by omega
        have ht3 : ¬ ((t : Int) = 0) := by omega
        go_wp2_with (first
          | (go_at_call 17; go_must (refine HJ2.mono ?_); rintro e w3 ⟨rfl, hb3⟩)
          | (go_at_call 19; go_must (refine (HLE.out _ hb3).mono ?_); rintro e w4 ⟨rfl, hb4⟩; have hb34 := below_up hb3 hb4)
          | (go_at_call 21; go_must (refine (HMG.out _ hb34).mono ?_); rintro e w5 ⟨Am, cm, sm, rfl, m3, m4, hb5⟩; have hb35 := below_up hb34 hb5)
          | (go_at_call 22; go_must (refine (HLS.out _ Am cm sm hb35 m3 m4).mono ?_); rintro e w6 ⟨rfl, hb6⟩; have hb36 := below_up hb35 hb6)
          | (go_at_call 23; go_must (refine (HDP.out _ hb36).mono ?_); rintro e w7 ⟨rfl, hb7⟩; have hb37 := below_up hb36 hb7))
        go_ret
        exact ⟨by first | (simp; done) | (simp; omega), below_up hbel hb37⟩
  · have HE0 : Hid (errV (linesE (lnsOf ps)) = .iface 63 (.int .i64 (linesE (lnsOf ps) : Nat))) := Lib.hid (by rw [errV, if_neg hE])
    clear hE
    go_enter Try.func7, Try.ntmps7
    go_wp2_with (first
      | (go_at_call 19; go_must (refine HF0.out.mono ?_); rintro e w1 ⟨rfl, hb1⟩)
      | (go_at_call 20; go_must (refine (HC.out _ hb1).mono ?_); rintro e w2 ⟨rfl, hb2⟩; rw [HE0.out]))
    go_ret
    exact ⟨rfl, below_up hb1 hb2⟩
end Go.Proofs.Ytelailhghhjleaa
