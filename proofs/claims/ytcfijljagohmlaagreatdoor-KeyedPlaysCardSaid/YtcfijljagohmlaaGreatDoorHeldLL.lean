/- MemHH OpenHH in one text. -/
import Derived.Test.YtcfijljagohmlaaGreatDoorBase2
import Derived.Test.YtcfijljagohmlaaGreatDoorPlainHeld
import Derived.Test.YtcfijljagohmlaaGreatDoorOpenR
/- Slices of slices of states that came in. -/
namespace Go.Proofs.YtcfijljagohmlaaGreatDoor
open Go.RowKit

/-- A slice of slices of states reads as these lists, all below block B. -/
def RdHH (w : World) (B : Nat) (A : Option Addr) (ls : List (List Hld)) : Prop :=
  0 < ls.length → ∃ ad, A = some ad ∧ ad.block < B ∧ ∀ (i : Nat) (l : List Hld), ls[i]? = some l → ∃ A' c, w.cell? (ad.add i) = some (.slice A' l.length c) ∧ l.length ≤ c ∧ c ≤ maxLen ∧ Rd w B 4 A' l.length (hldCells l)
theorem RdHH.below {w w' : World} {B D : Nat} {A : Option Addr} {ls : List (List Hld)} (h : RdHH w B A ls) (hb : Below D w w') (hD : B ≤ D) : RdHH w' B A ls := by
  intro hn
  obtain ⟨ad, e, hlt, hc⟩ := h hn
  refine ⟨ad, e, hlt, fun i l hi => ?_⟩
  obtain ⟨A', c, h1, h2, h3, h4⟩ := hc i l hi
  exact ⟨A', c, (hb.cell (by rw [block_add]; omega)).trans h1, h2, h3, h4.below hb hD⟩
/-- The states of the first lists, and of one the first. -/
def hldsTo (ls : List (List Hld)) (i k : Nat) : List Hld := (ls.take i).flatten ++ (ls.getD i []).take k
theorem hldsTo_zero (ls : List (List Hld)) : hldsTo ls 0 0 = [] := by simp [hldsTo]
theorem hldsTo_next {ls : List (List Hld)} {i k : Nat} {l : List Hld} {x : Hld} (h : ls[i]? = some l) (hx : l[k]? = some x) : hldsTo ls i (k + 1) = hldsTo ls i k ++ [x] := by
  have e : ls.getD i [] = l := by rw [List.getD_eq_getElem?_getD, h]; rfl
  rw [hldsTo, hldsTo, e, List.take_add_one, hx, List.append_assoc]; rfl
theorem hldsTo_line {ls : List (List Hld)} {i : Nat} {l : List Hld} (h : ls[i]? = some l) : hldsTo ls i l.length = hldsTo ls (i + 1) 0 := by
  have e : ls.getD i [] = l := by rw [List.getD_eq_getElem?_getD, h]; rfl
  rw [hldsTo, hldsTo, e, List.take_length, List.take_add_one, h, List.flatten_append]
  simp
theorem hldsTo_all {ls : List (List Hld)} {i : Nat} (h : ls.length ≤ i) : hldsTo ls i 0 = ls.flatten := by
  rw [hldsTo, List.take_of_length_le h]; simp
end Go.Proofs.YtcfijljagohmlaaGreatDoor

/- Arguments that are slices of slices of states, in the walks' words. -/
namespace Go.Proofs.YtcfijljagohmlaaGreatDoor
open Go.ChangeShapes Go.WideShapes Go.ChangeAt Go.RowKit Go.Deep

section
variable {H : Type} {enc : TypeId × Value → H} {P : Program} {W W' : World}
/-- A slice of structs of fields of one cell, wherever it lies. -/
theorem open_rows_csH {t e : TypeId} {fs : Array Field} (ht : P.underlying t = some (.slice e)) (he : P.underlying e = some (.struct fs)) (hone : oneCellFields P fs = true) (hC : P.cellsOf e = fs.size) (h0 : 0 < fs.size)
    {cs : List Value} {fuel : Nat} {d : DataW H} {p : List MemPlace} (hf : DataW.trod enc P W 0 (fun _ => true) true fuel t cs = some (d, p))
    {α : Type} (cells : α → List Value) (data : α → DataW H) (ok : α → Prop) (hcl : ∀ a, (cells a).length = fs.size)
    (dec : ∀ vs ys, FieldsAt enc P W fs vs ys → ∃ a, cells a = vs ∧ data a = .agg ys ∧ ok a) :
    ∃ (A : Option Addr) (c : Nat) (l : List α), cs = [.slice A l.length c] ∧ l.length ≤ c ∧ c ≤ maxLen ∧ Rd W W.heap.size fs.size A l.length (l.flatMap cells) ∧ (∀ a ∈ l, ok a) ∧
      ((d = .nil ∧ l = []) ∨ ∃ spare, d = .slice (l.map data) spare) := by
  rcases open_slice ht hf with ⟨hcs, hx⟩ | ⟨a, len, cap, m, n', D, Pl, hcs, _, hl, hm, hmm, hx, hi⟩
  · exact ⟨none, 0, [], hcs, Nat.le_refl _, Nat.zero_le _, Rd.nil_, fun _ hm => absurd hm List.not_mem_nil, .inl ⟨by injection hx, rfl⟩⟩
  · simp only [if_true] at hmm
    subst hmm
    have hex : ∀ i, i < m → ∃ x : α, data x = D i ∧ ok x ∧ ∀ j, j < fs.size → W.cell? (a.add (i * fs.size + j)) = (cells x)[j]? := by
      intro i hic
      obtain ⟨cs', hc, ht'⟩ := hi i hic
      rw [hC] at hc
      obtain ⟨ys, n2, _, hy, hlen, hyl, hg⟩ := DataW.trod_struct he ht'
      obtain ⟨_, hcl', hat⟩ := World.cells?_some hc
      simp only [Prod.mk.injEq] at hy
      obtain ⟨x, hx1, hx2, hx3⟩ := dec cs' (ys.map (·.1)) ⟨hcl', by simp [hyl], fun j f hj => by
        obtain ⟨ho, hk⟩ := hone_of hone j f hj
        have hjl : j < fs.size := (Array.getElem?_eq_some_iff.1 hj).1
        have h1 := hg j f hj
        have hys : ys[j]? = some (ys[j]'(by omega)) := List.getElem?_eq_getElem (by omega)
        have hone' : (cs'.drop f.offset).take (P.cellsOf f.type) = [cs'[j]'(by omega)] := by
          rw [ho, hk, List.drop_eq_getElem_cons (by omega)]; rfl
        rw [hone', hys] at h1
        exact ⟨cs'[j]'(by omega), (ys[j]'(by omega)).1, (ys[j]'(by omega)).2, n2, List.getElem?_eq_getElem (by omega), by rw [List.getElem?_map, hys]; rfl, h1⟩⟩
      refine ⟨x, by rw [hx2, hy.1], hx3, fun j hj => ?_⟩
      rw [hx1, ← hat j hj, Go.Deep.add_add]
    obtain ⟨l, hll, hq⟩ := list_of len (fun i hi => hex i (by omega))
    subst hll
    refine ⟨some a, m, l, hcs, hl, hm, ⟨flat_len cells fs.size hcl l, fun hn => ⟨a, rfl, ?_, ?_⟩⟩, ?_, .inr ⟨(List.range (m - l.length)).map fun j => D (l.length + j), ?_⟩⟩
    · obtain ⟨x, _, _, hc⟩ := hex 0 (by omega)
      have h1 := hc 0 h0
      have h2 : (cells x)[0]? = some ((cells x)[0]'(by rw [hcl]; exact h0)) := List.getElem?_eq_getElem _
      rw [h2] at h1
      have := World.block_lt_of_cell? _ _ h1
      simpa [block_add] using this
    · intro j u hu
      obtain ⟨x, hx1, hx2⟩ := flat_getD cells fs.size hcl l j u hu h0
      have h1 := (hq _ _ hx1).2.2 (j % fs.size) (Nat.mod_lt _ h0)
      rw [Nat.div_add_mod' j fs.size, hx2] at h1
      exact h1
    · intro x hx
      obtain ⟨i, hi, e⟩ := List.mem_iff_getElem.1 hx
      exact (hq i x (by rw [List.getElem?_eq_getElem hi, e])).2.1
    · injection hx with hx _
      rw [hx]
      congr 1
      apply List.ext_getElem?
      intro i
      rw [List.getElem?_map, List.getElem?_map]
      by_cases hi : i < l.length
      · rw [List.getElem?_range hi, List.getElem?_eq_getElem hi]
        simp only [Option.map_some]
        rw [(hq i l[i] (List.getElem?_eq_getElem hi)).1]
      · rw [List.getElem?_eq_none (by simp; omega), List.getElem?_eq_none (by omega)]; rfl

/-- A [][]api.Held that came in. -/
theorem open_heldll {t u e s i : TypeId} {f0 f1 f2 f3 : Field} (ht : P.underlying t = some (.slice u)) (hu : P.underlying u = some (.slice e)) (hcu : P.cellsOf u = 1) (he : P.underlying e = some (.struct #[f0, f1, f2, f3])) (hone : oneCellFields P #[f0, f1, f2, f3] = true) (hC : P.cellsOf e = 4)
    (hs : P.underlying s = some .string) (hi : P.underlying i = some (.int .i64)) (t0 : f0.type = i) (t1 : f1.type = s) (t2 : f2.type = i) (t3 : f3.type = i)
    {v : Value} {r : Reach} {base : Nat} {d : DataW H} {p : List MemPlace} (hv : Value.okWide P W r base t v) (h : DataW.Trod enc P W 0 (fun _ => true) true t v d p) :
    ∃ (A : Option Addr) (c : Nat) (ls : List (List Hld)), v = .slice A ls.length c ∧ ls.length ≤ c ∧ c ≤ maxLen ∧ RdHH W W.heap.size A ls ∧ (∀ l ∈ ls, ∀ x ∈ l, x.key.size ≤ maxLen ∧ i64ok x.node ∧ i64ok x.a ∧ i64ok x.b) ∧
      ((d = .nil ∧ ls = []) ∨ ∃ elems spare, d = .slice elems spare ∧ elems.length = ls.length ∧ ∀ l ∈ ls, l = [] ∨ ∃ sp, DataW.slice (l.map Hld.data) sp ∈ elems) := by
  obtain ⟨A, n, c, rfl⟩ := okWide_slice ht hv
  obtain ⟨fuel, hf⟩ := h
  rcases open_slice ht hf with ⟨hcs, hx⟩ | ⟨a, len, cap, m, n', D, Pl, hcs, _, hl, hm, hmm, hx, hii⟩
  · simp [Value.cells] at hcs
    obtain ⟨rfl, rfl, rfl⟩ := hcs
    exact ⟨none, 0, [], rfl, Nat.le_refl _, Nat.zero_le _, fun h => absurd h (by simp), fun _ h => absurd h List.not_mem_nil, .inl ⟨by injection hx, rfl⟩⟩
  · simp [Value.cells] at hcs
    obtain ⟨rfl, rfl, rfl⟩ := hcs
    simp only [if_true] at hmm
    subst hmm
    have hex : ∀ i', i' < m → ∃ l : List Hld, (∃ A' c, W.cell? (a.add i') = some (.slice A' l.length c) ∧ l.length ≤ c ∧ c ≤ maxLen ∧ Rd W W.heap.size 4 A' l.length (hldCells l)) ∧ (∀ x ∈ l, x.key.size ≤ maxLen ∧ i64ok x.node ∧ i64ok x.a ∧ i64ok x.b) ∧ (l = [] ∨ ∃ sp, D i' = .slice (l.map Hld.data) sp) := by
      intro i' hic
      obtain ⟨cs', hc1, ht'⟩ := hii i' hic
      rw [hcu, Nat.mul_one] at hc1
      obtain ⟨_, hcl', hat⟩ := World.cells?_some hc1
      obtain ⟨A', c', l, hcs, h1, h2, h3, h4, h5⟩ := open_rows_csH hu he hone hC (by simp) ht' Hld.cells Hld.data (fun x => x.key.size ≤ maxLen ∧ i64ok x.node ∧ i64ok x.a ∧ i64ok x.b) (fun _ => rfl) (by
        intro vs ys ⟨hl, hy, hf⟩
        obtain ⟨v0, y0, q0, n0, a0, b0, c0⟩ := hf 0 f0 rfl
        obtain ⟨v1, y1, q1, n1, a1, b1, c1⟩ := hf 1 f1 rfl
        obtain ⟨v2, y2, q2, n2, a2, b2, c2⟩ := hf 2 f2 rfl
        obtain ⟨v3, y3, q3, n3, a3, b3, c3⟩ := hf 3 f3 rfl
        rw [t0] at c0; rw [t1] at c1; rw [t2] at c2; rw [t3] at c3
        obtain ⟨z0, e0, g0, k0⟩ := DataW.trod_int hi c0
        obtain ⟨s1, e1, g1, k1⟩ := DataW.trod_string hs c1
        obtain ⟨z2, e2, g2, k2⟩ := DataW.trod_int hi c2
        obtain ⟨z3, e3, g3, k3⟩ := DataW.trod_int hi c3
        simp only [List.cons.injEq, and_true, Prod.mk.injEq] at e0 e1 e2 e3 g0 g1 g2 g3
        obtain ⟨g0, -⟩ := g0; obtain ⟨g1, -⟩ := g1; obtain ⟨g2, -⟩ := g2; obtain ⟨g3, -⟩ := g3
        subst e0 e1 e2 e3 g0 g1 g2 g3
        refine ⟨⟨z0, s1, z2, z3⟩, ?_, ?_, k1, i64_of k0, i64_of k2, i64_of k3⟩
        · match vs, hl with
          | [_, _, _, _], _ => simp at a0 a1 a2 a3; simp [Hld.cells, a0, a1, a2, a3]
        · match ys, hy with
          | [_, _, _, _], _ => simp at b0 b1 b2 b3; simp [Hld.data, b0, b1, b2, b3])
      refine ⟨l, ⟨A', c', ?_, h1, h2, h3⟩, h4, ?_⟩
      · have := hat 0 (by omega)
        rw [hcs] at this
        simpa [Addr.add] using this
      · rcases h5 with ⟨_, e⟩ | ⟨sp, e⟩
        · exact .inl e
        · exact .inr ⟨sp, e⟩
    obtain ⟨ls, hll, hq⟩ := list_of n (fun i' hi' => hex i' (by omega))
    subst hll
    refine ⟨some a, m, ls, rfl, hl, hm, fun hn => ⟨a, rfl, ?_, fun i' l hil => (hq i' l hil).1⟩, fun l hl' => ?_, .inr ⟨_, _, by injection hx, by simp, fun l hl' => ?_⟩⟩
    · obtain ⟨x, ⟨A', c', hc', _⟩, _⟩ := hex 0 (by omega)
      have := World.block_lt_of_cell? _ _ hc'
      simpa [block_add] using this
    · obtain ⟨i', hi2, e⟩ := List.mem_iff_getElem.1 hl'
      exact (hq i' l (by rw [List.getElem?_eq_getElem hi2, e])).2.1
    · obtain ⟨i', hi2, e⟩ := List.mem_iff_getElem.1 hl'
      rcases (hq i' l (by rw [List.getElem?_eq_getElem hi2, e])).2.2 with h | ⟨sp, h⟩
      · exact .inl h
      · exact .inr ⟨sp, h ▸ List.mem_map_of_mem (List.mem_range.2 hi2)⟩
theorem weights_allH {e : TypeId} {ds : List (DataW H)} {d : DataW H} (h : d ∈ ds) : ∀ n ∈ d.weights P e, n ∈ DataW.weightsAll P e ds := by
  induction ds with
  | nil => cases h
  | cons x ds ih =>
    intro n hn
    rw [DataW.weightsAll, List.mem_append]
    rcases List.mem_cons.1 h with rfl | h
    · exact .inl hn
    · exact .inr (ih h n hn)
theorem sized_heldll {ts : List TypeId} {ds : List (DataW H)} (h : (DataW.weightsEach P ts ds).all (· ≤ reachBytes) = true) {j : Nat} {t u e : TypeId} {d : DataW H} (htj : ts[j]? = some t) (hdj : ds[j]? = some d) (ht : P.underlying t = some (.slice u)) (hu : P.underlying u = some (.slice e)) (hb : 0 < P.bytesOf u) (hb2 : 0 < P.bytesOf e)
    {ls : List (List Hld)} (hd : (d = .nil ∧ ls = []) ∨ ∃ elems spare, d = .slice elems spare ∧ elems.length = ls.length ∧ ∀ l ∈ ls, l = [] ∨ ∃ sp, DataW.slice (l.map Hld.data) sp ∈ elems) : ls.length ≤ 140737488351232 ∧ ∀ l ∈ ls, l.length ≤ 140737488351232 := by
  rcases hd with ⟨_, rfl⟩ | ⟨elems, spare, rfl, hlen, hin⟩
  · exact ⟨by simp, fun _ h => absurd h List.not_mem_nil⟩
  · have h1 := sized_slice h htj hdj ht
    simp only [reachBytes] at h1
    have h2 := Nat.le_mul_of_pos_right (elems.length + spare.length) hb
    refine ⟨by omega, fun l hl => ?_⟩
    rcases hin l hl with rfl | ⟨sp, hm⟩
    · simp
    · have h3 : (((l.map (Hld.data (H := H))).length + sp.length) * P.bytesOf e) ∈ (DataW.slice (l.map Hld.data) sp : DataW H).weights P u := by simp [DataW.weights, hu]
      have h4 := weights_allH (P := P) hm _ h3
      have h5 : (((l.map (Hld.data (H := H))).length + sp.length) * P.bytesOf e) ∈ (DataW.slice elems spare : DataW H).weights P t := by
        simp only [DataW.weights, ht, List.mem_cons, List.mem_append]
        exact .inr (.inl h4)
      have h6 := List.all_eq_true.1 h _ (DataW.weights_mem_each htj hdj _ h5)
      simp only [decide_eq_true_eq, List.length_map, reachBytes] at h6
      have h7 := Nat.le_mul_of_pos_right (l.length + sp.length) hb2
      omega
end
end Go.Proofs.YtcfijljagohmlaaGreatDoor
