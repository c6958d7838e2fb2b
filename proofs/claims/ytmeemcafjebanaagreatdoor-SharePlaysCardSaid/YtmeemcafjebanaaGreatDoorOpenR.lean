/- OpenR OpenTS in one text. -/
import Derived.Test.YtmeemcafjebanaaGreatDoorOpenII
import Derived.Test.YtmeemcafjebanaaGreatDoorPlainHeld
import Derived.Test.YtmeemcafjebanaaGreatDoorWalkSpread
import Derived.SliceStrings
/- Arguments that are slices of structs, in the walks' words. -/
namespace Go.Proofs.YtmeemcafjebanaaGreatDoor
open Go.ChangeShapes Go.WideShapes Go.ChangeAt Go.RowKit Go.Deep
open Go.ChangeMaps (open_string shut_string)

section
variable {H : Type} {enc : TypeId × Value → H} {P : Program} {W W' : World}

/-- What a struct's cells read as, field by field. -/
def FieldsAt (enc : TypeId × Value → H) (P : Program) (W : World) (fs : Array Field) (vs : List Value) (ys : List (DataW H)) : Prop :=
  vs.length = fs.size ∧ ys.length = fs.size ∧ ∀ (j : Nat) (f : Field), fs[j]? = some f → ∃ v y q n, vs[j]? = some v ∧ ys[j]? = some y ∧ DataW.trod enc P W 0 (fun _ => true) true n f.type [v] = some (y, q)

theorem flat_getD {α : Type} (cells : α → List Value) (n : Nat) (hn : ∀ a, (cells a).length = n) (l : List α) (j : Nat) (u : Value) (h : (l.flatMap cells)[j]? = some u) (hn0 : 0 < n) :
    ∃ a, l[j / n]? = some a ∧ (cells a)[j % n]? = some u := by
  have e := flat_at cells n hn l (j / n) (j % n) (Nat.mod_lt _ hn0)
  rw [Nat.div_add_mod' j n, h] at e
  rcases hl : l[j / n]? with _ | a
  · rw [hl] at e; cases e
  · rw [hl] at e; exact ⟨a, rfl, e.symm⟩

theorem flat_len {α : Type} (f : α → List Value) (n : Nat) (hn : ∀ a, (f a).length = n) (l : List α) : (l.flatMap f).length = l.length * n := by
  induction l with
  | nil => simp
  | cons a l ih => rw [List.flatMap_cons, List.length_append, ih, hn, List.length_cons, Nat.succ_mul]; omega

theorem list_of {α : Type} {Q : Nat → α → Prop} (n : Nat) (h : ∀ i, i < n → ∃ x, Q i x) : ∃ l : List α, l.length = n ∧ ∀ i x, l[i]? = some x → Q i x := by
  induction n with
  | zero => exact ⟨[], rfl, fun i x hx => by simp at hx⟩
  | succ n ih =>
    obtain ⟨l, hl, hq⟩ := ih fun i hi => h i (by omega)
    obtain ⟨y, hy⟩ := h n (by omega)
    refine ⟨l ++ [y], by simp [hl], fun i x hx => ?_⟩
    by_cases hi : i < n
    · rw [List.getElem?_append_left (by omega)] at hx; exact hq i x hx
    · have : i = n := by
        have := (List.getElem?_eq_some_iff.1 hx).1
        simp at this; omega
      subst this
      rw [List.getElem?_append_right (by omega), hl] at hx
      simp at hx
      subst hx; exact hy

/-- A slice of structs of fields of one cell. -/
theorem open_rows {t e : TypeId} {fs : Array Field} (ht : P.underlying t = some (.slice e)) (he : P.underlying e = some (.struct fs)) (hone : oneCellFields P fs = true) (hC : P.cellsOf e = fs.size) (h0 : 0 < fs.size)
    {v : Value} {r : Reach} {base : Nat} {d : DataW H} {p : List MemPlace} (hv : Value.okWide P W r base t v) (h : DataW.Trod enc P W 0 (fun _ => true) true t v d p)
    {α : Type} (cells : α → List Value) (data : α → DataW H) (ok : α → Prop) (hcl : ∀ a, (cells a).length = fs.size)
    (dec : ∀ vs ys, FieldsAt enc P W fs vs ys → ∃ a, cells a = vs ∧ data a = .agg ys ∧ ok a) :
    ∃ (A : Option Addr) (c : Nat) (l : List α), v = .slice A l.length c ∧ l.length ≤ c ∧ c ≤ maxLen ∧ Rd W W.heap.size fs.size A l.length (l.flatMap cells) ∧ (∀ a ∈ l, ok a) ∧
      ((d = .nil ∧ l = []) ∨ ∃ spare, d = .slice (l.map data) spare) := by
  obtain ⟨A, n, c, rfl⟩ := okWide_slice ht hv
  obtain ⟨fuel, hf⟩ := h
  rcases open_slice ht hf with ⟨hcs, hx⟩ | ⟨a, len, cap, m, n', D, Pl, hcs, _, hl, hm, hmm, hx, hi⟩
  · simp [Value.cells] at hcs
    obtain ⟨rfl, rfl, rfl⟩ := hcs
    exact ⟨none, 0, [], rfl, Nat.le_refl _, Nat.zero_le _, Rd.nil_, fun _ hm => absurd hm List.not_mem_nil, .inl ⟨by injection hx, rfl⟩⟩
  · simp [Value.cells] at hcs
    obtain ⟨rfl, rfl, rfl⟩ := hcs
    simp only [if_true] at hmm
    subst hmm
    have hex : ∀ i, i < m → ∃ x : α, data x = D i ∧ ok x ∧ ∀ j, j < fs.size → W.cell? (a.add (i * fs.size + j)) = (cells x)[j]? := by
      intro i hic
      obtain ⟨cs', hc, ht'⟩ := hi i hic
      rw [hC] at hc
      obtain ⟨ys, n2, _, hy, hlen, hyl, hg⟩ := DataW.trod_struct he ht'
      obtain ⟨_, hcl', hat⟩ := World.cells?_some hc
      simp only [Prod.mk.injEq] at hy
      obtain ⟨x, hx1, hx2, hx3⟩ := dec cs' (ys.map (·.1)) ⟨hcl', by simp [hyl], fun j f hj => by
        obtain ⟨ho, hk⟩ := hone_of hone j f hj
        have hjl : j < fs.size := (Array.getElem?_eq_some_iff.1 hj).1
        have h1 := hg j f hj
        have hys : ys[j]? = some (ys[j]'(by omega)) := List.getElem?_eq_getElem (by omega)
        have hone' : (cs'.drop f.offset).take (P.cellsOf f.type) = [cs'[j]'(by omega)] := by
          rw [ho, hk, List.drop_eq_getElem_cons (by omega)]; rfl
        rw [hone', hys] at h1
        exact ⟨cs'[j]'(by omega), (ys[j]'(by omega)).1, (ys[j]'(by omega)).2, n2, List.getElem?_eq_getElem (by omega), by rw [List.getElem?_map, hys]; rfl, h1⟩⟩
      refine ⟨x, by rw [hx2, hy.1], hx3, fun j hj => ?_⟩
      rw [hx1, ← hat j hj, Go.Deep.add_add]
    obtain ⟨l, hll, hq⟩ := list_of n (fun i hi => hex i (by omega))
    subst hll
    refine ⟨some a, m, l, rfl, hl, hm, ⟨flat_len cells fs.size hcl l, fun hn => ⟨a, rfl, ?_, ?_⟩⟩, ?_, .inr ⟨(List.range (m - l.length)).map fun j => D (l.length + j), ?_⟩⟩
    · obtain ⟨x, _, _, hc⟩ := hex 0 (by omega)
      have h1 := hc 0 h0
      have h2 : (cells x)[0]? = some ((cells x)[0]'(by rw [hcl]; exact h0)) := List.getElem?_eq_getElem _
      rw [h2] at h1
      have := World.block_lt_of_cell? _ _ h1
      simpa [block_add] using this
    · intro j u hu
      obtain ⟨x, hx1, hx2⟩ := flat_getD cells fs.size hcl l j u hu h0
      have h1 := (hq _ _ hx1).2.2 (j % fs.size) (Nat.mod_lt _ h0)
      rw [Nat.div_add_mod' j fs.size, hx2] at h1
      exact h1
    · intro x hx
      obtain ⟨i, hi, e⟩ := List.mem_iff_getElem.1 hx
      exact (hq i x (by rw [List.getElem?_eq_getElem hi, e])).2.1
    · injection hx with hx _
      rw [hx]
      congr 1
      apply List.ext_getElem?
      intro i
      rw [List.getElem?_map, List.getElem?_map]
      by_cases hi : i < l.length
      · rw [List.getElem?_range hi, List.getElem?_eq_getElem hi]
        simp only [Option.map_some]
        rw [(hq i l[i] (List.getElem?_eq_getElem hi)).1]
      · rw [List.getElem?_eq_none (by simp; omega), List.getElem?_eq_none (by omega)]; rfl

theorem i64_of {n : Int} (h : (Lit.int .i64 n).wf = true) : i64ok n := by
  have := bounds_i64 h; exact this

theorem two_of {l : List Value} {k : Nat} {v : Value} (h : l[k]? = some v) : k < l.length := (List.getElem?_eq_some_iff.1 h).1

/-- A record's datum. -/
def Rec.data (r : Rec) : DataW H := .agg [.lit (.string r.key.data.toList), .lit (.int .i64 r.num), .lit (.int .i64 r.time)]
/-- A []api.Record that came in. -/
theorem open_recs {t e s i : TypeId} {f0 f1 f2 : Field} (ht : P.underlying t = some (.slice e)) (he : P.underlying e = some (.struct #[f0, f1, f2])) (hone : oneCellFields P #[f0, f1, f2] = true) (hC : P.cellsOf e = 3)
    (hs : P.underlying s = some .string) (hi : P.underlying i = some (.int .i64)) (t0 : f0.type = s) (t1 : f1.type = i) (t2 : f2.type = i)
    {v : Value} {r : Reach} {base : Nat} {d : DataW H} {p : List MemPlace} (hv : Value.okWide P W r base t v) (h : DataW.Trod enc P W 0 (fun _ => true) true t v d p) :
    ∃ (A : Option Addr) (c : Nat) (l : List Rec), v = .slice A l.length c ∧ l.length ≤ c ∧ c ≤ maxLen ∧ Rd W W.heap.size 3 A l.length (recCells l) ∧ (∀ x ∈ l, x.key.size ≤ maxLen ∧ i64ok x.num ∧ i64ok x.time) ∧
      ((d = .nil ∧ l = []) ∨ ∃ spare, d = .slice (l.map Rec.data) spare) := by
  refine open_rows ht he hone hC (by simp) hv h Rec.cells Rec.data _ (fun _ => rfl) ?_
  intro vs ys ⟨hl, hy, hf⟩
  obtain ⟨v0, y0, q0, n0, a0, b0, c0⟩ := hf 0 f0 rfl
  obtain ⟨v1, y1, q1, n1, a1, b1, c1⟩ := hf 1 f1 rfl
  obtain ⟨v2, y2, q2, n2, a2, b2, c2⟩ := hf 2 f2 rfl
  rw [t0] at c0; rw [t1] at c1; rw [t2] at c2
  obtain ⟨s0, e0, g0, k0⟩ := DataW.trod_string hs c0
  obtain ⟨z1, e1, g1, k1⟩ := DataW.trod_int hi c1
  obtain ⟨z2, e2, g2, k2⟩ := DataW.trod_int hi c2
  simp only [List.cons.injEq, and_true, Prod.mk.injEq] at e0 e1 e2 g0 g1 g2
  obtain ⟨g0, -⟩ := g0; obtain ⟨g1, -⟩ := g1; obtain ⟨g2, -⟩ := g2
  subst e0 e1 e2 g0 g1 g2
  refine ⟨⟨s0, z1, z2⟩, ?_, ?_, k0, i64_of k1, i64_of k2⟩
  · match vs, hl with
    | [_, _, _], _ => simp at a0 a1 a2; simp [Rec.cells, a0, a1, a2]
  · match ys, hy with
    | [_, _, _], _ => simp at b0 b1 b2; simp [Rec.data, b0, b1, b2]

/-- A state's datum. -/
def Hld.data (r : Hld) : DataW H := .agg [.lit (.int .i64 r.node), .lit (.string r.key.data.toList), .lit (.int .i64 r.a), .lit (.int .i64 r.b)]
/-- A []api.Held that came in. -/
theorem open_helds {t e s i : TypeId} {f0 f1 f2 f3 : Field} (ht : P.underlying t = some (.slice e)) (he : P.underlying e = some (.struct #[f0, f1, f2, f3])) (hone : oneCellFields P #[f0, f1, f2, f3] = true) (hC : P.cellsOf e = 4)
    (hs : P.underlying s = some .string) (hi : P.underlying i = some (.int .i64)) (t0 : f0.type = i) (t1 : f1.type = s) (t2 : f2.type = i) (t3 : f3.type = i)
    {v : Value} {r : Reach} {base : Nat} {d : DataW H} {p : List MemPlace} (hv : Value.okWide P W r base t v) (h : DataW.Trod enc P W 0 (fun _ => true) true t v d p) :
    ∃ (A : Option Addr) (c : Nat) (l : List Hld), v = .slice A l.length c ∧ l.length ≤ c ∧ c ≤ maxLen ∧ Rd W W.heap.size 4 A l.length (hldCells l) ∧ (∀ x ∈ l, x.key.size ≤ maxLen ∧ i64ok x.node ∧ i64ok x.a ∧ i64ok x.b) ∧
      ((d = .nil ∧ l = []) ∨ ∃ spare, d = .slice (l.map Hld.data) spare) := by
  refine open_rows ht he hone hC (by simp) hv h Hld.cells Hld.data _ (fun _ => rfl) ?_
  intro vs ys ⟨hl, hy, hf⟩
  obtain ⟨v0, y0, q0, n0, a0, b0, c0⟩ := hf 0 f0 rfl
  obtain ⟨v1, y1, q1, n1, a1, b1, c1⟩ := hf 1 f1 rfl
  obtain ⟨v2, y2, q2, n2, a2, b2, c2⟩ := hf 2 f2 rfl
  obtain ⟨v3, y3, q3, n3, a3, b3, c3⟩ := hf 3 f3 rfl
  rw [t0] at c0; rw [t1] at c1; rw [t2] at c2; rw [t3] at c3
  obtain ⟨z0, e0, g0, k0⟩ := DataW.trod_int hi c0
  obtain ⟨s1, e1, g1, k1⟩ := DataW.trod_string hs c1
  obtain ⟨z2, e2, g2, k2⟩ := DataW.trod_int hi c2
  obtain ⟨z3, e3, g3, k3⟩ := DataW.trod_int hi c3
  simp only [List.cons.injEq, and_true, Prod.mk.injEq] at e0 e1 e2 e3 g0 g1 g2 g3
  obtain ⟨g0, -⟩ := g0; obtain ⟨g1, -⟩ := g1; obtain ⟨g2, -⟩ := g2; obtain ⟨g3, -⟩ := g3
  subst e0 e1 e2 e3 g0 g1 g2 g3
  refine ⟨⟨z0, s1, z2, z3⟩, ?_, ?_, k1, i64_of k0, i64_of k2, i64_of k3⟩
  · match vs, hl with
    | [_, _, _, _], _ => simp at a0 a1 a2 a3; simp [Hld.cells, a0, a1, a2, a3]
  · match ys, hy with
    | [_, _, _, _], _ => simp at b0 b1 b2 b3; simp [Hld.data, b0, b1, b2, b3]


theorem sized_rows {ts : List TypeId} {ds : List (DataW H)} (h : (DataW.weightsEach P ts ds).all (· ≤ reachBytes) = true) {j : Nat} {t e : TypeId} {d : DataW H} (ht : ts[j]? = some t) (hdj : ds[j]? = some d) (hu : P.underlying t = some (.slice e)) (hb : 0 < P.bytesOf e)
    {α : Type} {l : List α} {data : α → DataW H} (hd : (d = .nil ∧ l = []) ∨ ∃ spare, d = .slice (l.map data) spare) : l.length ≤ 140737488351232 := by
  rcases hd with ⟨_, rfl⟩ | ⟨spare, rfl⟩
  · simp
  · have h1 := sized_slice h ht hdj hu
    simp only [List.length_map, reachBytes] at h1
    have h2 := Nat.le_mul_of_pos_right (l.length + spare.length) hb
    omega
theorem sized_bytes {ts : List TypeId} {ds : List (DataW H)} (h : (DataW.weightsEach P ts ds).all (· ≤ reachBytes) = true) {j c : Nat} {t e : TypeId} {d : DataW H} (ht : ts[j]? = some t) (hdj : ds[j]? = some d) (hu : P.underlying t = some (.slice e)) (hb : 0 < P.bytesOf e)
    {l : List UInt8} (hl : l.length ≤ c) (hd : (d = .nil ∧ c = 0) ∨ ∃ elems spare, d = .slice elems spare ∧ elems.length = l.length ∧ elems.length + spare.length = c) : l.length ≤ 140737488351232 := by
  rcases hd with ⟨_, rfl⟩ | ⟨elems, spare, rfl, h3, _⟩
  · omega
  · have h1 := sized_slice h ht hdj hu
    simp only [reachBytes] at h1
    have h2 := Nat.le_mul_of_pos_right (elems.length + spare.length) hb
    omega
end
end Go.Proofs.YtmeemcafjebanaaGreatDoor

/- An argument that is a slice of texts, and how long its texts are. -/
namespace Go.Proofs.YtmeemcafjebanaaGreatDoor
open Go.ChangeShapes Go.WideShapes Go.ChangeAt Go.RowKit Go.Deep

section
variable {H : Type} {enc : TypeId × Value → H} {P : Program} {W : World}
theorem open_textS_cs {t e : TypeId} (ht : P.underlying t = some (.slice e)) (he : P.underlying e = some .string) (hc : P.cellsOf e = 1) {cs : List Value} {fuel : Nat} {d : DataW H} {p : List MemPlace}
    (hf : DataW.trod enc P W 0 (fun _ => true) true fuel t cs = some (d, p)) :
    ∃ (A : Option Addr) (c : Nat) (l : List ByteArray), cs = [.slice A l.length c] ∧ l.length ≤ c ∧ c ≤ maxLen ∧ Rd W W.heap.size 1 A l.length (l.map sv) ∧ (∀ x ∈ l, x.size ≤ maxLen) ∧ ((d = .nil ∧ l = []) ∨ ∃ spare, d = .slice (strs l) spare) := by
  rcases open_strings ht he hc hf with ⟨hcs, hx⟩ | ⟨x, n, c', zs, hcs, _, hl, hm, hz, hx, hcell, hsz⟩
  · exact ⟨none, 0, [], hcs, Nat.le_refl _, Nat.zero_le _, Rd.nil_, (fun x hx => by simp at hx), .inl ⟨by injection hx, rfl⟩⟩
  · simp only [if_true] at hz
    have hlen : (zs.take n).length = n := by simp; omega
    refine ⟨some x, c', zs.take n, by rw [hlen]; exact hcs, by rw [hlen]; exact hl, hm, ?_, fun y hy => hsz y (List.mem_of_mem_take hy), .inr ⟨_, by injection hx⟩⟩
    rw [hlen]
    refine ⟨by simp; omega, fun hn => ⟨x, rfl, ?_, ?_⟩⟩
    · have := World.block_lt_of_cell? _ _ (hcell 0 (by omega))
      simpa [block_add] using this
    · intro j u hu
      simp only [List.getElem?_map, List.getElem?_take] at hu
      split at hu
      · rename_i hj
        have hjz : j < zs.length := by omega
        rw [hcell j hjz]
        rw [List.getElem?_eq_getElem hjz] at hu
        simp only [Option.map_some, Option.some.injEq] at hu
        rw [← hu, List.getD_eq_getElem?_getD, List.getElem?_eq_getElem hjz, Option.getD_some, sv]
      · cases hu
/-- A []string that came in, with its texts' sizes. -/
theorem open_textS {t e : TypeId} (ht : P.underlying t = some (.slice e)) (he : P.underlying e = some .string) (hc : P.cellsOf e = 1) {v : Value} {r : Reach} {base : Nat} {d : DataW H} {p : List MemPlace}
    (hv : Value.okWide P W r base t v) (h : DataW.Trod enc P W 0 (fun _ => true) true t v d p) :
    ∃ (A : Option Addr) (c : Nat) (l : List ByteArray), v = .slice A l.length c ∧ l.length ≤ c ∧ c ≤ maxLen ∧ Rd W W.heap.size 1 A l.length (l.map sv) ∧ (∀ x ∈ l, x.size ≤ maxLen) ∧ ((d = .nil ∧ l = []) ∨ ∃ spare, d = .slice (l.map fun s => .lit (.string s.data.toList)) spare) := by
  obtain ⟨A, n, c, rfl⟩ := okWide_slice ht hv
  obtain ⟨fuel, hf⟩ := h
  obtain ⟨A', c', l, hcs, h1, h2, h3, hs, h4⟩ := open_textS_cs ht he hc hf
  simp [Value.cells] at hcs
  obtain ⟨rfl, rfl, rfl⟩ := hcs
  exact ⟨A, c, l, rfl, h1, h2, h3, hs, h4⟩
end
end Go.Proofs.YtmeemcafjebanaaGreatDoor
