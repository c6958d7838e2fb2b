/- Open OpenI OpenII in one text. -/
import Derived.Test.YtmeemcafjebanaaGreatDoorBase
import Derived.ProofKit
import Derived.OpenShut
import Derived.ShutString
import Derived.ChangeOld
import Derived.SizedLaws
import Derived.Deep.Slices
import Derived.Deep.Fields
/- Arguments as they are read: what the row's reading says of memory, in the walks' words. No program in sight. -/
namespace Go.Proofs.YtmeemcafjebanaaGreatDoor
open Go.ChangeShapes Go.WideShapes Go.ChangeAt Go.RowKit
open Go.ChangeMaps (open_string shut_string)

section
variable {H : Type} {enc : TypeId × Value → H} {P : Program} {W W' : World}

/-- All arguments read behind the call as before it. -/
theorem trodAll_below (hl : laidOutB P = true) (hb : Below W.heap.size W W') : ∀ (ts : List TypeId), (ts.all fun t => P.readableRec t && decide (t < P.types.size)) = true →
    ∀ (vs : List Value) (ds : List (DataW H)) (p : List MemPlace), DataW.TrodAll enc P W 0 (fun _ => true) true ts vs ds p → (∀ x ∈ p, x.block < W.heap.size) →
    DataW.TrodAll enc P W' 0 (fun b => decide (b < W.heap.size)) true ts vs ds p := by
  intro ts
  induction ts with
  | nil =>
    intro _ vs ds p h _
    obtain ⟨rfl, rfl, rfl⟩ := trodAll_nil h
    exact trodAll_mk0
  | cons t ts ih =>
    intro hts vs ds p h hlt
    simp only [List.all_cons, Bool.and_eq_true, decide_eq_true_eq] at hts
    obtain ⟨v, vs', d, ds', q, q', rfl, rfl, rfl, h0, h1⟩ := trodAll_cons h
    exact trodAll_cons_mk (Below.trod hl hts.1.1 hts.1.2 h0 hb fun x hx => hlt x (List.mem_append_left _ hx)) (ih hts.2 vs' ds' q' h1 fun x hx => hlt x (List.mem_append_right _ hx))

/-- The row's last step: the law has answered true, and nothing that was there has turned. -/
theorem law_post {f : Func} {s : ChangeSpec} {args : Array Value} {ds gs : List (DataW H)} {before : List MemPlace} {tb : TypeId} (hl : laidOutB P = true)
    (hts : (f.params.toList.all fun t => P.readableRec t && decide (t < P.types.size)) = true) (hvars : s.vars = []) (hrt : f.resultTypes = #[tb]) (hbool : P.underlying tb = some .bool)
    (hfn : s.fn H (ds ++ gs) = { results := [.lit (.bool true)], args := ds })
    (hW : DataW.Whole enc P f.params.toList s.vars false W args.toList ds gs before) (hb : Below W.heap.size W W') : s.post enc P f false true false false W args (.bool true) W' := by
  have hW' := hW
  obtain ⟨p, q, hA, hV, rfl, hfz, hnd⟩ := hW
  rw [hvars] at hV
  obtain ⟨rfl, rfl⟩ := trodVars_none hV
  have hlt : ∀ x ∈ p, x.block < W.heap.size := fun x hx => hW'.lt x (by simpa using hx)
  refine ⟨ds, [], _, [], p, [], hW', ?_, ?_, ?_, hb.frame _, fun h => by cases h⟩
  · rw [hfn, hrt]; exact trodAll_mk1 (shut_bool hbool _)
  · rw [hfn]; exact trodAll_below hl hb _ hts _ _ _ hA hlt
  · rw [hfn, hvars]; rfl

/-- A []byte that came in. -/
theorem open_bytes {t e : TypeId} (ht : P.underlying t = some (.slice e)) (he : P.underlying e = some (.int .u8)) (hc : P.cellsOf e = 1) {v : Value} {r : Reach} {base : Nat} {d : DataW H} {p : List MemPlace}
    (hv : Value.okWide P W r base t v) (h : DataW.Trod enc P W 0 (fun _ => true) true t v d p) :
    ∃ (A : Option Addr) (c : Nat) (l : List UInt8), v = .slice A l.length c ∧ l.length ≤ c ∧ c ≤ maxLen ∧ Rd W W.heap.size 1 A l.length (l.map bv) ∧ ((d = .nil ∧ c = 0) ∨ ∃ elems spare, d = .slice elems spare ∧ elems.length = l.length ∧ elems.length + spare.length = c) := by
  obtain ⟨A, n, c, rfl⟩ := okWide_slice ht hv
  obtain ⟨fuel, hf⟩ := h
  rcases open_ints ht he hc hf with ⟨hcs, hx⟩ | ⟨x, l, c', zs, hcs, _, hl, hm, hz, hx, hcell, hwz⟩
  · simp [Value.cells] at hcs
    obtain ⟨rfl, rfl, rfl⟩ := hcs
    refine ⟨none, 0, [], rfl, Nat.le_refl _, Nat.zero_le _, Rd.nil_, .inl ⟨?_, rfl⟩⟩
    injection hx
  · simp [Value.cells] at hcs
    obtain ⟨rfl, rfl, rfl⟩ := hcs
    simp only [if_true] at hz
    have hlen : ((zs.take n).map fun z => UInt8.ofNat z.toNat).length = n := by simp; omega
    refine ⟨some x, c, (zs.take n).map fun z => UInt8.ofNat z.toNat, by rw [hlen], by rw [hlen]; exact hl, hm, ?_, .inr ⟨lits .u8 (zs.take n), lits .u8 (zs.drop n), ?_, ?_, ?_⟩⟩
    · rw [hlen]
      refine ⟨by simp; omega, fun hn => ⟨x, rfl, ?_, ?_⟩⟩
      · have := World.block_lt_of_cell? _ _ (hcell 0 (by omega))
        simpa [block_add] using this
      · intro j u hu
        simp only [List.map_map, List.getElem?_map, List.getElem?_take] at hu
        split at hu
        · rename_i hj
          have hjz : j < zs.length := by omega
          rw [hcell j hjz]
          rw [List.getElem?_eq_getElem hjz] at hu
          simp only [Option.map_some, Option.some.injEq, Function.comp] at hu
          have hw := bounds_u8 (hwz zs[j] (List.getElem_mem hjz))
          rw [← hu, List.getD_eq_getElem?_getD, List.getElem?_eq_getElem hjz, Option.getD_some, bv]
          rw [UInt8.toNat_ofNat']
          congr 2
          omega
        · cases hu
    · injection hx
    · simp [lits]
    · simp [lits]; omega
end
end Go.Proofs.YtmeemcafjebanaaGreatDoor

/- Arguments that are slices of ints, in the walks' words. -/
namespace Go.Proofs.YtmeemcafjebanaaGreatDoor
open Go.ChangeShapes Go.WideShapes Go.ChangeAt Go.RowKit
section
variable {H : Type} {enc : TypeId × Value → H} {P : Program} {W : World}
/-- A []int that came in. -/
theorem open_intl {t e : TypeId} (ht : P.underlying t = some (.slice e)) (he : P.underlying e = some (.int .i64)) (hc : P.cellsOf e = 1) {v : Value} {r : Reach} {base : Nat} {d : DataW H} {p : List MemPlace}
    (hv : Value.okWide P W r base t v) (h : DataW.Trod enc P W 0 (fun _ => true) true t v d p) :
    ∃ (A : Option Addr) (c : Nat) (l : List Int), v = .slice A l.length c ∧ l.length ≤ c ∧ c ≤ maxLen ∧ Rd W W.heap.size 1 A l.length (l.map iv) ∧ (∀ z ∈ l, -9223372036854775808 ≤ z ∧ z ≤ 9223372036854775807) ∧ ((d = .nil ∧ c = 0) ∨ ∃ elems spare, d = .slice elems spare ∧ elems.length = l.length ∧ elems.length + spare.length = c) := by
  obtain ⟨A, n, c, rfl⟩ := okWide_slice ht hv
  obtain ⟨fuel, hf⟩ := h
  rcases open_ints ht he hc hf with ⟨hcs, hx⟩ | ⟨x, l, c', zs, hcs, _, hl, hm, hz, hx, hcell, hwz⟩
  · simp [Value.cells] at hcs
    obtain ⟨rfl, rfl, rfl⟩ := hcs
    refine ⟨none, 0, [], rfl, Nat.le_refl _, Nat.zero_le _, Rd.nil_, fun _ h => absurd h List.not_mem_nil, .inl ⟨?_, rfl⟩⟩
    injection hx
  · simp [Value.cells] at hcs
    obtain ⟨rfl, rfl, rfl⟩ := hcs
    simp only [if_true] at hz
    have hlen : (zs.take n).length = n := by simp; omega
    refine ⟨some x, c, zs.take n, by rw [hlen], by rw [hlen]; exact hl, hm, ?_, fun z hz' => bounds_i64 (hwz z (List.mem_of_mem_take hz')), .inr ⟨lits .i64 (zs.take n), lits .i64 (zs.drop n), ?_, ?_, ?_⟩⟩
    · rw [hlen]
      refine ⟨by simp; omega, fun hn => ⟨x, rfl, ?_, ?_⟩⟩
      · have := World.block_lt_of_cell? _ _ (hcell 0 (by omega))
        simpa [block_add] using this
      · intro j u hu
        simp only [List.getElem?_map, List.getElem?_take] at hu
        split at hu
        · rename_i hj
          have hjz : j < zs.length := by omega
          rw [hcell j hjz]
          rw [List.getElem?_eq_getElem hjz] at hu
          simp only [Option.map_some, Option.some.injEq] at hu
          rw [← hu, List.getD_eq_getElem?_getD, List.getElem?_eq_getElem hjz, Option.getD_some, iv]
        · cases hu
    · injection hx
    · simp [lits]
    · simp [lits]; omega
theorem sized_intl {ts : List TypeId} {ds : List (DataW H)} (h : (DataW.weightsEach P ts ds).all (· ≤ reachBytes) = true) {j c : Nat} {t e : TypeId} {d : DataW H} (ht : ts[j]? = some t) (hdj : ds[j]? = some d) (hu : P.underlying t = some (.slice e)) (hb : P.bytesOf e = 8)
    {l : List Int} (hl : l.length ≤ c) (hd : (d = .nil ∧ c = 0) ∨ ∃ elems spare, d = .slice elems spare ∧ elems.length = l.length ∧ elems.length + spare.length = c) : l.length ≤ 17592186044160 := by
  rcases hd with ⟨_, rfl⟩ | ⟨elems, spare, rfl, h3, _⟩
  · omega
  · have h1 := sized_slice h ht hdj hu
    rw [hb] at h1
    simp only [reachBytes] at h1
    omega
end
end Go.Proofs.YtmeemcafjebanaaGreatDoor

/- Arguments that are slices of slices, in the walks' words. -/
namespace Go.Proofs.YtmeemcafjebanaaGreatDoor
open Go.ChangeShapes Go.WideShapes Go.ChangeAt Go.RowKit Go.Deep

/-- A slice of slices of ints reads as these lists, all below block B. -/
def RdII (w : World) (B : Nat) (A : Option Addr) (ls : List (List Int)) : Prop :=
  0 < ls.length → ∃ ad, A = some ad ∧ ad.block < B ∧ ∀ (i : Nat) (l : List Int), ls[i]? = some l → ∃ A' c, w.cell? (ad.add i) = some (.slice A' l.length c) ∧ l.length ≤ c ∧ c ≤ maxLen ∧ Rd w B 1 A' l.length (l.map iv)
theorem RdII.at_ {w w' : World} {B : Nat} {A : Option Addr} {ls : List (List Int)} (h : RdII w B A ls) (hb : Below B w w') {i : Nat} (hi : i < ls.length) :
    ∃ ad A' c, A = some ad ∧ w'.cell? (ad.add i) = some (.slice A' (ls.getD i []).length c) ∧ (ls.getD i []).length ≤ c ∧ c ≤ maxLen ∧ Rd w' B 1 A' (ls.getD i []).length ((ls.getD i []).map iv) := by
  obtain ⟨ad, e, hlt, hc⟩ := h (by omega)
  have hx : ls[i]? = some (ls.getD i []) := by rw [List.getD_eq_getElem?_getD, List.getElem?_eq_getElem hi]; rfl
  obtain ⟨A', c, h1, h2, h3, h4⟩ := hc i _ hx
  exact ⟨ad, A', c, e, (hb.cell (by rw [block_add]; exact hlt)).trans h1, h2, h3, h4.below hb (Nat.le_refl _)⟩

theorem listOf {α : Type} {Q : Nat → α → Prop} (n : Nat) (h : ∀ i, i < n → ∃ x, Q i x) : ∃ l : List α, l.length = n ∧ ∀ i x, l[i]? = some x → Q i x := by
  induction n with
  | zero => exact ⟨[], rfl, fun i x hx => by simp at hx⟩
  | succ n ih =>
    obtain ⟨l, hl, hq⟩ := ih fun i hi => h i (by omega)
    obtain ⟨y, hy⟩ := h n (by omega)
    refine ⟨l ++ [y], by simp [hl], fun i x hx => ?_⟩
    by_cases hi : i < n
    · rw [List.getElem?_append_left (by omega)] at hx; exact hq i x hx
    · have : i = n := by
        have := (List.getElem?_eq_some_iff.1 hx).1
        simp at this; omega
      subst this
      rw [List.getElem?_append_right (by omega), hl] at hx
      simp at hx
      subst hx; exact hy
section
variable {H : Type} {enc : TypeId × Value → H} {P : Program} {W : World}
/-- A [][]int that came in. -/
theorem open_intll {t u e : TypeId} (ht : P.underlying t = some (.slice u)) (hu : P.underlying u = some (.slice e)) (he : P.underlying e = some (.int .i64)) (hcu : P.cellsOf u = 1) (hc : P.cellsOf e = 1) {v : Value} {r : Reach} {base : Nat} {d : DataW H} {p : List MemPlace}
    (hv : Value.okWide P W r base t v) (h : DataW.Trod enc P W 0 (fun _ => true) true t v d p) :
    ∃ (A : Option Addr) (c : Nat) (ls : List (List Int)), v = .slice A ls.length c ∧ ls.length ≤ c ∧ c ≤ maxLen ∧ RdII W W.heap.size A ls ∧ (∀ l ∈ ls, ∀ z ∈ l, -9223372036854775808 ≤ z ∧ z ≤ 9223372036854775807) ∧
      ((d = .nil ∧ ls = []) ∨ ∃ D spare, d = .slice ((List.range ls.length).map D) spare) := by
  obtain ⟨A, n, c, rfl⟩ := okWide_slice ht hv
  obtain ⟨fuel, hf⟩ := h
  rcases open_slice ht hf with ⟨hcs, hx⟩ | ⟨a, len, cap, m, n', D, Pl, hcs, _, hl, hm, hmm, hx, hi⟩
  · simp [Value.cells] at hcs
    obtain ⟨rfl, rfl, rfl⟩ := hcs
    exact ⟨none, 0, [], rfl, Nat.le_refl _, Nat.zero_le _, fun h => absurd h (by simp), fun _ h => absurd h List.not_mem_nil, .inl ⟨by injection hx, rfl⟩⟩
  · simp [Value.cells] at hcs
    obtain ⟨rfl, rfl, rfl⟩ := hcs
    simp only [if_true] at hmm
    subst hmm
    have hex : ∀ i, i < m → ∃ l : List Int, (∃ A' c, W.cell? (a.add i) = some (.slice A' l.length c) ∧ l.length ≤ c ∧ c ≤ maxLen ∧ Rd W W.heap.size 1 A' l.length (l.map iv)) ∧ ∀ z ∈ l, -9223372036854775808 ≤ z ∧ z ≤ 9223372036854775807 := by
      intro i hic
      obtain ⟨cs', hc1, ht'⟩ := hi i hic
      rw [hcu, Nat.mul_one] at hc1
      obtain ⟨_, hcl', hat⟩ := World.cells?_some hc1
      rcases open_ints hu he hc ht' with ⟨hcs, _⟩ | ⟨x, k, c', zs, hcs, _, hl2, hm2, hz, _, hcell, hwz⟩
      · refine ⟨[], ⟨none, 0, ?_, Nat.le_refl _, Nat.zero_le _, Rd.nil_⟩, fun _ h => absurd h List.not_mem_nil⟩
        have := hat 0 (by omega)
        rw [hcs] at this
        simpa [Addr.add] using this
      · simp only [if_true] at hz
        have hlen : (zs.take k).length = k := by simp; omega
        refine ⟨zs.take k, ⟨some x, c', ?_, by rw [hlen]; exact hl2, hm2, ?_⟩, fun z hz' => bounds_i64 (hwz z (List.mem_of_mem_take hz'))⟩
        · have := hat 0 (by omega)
          rw [hcs] at this
          rw [hlen]
          simpa [Addr.add] using this
        · rw [hlen]
          refine ⟨by simp; omega, fun hn => ⟨x, rfl, ?_, ?_⟩⟩
          · have := World.block_lt_of_cell? _ _ (hcell 0 (by omega))
            simpa [block_add] using this
          · intro j u' hu'
            simp only [List.getElem?_map, List.getElem?_take] at hu'
            split at hu'
            · rename_i hj
              have hjz : j < zs.length := by omega
              rw [hcell j hjz]
              rw [List.getElem?_eq_getElem hjz] at hu'
              simp only [Option.map_some, Option.some.injEq] at hu'
              rw [← hu', List.getD_eq_getElem?_getD, List.getElem?_eq_getElem hjz, Option.getD_some, iv]
            · cases hu'
    obtain ⟨ls, hll, hq⟩ := listOf n (fun i hi => hex i (by omega))
    subst hll
    refine ⟨some a, m, ls, rfl, hl, hm, fun hn => ⟨a, rfl, ?_, fun i l hil => (hq i l hil).1⟩, fun l hl' => ?_, .inr ⟨D, _, by injection hx⟩⟩
    · obtain ⟨x, ⟨A', c', hc', _⟩, _⟩ := hex 0 (by omega)
      have := World.block_lt_of_cell? _ _ hc'
      simpa [block_add] using this
    · obtain ⟨i, hi2, e⟩ := List.mem_iff_getElem.1 hl'
      exact (hq i l (by rw [List.getElem?_eq_getElem hi2, e])).2
theorem sized_intll {ts : List TypeId} {ds : List (DataW H)} (h : (DataW.weightsEach P ts ds).all (· ≤ reachBytes) = true) {j : Nat} {t e : TypeId} {d : DataW H} (ht : ts[j]? = some t) (hdj : ds[j]? = some d) (hu : P.underlying t = some (.slice e)) (hb : 0 < P.bytesOf e)
    {ls : List (List Int)} (hd : (d = .nil ∧ ls = []) ∨ ∃ D spare, d = .slice ((List.range ls.length).map D) spare) : ls.length ≤ 140737488351232 := by
  rcases hd with ⟨_, rfl⟩ | ⟨D, spare, rfl⟩
  · simp
  · have h1 := sized_slice h ht hdj hu
    simp only [List.length_map, List.length_range, reachBytes] at h1
    have h2 := Nat.le_mul_of_pos_right (ls.length + spare.length) hb
    omega
end
end Go.Proofs.YtmeemcafjebanaaGreatDoor
