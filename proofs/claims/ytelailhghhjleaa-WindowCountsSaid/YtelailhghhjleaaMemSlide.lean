/- Panes behind pointers in a map, as window.Slide keeps them. -/
import Derived.Test.YtelailhghhjleaaProg
import Derived.Test.YtelailhghhjleaaPlainSlide
import Derived.Test.YtelailhghhjleaaBase2
import Derived.Maps.Own
import Derived.Maps.OwnOps
import Derived.Maps.OwnSet
import Derived.Maps.Views
import Derived.DeepKeys4
namespace Go.Proofs.Ytelailhghhjleaa
open Go.RowKit Go.Maps

theorem laidOutM : laidOutB Try.prog = true := by kernel_rfl
theorem rowPane : (31 : TypeId) < Try.prog.types.size := of_decide_eq_true (by kernel_rfl)
theorem widePane : (match Try.prog.underlying 31 with | some (.array _ _) | some (.struct _) => true | _ => false) = true := by rw [Try.underlying31]
set_option maxRecDepth 100000 in
theorem kpane : Keyed Try.prog 31 := Keyed.of_law (deep_law_laid laidOutM (m := 2) (by omega) rowPane (by kernel_rfl) widePane)
theorem zpane (w : World) : (zeroValue 95).run Try.prog w = .ok (.pointer none) w := by kernel_rfl
/-- A pane's place as the map's key. -/
def keyV (k : ByteArray) (lo hi : Int) : Value := .agg #[.string k, .int .i64 lo, .int .i64 hi, .int .i64 0, .int .i64 0, .int .i64 0]
def klP (k : ByteArray) (lo hi : Int) : Lit := .string (keyBytes [.string k.data.toList, .int .i64 lo, .int .i64 hi, .int .i64 0, .int .i64 0, .int .i64 0])
theorem keyOf_pane {k : ByteArray} {lo hi : Int} (hk : k.size ≤ maxLen) (h1 : (Lit.int .i64 lo).wf = true) (h2 : (Lit.int .i64 hi).wf = true) : keyOf Try.prog 31 (keyV k lo hi) = some (klP k lo hi) := by
  have e1 : Try.prog.keyType 31 = true := by kernel_rfl
  have e2 : (keyV k lo hi).formed Try.prog 31 = true := by
    have hc : Try.prog.cellsOf 31 = 6 := by kernel_rfl
    simp [keyV, Value.formed, Try.underlying31, hc]
  have hc : Try.prog.cellsOf 31 = 6 := by kernel_rfl
  have hs : Try.prog.cellsOf 9 = 1 := by kernel_rfl
  have hi' : Try.prog.cellsOf 3 = 1 := by kernel_rfl
  have h0 : (Lit.int .i64 0).wf = true := by decide
  have hsz : ∃ m, Try.prog.types.size + 1 = m + 2 := ⟨168 - 1, by kernel_rfl⟩
  obtain ⟨m, hm⟩ := hsz
  unfold keyOf
  rw [Try.underlying31]
  simp only [e1, e2, Bool.and_self, if_true, hm]
  simp [keyV, klP, Program.keyLits, Value.cells, Try.underlying31, Try.underlying9, Try.underlying3, hc, hs, hi', hk, h1, h2, h0]
theorem klP_inj {k k' : ByteArray} {lo hi lo' hi' : Int} (hk : k.size ≤ maxLen) (h1 : (Lit.int .i64 lo).wf = true) (h2 : (Lit.int .i64 hi).wf = true) (hk' : k'.size ≤ maxLen) (h1' : (Lit.int .i64 lo').wf = true) (h2' : (Lit.int .i64 hi').wf = true)
    (h : klP k lo hi = klP k' lo' hi') : k = k' ∧ lo = lo' ∧ hi = hi' := by
  have e := kpane.inj (keyOf_pane hk h1 h2) (by rw [h]; exact keyOf_pane hk' h1' h2')
  simp [keyV] at e
  exact ⟨e.1, e.2.1, e.2.2⟩
/-- A pointer to a block reads as the block's number. -/
def ptrR (v : Value) : Option (DataW Unit × List MemPlace) := match v with
  | .pointer none => some (.nil, [])
  | .pointer (some ⟨g, 0, none⟩) => some (.lit (.int .i64 g), [])
  | _ => none
theorem ptrR_nil {v : Value} {ps : List MemPlace} (h : ptrR v = some (.nil, ps)) : v = .pointer none := by
  unfold ptrR at h
  split at h
  · rfl
  · simp at h
  · cases h
theorem ptrR_some {v : Value} {g : Nat} {ps : List MemPlace} (h : ptrR v = some (.lit (.int .i64 g), ps)) : v = .pointer (some ⟨g, 0, none⟩) := by
  unfold ptrR at h
  split at h
  · simp at h
  · rename_i g'
    simp at h
    have e : g' = g := by omega
    rw [e]
  · cases h
theorem ptrR_form {v : Value} {z : DataW Unit × List MemPlace} (h : ptrR v = some z) : ∃ o : Option Addr, v = .pointer o := by
  unfold ptrR at h
  split at h
  · exact ⟨_, rfl⟩
  · exact ⟨_, rfl⟩
  · cases h
theorem wpList_lookup_ptr {P : Program} (w : World) {ops : Array Oper} {rest : List Oper} {o : Oper} {a : Act} {Q : Exit → Act → World → Prop}
    (hg : o.guard = none) (m x : Operand) (t : TypeId) (hop : o.op = Op.lookup t m x false)
    (k e : TypeId) (K : Keyed P k) (ht : P.underlying t = some (.map k e)) (hz : (zeroValue e).run P w = .ok (.pointer none) w) (b n : Nat) (D : DataW Unit)
    (hm : a.eval m = .map (some b)) (hown : w.ownsMap P k ptrR b n D) (key : Value) (kl : Lit) (hx : a.eval x = key) (hkey : keyOf P k key = some kl)
    (hK : ∀ v ps, ptrR v = some (D.atKey kl .nil, ps) → wpList P ops Q rest (a.put o.dst v) w) :
    wpList P ops Q (o :: rest) a w := by
  refine wpList_plain hg fun K' hK' => ?_
  obtain ⟨v, ps, hrun, hv⟩ := hown.lookup K ht hz (zd := .nil) (zp := []) rfl hkey
  unfold Oper.wp
  simp [execOp, hop, hm, hx, hrun, Result.andThen]
  exact hK' _ _ (hK v ps hv)

def Pane.Fine (p : Pane) (size : Int) : Prop := p.key.size ≤ maxLen ∧ (Lit.int .i64 p.lo).wf = true ∧ p.hi = p.lo + size ∧ (Lit.int .i64 p.hi).wf = true
/-- The map of the panes, and these. -/
structure Pns (W : World) (base M n : Nat) (D : DataW Unit) (bs : List Nat) (P : List Pane) (size : Int) : Prop where
  own : W.ownsMap Try.prog 31 ptrR M n D
  len : bs.length = P.length
  blk : ∀ (j g : Nat) (p : Pane), bs[j]? = some g → P[j]? = some p → Blk W g 31 p.cells.toArray
  nd : bs.Nodup
  at_ : ∀ g ∈ bs, base ≤ g ∧ g ≠ M
  key : ∀ (j g : Nat) (p : Pane), bs[j]? = some g → P[j]? = some p → D.atKey (klP p.key p.lo p.hi) .nil = .lit (.int .i64 g)
  non : ∀ (k : ByteArray) (f : Int), P.any (isAt k f) = false → k.size ≤ maxLen → (Lit.int .i64 f).wf = true → (Lit.int .i64 (f + size)).wf = true → D.atKey (klP k f (f + size)) .nil = .nil
  dom : ∀ kl, Maps.has D kl = true → ∃ p ∈ P, kl = klP p.key p.lo p.hi
  fine : ∀ p ∈ P, p.Fine size
  apart : Apart P
  mb : base ≤ M
section
variable {W W' : World} {base M n : Nat} {D : DataW Unit} {bs : List Nat} {P : List Pane} {size : Int}
theorem Pns.start {w : World} (h : base ≤ w.heap.size) : Pns (w.alloc (.map #[] 0)) base w.heap.size 0 (.map []) [] [] size where
  own := World.ownsMap_made _ _ _ _
  len := rfl
  blk := fun j g p hj => by simp at hj
  nd := .nil
  at_ := fun g hg => by cases hg
  key := fun j g p hj => by simp at hj
  non := fun _ _ _ _ _ _ => rfl
  dom := fun kl h => by cases h
  fine := fun p hp => by cases hp
  apart := .nil
  mb := h
theorem Pns.lt (h : Pns W base M n D bs P size) {g : Nat} (hg : g ∈ bs) : g < W.heap.size := by
  obtain ⟨j, hj⟩ := List.mem_iff_getElem?.1 hg
  have hjl : j < P.length := by rw [← h.len]; exact (List.getElem?_eq_some_iff.1 hj).1
  exact (h.blk j g _ hj (List.getElem?_eq_getElem hjl)).lt
theorem Pns.up (h : Pns W base M n D bs P size) (hb : Below W.heap.size W W') : Pns W' base M n D bs P size :=
  { h with
    own := h.own.kept (row := none) ⟨hb.os, hb.tape, hb.output, hb.size, fun k hk _ => hb.block k hk⟩ (by simp)
    blk := fun j g p hj hp => (h.blk j g p hj hp).up hb }
/-- One more pane. -/
theorem Pns.add {g : Nat} {p : Pane} (h : Pns W base M n D bs P size) (hg : Blk W g 31 p.cells.toArray) (hgb : g ∉ bs) (hgM : base ≤ g ∧ g ≠ M) (hp : p.Fine size) (hno : P.any (isAt p.key p.lo) = false)
    (hown : W'.ownsMap Try.prog 31 ptrR M (n + 1) (D.put (klP p.key p.lo p.hi) (.lit (.int .i64 g)))) (hgr : W.grownBy W' (some M)) :
    Pns W' base M (n + 1) (D.put (klP p.key p.lo p.hi) (.lit (.int .i64 g))) (bs ++ [g]) (P ++ [p]) size := by
  have hbk : ∀ (g' : Nat) (cs : Array Value), Blk W g' 31 cs → g' ≠ M → Blk W' g' 31 cs := fun g' cs hb hne => (hgr.block g' hb.lt (fun e => hne (by injection e))).trans hb
  have hlen := h.len
  have hfo : ∀ (q : Pane), q ∈ P → klP q.key q.lo q.hi ≠ klP p.key p.lo p.hi := by
    intro q hq e
    obtain ⟨f1, f2, f3, f4⟩ := h.fine q hq
    obtain ⟨g1, g2, g3, g4⟩ := hp
    have e2 := klP_inj f1 f2 f4 g1 g2 g4 e
    exact any_no hno hq ⟨e2.1, e2.2.1⟩
  refine ⟨hown, by simp [hlen], fun j g' q hj hq => ?_, ?_, fun g' hg' => ?_, fun j g' q hj hq => ?_, fun k f ha hk h1 h2 => ?_, fun kl hkl => ?_, fun q hq => ?_, ?_, h.mb⟩
  · by_cases hjl : j < P.length
    · rw [List.getElem?_append_left (by omega)] at hj hq
      exact hbk g' _ (h.blk j g' q hj hq) (h.at_ g' (List.mem_of_getElem? hj)).2
    · have hje : j = P.length := by have := (List.getElem?_eq_some_iff.1 hq).1; simp at this; omega
      subst hje
      rw [List.getElem?_append_right (by omega)] at hj hq
      simp [hlen] at hj hq
      subst hj hq
      exact hbk _ _ hg hgM.2
  · rw [List.nodup_append]
    refine ⟨h.nd, by simp, fun a ha b hb => ?_⟩
    rw [List.mem_singleton.1 hb]
    exact fun e => hgb (e ▸ ha)
  · rcases List.mem_append.1 hg' with hg' | hg'
    · exact h.at_ g' hg'
    · rw [List.mem_singleton.1 hg']; exact hgM
  · by_cases hjl : j < P.length
    · rw [List.getElem?_append_left (by omega)] at hj hq
      rw [atKey_put_other (hfo q (List.mem_of_getElem? hq)) _ _]
      exact h.key j g' q hj hq
    · have hje : j = P.length := by have := (List.getElem?_eq_some_iff.1 hq).1; simp at this; omega
      subst hje
      rw [List.getElem?_append_right (by omega)] at hj hq
      simp [hlen] at hj hq
      subst hj hq
      exact atKey_put_same h.own.isMap (by trivial) _ _
  · rw [List.any_append, Bool.or_eq_false_iff] at ha
    have hne : klP k f (f + size) ≠ klP p.key p.lo p.hi := by
      intro e
      obtain ⟨g1, g2, g3, g4⟩ := hp
      have e2 := klP_inj hk h1 h2 g1 g2 g4 e
      have := ha.2
      simp [isAt, e2.1, e2.2.1] at this
    rw [atKey_put_other hne _ _]
    exact h.non k f ha.1 hk h1 h2
  · by_cases e : kl = klP p.key p.lo p.hi
    · exact ⟨p, List.mem_append_right _ (List.mem_singleton.2 rfl), e⟩
    · rw [has_put_other e _] at hkl
      obtain ⟨q, hq, e2⟩ := h.dom kl hkl
      exact ⟨q, List.mem_append_left _ hq, e2⟩
  · rcases List.mem_append.1 hq with hq | hq
    · exact h.fine q hq
    · rw [List.mem_singleton.1 hq]; exact hp
  · rw [Apart, List.pairwise_append]
    refine ⟨h.apart, List.pairwise_singleton _ _, fun a ha b hb => ?_⟩
    rw [List.mem_singleton.1 hb]
    exact any_no hno ha
/-- A pane counted. -/
theorem Pns.set {j g : Nat} {p p' : Pane} (h : Pns W base M n D bs P size) (hj : bs[j]? = some g) (hp : P[j]? = some p) (he : p'.key = p.key ∧ p'.lo = p.lo ∧ p'.hi = p.hi) (hb : Blk W' g 31 p'.cells.toArray) (hgr : W.grownBy W' (some g)) :
    Pns W' base M n D bs (P.set j p') size := by
  have hgm := h.at_ g (List.mem_of_getElem? hj)
  have hP : ∀ (i : Nat) (q : Pane), (P.set j p')[i]? = some q → ∃ q0, P[i]? = some q0 ∧ q.key = q0.key ∧ q.lo = q0.lo ∧ q.hi = q0.hi := by
    intro i q hi
    rw [List.getElem?_set] at hi
    split at hi
    · rename_i e
      subst e
      split at hi
      · injection hi with hi
        exact ⟨p, hp, by rw [← hi]; exact he⟩
      · cases hi
    · exact ⟨q, hi, rfl, rfl, rfl⟩
  have hPm : ∀ q ∈ P.set j p', ∃ q0 ∈ P, q.key = q0.key ∧ q.lo = q0.lo ∧ q.hi = q0.hi := by
    intro q hq
    obtain ⟨i, hi⟩ := List.mem_iff_getElem?.1 hq
    obtain ⟨q0, h1, h2⟩ := hP i q hi
    exact ⟨q0, List.mem_of_getElem? h1, h2⟩
  have hany : ∀ (k : ByteArray) (f : Int), (P.set j p').any (isAt k f) = false → P.any (isAt k f) = false := by
    intro k f ha
    rw [List.any_eq_false] at ha ⊢
    intro q hq hqa
    obtain ⟨i, hi⟩ := List.mem_iff_getElem?.1 hq
    have hil := (List.getElem?_eq_some_iff.1 hi).1
    by_cases hij : j = i
    · subst hij
      refine ha p' (List.mem_of_getElem? (i := j) (by rw [List.getElem?_set_self hil])) ?_
      rw [hp] at hi
      injection hi with hi
      rw [isAt_iff] at hqa ⊢
      rw [he.1, he.2.1, hi]; exact hqa
    · exact ha q (List.mem_of_getElem? (i := i) (by rw [List.getElem?_set_ne hij]; exact hi)) hqa
  refine ⟨h.own.kept hgr (fun e => hgm.2 (by injection e with e; exact e.symm)), by simp [h.len], fun i g' q hi hq => ?_, h.nd, h.at_, fun i g' q hi hq => ?_, fun k f ha hk h1 h2 => h.non k f (hany k f ha) hk h1 h2, fun kl hkl => ?_, fun q hq => ?_, ?_, h.mb⟩
  · by_cases hij : j = i
    · subst hij
      rw [hj] at hi
      injection hi with hi
      subst hi
      rw [List.getElem?_set_self (List.getElem?_eq_some_iff.1 hp).1] at hq
      injection hq with hq
      rw [← hq]; exact hb
    · rw [List.getElem?_set_ne hij] at hq
      have hne : g' ≠ g := by
        intro e
        subst e
        obtain ⟨l1, e1⟩ := List.getElem?_eq_some_iff.1 hi
        obtain ⟨l2, e2⟩ := List.getElem?_eq_some_iff.1 hj
        exact hij ((List.getElem_inj h.nd).1 (e2.trans e1.symm))
      have hbk := h.blk i g' q hi hq
      exact (hgr.block g' hbk.lt (fun e => hne (by injection e))).trans hbk
  · obtain ⟨q0, h1, h2, h3, h4⟩ := hP i q hq
    rw [h2, h3, h4]
    exact h.key i g' q0 hi h1
  · obtain ⟨q, hq, e⟩ := h.dom kl hkl
    obtain ⟨i, hi⟩ := List.mem_iff_getElem?.1 hq
    have hil := (List.getElem?_eq_some_iff.1 hi).1
    by_cases hij : j = i
    · subst hij
      rw [hp] at hi
      injection hi with hi
      exact ⟨p', List.mem_of_getElem? (i := j) (by rw [List.getElem?_set_self hil]), by rw [e, he.1, he.2.1, he.2.2, hi]⟩
    · exact ⟨q, List.mem_of_getElem? (i := i) (by rw [List.getElem?_set_ne hij]; exact hi), e⟩
  · obtain ⟨q0, h1, h2, h3, h4⟩ := hPm q hq
    unfold Pane.Fine
    rw [h2, h3, h4]
    exact h.fine q0 h1
  · rw [Apart, List.pairwise_iff_getElem]
    intro i i' hi hi' hlt
    obtain ⟨q0, a1, a2, a3, _⟩ := hP i _ (List.getElem?_eq_getElem hi)
    obtain ⟨q1, b1, b2, b3, _⟩ := hP i' _ (List.getElem?_eq_getElem hi')
    rw [a2, a3, b2, b3]
    intro e
    have := apart_at h.apart a1 b1 e
    omega
end
end Go.Proofs.Ytelailhghhjleaa
