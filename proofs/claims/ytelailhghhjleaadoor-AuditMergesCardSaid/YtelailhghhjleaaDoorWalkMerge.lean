/- The walk of audit.Merge. -/
import Derived.Test.YtelailhghhjleaaDoorWalkDLines
import Derived.Test.YtelailhghhjleaaDoorWalkMarks2
import Derived.Deep.RegionHeld3
namespace Go.Proofs.YtelailhghhjleaaDoor
open Go.RowKit Go.Maps Go.Lib Go.ChangeShapes Go.WideMaps

section
variable {P : Program} {w : World}
/-- The look-up in a map of groups, in a region that draws its order. -/
theorem step_groups {ops : Array Oper} {o : Oper} {a : Act} {K : Act → World → Prop} {Q : Exit → Act → World → Prop} {F : Prop}
    (hg : o.guard = none) (m x : Operand) (t : TypeId) (hop : o.op = Op.lookup t m x false)
    (k E e : TypeId) (q : IntKind) (KK : Keyed P k) (ht : P.underlying t = some (.map k E)) (hz : (zeroValue E).run P w = .ok (.slice none 0 0) w) (base b n : Nat) (D : DataW Unit)
    (hm : a.eval m = .map (some b)) (hown : w.ownsGroups P k base e q b n D) (hn : n < maxLen) (key : Value) (kl : Lit) (hx : a.eval x = key) (hkey : keyOf P k key = some kl)
    (h : ∀ v zs, D.atKey kl .nil = rowDatum q v zs → w.ownsInts base e q v zs → zs.length ≤ n → w.groupBack P t k base e q b n D key kl v → K (a.put o.dst v) w) :
    if Region.wanted o (yielded ops a.tmps) = true then Oper.wp P o a w K Q else F := by
  have hw : Region.wanted o (yielded ops a.tmps) = true := by simp [Region.wanted, hg]
  rw [if_pos hw]
  obtain ⟨v, zs, hrun, hat, hoi, hzl, hback⟩ := hown.at KK ht hz hn hkey
  unfold Oper.wp
  simp [execOp, hop, hm, hx, hrun, Result.andThen]
  exact h v zs hat hoi hzl hback
/-- The store by the way back, in such a region. -/
theorem step_back {ops : Array Oper} {o : Oper} {a : Act} {K : Act → World → Prop} {Q : Exit → Act → World → Prop} {F : Prop}
    (hg : o.guard = none) (m x v : Operand) (t : TypeId) (hop : o.op = Op.mapUpdate t m x v)
    {w0 : World} {k : TypeId} {base : Nat} {e : TypeId} {q : IntKind} {b n : Nat} {D : DataW Unit} {key : Value} {kl : Lit} {u v' : Value} {zs' : List Int}
    (hback : w0.groupBack P t k base e q b n D key kl u) (hm : a.eval m = .map (some b)) (hx : a.eval x = key) (hv : a.eval v = v')
    (hgr : w0.grownBy w u.ownBlock) (hown' : w.ownsInts base e q v' zs') (hl' : zs'.length ≤ n + 1) (hloc : v'.ownBlock = u.ownBlock ∨ ∃ g, v'.ownBlock = some g ∧ w0.heap.size ≤ g)
    (h : ∀ w2, w2.ownsGroups P k base e q b (n + 1) (D.put kl (rowDatum q v' zs')) → w.grownBy w2 (some b) → K (a.put o.dst undef) w2) :
    if Region.wanted o (yielded ops a.tmps) = true then Oper.wp P o a w K Q else F := by
  have hw : Region.wanted o (yielded ops a.tmps) = true := by simp [Region.wanted, hg]
  rw [if_pos hw]
  obtain ⟨w2, hrun, r1, r2⟩ := hback w v' zs' hgr hown' hl' hloc
  unfold Oper.wp
  simp [execOp, hop, hm, hx, hv, hrun, Result.andThen]
  exact h w2 r1 r2
end
theorem zslice (w : World) : (zeroValue 23).run Tryd.prog w = .ok (.slice none 0 0) w := by kernel_rfl

/-- The numbers of a key in the map, and what is put behind them. -/
theorem Grp.row {D : DataW Unit} {L : List Ln} (h : Grp D L) {w : World} {base : Nat} {e : TypeId} {v : Value} {zs : List Int} {k : ByteArray} (hk : k.size ≤ maxLen) (ho : w.ownsInts base e .i64 v zs) (hat : D.atKey (klS k) .nil = rowDatum .i64 v zs) : zs = (numsOf L k).getD [] := by
  rw [h.at_ k hk] at hat
  rcases hn : numsOf L k with _ | ns
  · rw [hn] at hat
    rcases ho.datum (H := Unit) with ⟨_, h2⟩ | h2
    · rw [h2]; rfl
    · rw [h2] at hat; cases hat
  · rw [hn] at hat
    rcases ho.datum (H := Unit) with ⟨h2, _⟩ | h2
    · rw [h2] at hat; cases hat
    · rw [h2] at hat
      injection hat with h1 _
      exact (lits_inj h1).symm

/-- A slice of lines, to be read. -/
def LnsAt (w : World) (L : List Ln) (v : Value) : Prop := ∃ A c s, v = .slice A s.length c ∧ s.length ≤ c ∧ c ≤ maxLen ∧ lnsOf s = L ∧ RdPs w w.heap.size A s.length s
theorem LnsAt.nil_ (w : World) : LnsAt w [] (.slice none 0 0) := ⟨none, 0, [], rfl, Nat.le_refl _, Nat.zero_le _, rfl, ⟨rfl, Rd.nil_, fun _ h => (List.not_mem_nil h).elim⟩⟩
theorem grown_step {a b c : World} {M : Nat} {row : Option Nat} (h : a.grownBy b (some M)) (k : b.grownBy c row) (hr : ∀ g, row = some g → g = M ∨ a.heap.size ≤ g) : a.grownBy c (some M) :=
  ⟨k.os.trans h.os, k.tape.trans h.tape, k.output.trans h.output, Nat.le_trans h.size k.size, fun i hi hne => (k.block i (Nat.lt_of_lt_of_le hi h.size) (fun e => by
    rcases hr i e.symm with h1 | h1
    · exact hne (by rw [h1])
    · omega)).trans (h.block i hi hne)⟩
theorem map_cell {a b : World} {M : Nat} {es : Array MapEntry} {cl : Nat} (hM : a.heap[M]? = some (.map es cl)) (h : a.grownBy b (some M)) {p : Addr} {u : Value} (hc : a.cell? p = some u) : b.cell? p = some u := by
  have hne : p.block ≠ M := by
    intro e
    unfold World.cell? at hc
    rw [e, hM] at hc
    cases hc
  have hlt : p.block < a.heap.size := by
    apply Classical.byContradiction
    intro hn
    unfold World.cell? at hc
    rw [Array.getElem?_eq_none (by omega)] at hc
    cases hc
  have hb := h.block p.block hlt (fun e => hne (by injection e))
  unfold World.cell? at hc ⊢
  rw [hb]; exact hc
theorem groups_start {a : World} {M base : Nat} (h : a.heap[M]? = some (.map #[] 0)) (hb : M < base) (n : Nat) : GrpIn a base M n (.map []) :=
  ⟨#[], 0, h, ⟨by simp, MapKept.stamped_empty 0, by simp⟩, Nat.zero_le _, rfl, hb, by simp, by simp⟩
theorem row_bound {l : List Ln} {k : Nat} {x : Ln} (h : l[k]? = some x) {zs : List Int} (hz : zs = (numsOf (mergeL (l.take k)) x.key).getD []) : zs.length + x.nums.length ≤ sumL l := by
  have h1 := sumL_next h
  have h2 := sumL_take_le l (k + 1)
  have h3 : zs.length ≤ sumL (l.take k) := by
    rcases hn : numsOf (mergeL (l.take k)) x.key with _ | ns
    · rw [hz, hn]; exact Nat.zero_le _
    · obtain ⟨y, hy, _, e⟩ := numsOf_some hn
      rw [hz, hn, Option.getD_some, ← e]
      exact merge_nums hy
  omega
theorem RdPs.append {w : World} {B n1 n2 : Nat} {A1 A2 : Option Addr} {p1 p2 : List Pl} (h1 : RdPs w B A1 n1 p1) (h2 : RdPs w B A2 n2 p2) : ∀ p ∈ p1 ++ p2, p.Ok w B := fun p hp => by
  rcases List.mem_append.1 hp with hp | hp
  · exact h1.ok p hp
  · exact h2.ok p hp
theorem groups_none {a b : World} {base M n : Nat} {D : DataW Unit} (h : GrpIn a base M n D) (hg : a.grownBy b none) : GrpIn b base M n D := h.kept hg (by simp) fun es clock hb x hx => by
  cases hv : x.val.ownBlock with
  | none => exact .inl rfl
  | some g => exact .inr (by simp)
theorem groups_drew {a : World} {base M n : Nat} {D : DataW Unit} (h : GrpIn a base M n D) : GrpIn a.drew base M n D := groups_none h ⟨rfl, rfl, rfl, Nat.le_refl _, fun _ _ _ => rfl⟩
theorem ints_ne {a : World} {base g : Nat} {v : Value} {zs : List Int} {cs : Array Value} (h : a.ownsInts base 3 .i64 v zs) (hb : Blk a g 64 cs) : v.ownBlock ≠ some g := by
  intro e
  rcases h.1.2 with ⟨rfl, _⟩ | ⟨g', c', cur, rfl, _, hg, _⟩
  · cases e
  · simp only [Value.ownBlock, Option.some.injEq] at e
    subst e
    have := hb.symm.trans hg
    injection this with this
    injection this with _ h2
    exact absurd h2 (by decide)
theorem own_cast {a : World} {base m : Nat} {v : Value} {zs ns : List Int} (h : a.ownsRow base 3 1 v (zs.length + m) (zs.map (Value.int .i64) ++ ns.map iv)) (hm : m = ns.length) : a.ownsRow base 3 1 v (zs ++ ns).length ((zs ++ ns).map (Value.int .i64)) := by
  rw [List.length_append, List.map_append, ← hm]; exact h
theorem wf_app {zs ns : List Int} (h : ∀ z ∈ zs, (Lit.int .i64 z).wf = true) (k : ∀ z ∈ ns, (Lit.int .i64 z).wf = true) : ∀ z ∈ zs ++ ns, (Lit.int .i64 z).wf = true := fun z hz => by
  rcases List.mem_append.1 hz with hz | hz
  · exact h z hz
  · exact k z hz
def OkIn (l : List Ln) : Prop := l.length ≤ 800 ∧ sumL l ≤ 320000 ∧ ∀ x ∈ l, x.nums ≠ [] ∧ x.key.size ≤ maxLen ∧ x.nums.length ≤ 400

theorem row_le {l : List Ln} {k : Nat} {x : Ln} (h : l[k]? = some x) (ho : OkIn l) {zs : List Int} (hz : zs = (numsOf (mergeL (l.take k)) x.key).getD []) : (zs ++ x.nums).length ≤ 320000 + k + 1 := by
  have := row_bound h hz
  have := ho.2.1
  rw [List.length_append]; omega
set_option maxRecDepth 100000 in
set_option maxHeartbeats 4000000 in
theorem merge_good (A1 A2 : Option Addr) (c1 c2 B n1 n2 : Nat) (p1 p2 : List Pl) (w : World) (hr1 : RdPs w B A1 n1 p1) (hr2 : RdPs w B A2 n2 p2) (hB : B ≤ w.heap.size) (hc1 : n1 ≤ c1) (hm1 : c1 ≤ maxLen) (hc2 : n2 ≤ c2) (hm2 : c2 ≤ maxLen)
    (hk : ∀ p ∈ p1 ++ p2, p.ln.key.size ≤ maxLen) (h1 : linesE (lnsOf p1) = 0) (h2 : linesE (lnsOf p2) = 0) :
    Calls Tryd.prog 28 #[.slice A1 n1 c1, .slice A2 n2 c2] w fun e w' => ∃ v, e = .returned (.tuple #[v, errV (mergeE (lnsOf p1) (lnsOf p2))]) ∧ LnsAt w' (mergeO (lnsOf p1) (lnsOf p2)) v ∧ Below w.heap.size w w' := by
  have hk1 := linesE_ok h1
  have hk2 := linesE_ok h2
  have hn1 : n1 ≤ 400 := by have := hk1.len; rwa [lnsOf_len, hr1.len] at this
  have hn2 : n2 ≤ 400 := by have := hk2.len; rwa [lnsOf_len, hr2.len] at this
  have hbo := both_any A1 A2 c1 c2 B n1 n2 p1 p2 w hr1 hr2 hB (by omega) (by omega)
  have hbe : bothE (lnsOf p1) (lnsOf p2) = 0 := by rw [bothE, if_neg (by simp [h1]), h2]
  rw [hbe, errV_zero] at hbo
  obtain ⟨N, hN⟩ : ∃ N, N = n1 + n2 := ⟨_, rfl⟩
  have hlen : (p1 ++ p2).length = N := by rw [List.length_append, hr1.len, hr2.len, hN]
  have HME : Hid (mergeE (lnsOf p1) (lnsOf p2) = if linesE (mergeL (lnsOf (p1 ++ p2))) ≠ 0 then 4 else 0) := Lib.hid (by
    have e : bothL (lnsOf p1) (lnsOf p2) = 0 := hbe
    rw [mergeE, if_neg (by simp [e]), lnsOf, lnsOf, lnsOf, List.map_append])
  have HMO : Hid (mergeO (lnsOf p1) (lnsOf p2) = if mergeE (lnsOf p1) (lnsOf p2) = 0 then mergeL (lnsOf (p1 ++ p2)) else []) := Lib.hid (by rw [mergeO, lnsOf, lnsOf, lnsOf, List.map_append])
  have HOK : Hid (OkIn (lnsOf (p1 ++ p2))) := Lib.hid (by
    have s1 := sumL_le hk1
    have s2 := sumL_le hk2
    refine ⟨by rw [lnsOf_len, hlen]; omega, ?_, fun x hx => ?_⟩
    · simp [sumL, lnsOf] at s1 s2 ⊢; omega
    · obtain ⟨p, hp, rfl⟩ := List.mem_map.1 hx
      refine ⟨?_, hk p hp, ?_⟩
      · rcases List.mem_append.1 hp with hp | hp
        · have := hk1.some_ p.ln (List.mem_map_of_mem hp); intro e; rw [e] at this; simp at this
        · have := hk2.some_ p.ln (List.mem_map_of_mem hp); intro e; rw [e] at this; simp at this
      · rcases List.mem_append.1 hp with hp | hp
        · exact hk1.few p.ln (List.mem_map_of_mem hp)
        · exact hk2.few p.ln (List.mem_map_of_mem hp))
  have HPO := Lib.hid (RdPs.append hr1 hr2)
  have Hr1 := Lib.hid hr1
  have Hr2 := Lib.hid hr2
  clear hbe h1 h2 hk1 hk2 hr1 hr2 hk
  have hN8 : N ≤ 800 := by omega
  have HNN := Lib.hid hN
  have HLN := Lib.hid hlen
  clear hN hlen
  have hmm := @run_makeMap Tryd.prog
  go_enter Tryd.func28, Tryd.ntmps28
  go_upto_region 5 with (first
    | (go_at_call 54; go_must (refine hbo.mono ?_); rintro e w1 ⟨rfl, hb1⟩))
  have hbm := hb1.alloc hb1.size (.map #[] 0)
  obtain ⟨M, hM⟩ : ∃ M, M = w1.heap.size := ⟨_, rfl⟩
  have hM0 : (w1.alloc (.map #[] 0)).heap[M]? = some (.map #[] 0) := by rw [hM]; exact heap_alloc_new w1 _
  have hwM : w.heap.size ≤ M := by rw [hM]; exact hb1.size
  rw [← hM]
  generalize w1.alloc (.map #[] 0) = wm at *
  clear hM hmm hbo hb1
  have hBm := Nat.le_trans hB hbm.size
  go_upto_region 6 with (first
    | (go_at_call 55; go_must (refine (lconcat_two (p1 := p1) (p2 := p2) (Hr1.out.below hbm hB) (Hr2.out.below hbm hB) hBm hc1 hc2 hm1 hm2 (by omega) HNN.out).mono ?_); rintro e w2 ⟨A3, c3, rfl, r3, hb2⟩))
  have hbw2 := hbm.trans (hb2.mono hbm.size)
  have hMlt : M < wm.heap.size := (Array.getElem?_eq_some_iff.1 hM0).1
  have hM2 : w2.heap[M]? = some (.map #[] 0) := (hb2.block M hMlt).trans hM0
  have hMl2 : M < w2.heap.size := (Array.getElem?_eq_some_iff.1 hM2).1
  have hg0 := groups_start (n := 320000) hM2 hMl2
  have HM2 := Lib.hid hM2
  have hws2 := hbw2.size
  clear hM0 hb2 hbm hM2 hMlt
  go_loopw [23] (fun i wr => ∃ (k : Nat) (D : DataW Unit), i = .int .i64 k ∧ k ≤ N ∧ GrpIn wr w2.heap.size M (320000 + k) D ∧ Hid (Grp D (mergeL ((lnsOf (p1 ++ p2)).take k))) ∧ w2.grownBy wr (some M) ∧ Below w.heap.size w wr) (fun i _ => N - (intOf i).toNat)
  case atStart => exact ⟨0, _, rfl, Nat.zero_le _, hg0, Lib.hid Grp.start, ⟨rfl, rfl, rfl, Nat.le_refl _, fun _ _ _ => rfl⟩, hbw2⟩
  clear hg0 hbw2
  obtain ⟨k, D, rfl, hk, hown, HG, hgr, hbel⟩ := hrel
  have hws := hbel.size
  have hws3 := hgr.size
  by_cases hlt : k < N
  · obtain ⟨ad, rfl, hab, hcc⟩ := r3.2 (by omega)
    obtain ⟨p, hp⟩ : ∃ p, (p1 ++ p2)[k]? = some p := ⟨_, List.getElem?_eq_getElem (by have := HLN.out; omega)⟩
    obtain ⟨e0, e1⟩ := plCells_at hp
    have g0 := map_cell HM2.out hgr (hcc _ _ e0)
    have g1 := map_cell HM2.out hgr (hcc _ _ e1)
    rw [add_more ad (k * 2) 0] at g1
    unfold Pl.val at g1
    have hpo := HPO.out p (List.mem_of_getElem? hp)
    obtain ⟨hx1, hx2, hx3⟩ := HOK.out.2.2 p.ln (List.mem_map_of_mem (List.mem_of_getElem? hp))
    have HX := Lib.hid (lnsOf_at hp)
    have HX1 := Lib.hid hx1
    have hrow := hpo.rd.below hbel hB
    have hkey := klS_key hx2
    have hcap := hpo.cap
    have hmax := hpo.max
    have HWF := Lib.hid hpo.wf
    clear e0 e1 hp hcc hpo hx1
    have hk0 : (0 : Int) ≤ (k : Int) := by omega
    have hk1 : (k : Int) < (N : Int) := by omega
    obtain ⟨m, hm⟩ : ∃ m, m = p.ln.nums.length := ⟨_, rfl⟩
    have Hm := Lib.hid hm
    rw [← hm] at hrow g1 hcap hx3
    clear hm
    go_upto_region 8 with fail
    have hA := World.grownBy_alloc wr (.cells #[.string p.ln.key, .slice p.A m p.c] 64) none
    have hbx := Blk.new wr 64 #[.string p.ln.key, .slice p.A m p.c]
    have howna := groups_drew (groups_none hown hA)
    have hrowa := (hrow.alloc (Nat.le_trans hB hws) (.cells #[.string p.ln.key, .slice p.A m p.c] 64)).drew
    have hbela := hbel.alloc hws (.cells #[.string p.ln.key, .slice p.A m p.c] 64)
    have hgra := grown_step hgr hA (fun g e => by cases e)
    have hsza := hgra.size
    obtain ⟨gx, hgx⟩ : ∃ gx, gx = wr.heap.size := ⟨_, rfl⟩
    rw [← hgx] at hbx ⊢
    generalize wr.alloc (.cells #[.string p.ln.key, .slice p.A m p.c] 64) = wa at *
    have hgM : some gx ≠ some M := fun e => by injection e with e; omega
    obtain ⟨v, zs, hrun, hat, hoi, hzl, hback⟩ := howna.at kstr Tryd.underlying98 (zslice _) (by unfold maxLen; omega) hkey
    have HAT := Lib.hid (HG.out.row hx2 hoi hat)
    have hne := ints_ne hoi hbx.drew
    have HBK := Lib.hid (fun (v5 : Value) (w5 : World) (hg5 : wa.drew.grownBy w5 v.ownBlock) (hown5 : w5.ownsRow w2.heap.size 3 1 v5 (zs.length + m) (zs.map (Value.int .i64) ++ p.ln.nums.map iv)) (ha5 : v5.ownBlock = v.ownBlock ∨ v5.ownBlock = some wa.drew.heap.size) => hback w5 v5 (zs ++ p.ln.nums) hg5 ⟨own_cast hown5 Hm.out, wf_app hoi.2 HWF.out⟩ (row_le HX.out HOK.out HAT.out) (ha5.imp id (fun h => ⟨_, h, Nat.le_refl _⟩)))
    clear hback
    have hby : (zs.length + m) * 8 ≤ 140737488355328 := by omega
    have hoi1 := hoi.1
    have hszd : w2.heap.size ≤ wa.drew.heap.size := hsza
    have hne2 : some gx ≠ v.ownBlock := Ne.symm hne
    have hbxd := hbx.drew
    clear hgx hown hrow hbel hgr hA hat
    go_region_held3 (fun w' => w'.cell? ⟨gx, 0, none⟩ = some (.string p.ln.key) ∧ w'.cell? ⟨gx, 1, none⟩ = some (.slice p.A m p.c)) (first | exact cells2 hbx6 | exact cells2 hbx5 | exact cells2 hbx)
      ((first
        | (with_reducible show (if Region.wanted (⟨some 36, _, _, _, _, _⟩ : Oper) _ = true then _ else _); go_must (refine step_rd (.tmp 33) (.tmp 35) el_int rfl rfl hoi1 rfl hrowa rfl (ivs_one _) hby hszd ?_); intro v5 w5 hown5 hb5 hg5 ha5; have hbx5 := Blk.grown hbxd hg5 hne2; obtain ⟨w6, hrun6, hown6, hg6⟩ := HBK.out v5 w5 hg5 hown5 ha5; have hbx6 := Blk.grown hbx5 hg6 hgM)))
    have hdr : wa.grownBy wa.drew none := ⟨rfl, rfl, rfl, Nat.le_refl _, fun _ _ _ => rfl⟩
    have hgr5 := grown_step (grown_step hgra hdr (fun g e => by cases e)) hg5 (fun g e => .inr (hoi1.lt g e).1)
    have hgr6 := grown_step hgr5 hg6 (fun g e => by injection e with e; exact .inl e.symm)
    have hbel5 := hbela.drew.grown hg5 hbela.size (fun g e => by have := (hoi1.lt g e).1; omega)
    have hbel6 := hbel5.grown hg6 hbel5.size (fun g e => by injection e with e; omega)
    have hdat := World.ownsInts.datum_pos (H := Unit) (w := w5) (base := w2.heap.size) (e := 3) (q := .i64) (v := v5) (zs := zs ++ p.ln.nums) ⟨own_cast hown5 Hm.out, wf_app hoi.2 HWF.out⟩ (fun e => HX1.out (List.append_eq_nil_iff.1 e).2)
    rw [hdat, HAT.out] at hown6
    have HG6 := Lib.hid (HG.out.add hx2 HX1.out)
    clear hdat hrun hrun6 hoi hoi1 hown5
    go_wp2_with fail
    go_roundw
    case rel => exact ⟨k + 1, _, by go_num, by omega, hown6, Lib.hid (by rw [merge_next HX.out]; exact HG6.out), hgr6, hbel6⟩
    case measure => simp [intOf]; omega
  · obtain rfl : k = N := by omega
    have hG : Grp D (mergeL (lnsOf (p1 ++ p2))) := by
      have := HG.out
      rwa [List.take_of_length_le (by rw [lnsOf_len, HLN.out]; exact Nat.le_refl _)] at this
    have hL8 : (mergeL (lnsOf (p1 ++ p2))).length ≤ 800 := Nat.le_trans (merge_len _) (by rw [lnsOf_len, HLN.out]; exact hN8)
    clear HG
    generalize mergeL (lnsOf (p1 ++ p2)) = L at *
    have HDL := Lib.hid (dlines_any hown hG (by omega))
    clear hown hG hgr r3
    by_cases hl0 : linesE L = 0
    · have HE0 : Hid (errV (linesE L) = .nilIface) := Lib.hid (by rw [hl0]; rfl)
      have HM0 : Hid (mergeE (lnsOf p1) (lnsOf p2) = 0) := Lib.hid (by rw [HME.out, if_neg (by simp [hl0])])
      clear hl0
      go_wp2_with (first
        | (go_at_call 56; go_must (refine HDL.out.mono ?_); rintro e w5 ⟨A5, c5, s5, rfl, q1, q2, q3, q4, hb5⟩)
        | (go_at_call 32; go_must (refine (acheck_any A5 c5 w5.heap.size L.length s5 w5 q4 (Nat.le_refl _) (by omega)).mono ?_); rintro e w6 ⟨rfl, hb6⟩; rw [q3, HE0.out]))
      go_ret2
      refine ⟨_, by rw [HM0.out]; rfl, ⟨A5, c5, s5, by rw [q4.len]; rfl, by rw [q4.len]; exact q1, q2, by rw [q3, HMO.out, if_pos HM0.out], ?_⟩, hbel.trans ((hb5.trans (hb6.mono hb5.size)).mono hws)⟩
      have := (q4.below hb6 (Nat.le_refl _)).more hb6.size
      rw [q4.len]; exact this
    · have HE0 : Hid (errV (linesE L) = .iface 75 (.int .i64 (linesE L : Nat))) := Lib.hid (by rw [errV, if_neg hl0])
      have HM0 : Hid (mergeE (lnsOf p1) (lnsOf p2) = 4) := Lib.hid (by rw [HME.out, if_pos hl0])
      clear hl0
      go_wp2_with (first
        | (go_at_call 56; go_must (refine HDL.out.mono ?_); rintro e w5 ⟨A5, c5, s5, rfl, q1, q2, q3, q4, hb5⟩)
        | (go_at_call 32; go_must (refine (acheck_any A5 c5 w5.heap.size L.length s5 w5 q4 (Nat.le_refl _) (by omega)).mono ?_); rintro e w6 ⟨rfl, hb6⟩; rw [q3, HE0.out]))
      go_ret2
      refine ⟨_, by rw [HM0.out]; rfl, ?_, hbel.trans ((hb5.trans (hb6.mono hb5.size)).mono hws)⟩
      rw [HMO.out, if_neg (by rw [HM0.out]; omega)]
      exact LnsAt.nil_ _
set_option maxRecDepth 100000 in
set_option maxHeartbeats 1000000 in
theorem merge_any (A1 A2 : Option Addr) (c1 c2 B n1 n2 : Nat) (p1 p2 : List Pl) (w : World) (hr1 : RdPs w B A1 n1 p1) (hr2 : RdPs w B A2 n2 p2) (hB : B ≤ w.heap.size) (hc1 : n1 ≤ c1) (hm1 : c1 ≤ maxLen) (hc2 : n2 ≤ c2) (hm2 : c2 ≤ maxLen)
    (hl1 : n1 ≤ 140737488355328) (hl2 : n2 ≤ 140737488355328) (hk : ∀ p ∈ p1 ++ p2, p.ln.key.size ≤ maxLen) :
    Calls Tryd.prog 28 #[.slice A1 n1 c1, .slice A2 n2 c2] w fun e w' => ∃ v, e = .returned (.tuple #[v, errV (mergeE (lnsOf p1) (lnsOf p2))]) ∧ LnsAt w' (mergeO (lnsOf p1) (lnsOf p2)) v ∧ Below w.heap.size w w' := by
  by_cases hE : bothE (lnsOf p1) (lnsOf p2) = 0
  · by_cases h1 : linesE (lnsOf p1) = 0
    · exact merge_good A1 A2 c1 c2 B n1 n2 p1 p2 w hr1 hr2 hB hc1 hm1 hc2 hm2 hk h1 (by rw [bothE, if_neg (by simp [h1])] at hE; exact hE)
    · exact absurd hE (by rw [bothE, if_pos h1]; exact h1)
  · have hbo := both_any A1 A2 c1 c2 B n1 n2 p1 p2 w hr1 hr2 hB hl1 hl2
    have HE0 : Hid (errV (bothE (lnsOf p1) (lnsOf p2)) = .iface 75 (.int .i64 (bothE (lnsOf p1) (lnsOf p2) : Nat))) := Lib.hid (by rw [errV, if_neg hE])
    have HM0 : Hid (mergeE (lnsOf p1) (lnsOf p2) = bothE (lnsOf p1) (lnsOf p2)) := Lib.hid (by
      have e : bothL (lnsOf p1) (lnsOf p2) = bothE (lnsOf p1) (lnsOf p2) := rfl
      rw [mergeE, e, if_pos hE])
    have HM1 : Hid (mergeO (lnsOf p1) (lnsOf p2) = []) := Lib.hid (by rw [mergeO, if_neg (by rw [HM0.out]; exact hE)])
    clear hE
    go_enter Tryd.func28, Tryd.ntmps28
    go_wp2_with (first
      | (go_at_call 54; go_must (refine hbo.mono ?_); rintro e w1 ⟨rfl, hb1⟩; rw [HE0.out]))
    go_ret2
    refine ⟨_, by rw [HM0.out, HE0.out]; rfl, ?_, hb1⟩
    rw [HM1.out]
    exact LnsAt.nil_ _
end Go.Proofs.YtelailhghhjleaaDoor
