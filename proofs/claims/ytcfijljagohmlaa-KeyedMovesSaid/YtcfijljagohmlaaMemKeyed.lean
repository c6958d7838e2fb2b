/- The states that a keyed.Keyed has, in memory. -/
import Derived.Test.YtcfijljagohmlaaProg
import Derived.Test.YtcfijljagohmlaaMapL
import Derived.Test.YtcfijljagohmlaaPlainKeyed
import Derived.DeepKeys4
import Derived.Deep.RegionLaw
namespace Go.Proofs.Ytcfijljagohmlaa
open Go.RowKit Go.Maps Go.WideMaps

theorem laidOutK : laidOutB Try.prog = true := by kernel_rfl
theorem rowAt : (97 : TypeId) < Try.prog.types.size := of_decide_eq_true (by kernel_rfl)
theorem wideAt : (match Try.prog.underlying 97 with | some (.array _ _) | some (.struct _) => true | _ => false) = true := by rw [Try.underlying97]
set_option maxRecDepth 100000 in
theorem kat : Keyed Try.prog 97 := Keyed.of_law (deep_law_laid laidOutK (m := 2) (by omega) rowAt (by kernel_rfl) wideAt)
/-- A node and a key as the map's key. -/
def atV (n : Int) (k : ByteArray) : Value := .agg #[.int .i64 n, .string k]
def klA (n : Int) (k : ByteArray) : Lit := .string (keyBytes [.int .i64 n, .string k.data.toList])
theorem i64_wf {n : Int} (h : i64ok n) : (Lit.int .i64 n).wf = true := WalkArith.wf_i64 (by unfold i64ok at h; omega)
theorem keyOf_at {n : Int} {k : ByteArray} (hn : i64ok n) (hk : k.size ≤ maxLen) : keyOf Try.prog 97 (.agg #[.int .i64 n, .string k]) = some (klA n k) := by
  have hn := i64_wf hn
  have e1 : Try.prog.keyType 97 = true := by kernel_rfl
  have hc : Try.prog.cellsOf 97 = 2 := by kernel_rfl
  have e2 : (Value.agg #[.int .i64 n, .string k]).formed Try.prog 97 = true := by
    simp [Value.formed, Try.underlying97, hc]
  have hs : Try.prog.cellsOf 9 = 1 := by kernel_rfl
  have hi' : Try.prog.cellsOf 3 = 1 := by kernel_rfl
  have hsz : ∃ m, Try.prog.types.size + 1 = m + 2 := ⟨196 - 1, by kernel_rfl⟩
  obtain ⟨m, hm⟩ := hsz
  unfold keyOf
  rw [Try.underlying97]
  simp only [e1, e2, Bool.and_self, if_true, hm]
  simp [klA, Program.keyLits, Value.cells, Try.underlying97, Try.underlying9, Try.underlying3, hc, hs, hi', hk, hn]
theorem klA_inj {n n' : Int} {k k' : ByteArray} (h1 : i64ok n) (h2 : k.size ≤ maxLen) (h1' : i64ok n') (h2' : k'.size ≤ maxLen) (h : klA n k = klA n' k') : n = n' ∧ k = k' := by
  have e := kat.inj (keyOf_at h1 h2) (by rw [h]; exact keyOf_at h1' h2')
  simp at e
  exact e
theorem ba_injK {a b : ByteArray} (h : a.data.toList = b.data.toList) : a = b := by
  have : a.data = b.data := Array.toList_inj.1 h
  cases a; cases b; simp at this; rw [this]
/-- How a state reads. -/
def hldD (e : Hld) : DataW Unit := .slice [.lit (.int .i64 e.node), .lit (.string e.key.data.toList), .lit (.int .i64 e.a), .lit (.int .i64 e.b)] []
def hldL (l : List Value) : Option (DataW Unit × List MemPlace) := match l with
  | [.int .i64 n, .string k, .int .i64 a, .int .i64 b] => some (hldD ⟨n, k, a, b⟩, [])
  | _ => none
def hldR (v : Value) : Option (DataW Unit × List MemPlace) := match v with
  | .agg a => hldL a.toList
  | _ => none
theorem hldR_mk (e : Hld) : hldR (.agg #[.int .i64 e.node, .string e.key, .int .i64 e.a, .int .i64 e.b]) = some (hldD e, []) := rfl
theorem hldL_inv {l : List Value} {y : DataW Unit × List MemPlace} (h : hldL l = some y) : ∃ e : Hld, l = [.int .i64 e.node, .string e.key, .int .i64 e.a, .int .i64 e.b] ∧ y = (hldD e, []) := by
  unfold hldL at h
  split at h
  · rename_i n k a b
    exact ⟨⟨n, k, a, b⟩, rfl, by injection h with h; exact h.symm⟩
  · cases h
theorem hldR_inv {v : Value} {y : DataW Unit × List MemPlace} (h : hldR v = some y) : ∃ e : Hld, v = .agg #[.int .i64 e.node, .string e.key, .int .i64 e.a, .int .i64 e.b] ∧ y = (hldD e, []) := by
  cases v with
  | agg a =>
    obtain ⟨e, h1, h2⟩ := hldL_inv h
    have : a = #[.int .i64 e.node, .string e.key, .int .i64 e.a, .int .i64 e.b] := Array.toList_inj.1 h1
    exact ⟨e, by rw [this], h2⟩
  | _ => cases h
theorem hldD_inj {a b : Hld} (h : hldD a = hldD b) : a = b := by
  unfold hldD at h
  injection h with h _
  injection h with h1 h
  injection h with h2 h
  injection h with h3 h
  injection h with h4 _
  injection h1 with h1
  injection h1 with _ h1
  injection h2 with h2
  injection h2 with h2
  injection h3 with h3
  injection h3 with _ h3
  injection h4 with h4
  injection h4 with _ h4
  cases a; cases b
  simp at h1 h2 h3 h4
  rw [h1, ba_injK (congrArg Array.toList h2), h3, h4]
theorem zhld (w : World) : (zeroValue 47).run Try.prog w = .ok (.agg #[.int .i64 0, .string ByteArray.empty, .int .i64 0, .int .i64 0]) w := by kernel_rfl
def hld0 : Hld := ⟨0, ByteArray.empty, 0, 0⟩
section
variable {P : Program} (w : World) {ops : Array Oper} {rest : List Oper} {o : Oper} {a : Act} {Q : Exit → Act → World → Prop}
theorem run_lookup_hld {t k e : TypeId} (K : Keyed P k) (ht : P.underlying t = some (.map k e)) (hz : (zeroValue e).run P w = .ok (.agg #[.int .i64 0, .string ByteArray.empty, .int .i64 0, .int .i64 0]) w) {b n : Nat} {D : DataW Unit}
    (hown : w.ownsMap P k hldR b n D) {key : Value} {kl : Lit} (hkey : keyOf P k key = some kl) :
    ∃ x : Hld, (Instr.lookup t (.map (some b)) key true).run P w = .ok (.tuple #[.agg #[.int .i64 x.node, .string x.key, .int .i64 x.a, .int .i64 x.b], .bool (Maps.has D kl)]) w ∧ D.atKey kl (hldD hld0) = hldD x := by
  obtain ⟨v, ps, hrun, hv⟩ := hown.look_ok K ht hz (zd := hldD hld0) (zp := []) rfl hkey
  obtain ⟨x, rfl, h2⟩ := hldR_inv hv
  injection h2 with h2 _
  exact ⟨x, hrun, h2⟩
theorem runs_lookup_hld {t k e : TypeId} (K : Keyed P k) (ht : P.underlying t = some (.map k e)) (hz : ∀ w, (zeroValue e).run P w = .ok (.agg #[.int .i64 0, .string ByteArray.empty, .int .i64 0, .int .i64 0]) w) {b n : Nat} {D : DataW Unit}
    (hown : w.ownsMap P k hldR b n D) {key : Value} {kl : Lit} (hkey : keyOf P k key = some kl) :
    ∃ x : Hld, D.atKey kl (hldD hld0) = hldD x ∧ ∀ W : World, W.heap[b]? = w.heap[b]? → (Instr.lookup t (.map (some b)) key true).run P W = .ok (.tuple #[.agg #[.int .i64 x.node, .string x.key, .int .i64 x.a, .int .i64 x.b], .bool (Maps.has D kl)]) W := by
  obtain ⟨x, _, hx⟩ := run_lookup_hld w K ht (hz w) hown hkey
  refine ⟨x, hx, fun W hW => ?_⟩
  obtain ⟨y, hrun, hy⟩ := run_lookup_hld W K ht (hz W) (own_map_same hown hW) hkey
  rw [hldD_inj (hx.symm.trans hy)]
  exact hrun
theorem wpList_lookup_hld (hg : o.guard = none) (m x : Operand) (t : TypeId) (hop : o.op = Op.lookup t m x true)
    (k e : TypeId) (K : Keyed P k) (ht : P.underlying t = some (.map k e)) (hz : (zeroValue e).run P w = .ok (.agg #[.int .i64 0, .string ByteArray.empty, .int .i64 0, .int .i64 0]) w) (b n : Nat) (D : DataW Unit)
    (hm : a.eval m = .map (some b)) (hown : w.ownsMap P k hldR b n D) (key : Value) (kl : Lit) (hx : a.eval x = key) (hkey : keyOf P k key = some kl)
    (hK : ∀ x : Hld, D.atKey kl (hldD hld0) = hldD x → wpList P ops Q rest (a.put o.dst (.tuple #[.agg #[.int .i64 x.node, .string x.key, .int .i64 x.a, .int .i64 x.b], .bool (Maps.has D kl)])) w) :
    wpList P ops Q (o :: rest) a w := by
  refine wpList_plain hg fun K' hK' => ?_
  obtain ⟨y, hrun, hy⟩ := run_lookup_hld w K ht hz hown hkey
  unfold Oper.wp
  simp [execOp, hop, hm, hx, hrun, Result.andThen]
  exact hK' _ _ (hK y hy)
theorem step_lookup_hld {Kc : Act → World → Prop} {F : Prop} (hg : o.guard = none) (m x : Operand) (t : TypeId) (hop : o.op = Op.lookup t m x true)
    (k e : TypeId) (K : Keyed P k) (ht : P.underlying t = some (.map k e)) (hz : (zeroValue e).run P w = .ok (.agg #[.int .i64 0, .string ByteArray.empty, .int .i64 0, .int .i64 0]) w) (b n : Nat) (D : DataW Unit)
    (hm : a.eval m = .map (some b)) (hown : w.ownsMap P k hldR b n D) (key : Value) (kl : Lit) (hx : a.eval x = key) (hkey : keyOf P k key = some kl)
    (hK : ∀ x : Hld, D.atKey kl (hldD hld0) = hldD x → Kc (a.put o.dst (.tuple #[.agg #[.int .i64 x.node, .string x.key, .int .i64 x.a, .int .i64 x.b], .bool (Maps.has D kl)])) w) :
    if Region.wanted o (yielded ops a.tmps) = true then Oper.wp P o a w Kc Q else F := by
  have hw : Region.wanted o (yielded ops a.tmps) = true := by simp [Region.wanted, hg]
  rw [if_pos hw]
  obtain ⟨y, hrun, hy⟩ := run_lookup_hld w K ht hz hown hkey
  unfold Oper.wp
  simp [execOp, hop, hm, hx, hrun, Result.andThen]
  exact hK y hy
end
def kfH (x : Hld) : Lit := klA x.node x.key
theorem kfH_lit (x : Hld) : WideAt.IsKeyLit (kfH x) := by trivial
/-- A Keyed at block g, its map at block M: it has the states S. -/
structure KIn (w : World) (g M : Nat) (S : List Hld) : Prop where
  blk : Blk w g 95 #[.map (some M)]
  own : ∃ D, w.ownsMap Try.prog 97 hldR M S.length D ∧ MapL kfH hldD D S
  rise : riseH S
  fine : ∀ x ∈ S, hldOk x = true ∧ x.Ok
section
variable {w w' : World} {g M : Nat} {S : List Hld}
theorem KIn.ltM (h : KIn w g M S) : M < w.heap.size := by obtain ⟨D, h1, _⟩ := h.own; exact h1.lt
theorem KIn.ltg (h : KIn w g M S) : g < w.heap.size := h.blk.lt
theorem KIn.same (h : KIn w g M S) (hg : w'.heap[g]? = w.heap[g]?) (hM : w'.heap[M]? = w.heap[M]?) : KIn w' g M S :=
  ⟨hg.trans h.blk, by obtain ⟨D, h1, h2⟩ := h.own; exact ⟨D, own_map_same h1 hM, h2⟩, h.rise, h.fine⟩
theorem KIn.up (h : KIn w g M S) (hb : Below w.heap.size w w') : KIn w' g M S := h.same (hb.block g h.ltg) (hb.block M h.ltM)
theorem KIn.grown (h : KIn w g M S) {row : Option Nat} (hb : w.grownBy w' row) (h1 : some g ≠ row) (h2 : some M ≠ row) : KIn w' g M S := h.same (hb.block g h.ltg h1) (hb.block M h.ltM h2)
theorem KIn.ne (h : KIn w g M S) : g ≠ M := by
  obtain ⟨D, ⟨es, cl, h1, _⟩, _⟩ := h.own
  rintro rfl
  have := h.blk.symm.trans h1
  cases this
theorem KIn.ne' (h : KIn w g M S) {g' M' : Nat} {S' : List Hld} (k : KIn w g' M' S') : g' ≠ M := by
  obtain ⟨D, ⟨es, cl, h1, _⟩, _⟩ := h.own
  rintro rfl
  have := k.blk.symm.trans h1
  cases this
end
/-- Is there a state at a node and key? -/
def hasH (n : Int) (k : ByteArray) (S : List Hld) : Bool := S.any fun x => decide (x.node = n ∧ x.key = k)
theorem hasH_iff {n : Int} {k : ByteArray} {S : List Hld} : hasH n k S = true ↔ ∃ x ∈ S, x.node = n ∧ x.key = k := by
  rw [hasH, List.any_eq_true]
  simp only [decide_eq_true_eq]
theorem hasH_no {n : Int} {k : ByteArray} {S : List Hld} (h : hasH n k S = false) : ∀ x ∈ S, ¬ (x.node = n ∧ x.key = k) := fun x hx e => by
  have := hasH_iff.2 ⟨x, hx, e⟩
  rw [h] at this; cases this
theorem hld_ok_key {x : Hld} (h : x.Ok) : i64ok x.node ∧ x.key.size ≤ maxLen := ⟨h.2.1, h.1⟩
theorem mapL_has {D : DataW Unit} {S : List Hld} (h : MapL kfH hldD D S) (hf : ∀ x ∈ S, x.Ok) {n : Int} {k : ByteArray} (hn : i64ok n) (hk : k.size ≤ maxLen) : Maps.has D (klA n k) = hasH n k S := by
  rcases hb : hasH n k S
  · refine h.not_has fun x hx e => hasH_no hb x hx ?_
    obtain ⟨h1, h2⟩ := hld_ok_key (hf x hx)
    exact klA_inj h1 h2 hn hk e
  · obtain ⟨x, hx, e1, e2⟩ := hasH_iff.1 hb
    have := h.there x hx
    rw [kfH, e1, e2] at this
    exact this
theorem off_is {S : List Hld} (hf : ∀ x ∈ S, x.Ok) {n : Int} {k : ByteArray} (hn : i64ok n) (hk : k.size ≤ maxLen) : offKey kfH (klA n k) S = offH n k S := by
  rw [offKey, offH]
  refine List.filter_congr fun x hx => ?_
  obtain ⟨h1, h2⟩ := hld_ok_key (hf x hx)
  congr 1
  by_cases e : x.node = n ∧ x.key = k
  · rw [decide_eq_true e, kfH, e.1, e.2]; exact WideAt.sameKey_self (by trivial)
  · rw [decide_eq_false e]
    exact sameKey_ne fun e2 => e (klA_inj h1 h2 hn hk e2)
/-- What comes of putting a state: the fault, and the states. -/
def putHE (S : List Hld) (h : Hld) : Nat := if hldOk h = false then 1 else if hasH h.node h.key S = false ∧ 400 ≤ S.length then 4 else 0
def putH (S : List Hld) (h : Hld) : List Hld := if putHE S h = 0 then hldPut h S else S
theorem putHE_bad {S : List Hld} {h : Hld} (hk : hldOk h = false) : putHE S h = 1 := by rw [putHE, if_pos hk]
theorem putHE_full {S : List Hld} {h : Hld} (hk : hldOk h = true) (h1 : hasH h.node h.key S = false) (h2 : 400 ≤ S.length) : putHE S h = 4 := by rw [putHE, if_neg (by simp [hk]), if_pos ⟨h1, h2⟩]
theorem putHE_good {S : List Hld} {h : Hld} (hk : hldOk h = true) (h1 : ¬ (hasH h.node h.key S = false ∧ 400 ≤ S.length)) : putHE S h = 0 := by rw [putHE, if_neg (by simp [hk]), if_neg h1]
theorem putH_same {S : List Hld} {h : Hld} {e : Nat} (he : putHE S h = e) (h0 : e ≠ 0) : putH S h = S := by rw [putH, if_neg (by omega)]
theorem putH_good {S : List Hld} {h : Hld} (he : putHE S h = 0) : putH S h = hldPut h S := by rw [putH, if_pos he]
theorem KIn.put {w w' : World} {g M n : Nat} {S : List Hld} {D : DataW Unit} (hk : KIn w g M S) {h : Hld} (hD : MapL kfH hldD D S) (hok : hldOk h = true) (ho : h.Ok)
    (hown : w'.ownsMap Try.prog 97 hldR M n (D.put (klA h.node h.key) (hldD h))) (hg : w.grownBy w' (some M)) : KIn w' g M (hldPut h S) := by
  have hf : ∀ x ∈ S, x.Ok := fun x hx => (hk.fine x hx).2
  obtain ⟨h1, h2⟩ := hld_ok_key ho
  have hm := hD.put (kf := kfH) h (by trivial)
  have hp := hldPut_perm (h := h) hk.rise
  have e : offKey kfH (kfH h) S = offH h.node h.key S := off_is hf h1 h2
  rw [e] at hm
  have hm2 := hm.perm hp.symm
  refine ⟨(hg.block g hk.ltg (fun e => hk.ne (by injection e))).trans hk.blk, ⟨_, ?_, hm2⟩, hldPut_rise hk.rise, fun x hx => ?_⟩
  · have := own_tight hown
    rw [show Maps.size (D.put (klA h.node h.key) (hldD h)) = _ from hm2.size] at this
    exact this
  · rcases hldPut_mem hk.rise hx with rfl | hx
    · exact ⟨hok, ho⟩
    · exact hk.fine x hx
theorem KIn.del {w w' : World} {g M n : Nat} {S : List Hld} {D : DataW Unit} (hk : KIn w g M S) {nd : Int} {ky : ByteArray} (hD : MapL kfH hldD D S) (h1 : i64ok nd) (h2 : ky.size ≤ maxLen)
    (hown : w'.ownsMap Try.prog 97 hldR M n (D.del (klA nd ky))) (hg : w.grownBy w' (some M)) : KIn w' g M (offH nd ky S) := by
  have hf : ∀ x ∈ S, x.Ok := fun x hx => (hk.fine x hx).2
  have hm := hD.del (kf := kfH) (klA nd ky) (by trivial)
  rw [off_is hf h1 h2] at hm
  refine ⟨(hg.block g hk.ltg (fun e => hk.ne (by injection e))).trans hk.blk, ⟨_, ?_, hm⟩, hk.rise.filter _, fun x hx => hk.fine x (mem_offH.1 hx).1⟩
  have := own_tight hown
  rw [hm.size] at this
  exact this
end Go.Proofs.Ytcfijljagohmlaa
