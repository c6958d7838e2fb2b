/- MapL MemKeyed in one text. -/
import Derived.Test.YtcfijljagohmlaaGreatDoorKeeps
import Derived.Maps.Own
import Derived.Maps.OwnOps
import Derived.Maps.OwnSet
import Derived.Maps.Views
import Derived.Maps.RangeWalk
import Derived.Test.YtcfijljagohmlaaGreatDoorProg
import Derived.Test.YtcfijljagohmlaaGreatDoorPlainKeyed
import Derived.DeepKeys4
import Derived.Deep.RegionLaw
/- A map in memory told by the list of what it holds, in any order: put, taken away, ranged over. No program in sight. -/
namespace Go.Proofs.YtcfijljagohmlaaGreatDoor
open Go.RowKit Go.Maps Go.WideMaps

section
variable {α : Type} (kf : α → Lit) (df : α → DataW Unit)
/-- The map's datum, and what it stands for: the key of each, and its datum. -/
structure MapL (D : DataW Unit) (L : List α) : Prop where
  tidy : Tidy D
  apart : L.Pairwise fun a b => kf a ≠ kf b
  at_ : ∀ x ∈ L, ∀ zd, D.atKey (kf x) zd = df x
  there : ∀ x ∈ L, Maps.has D (kf x) = true
  dom : ∀ kl, Maps.has D kl = true → ∃ x ∈ L, kl = kf x
  size : Maps.size D = L.length
end
section
variable {α : Type} {kf : α → Lit} {df : α → DataW Unit} {D : DataW Unit} {L L' : List α}
theorem MapL.start : MapL kf df (.map []) [] :=
  ⟨tidy_empty, .nil, (fun _ h => (List.not_mem_nil h).elim), (fun _ h => (List.not_mem_nil h).elim), (fun _ h => by cases h), rfl⟩
theorem MapL.perm (h : MapL kf df D L) (hp : L.Perm L') : MapL kf df D L' :=
  ⟨h.tidy, (hp.pairwise_iff (fun {a b} (h : kf a ≠ kf b) => h.symm)).1 h.apart, fun x hx => h.at_ x (hp.mem_iff.2 hx), fun x hx => h.there x (hp.mem_iff.2 hx), (fun kl hk => by
    obtain ⟨x, hx, e⟩ := h.dom kl hk
    exact ⟨x, hp.mem_iff.1 hx, e⟩), by rw [h.size, hp.length_eq]⟩
theorem MapL.not_has (h : MapL kf df D L) {kl : Lit} (hn : ∀ x ∈ L, kf x ≠ kl) : Maps.has D kl = false := by
  rcases hb : Maps.has D kl
  · rfl
  · obtain ⟨x, hx, e⟩ := h.dom kl hb
    exact absurd e.symm (hn x hx)
theorem MapL.one (h : MapL kf df D L) {x y : α} (hx : x ∈ L) (hy : y ∈ L) (e : kf x = kf y) : x = y := by
  have hp := h.apart
  clear h
  induction L with
  | nil => cases hx
  | cons z zs ih =>
    rw [List.pairwise_cons] at hp
    rcases List.mem_cons.1 hx with ex | hx2
    · rcases List.mem_cons.1 hy with ey | hy2
      · rw [ex, ey]
      · exact absurd (ex ▸ e) (hp.1 y hy2)
    · rcases List.mem_cons.1 hy with ey | hy2
      · exact absurd (ey ▸ e.symm) (hp.1 x hx2)
      · exact ih hx2 hy2 hp.2
/-- Those with another key. -/
def offKey (kf : α → Lit) (kl : Lit) (L : List α) : List α := L.filter fun z => !(kf z).sameKey kl
theorem mem_off {kl : Lit} (hk : WideAt.IsKeyLit kl) {z : α} : z ∈ offKey kf kl L ↔ z ∈ L ∧ kf z ≠ kl := by
  rw [offKey, List.mem_filter, Bool.not_eq_true']
  constructor
  · rintro ⟨h1, h2⟩
    exact ⟨h1, fun e => by rw [e, WideAt.sameKey_self hk] at h2; cases h2⟩
  · rintro ⟨h1, h2⟩
    exact ⟨h1, sameKey_ne h2⟩
theorem off_none {kl : Lit} (hn : ∀ x ∈ L, kf x ≠ kl) : offKey kf kl L = L := List.filter_eq_self.2 fun x hx => by rw [sameKey_ne (hn x hx)]; rfl
/-- 'm[k] = v'. -/
theorem MapL.put (h : MapL kf df D L) (y : α) (hk : WideAt.IsKeyLit (kf y)) : MapL kf df (D.put (kf y) (df y)) (y :: offKey kf (kf y) L) where
  tidy := h.tidy.put hk _
  apart := .cons (fun z hz e => ((mem_off hk).1 hz).2 e.symm) (h.apart.filter _)
  at_ := fun x hx zd => by
    rcases List.mem_cons.1 hx with rfl | hx
    · exact atKey_put_same h.tidy.isMap hk _ _
    · obtain ⟨h1, h2⟩ := (mem_off hk).1 hx
      rw [atKey_put_other h2]; exact h.at_ x h1 zd
  there := fun x hx => by
    rcases List.mem_cons.1 hx with rfl | hx
    · exact has_put_same h.tidy.isMap hk _
    · obtain ⟨h1, h2⟩ := (mem_off hk).1 hx
      rw [has_put_other h2]; exact h.there x h1
  dom := fun kl hkl => by
    by_cases e : kl = kf y
    · exact ⟨y, List.mem_cons_self, e⟩
    · rw [has_put_other e] at hkl
      obtain ⟨x, hx, e2⟩ := h.dom kl hkl
      exact ⟨x, List.mem_cons_of_mem _ ((mem_off hk).2 ⟨hx, fun e3 => e (e2.trans e3)⟩), e2⟩
  size := by
    rw [size_put h.tidy, h.size, List.length_cons]
    rcases hb : Maps.has D (kf y)
    · rw [off_none (fun x hx e => by rw [← e, h.there x hx] at hb; cases hb)]
      simp
    · obtain ⟨x, hx, e⟩ := h.dom _ hb
      obtain ⟨a, b, rfl⟩ := List.append_of_mem hx
      have hp := h.apart
      rw [List.pairwise_append, List.pairwise_cons] at hp
      obtain ⟨_, ⟨h2, _⟩, h3⟩ := hp
      have ea : offKey kf (kf y) a = a := off_none fun z hz e2 => h3 z hz x List.mem_cons_self (e2.trans e)
      have eb : offKey kf (kf y) b = b := off_none fun z hz e2 => h2 z hz (e.symm.trans e2.symm)
      have e4 : offKey kf (kf y) (a ++ x :: b) = a ++ b := by
        have : offKey kf (kf y) (a ++ x :: b) = offKey kf (kf y) a ++ offKey kf (kf y) b := by
          rw [offKey, List.filter_append, List.filter_cons, if_neg (by rw [← e, WideAt.sameKey_self hk]; simp)]; rfl
        rw [this, ea, eb]
      rw [e4]
      simp
      omega
/-- 'delete(m, k)'. -/
theorem MapL.del (h : MapL kf df D L) (kl : Lit) (hk : WideAt.IsKeyLit kl) : MapL kf df (D.del kl) (offKey kf kl L) where
  tidy := h.tidy.del kl
  apart := h.apart.filter _
  at_ := fun x hx zd => by
    obtain ⟨h1, h2⟩ := (mem_off hk).1 hx
    rw [atKey_del_other h2]; exact h.at_ x h1 zd
  there := fun x hx => by
    obtain ⟨h1, h2⟩ := (mem_off hk).1 hx
    rw [has_del_other h2]; exact h.there x h1
  dom := fun k' hk' => by
    by_cases e : k' = kl
    · rw [e, has_del_same] at hk'; cases hk'
    · rw [has_del_other e] at hk'
      obtain ⟨x, hx, e2⟩ := h.dom k' hk'
      exact ⟨x, (mem_off hk).2 ⟨hx, fun e3 => e (e2.trans e3)⟩, e2⟩
  size := by
    have h1 := size_del (k := kl) h.tidy
    rcases hb : Maps.has D kl
    · rw [hb] at h1
      rw [off_none (fun x hx e => by rw [← e, h.there x hx] at hb; cases hb)]
      simp at h1
      rw [h1, h.size]
    · rw [hb] at h1
      have h2 := (h.put (kf := kf))
      obtain ⟨x, hx, e⟩ := h.dom _ hb
      have h3 := (h.put x (by rw [← e]; exact hk)).size
      rw [size_put h.tidy, if_pos (h.there x hx), List.length_cons, ← e] at h3
      simp at h1
      omega
/-- What has come of the map so far: what is not wanted is left out. -/
structure CollL (kf : α → Lit) (L : List α) (f : α → Bool) (D : DataW Unit) (left : Lit → Bool) (O : List α) : Prop where
  has : ∀ kl, left kl = true → Maps.has D kl = true
  nd : O.Pairwise fun a b => kf a ≠ kf b
  sub : ∀ p ∈ O, p ∈ L ∧ f p = true
  on : ∀ p ∈ L, f p = true → left (kf p) = false → p ∈ O
  off : ∀ p ∈ O, left (kf p) = false
variable {O : List α} {f : α → Bool} {left : Lit → Bool}
theorem CollL.start (h : MapL kf df D L) : CollL kf L f D (Maps.has D) [] :=
  ⟨fun _ h => h, .nil, (fun p hp => by cases hp), (fun p hp _ hf => by rw [h.there p hp] at hf; cases hf), (fun p hp => by cases hp)⟩
theorem CollL.skip (h : MapL kf df D L) (c : CollL kf L f D left O) {p : α} (hp : p ∈ L) (hf : f p = false) : CollL kf L f D (fun z => left z && !z.sameKey (kf p)) O := by
  refine ⟨fun kl hk => c.has kl (by simp at hk; exact hk.1), c.nd, c.sub, fun q hq hfq hlq => ?_, fun q hq => ?_⟩
  · rcases hl : left (kf q) with _ | _
    · exact c.on q hq hfq hl
    · rw [hl, Bool.true_and] at hlq
      have hs : (kf q).sameKey (kf p) = true := by simpa using hlq
      have e := h.one hq hp (WideAt.sameKey_eq hs)
      rw [e, hf] at hfq; cases hfq
  · show (left _ && _) = false
    rw [c.off q hq]; rfl
theorem CollL.step (h : MapL kf df D L) (c : CollL kf L f D left O) {p : α} (hp : p ∈ L) (hf : f p = true) (hl : left (kf p) = true) (hk : WideAt.IsKeyLit (kf p)) : CollL kf L f D (fun z => left z && !z.sameKey (kf p)) (O ++ [p]) := by
  refine ⟨fun kl hk => c.has kl (by simp at hk; exact hk.1), ?_, fun q hq => ?_, fun q hq hfq hlq => ?_, fun q hq => ?_⟩
  · rw [List.pairwise_append]
    refine ⟨c.nd, List.pairwise_singleton _ _, fun a ha b hb e => ?_⟩
    rw [List.mem_singleton.1 hb] at e
    rw [← e, c.off a ha] at hl; cases hl
  · rcases List.mem_append.1 hq with hq | hq
    · exact c.sub q hq
    · rw [List.mem_singleton.1 hq]; exact ⟨hp, hf⟩
  · rcases hl2 : left (kf q) with _ | _
    · exact List.mem_append_left _ (c.on q hq hfq hl2)
    · rw [hl2, Bool.true_and] at hlq
      have hs : (kf q).sameKey (kf p) = true := by simpa using hlq
      rw [h.one hq hp (WideAt.sameKey_eq hs)]
      exact List.mem_append_right _ (List.mem_singleton.2 rfl)
  · rcases List.mem_append.1 hq with hq | hq
    · show (left _ && _) = false
      rw [c.off q hq]; rfl
    · rw [List.mem_singleton.1 hq]
      show (left _ && !_) = false
      rw [WideAt.sameKey_self hk, Bool.not_true, Bool.and_false]
theorem nodup_of_apart : ∀ {l : List α}, (l.Pairwise fun a b => kf a ≠ kf b) → l.Nodup := fun h => List.Pairwise.imp (fun {a b} (h : kf a ≠ kf b) (e : a = b) => h (by rw [e])) h
theorem CollL.done (h : MapL kf df D L) (c : CollL kf L f D left O) (hl : ∀ kl, left kl = false) : O.Perm (L.filter f) :=
  (List.perm_ext_iff_of_nodup (nodup_of_apart c.nd) ((nodup_of_apart h.apart).filter _)).2 fun p => ⟨fun hp => List.mem_filter.2 (c.sub p hp), fun hp => c.on p (List.mem_filter.1 hp).1 (List.mem_filter.1 hp).2 (hl _)⟩
theorem nodup_lenL {α : Type} : ∀ {O P : List α}, O.Nodup → (∀ p ∈ O, p ∈ P) → O.length ≤ P.length := by
  intro O
  induction O with
  | nil => intro P _ _; exact Nat.zero_le _
  | cons x xs ih =>
    intro P nd sub
    obtain ⟨a, b, rfl⟩ := List.append_of_mem (sub x List.mem_cons_self)
    rw [List.nodup_cons] at nd
    have := ih (P := a ++ b) nd.2 fun p hp => by
      rcases List.mem_append.1 (sub p (List.mem_cons_of_mem _ hp)) with h | h
      · exact List.mem_append_left _ h
      · rcases List.mem_cons.1 h with h | h
        · exact absurd (h ▸ hp) nd.1
        · exact List.mem_append_right _ h
    simp at this ⊢
    omega
theorem CollL.few (c : CollL kf L f D left O) : O.length ≤ L.length := nodup_lenL (nodup_of_apart c.nd) (fun p hp => (c.sub p hp).1)
/-- The bound on a map's entries is how many there are. -/
theorem own_tight {P : Program} {k : TypeId} {R : Value → Option (DataW Unit × List MemPlace)} {w : World} {b n : Nat} (h : w.ownsMap P k R b n D) : w.ownsMap P k R b (Maps.size D) D := by
  obtain ⟨es, clock, hb, F, hs, rfl⟩ := h
  exact ⟨es, clock, hb, F, by simp [Maps.size, length_sorted], rfl⟩
theorem own_up_map {P : Program} {k : TypeId} {R : Value → Option (DataW Unit × List MemPlace)} {w w' : World} {b n : Nat} (h : w.ownsMap P k R b n D) (hb : Below w.heap.size w w') : w'.ownsMap P k R b n D :=
  h.kept (row := none) ⟨hb.os, hb.tape, hb.output, hb.size, fun k hk _ => hb.block k hk⟩ (by simp)
theorem up_grown {w w' : World} (hb : Below w.heap.size w w') (row : Option Nat) : w.grownBy w' row := ⟨hb.os, hb.tape, hb.output, hb.size, fun k hk _ => hb.block k hk⟩
theorem own_map_same {P : Program} {k : TypeId} {R : Value → Option (DataW Unit × List MemPlace)} {w w' : World} {b n : Nat} (h : w.ownsMap P k R b n D) (hb : w'.heap[b]? = w.heap[b]?) : w'.ownsMap P k R b n D := by
  obtain ⟨es, clock, h1, rest⟩ := h
  exact ⟨es, clock, hb.trans h1, rest⟩
end
theorem map_cell_at {P : Program} {k : TypeId} {R : Value → Option (DataW Unit × List MemPlace)} {a b : World} {M n : Nat} {D : DataW Unit} (hM : a.ownsMap P k R M n D) (h : a.grownBy b (some M)) {p : Addr} {u : Value} (hc : a.cell? p = some u) : b.cell? p = some u := by
  obtain ⟨es, cl, hM, _⟩ := hM
  have hne : p.block ≠ M := by
    intro e
    unfold World.cell? at hc
    rw [e, hM] at hc
    cases hc
  have hlt : p.block < a.heap.size := by
    apply Classical.byContradiction
    intro hn
    unfold World.cell? at hc
    rw [Array.getElem?_eq_none (by omega)] at hc
    cases hc
  have hb := h.block p.block hlt (fun e => hne (by injection e))
  unfold World.cell? at hc ⊢
  rw [hb]; exact hc
theorem Rd.map_ {P : Program} {k : TypeId} {R : Value → Option (DataW Unit × List MemPlace)} {a b : World} {M n B size m : Nat} {D : DataW Unit} {A : Option Addr} {xs : List Value} (hr : Rd a B size A m xs) (hM : a.ownsMap P k R M n D) (h : a.grownBy b (some M)) : Rd b B size A m xs :=
  ⟨hr.1, fun hn => by
    obtain ⟨ad, e, hb, hc⟩ := hr.2 hn
    exact ⟨ad, e, hb, fun j u hu => map_cell_at hM h (hc j u hu)⟩⟩
/-- 'len(m)' under a guard that holds. -/
theorem wpList_len_wanted {H : Type} {P : Program} (w : World) {ops : Array Oper} {rest : List Oper} {o : Oper} {a : Act} {Q : Exit → Act → World → Prop} (hw : Region.wanted o (yielded ops a.tmps) = true) (m : Operand) (t : TypeId) (hop : o.op = Op.call { callee := Callee.builtin Builtin.len, args := #[m], argTypes := #[t] })
    (k e : TypeId) (ht : P.underlying t = some (.map k e)) (R : Value → Option (DataW H × List MemPlace)) (b n : Nat) (D : DataW H) (hm : a.eval m = .map (some b)) (hown : w.ownsMap P k R b n D)
    (hK : wpList P ops Q rest (a.put o.dst (.int .i64 (Maps.size D))) w) :
    wpList P ops Q (o :: rest) a w := by
  refine wpList_step fun K' hK' => ?_
  rw [if_pos hw]
  unfold Oper.wp
  simp [execOp, hop, resolve, invoke, builtin, hm, hown.len ht o.type, Result.andThen]
  exact hK' _ _ hK
end Go.Proofs.YtcfijljagohmlaaGreatDoor

/- The states that a keyed.Keyed has, in memory. -/
namespace Go.Proofs.YtcfijljagohmlaaGreatDoor
open Go.RowKit Go.Maps Go.WideMaps

theorem laidOutK : laidOutB Tryz.prog = true := by kernel_rfl
theorem rowAt : (97 : TypeId) < Tryz.prog.types.size := of_decide_eq_true (by kernel_rfl)
theorem wideAt : (match Tryz.prog.underlying 97 with | some (.array _ _) | some (.struct _) => true | _ => false) = true := by rw [Tryz.underlying97]
set_option maxRecDepth 100000 in
theorem kat : Keyed Tryz.prog 97 := Keyed.of_law (deep_law_laid laidOutK (m := 2) (by omega) rowAt (by kernel_rfl) wideAt)
/-- A node and a key as the map's key. -/
def atV (n : Int) (k : ByteArray) : Value := .agg #[.int .i64 n, .string k]
def klA (n : Int) (k : ByteArray) : Lit := .string (keyBytes [.int .i64 n, .string k.data.toList])
theorem i64_wf {n : Int} (h : i64ok n) : (Lit.int .i64 n).wf = true := WalkArith.wf_i64 (by unfold i64ok at h; omega)
theorem keyOf_at {n : Int} {k : ByteArray} (hn : i64ok n) (hk : k.size ≤ maxLen) : keyOf Tryz.prog 97 (.agg #[.int .i64 n, .string k]) = some (klA n k) := by
  have hn := i64_wf hn
  have e1 : Tryz.prog.keyType 97 = true := by kernel_rfl
  have hc : Tryz.prog.cellsOf 97 = 2 := by kernel_rfl
  have e2 : (Value.agg #[.int .i64 n, .string k]).formed Tryz.prog 97 = true := by
    simp [Value.formed, Tryz.underlying97, hc]
  have hs : Tryz.prog.cellsOf 9 = 1 := by kernel_rfl
  have hi' : Tryz.prog.cellsOf 3 = 1 := by kernel_rfl
  have hsz : ∃ m, Tryz.prog.types.size + 1 = m + 2 := ⟨260 - 1, by kernel_rfl⟩
  obtain ⟨m, hm⟩ := hsz
  unfold keyOf
  rw [Tryz.underlying97]
  simp only [e1, e2, Bool.and_self, if_true, hm]
  simp [klA, Program.keyLits, Value.cells, Tryz.underlying97, Tryz.underlying9, Tryz.underlying3, hc, hs, hi', hk, hn]
theorem klA_inj {n n' : Int} {k k' : ByteArray} (h1 : i64ok n) (h2 : k.size ≤ maxLen) (h1' : i64ok n') (h2' : k'.size ≤ maxLen) (h : klA n k = klA n' k') : n = n' ∧ k = k' := by
  have e := kat.inj (keyOf_at h1 h2) (by rw [h]; exact keyOf_at h1' h2')
  simp at e
  exact e
theorem ba_injK {a b : ByteArray} (h : a.data.toList = b.data.toList) : a = b := by
  have : a.data = b.data := Array.toList_inj.1 h
  cases a; cases b; simp at this; rw [this]
/-- How a state reads. -/
def hldD (e : Hld) : DataW Unit := .slice [.lit (.int .i64 e.node), .lit (.string e.key.data.toList), .lit (.int .i64 e.a), .lit (.int .i64 e.b)] []
def hldL (l : List Value) : Option (DataW Unit × List MemPlace) := match l with
  | [.int .i64 n, .string k, .int .i64 a, .int .i64 b] => some (hldD ⟨n, k, a, b⟩, [])
  | _ => none
def hldR (v : Value) : Option (DataW Unit × List MemPlace) := match v with
  | .agg a => hldL a.toList
  | _ => none
theorem hldR_mk (e : Hld) : hldR (.agg #[.int .i64 e.node, .string e.key, .int .i64 e.a, .int .i64 e.b]) = some (hldD e, []) := rfl
theorem hldL_inv {l : List Value} {y : DataW Unit × List MemPlace} (h : hldL l = some y) : ∃ e : Hld, l = [.int .i64 e.node, .string e.key, .int .i64 e.a, .int .i64 e.b] ∧ y = (hldD e, []) := by
  unfold hldL at h
  split at h
  · rename_i n k a b
    exact ⟨⟨n, k, a, b⟩, rfl, by injection h with h; exact h.symm⟩
  · cases h
theorem hldR_inv {v : Value} {y : DataW Unit × List MemPlace} (h : hldR v = some y) : ∃ e : Hld, v = .agg #[.int .i64 e.node, .string e.key, .int .i64 e.a, .int .i64 e.b] ∧ y = (hldD e, []) := by
  cases v with
  | agg a =>
    obtain ⟨e, h1, h2⟩ := hldL_inv h
    have : a = #[.int .i64 e.node, .string e.key, .int .i64 e.a, .int .i64 e.b] := Array.toList_inj.1 h1
    exact ⟨e, by rw [this], h2⟩
  | _ => cases h
theorem hldD_inj {a b : Hld} (h : hldD a = hldD b) : a = b := by
  unfold hldD at h
  injection h with h _
  injection h with h1 h
  injection h with h2 h
  injection h with h3 h
  injection h with h4 _
  injection h1 with h1
  injection h1 with _ h1
  injection h2 with h2
  injection h2 with h2
  injection h3 with h3
  injection h3 with _ h3
  injection h4 with h4
  injection h4 with _ h4
  cases a; cases b
  simp at h1 h2 h3 h4
  rw [h1, ba_injK (congrArg Array.toList h2), h3, h4]
theorem zhld (w : World) : (zeroValue 29).run Tryz.prog w = .ok (.agg #[.int .i64 0, .string ByteArray.empty, .int .i64 0, .int .i64 0]) w := by kernel_rfl
def hld0 : Hld := ⟨0, ByteArray.empty, 0, 0⟩
section
variable {P : Program} (w : World) {ops : Array Oper} {rest : List Oper} {o : Oper} {a : Act} {Q : Exit → Act → World → Prop}
theorem run_lookup_hld {t k e : TypeId} (K : Keyed P k) (ht : P.underlying t = some (.map k e)) (hz : (zeroValue e).run P w = .ok (.agg #[.int .i64 0, .string ByteArray.empty, .int .i64 0, .int .i64 0]) w) {b n : Nat} {D : DataW Unit}
    (hown : w.ownsMap P k hldR b n D) {key : Value} {kl : Lit} (hkey : keyOf P k key = some kl) :
    ∃ x : Hld, (Instr.lookup t (.map (some b)) key true).run P w = .ok (.tuple #[.agg #[.int .i64 x.node, .string x.key, .int .i64 x.a, .int .i64 x.b], .bool (Maps.has D kl)]) w ∧ D.atKey kl (hldD hld0) = hldD x := by
  obtain ⟨v, ps, hrun, hv⟩ := hown.look_ok K ht hz (zd := hldD hld0) (zp := []) rfl hkey
  obtain ⟨x, rfl, h2⟩ := hldR_inv hv
  injection h2 with h2 _
  exact ⟨x, hrun, h2⟩
theorem runs_lookup_hld {t k e : TypeId} (K : Keyed P k) (ht : P.underlying t = some (.map k e)) (hz : ∀ w, (zeroValue e).run P w = .ok (.agg #[.int .i64 0, .string ByteArray.empty, .int .i64 0, .int .i64 0]) w) {b n : Nat} {D : DataW Unit}
    (hown : w.ownsMap P k hldR b n D) {key : Value} {kl : Lit} (hkey : keyOf P k key = some kl) :
    ∃ x : Hld, D.atKey kl (hldD hld0) = hldD x ∧ ∀ W : World, W.heap[b]? = w.heap[b]? → (Instr.lookup t (.map (some b)) key true).run P W = .ok (.tuple #[.agg #[.int .i64 x.node, .string x.key, .int .i64 x.a, .int .i64 x.b], .bool (Maps.has D kl)]) W := by
  obtain ⟨x, _, hx⟩ := run_lookup_hld w K ht (hz w) hown hkey
  refine ⟨x, hx, fun W hW => ?_⟩
  obtain ⟨y, hrun, hy⟩ := run_lookup_hld W K ht (hz W) (own_map_same hown hW) hkey
  rw [hldD_inj (hx.symm.trans hy)]
  exact hrun
theorem wpList_lookup_hld (hg : o.guard = none) (m x : Operand) (t : TypeId) (hop : o.op = Op.lookup t m x true)
    (k e : TypeId) (K : Keyed P k) (ht : P.underlying t = some (.map k e)) (hz : (zeroValue e).run P w = .ok (.agg #[.int .i64 0, .string ByteArray.empty, .int .i64 0, .int .i64 0]) w) (b n : Nat) (D : DataW Unit)
    (hm : a.eval m = .map (some b)) (hown : w.ownsMap P k hldR b n D) (key : Value) (kl : Lit) (hx : a.eval x = key) (hkey : keyOf P k key = some kl)
    (hK : ∀ x : Hld, D.atKey kl (hldD hld0) = hldD x → wpList P ops Q rest (a.put o.dst (.tuple #[.agg #[.int .i64 x.node, .string x.key, .int .i64 x.a, .int .i64 x.b], .bool (Maps.has D kl)])) w) :
    wpList P ops Q (o :: rest) a w := by
  refine wpList_plain hg fun K' hK' => ?_
  obtain ⟨y, hrun, hy⟩ := run_lookup_hld w K ht hz hown hkey
  unfold Oper.wp
  simp [execOp, hop, hm, hx, hrun, Result.andThen]
  exact hK' _ _ (hK y hy)
theorem step_lookup_hld {Kc : Act → World → Prop} {F : Prop} (hg : o.guard = none) (m x : Operand) (t : TypeId) (hop : o.op = Op.lookup t m x true)
    (k e : TypeId) (K : Keyed P k) (ht : P.underlying t = some (.map k e)) (hz : (zeroValue e).run P w = .ok (.agg #[.int .i64 0, .string ByteArray.empty, .int .i64 0, .int .i64 0]) w) (b n : Nat) (D : DataW Unit)
    (hm : a.eval m = .map (some b)) (hown : w.ownsMap P k hldR b n D) (key : Value) (kl : Lit) (hx : a.eval x = key) (hkey : keyOf P k key = some kl)
    (hK : ∀ x : Hld, D.atKey kl (hldD hld0) = hldD x → Kc (a.put o.dst (.tuple #[.agg #[.int .i64 x.node, .string x.key, .int .i64 x.a, .int .i64 x.b], .bool (Maps.has D kl)])) w) :
    if Region.wanted o (yielded ops a.tmps) = true then Oper.wp P o a w Kc Q else F := by
  have hw : Region.wanted o (yielded ops a.tmps) = true := by simp [Region.wanted, hg]
  rw [if_pos hw]
  obtain ⟨y, hrun, hy⟩ := run_lookup_hld w K ht hz hown hkey
  unfold Oper.wp
  simp [execOp, hop, hm, hx, hrun, Result.andThen]
  exact hK y hy
end
def kfH (x : Hld) : Lit := klA x.node x.key
theorem kfH_lit (x : Hld) : WideAt.IsKeyLit (kfH x) := by trivial
/-- A Keyed at block g, its map at block M: it has the states S. -/
structure KIn (w : World) (g M : Nat) (S : List Hld) : Prop where
  blk : Blk w g 95 #[.map (some M)]
  own : ∃ D, w.ownsMap Tryz.prog 97 hldR M S.length D ∧ MapL kfH hldD D S
  rise : riseH S
  fine : ∀ x ∈ S, hldOk x = true ∧ x.Ok
section
variable {w w' : World} {g M : Nat} {S : List Hld}
theorem KIn.ltM (h : KIn w g M S) : M < w.heap.size := by obtain ⟨D, h1, _⟩ := h.own; exact h1.lt
theorem KIn.ltg (h : KIn w g M S) : g < w.heap.size := h.blk.lt
theorem KIn.same (h : KIn w g M S) (hg : w'.heap[g]? = w.heap[g]?) (hM : w'.heap[M]? = w.heap[M]?) : KIn w' g M S :=
  ⟨hg.trans h.blk, by obtain ⟨D, h1, h2⟩ := h.own; exact ⟨D, own_map_same h1 hM, h2⟩, h.rise, h.fine⟩
theorem KIn.up (h : KIn w g M S) (hb : Below w.heap.size w w') : KIn w' g M S := h.same (hb.block g h.ltg) (hb.block M h.ltM)
theorem KIn.grown (h : KIn w g M S) {row : Option Nat} (hb : w.grownBy w' row) (h1 : some g ≠ row) (h2 : some M ≠ row) : KIn w' g M S := h.same (hb.block g h.ltg h1) (hb.block M h.ltM h2)
theorem KIn.ne (h : KIn w g M S) : g ≠ M := by
  obtain ⟨D, ⟨es, cl, h1, _⟩, _⟩ := h.own
  rintro rfl
  have := h.blk.symm.trans h1
  cases this
theorem KIn.ne' (h : KIn w g M S) {g' M' : Nat} {S' : List Hld} (k : KIn w g' M' S') : g' ≠ M := by
  obtain ⟨D, ⟨es, cl, h1, _⟩, _⟩ := h.own
  rintro rfl
  have := k.blk.symm.trans h1
  cases this
end
/-- Is there a state at a node and key? -/
def hasH (n : Int) (k : ByteArray) (S : List Hld) : Bool := S.any fun x => decide (x.node = n ∧ x.key = k)
theorem hasH_iff {n : Int} {k : ByteArray} {S : List Hld} : hasH n k S = true ↔ ∃ x ∈ S, x.node = n ∧ x.key = k := by
  rw [hasH, List.any_eq_true]
  simp only [decide_eq_true_eq]
theorem hasH_no {n : Int} {k : ByteArray} {S : List Hld} (h : hasH n k S = false) : ∀ x ∈ S, ¬ (x.node = n ∧ x.key = k) := fun x hx e => by
  have := hasH_iff.2 ⟨x, hx, e⟩
  rw [h] at this; cases this
theorem hld_ok_key {x : Hld} (h : x.Ok) : i64ok x.node ∧ x.key.size ≤ maxLen := ⟨h.2.1, h.1⟩
theorem mapL_has {D : DataW Unit} {S : List Hld} (h : MapL kfH hldD D S) (hf : ∀ x ∈ S, x.Ok) {n : Int} {k : ByteArray} (hn : i64ok n) (hk : k.size ≤ maxLen) : Maps.has D (klA n k) = hasH n k S := by
  rcases hb : hasH n k S
  · refine h.not_has fun x hx e => hasH_no hb x hx ?_
    obtain ⟨h1, h2⟩ := hld_ok_key (hf x hx)
    exact klA_inj h1 h2 hn hk e
  · obtain ⟨x, hx, e1, e2⟩ := hasH_iff.1 hb
    have := h.there x hx
    rw [kfH, e1, e2] at this
    exact this
theorem off_is {S : List Hld} (hf : ∀ x ∈ S, x.Ok) {n : Int} {k : ByteArray} (hn : i64ok n) (hk : k.size ≤ maxLen) : offKey kfH (klA n k) S = offH n k S := by
  rw [offKey, offH]
  refine List.filter_congr fun x hx => ?_
  obtain ⟨h1, h2⟩ := hld_ok_key (hf x hx)
  congr 1
  by_cases e : x.node = n ∧ x.key = k
  · rw [decide_eq_true e, kfH, e.1, e.2]; exact WideAt.sameKey_self (by trivial)
  · rw [decide_eq_false e]
    exact sameKey_ne fun e2 => e (klA_inj h1 h2 hn hk e2)
/-- What comes of putting a state: the fault, and the states. -/
def putHE (S : List Hld) (h : Hld) : Nat := if hldOk h = false then 1 else if hasH h.node h.key S = false ∧ 400 ≤ S.length then 4 else 0
def putH (S : List Hld) (h : Hld) : List Hld := if putHE S h = 0 then hldPut h S else S
theorem putHE_bad {S : List Hld} {h : Hld} (hk : hldOk h = false) : putHE S h = 1 := by rw [putHE, if_pos hk]
theorem putHE_full {S : List Hld} {h : Hld} (hk : hldOk h = true) (h1 : hasH h.node h.key S = false) (h2 : 400 ≤ S.length) : putHE S h = 4 := by rw [putHE, if_neg (by simp [hk]), if_pos ⟨h1, h2⟩]
theorem putHE_good {S : List Hld} {h : Hld} (hk : hldOk h = true) (h1 : ¬ (hasH h.node h.key S = false ∧ 400 ≤ S.length)) : putHE S h = 0 := by rw [putHE, if_neg (by simp [hk]), if_neg h1]
theorem putH_same {S : List Hld} {h : Hld} {e : Nat} (he : putHE S h = e) (h0 : e ≠ 0) : putH S h = S := by rw [putH, if_neg (by omega)]
theorem putH_good {S : List Hld} {h : Hld} (he : putHE S h = 0) : putH S h = hldPut h S := by rw [putH, if_pos he]
theorem KIn.put {w w' : World} {g M n : Nat} {S : List Hld} {D : DataW Unit} (hk : KIn w g M S) {h : Hld} (hD : MapL kfH hldD D S) (hok : hldOk h = true) (ho : h.Ok)
    (hown : w'.ownsMap Tryz.prog 97 hldR M n (D.put (klA h.node h.key) (hldD h))) (hg : w.grownBy w' (some M)) : KIn w' g M (hldPut h S) := by
  have hf : ∀ x ∈ S, x.Ok := fun x hx => (hk.fine x hx).2
  obtain ⟨h1, h2⟩ := hld_ok_key ho
  have hm := hD.put (kf := kfH) h (by trivial)
  have hp := hldPut_perm (h := h) hk.rise
  have e : offKey kfH (kfH h) S = offH h.node h.key S := off_is hf h1 h2
  rw [e] at hm
  have hm2 := hm.perm hp.symm
  refine ⟨(hg.block g hk.ltg (fun e => hk.ne (by injection e))).trans hk.blk, ⟨_, ?_, hm2⟩, hldPut_rise hk.rise, fun x hx => ?_⟩
  · have := own_tight hown
    rw [show Maps.size (D.put (klA h.node h.key) (hldD h)) = _ from hm2.size] at this
    exact this
  · rcases hldPut_mem hk.rise hx with rfl | hx
    · exact ⟨hok, ho⟩
    · exact hk.fine x hx
theorem KIn.del {w w' : World} {g M n : Nat} {S : List Hld} {D : DataW Unit} (hk : KIn w g M S) {nd : Int} {ky : ByteArray} (hD : MapL kfH hldD D S) (h1 : i64ok nd) (h2 : ky.size ≤ maxLen)
    (hown : w'.ownsMap Tryz.prog 97 hldR M n (D.del (klA nd ky))) (hg : w.grownBy w' (some M)) : KIn w' g M (offH nd ky S) := by
  have hf : ∀ x ∈ S, x.Ok := fun x hx => (hk.fine x hx).2
  have hm := hD.del (kf := kfH) (klA nd ky) (by trivial)
  rw [off_is hf h1 h2] at hm
  refine ⟨(hg.block g hk.ltg (fun e => hk.ne (by injection e))).trans hk.blk, ⟨_, ?_, hm⟩, hk.rise.filter _, fun x hx => hk.fine x (mem_offH.1 hx).1⟩
  have := own_tight hown
  rw [hm.size] at this
  exact this
end Go.Proofs.YtcfijljagohmlaaGreatDoor
