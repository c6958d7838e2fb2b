/- MapL KeepF in one text. -/
import Derived.Test.YtmeemcafjebanaaGreatDoorKeeps
import Derived.Maps.Own
import Derived.Maps.OwnOps
import Derived.Maps.OwnSet
import Derived.Maps.Views
import Derived.Maps.RangeWalk
import Derived.Deep.RegionLaw
import Derived.Test.YtmeemcafjebanaaGreatDoorBase2
/- A map in memory told by the list of what it holds, in any order: put, taken away, ranged over. No program in sight. -/
namespace Go.Proofs.YtmeemcafjebanaaGreatDoor
open Go.RowKit Go.Maps Go.WideMaps

section
variable {α : Type} (kf : α → Lit) (df : α → DataW Unit)
/-- The map's datum, and what it stands for: the key of each, and its datum. -/
structure MapL (D : DataW Unit) (L : List α) : Prop where
  tidy : Tidy D
  apart : L.Pairwise fun a b => kf a ≠ kf b
  at_ : ∀ x ∈ L, ∀ zd, D.atKey (kf x) zd = df x
  there : ∀ x ∈ L, Maps.has D (kf x) = true
  dom : ∀ kl, Maps.has D kl = true → ∃ x ∈ L, kl = kf x
  size : Maps.size D = L.length
end
section
variable {α : Type} {kf : α → Lit} {df : α → DataW Unit} {D : DataW Unit} {L L' : List α}
theorem MapL.start : MapL kf df (.map []) [] :=
  ⟨tidy_empty, .nil, (fun _ h => (List.not_mem_nil h).elim), (fun _ h => (List.not_mem_nil h).elim), (fun _ h => by cases h), rfl⟩
theorem MapL.perm (h : MapL kf df D L) (hp : L.Perm L') : MapL kf df D L' :=
  ⟨h.tidy, (hp.pairwise_iff (fun {a b} (h : kf a ≠ kf b) => h.symm)).1 h.apart, fun x hx => h.at_ x (hp.mem_iff.2 hx), fun x hx => h.there x (hp.mem_iff.2 hx), (fun kl hk => by
    obtain ⟨x, hx, e⟩ := h.dom kl hk
    exact ⟨x, hp.mem_iff.1 hx, e⟩), by rw [h.size, hp.length_eq]⟩
theorem MapL.not_has (h : MapL kf df D L) {kl : Lit} (hn : ∀ x ∈ L, kf x ≠ kl) : Maps.has D kl = false := by
  rcases hb : Maps.has D kl
  · rfl
  · obtain ⟨x, hx, e⟩ := h.dom kl hb
    exact absurd e.symm (hn x hx)
theorem MapL.one (h : MapL kf df D L) {x y : α} (hx : x ∈ L) (hy : y ∈ L) (e : kf x = kf y) : x = y := by
  have hp := h.apart
  clear h
  induction L with
  | nil => cases hx
  | cons z zs ih =>
    rw [List.pairwise_cons] at hp
    rcases List.mem_cons.1 hx with ex | hx2
    · rcases List.mem_cons.1 hy with ey | hy2
      · rw [ex, ey]
      · exact absurd (ex ▸ e) (hp.1 y hy2)
    · rcases List.mem_cons.1 hy with ey | hy2
      · exact absurd (ey ▸ e.symm) (hp.1 x hx2)
      · exact ih hx2 hy2 hp.2
/-- Those with another key. -/
def offKey (kf : α → Lit) (kl : Lit) (L : List α) : List α := L.filter fun z => !(kf z).sameKey kl
theorem mem_off {kl : Lit} (hk : WideAt.IsKeyLit kl) {z : α} : z ∈ offKey kf kl L ↔ z ∈ L ∧ kf z ≠ kl := by
  rw [offKey, List.mem_filter, Bool.not_eq_true']
  constructor
  · rintro ⟨h1, h2⟩
    exact ⟨h1, fun e => by rw [e, WideAt.sameKey_self hk] at h2; cases h2⟩
  · rintro ⟨h1, h2⟩
    exact ⟨h1, sameKey_ne h2⟩
theorem off_none {kl : Lit} (hn : ∀ x ∈ L, kf x ≠ kl) : offKey kf kl L = L := List.filter_eq_self.2 fun x hx => by rw [sameKey_ne (hn x hx)]; rfl
/-- 'm[k] = v'. -/
theorem MapL.put (h : MapL kf df D L) (y : α) (hk : WideAt.IsKeyLit (kf y)) : MapL kf df (D.put (kf y) (df y)) (y :: offKey kf (kf y) L) where
  tidy := h.tidy.put hk _
  apart := .cons (fun z hz e => ((mem_off hk).1 hz).2 e.symm) (h.apart.filter _)
  at_ := fun x hx zd => by
    rcases List.mem_cons.1 hx with rfl | hx
    · exact atKey_put_same h.tidy.isMap hk _ _
    · obtain ⟨h1, h2⟩ := (mem_off hk).1 hx
      rw [atKey_put_other h2]; exact h.at_ x h1 zd
  there := fun x hx => by
    rcases List.mem_cons.1 hx with rfl | hx
    · exact has_put_same h.tidy.isMap hk _
    · obtain ⟨h1, h2⟩ := (mem_off hk).1 hx
      rw [has_put_other h2]; exact h.there x h1
  dom := fun kl hkl => by
    by_cases e : kl = kf y
    · exact ⟨y, List.mem_cons_self, e⟩
    · rw [has_put_other e] at hkl
      obtain ⟨x, hx, e2⟩ := h.dom kl hkl
      exact ⟨x, List.mem_cons_of_mem _ ((mem_off hk).2 ⟨hx, fun e3 => e (e2.trans e3)⟩), e2⟩
  size := by
    rw [size_put h.tidy, h.size, List.length_cons]
    rcases hb : Maps.has D (kf y)
    · rw [off_none (fun x hx e => by rw [← e, h.there x hx] at hb; cases hb)]
      simp
    · obtain ⟨x, hx, e⟩ := h.dom _ hb
      obtain ⟨a, b, rfl⟩ := List.append_of_mem hx
      have hp := h.apart
      rw [List.pairwise_append, List.pairwise_cons] at hp
      obtain ⟨_, ⟨h2, _⟩, h3⟩ := hp
      have ea : offKey kf (kf y) a = a := off_none fun z hz e2 => h3 z hz x List.mem_cons_self (e2.trans e)
      have eb : offKey kf (kf y) b = b := off_none fun z hz e2 => h2 z hz (e.symm.trans e2.symm)
      have e4 : offKey kf (kf y) (a ++ x :: b) = a ++ b := by
        have : offKey kf (kf y) (a ++ x :: b) = offKey kf (kf y) a ++ offKey kf (kf y) b := by
          rw [offKey, List.filter_append, List.filter_cons, if_neg (by rw [← e, WideAt.sameKey_self hk]; simp)]; rfl
        rw [this, ea, eb]
      rw [e4]
      simp
      omega
/-- 'delete(m, k)'. -/
theorem MapL.del (h : MapL kf df D L) (kl : Lit) (hk : WideAt.IsKeyLit kl) : MapL kf df (D.del kl) (offKey kf kl L) where
  tidy := h.tidy.del kl
  apart := h.apart.filter _
  at_ := fun x hx zd => by
    obtain ⟨h1, h2⟩ := (mem_off hk).1 hx
    rw [atKey_del_other h2]; exact h.at_ x h1 zd
  there := fun x hx => by
    obtain ⟨h1, h2⟩ := (mem_off hk).1 hx
    rw [has_del_other h2]; exact h.there x h1
  dom := fun k' hk' => by
    by_cases e : k' = kl
    · rw [e, has_del_same] at hk'; cases hk'
    · rw [has_del_other e] at hk'
      obtain ⟨x, hx, e2⟩ := h.dom k' hk'
      exact ⟨x, (mem_off hk).2 ⟨hx, fun e3 => e (e2.trans e3)⟩, e2⟩
  size := by
    have h1 := size_del (k := kl) h.tidy
    rcases hb : Maps.has D kl
    · rw [hb] at h1
      rw [off_none (fun x hx e => by rw [← e, h.there x hx] at hb; cases hb)]
      simp at h1
      rw [h1, h.size]
    · rw [hb] at h1
      have h2 := (h.put (kf := kf))
      obtain ⟨x, hx, e⟩ := h.dom _ hb
      have h3 := (h.put x (by rw [← e]; exact hk)).size
      rw [size_put h.tidy, if_pos (h.there x hx), List.length_cons, ← e] at h3
      simp at h1
      omega
/-- What has come of the map so far: what is not wanted is left out. -/
structure CollL (kf : α → Lit) (L : List α) (f : α → Bool) (D : DataW Unit) (left : Lit → Bool) (O : List α) : Prop where
  has : ∀ kl, left kl = true → Maps.has D kl = true
  nd : O.Pairwise fun a b => kf a ≠ kf b
  sub : ∀ p ∈ O, p ∈ L ∧ f p = true
  on : ∀ p ∈ L, f p = true → left (kf p) = false → p ∈ O
  off : ∀ p ∈ O, left (kf p) = false
variable {O : List α} {f : α → Bool} {left : Lit → Bool}
theorem CollL.start (h : MapL kf df D L) : CollL kf L f D (Maps.has D) [] :=
  ⟨fun _ h => h, .nil, (fun p hp => by cases hp), (fun p hp _ hf => by rw [h.there p hp] at hf; cases hf), (fun p hp => by cases hp)⟩
theorem CollL.skip (h : MapL kf df D L) (c : CollL kf L f D left O) {p : α} (hp : p ∈ L) (hf : f p = false) : CollL kf L f D (fun z => left z && !z.sameKey (kf p)) O := by
  refine ⟨fun kl hk => c.has kl (by simp at hk; exact hk.1), c.nd, c.sub, fun q hq hfq hlq => ?_, fun q hq => ?_⟩
  · rcases hl : left (kf q) with _ | _
    · exact c.on q hq hfq hl
    · rw [hl, Bool.true_and] at hlq
      have hs : (kf q).sameKey (kf p) = true := by simpa using hlq
      have e := h.one hq hp (WideAt.sameKey_eq hs)
      rw [e, hf] at hfq; cases hfq
  · show (left _ && _) = false
    rw [c.off q hq]; rfl
theorem CollL.step (h : MapL kf df D L) (c : CollL kf L f D left O) {p : α} (hp : p ∈ L) (hf : f p = true) (hl : left (kf p) = true) (hk : WideAt.IsKeyLit (kf p)) : CollL kf L f D (fun z => left z && !z.sameKey (kf p)) (O ++ [p]) := by
  refine ⟨fun kl hk => c.has kl (by simp at hk; exact hk.1), ?_, fun q hq => ?_, fun q hq hfq hlq => ?_, fun q hq => ?_⟩
  · rw [List.pairwise_append]
    refine ⟨c.nd, List.pairwise_singleton _ _, fun a ha b hb e => ?_⟩
    rw [List.mem_singleton.1 hb] at e
    rw [← e, c.off a ha] at hl; cases hl
  · rcases List.mem_append.1 hq with hq | hq
    · exact c.sub q hq
    · rw [List.mem_singleton.1 hq]; exact ⟨hp, hf⟩
  · rcases hl2 : left (kf q) with _ | _
    · exact List.mem_append_left _ (c.on q hq hfq hl2)
    · rw [hl2, Bool.true_and] at hlq
      have hs : (kf q).sameKey (kf p) = true := by simpa using hlq
      rw [h.one hq hp (WideAt.sameKey_eq hs)]
      exact List.mem_append_right _ (List.mem_singleton.2 rfl)
  · rcases List.mem_append.1 hq with hq | hq
    · show (left _ && _) = false
      rw [c.off q hq]; rfl
    · rw [List.mem_singleton.1 hq]
      show (left _ && !_) = false
      rw [WideAt.sameKey_self hk, Bool.not_true, Bool.and_false]
theorem nodup_of_apart : ∀ {l : List α}, (l.Pairwise fun a b => kf a ≠ kf b) → l.Nodup := fun h => List.Pairwise.imp (fun {a b} (h : kf a ≠ kf b) (e : a = b) => h (by rw [e])) h
theorem CollL.done (h : MapL kf df D L) (c : CollL kf L f D left O) (hl : ∀ kl, left kl = false) : O.Perm (L.filter f) :=
  (List.perm_ext_iff_of_nodup (nodup_of_apart c.nd) ((nodup_of_apart h.apart).filter _)).2 fun p => ⟨fun hp => List.mem_filter.2 (c.sub p hp), fun hp => c.on p (List.mem_filter.1 hp).1 (List.mem_filter.1 hp).2 (hl _)⟩
theorem nodup_lenL {α : Type} : ∀ {O P : List α}, O.Nodup → (∀ p ∈ O, p ∈ P) → O.length ≤ P.length := by
  intro O
  induction O with
  | nil => intro P _ _; exact Nat.zero_le _
  | cons x xs ih =>
    intro P nd sub
    obtain ⟨a, b, rfl⟩ := List.append_of_mem (sub x List.mem_cons_self)
    rw [List.nodup_cons] at nd
    have := ih (P := a ++ b) nd.2 fun p hp => by
      rcases List.mem_append.1 (sub p (List.mem_cons_of_mem _ hp)) with h | h
      · exact List.mem_append_left _ h
      · rcases List.mem_cons.1 h with h | h
        · exact absurd (h ▸ hp) nd.1
        · exact List.mem_append_right _ h
    simp at this ⊢
    omega
theorem CollL.few (c : CollL kf L f D left O) : O.length ≤ L.length := nodup_lenL (nodup_of_apart c.nd) (fun p hp => (c.sub p hp).1)
/-- The bound on a map's entries is how many there are. -/
theorem own_tight {P : Program} {k : TypeId} {R : Value → Option (DataW Unit × List MemPlace)} {w : World} {b n : Nat} (h : w.ownsMap P k R b n D) : w.ownsMap P k R b (Maps.size D) D := by
  obtain ⟨es, clock, hb, F, hs, rfl⟩ := h
  exact ⟨es, clock, hb, F, by simp [Maps.size, length_sorted], rfl⟩
theorem own_up_map {P : Program} {k : TypeId} {R : Value → Option (DataW Unit × List MemPlace)} {w w' : World} {b n : Nat} (h : w.ownsMap P k R b n D) (hb : Below w.heap.size w w') : w'.ownsMap P k R b n D :=
  h.kept (row := none) ⟨hb.os, hb.tape, hb.output, hb.size, fun k hk _ => hb.block k hk⟩ (by simp)
theorem up_grown {w w' : World} (hb : Below w.heap.size w w') (row : Option Nat) : w.grownBy w' row := ⟨hb.os, hb.tape, hb.output, hb.size, fun k hk _ => hb.block k hk⟩
theorem own_map_same {P : Program} {k : TypeId} {R : Value → Option (DataW Unit × List MemPlace)} {w w' : World} {b n : Nat} (h : w.ownsMap P k R b n D) (hb : w'.heap[b]? = w.heap[b]?) : w'.ownsMap P k R b n D := by
  obtain ⟨es, clock, h1, rest⟩ := h
  exact ⟨es, clock, hb.trans h1, rest⟩
end
theorem map_cell_at {P : Program} {k : TypeId} {R : Value → Option (DataW Unit × List MemPlace)} {a b : World} {M n : Nat} {D : DataW Unit} (hM : a.ownsMap P k R M n D) (h : a.grownBy b (some M)) {p : Addr} {u : Value} (hc : a.cell? p = some u) : b.cell? p = some u := by
  obtain ⟨es, cl, hM, _⟩ := hM
  have hne : p.block ≠ M := by
    intro e
    unfold World.cell? at hc
    rw [e, hM] at hc
    cases hc
  have hlt : p.block < a.heap.size := by
    apply Classical.byContradiction
    intro hn
    unfold World.cell? at hc
    rw [Array.getElem?_eq_none (by omega)] at hc
    cases hc
  have hb := h.block p.block hlt (fun e => hne (by injection e))
  unfold World.cell? at hc ⊢
  rw [hb]; exact hc
theorem Rd.map_ {P : Program} {k : TypeId} {R : Value → Option (DataW Unit × List MemPlace)} {a b : World} {M n B size m : Nat} {D : DataW Unit} {A : Option Addr} {xs : List Value} (hr : Rd a B size A m xs) (hM : a.ownsMap P k R M n D) (h : a.grownBy b (some M)) : Rd b B size A m xs :=
  ⟨hr.1, fun hn => by
    obtain ⟨ad, e, hb, hc⟩ := hr.2 hn
    exact ⟨ad, e, hb, fun j u hu => map_cell_at hM h (hc j u hu)⟩⟩
/-- 'len(m)' under a guard that holds. -/
theorem wpList_len_wanted {H : Type} {P : Program} (w : World) {ops : Array Oper} {rest : List Oper} {o : Oper} {a : Act} {Q : Exit → Act → World → Prop} (hw : Region.wanted o (yielded ops a.tmps) = true) (m : Operand) (t : TypeId) (hop : o.op = Op.call { callee := Callee.builtin Builtin.len, args := #[m], argTypes := #[t] })
    (k e : TypeId) (ht : P.underlying t = some (.map k e)) (R : Value → Option (DataW H × List MemPlace)) (b n : Nat) (D : DataW H) (hm : a.eval m = .map (some b)) (hown : w.ownsMap P k R b n D)
    (hK : wpList P ops Q rest (a.put o.dst (.int .i64 (Maps.size D))) w) :
    wpList P ops Q (o :: rest) a w := by
  refine wpList_step fun K' hK' => ?_
  rw [if_pos hw]
  unfold Oper.wp
  simp [execOp, hop, resolve, invoke, builtin, hm, hown.len ht o.type, Result.andThen]
  exact hK' _ _ hK
end Go.Proofs.YtmeemcafjebanaaGreatDoor

/- What of memory is fixed, told by the kinds of its blocks. -/
namespace Go.Proofs.YtmeemcafjebanaaGreatDoor
open Go.RowKit Go.Maps Go.WideMaps

/-- Blocks of some kinds have not turned. -/
structure KeepF (f : Obj → Bool) (w w' : World) : Prop where
  os : w'.os = w.os
  tape : w'.tape = w.tape
  output : w'.output = w.output
  size : w.heap.size ≤ w'.heap.size
  block : ∀ (k : Nat) (o : Obj), w.heap[k]? = some o → f o = true → w'.heap[k]? = some o
section
variable {f : Obj → Bool} {a b c w w' : World}
theorem KeepF.refl (f : Obj → Bool) (w : World) : KeepF f w w := ⟨rfl, rfl, rfl, Nat.le_refl _, fun _ _ h _ => h⟩
theorem KeepF.trans (h : KeepF f a b) (k : KeepF f b c) : KeepF f a c :=
  ⟨k.os.trans h.os, k.tape.trans h.tape, k.output.trans h.output, Nat.le_trans h.size k.size, fun i o hi ho => k.block i o (h.block i o hi ho) ho⟩
theorem keepF_below (h : Below w.heap.size w w') : KeepF f w w' := ⟨h.os, h.tape, h.output, h.size, fun k _ hk _ => (h.block k (heap_lt hk)).trans hk⟩
theorem keepF_grown {row : Option Nat} (h : w.grownBy w' row) (hf : ∀ (k : Nat) (o : Obj), row = some k → w.heap[k]? = some o → f o = false) : KeepF f w w' :=
  ⟨h.os, h.tape, h.output, h.size, fun k o hk ho => (h.block k (heap_lt hk) fun e => by rw [hf k o e.symm hk] at ho; cases ho).trans hk⟩
theorem KeepF.up (h : KeepF f a w) (hb : Below w.heap.size w w') : KeepF f a w' := h.trans (keepF_below hb)
theorem KeepF.set_ (h : KeepF f a w) {p : Addr} (hp : ∀ o, w.heap[p.block]? = some o → f o = false) (u : Value) : KeepF f a (w.setCell p u) :=
  ⟨h.os, h.tape, h.output, by simpa [World.setCell] using h.size, fun k o hk ho => by
    have h1 := h.block k o hk ho
    rw [Below.heap_setCell w p u k (fun e => by rw [hp o (e ▸ h1)] at ho; cases ho)]
    exact h1⟩
theorem KeepF.drew (h : KeepF f a w) : KeepF f a w.drew := ⟨h.os, h.tape, h.output, h.size, h.block⟩
theorem KeepF.drewN (h : KeepF f a w) (n : Nat) : KeepF f a (w.drewN n) := ⟨h.os, h.tape, h.output, h.size, h.block⟩
theorem KeepF.blk (h : KeepF f w w') {g : Nat} {t : TypeId} {cs : Array Value} (hb : Blk w g t cs) (hf : f (.cells cs t (0, 0)) = true) : Blk w' g t cs := h.block g _ hb hf
theorem KeepF.own (h : KeepF f w w') {base : Nat} {e : TypeId} {size n : Nat} {v : Value} {xs : List Value} (ho : w.ownsRow base e size v n xs) (hf : ∀ cur, f (.cells cur e (0, 0)) = true) : w'.ownsRow base e size v n xs := by
  refine ⟨ho.1, ?_⟩
  rcases ho.2 with hn | ⟨g, cap, cur, rfl, hbb, hgg, rest⟩
  · exact .inl hn
  · exact .inr ⟨g, cap, cur, rfl, hbb, h.block g _ hgg (hf cur), rest⟩
theorem KeepF.map_ (h : KeepF f w w') {P : Program} {k : TypeId} {R : Value → Option (DataW Unit × List MemPlace)} {b n : Nat} {D : DataW Unit} (ho : w.ownsMap P k R b n D) (hf : ∀ es cl, f (.map es cl) = true) : w'.ownsMap P k R b n D := by
  obtain ⟨es, clock, h1, rest⟩ := ho
  exact ⟨es, clock, h.block b _ h1 (hf _ _), rest⟩
end
theorem KeepF.mono {f f' : Obj → Bool} {w w' : World} (h : KeepF f w w') (hf : ∀ o, f' o = true → f o = true) : KeepF f' w w' := ⟨h.os, h.tape, h.output, h.size, fun k o hk ho => h.block k o hk (hf o ho)⟩
/-- All but cells of one type. -/
def offT (t : TypeId) : Obj → Bool
  | .cells _ t' _ => !(t' == t)
  | _ => true
/-- All but maps. -/
def offMap : Obj → Bool
  | .map _ _ => false
  | _ => true
theorem keepT_grown {w w' : World} {base n size : Nat} {e : TypeId} {v : Value} {xs : List Value} (ho : w.ownsRow base e size v n xs) (hg : w.grownBy w' v.ownBlock) : KeepF (offT e) w w' :=
  keepF_grown hg fun k o hk hko => by
    rcases ho.2 with ⟨rfl, _⟩ | ⟨g, cap, cur, rfl, _, hg2, _⟩
    · cases hk
    · obtain rfl : g = k := by simpa [Value.ownBlock] using hk
      rw [hg2] at hko
      injection hko with hko
      rw [← hko]
      simp [offT]
theorem keepT_set {w : World} {g : Nat} {t : TypeId} {cs : Array Value} (hb : Blk w g t cs) (i : Nat) (u : Value) : KeepF (offT t) w (w.setCell ⟨g, i, none⟩ u) :=
  (KeepF.refl _ w).set_ (p := ⟨g, i, none⟩) (fun o ho => by
    have := hb.symm.trans ho
    injection this with this
    rw [← this]
    simp [offT]) u
theorem keepM_grown {P : Program} {k : TypeId} {R : Value → Option (DataW Unit × List MemPlace)} {w w' : World} {M n : Nat} {D : DataW Unit} (ho : w.ownsMap P k R M n D) (hg : w.grownBy w' (some M)) : KeepF offMap w w' :=
  keepF_grown hg fun j o hk hko => by
    obtain ⟨es, cl, h1, _⟩ := ho
    injection hk with hk
    subst hk
    rw [h1] at hko
    injection hko with hko
    rw [← hko]; rfl
theorem run_clear_map {P : Program} {k e t : TypeId} {R : Value → Option (DataW Unit × List MemPlace)} {w : World} {M n : Nat} {D : DataW Unit} (ht : P.underlying t = some (.map k e)) (hown : w.ownsMap P k R M n D) :
    ∃ w', (∀ ty, (Builtin.clear_ #[t] ty #[.map (some M)]).run P w = .ok (.tuple #[]) w') ∧ w'.ownsMap P k R M 0 (.map []) ∧ w.grownBy w' (some M) := by
  obtain ⟨es, clock, hb, _⟩ := hown
  refine ⟨{ w with heap := w.heap.setIfInBounds M (.map #[] clock) }, fun ty => ?_, ⟨#[], clock, (Go.MapKept.heap_set hb).1, ⟨by simp, Go.MapKept.stamped_empty clock, by simp⟩, Nat.le_refl _, rfl⟩, ⟨rfl, rfl, rfl, by simp, fun i _ hi => (Go.MapKept.heap_set hb).2 i fun e => hi (by rw [e])⟩⟩
  simp [Builtin.clear_, run_underlying ht, Go.MapKept.run_getObj_map hb, Go.MapKept.run_setObj_map _ hb, Result.andThen]
end Go.Proofs.YtmeemcafjebanaaGreatDoor
