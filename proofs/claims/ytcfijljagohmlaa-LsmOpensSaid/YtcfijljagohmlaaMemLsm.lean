/- A store of keys, and its look-alike, in memory; what of memory is fixed. -/
import Derived.Test.YtcfijljagohmlaaMapL
import Derived.Test.YtcfijljagohmlaaWalkTMerge
import Derived.Test.YtcfijljagohmlaaLsmPlain
namespace Go.Proofs.Ytcfijljagohmlaa
open Go.RowKit Go.Maps Go.WideMaps

/-- Blocks of some kinds have not turned. -/
structure KeepF (f : Obj → Bool) (w w' : World) : Prop where
  os : w'.os = w.os
  tape : w'.tape = w.tape
  output : w'.output = w.output
  size : w.heap.size ≤ w'.heap.size
  block : ∀ (k : Nat) (o : Obj), w.heap[k]? = some o → f o = true → w'.heap[k]? = some o
section
variable {f : Obj → Bool} {a b c w w' : World}
theorem KeepF.refl (f : Obj → Bool) (w : World) : KeepF f w w := ⟨rfl, rfl, rfl, Nat.le_refl _, fun _ _ h _ => h⟩
theorem KeepF.trans (h : KeepF f a b) (k : KeepF f b c) : KeepF f a c :=
  ⟨k.os.trans h.os, k.tape.trans h.tape, k.output.trans h.output, Nat.le_trans h.size k.size, fun i o hi ho => k.block i o (h.block i o hi ho) ho⟩
theorem keepF_below (h : Below w.heap.size w w') : KeepF f w w' := ⟨h.os, h.tape, h.output, h.size, fun k _ hk _ => (h.block k (heap_lt hk)).trans hk⟩
theorem keepF_grown {row : Option Nat} (h : w.grownBy w' row) (hf : ∀ (k : Nat) (o : Obj), row = some k → w.heap[k]? = some o → f o = false) : KeepF f w w' :=
  ⟨h.os, h.tape, h.output, h.size, fun k o hk ho => (h.block k (heap_lt hk) fun e => by rw [hf k o e.symm hk] at ho; cases ho).trans hk⟩
theorem KeepF.up (h : KeepF f a w) (hb : Below w.heap.size w w') : KeepF f a w' := h.trans (keepF_below hb)
theorem KeepF.set_ (h : KeepF f a w) {p : Addr} (hp : ∀ o, w.heap[p.block]? = some o → f o = false) (u : Value) : KeepF f a (w.setCell p u) :=
  ⟨h.os, h.tape, h.output, by simpa [World.setCell] using h.size, fun k o hk ho => by
    have h1 := h.block k o hk ho
    rw [Below.heap_setCell w p u k (fun e => by rw [hp o (e ▸ h1)] at ho; cases ho)]
    exact h1⟩
theorem KeepF.drew (h : KeepF f a w) : KeepF f a w.drew := ⟨h.os, h.tape, h.output, h.size, h.block⟩
theorem KeepF.drewN (h : KeepF f a w) (n : Nat) : KeepF f a (w.drewN n) := ⟨h.os, h.tape, h.output, h.size, h.block⟩
theorem KeepF.blk (h : KeepF f w w') {g : Nat} {t : TypeId} {cs : Array Value} (hb : Blk w g t cs) (hf : f (.cells cs t (0, 0)) = true) : Blk w' g t cs := h.block g _ hb hf
theorem KeepF.own (h : KeepF f w w') {base : Nat} {e : TypeId} {size n : Nat} {v : Value} {xs : List Value} (ho : w.ownsRow base e size v n xs) (hf : ∀ cur, f (.cells cur e (0, 0)) = true) : w'.ownsRow base e size v n xs := by
  refine ⟨ho.1, ?_⟩
  rcases ho.2 with hn | ⟨g, cap, cur, rfl, hbb, hgg, rest⟩
  · exact .inl hn
  · exact .inr ⟨g, cap, cur, rfl, hbb, h.block g _ hgg (hf cur), rest⟩
theorem KeepF.map_ (h : KeepF f w w') {P : Program} {k : TypeId} {R : Value → Option (DataW Unit × List MemPlace)} {b n : Nat} {D : DataW Unit} (ho : w.ownsMap P k R b n D) (hf : ∀ es cl, f (.map es cl) = true) : w'.ownsMap P k R b n D := by
  obtain ⟨es, clock, h1, rest⟩ := ho
  exact ⟨es, clock, h.block b _ h1 (hf _ _), rest⟩
end
/-- What a store's steps turn not. -/
def fixL : Obj → Bool
  | .cells _ t _ => !(t == 120) && !(t == 22) && !(t == 72)
  | .map _ _ => false
  | _ => true
def kfE (x : Ent) : Lit := klS x.key
theorem kfE_lit (x : Ent) : WideAt.IsKeyLit (kfE x) := by trivial
/-- A store at block g, its map at block M, its tables and lists at rows of its own. -/
structure LsmIn (w : World) (base g M : Nat) (lim : Int) (s : Lsm) : Prop where
  ok : LsmOk s
  gb : base ≤ g
  Mb : base ≤ M
  map_ : ∃ D, w.ownsMap Try.prog 9 entR M s.F.length D ∧ MapL kfE entD D s.F
  rows : ∃ vt vl bs es, Blk w g 120 #[.int .i64 lim, .map (some M), vt, vl] ∧ OwnBB w base vt bs ∧ OwnEE w base vl es ∧ bs.map Bl.b = s.LS.map tabB ∧ es.map El.l = s.LS
section
variable {w w' : World} {base g M : Nat} {lim : Int} {s : Lsm}
theorem OwnBB.same {v : Value} {es : List Bl} (h : OwnBB w base v es) (hk : ∀ {e : TypeId} {size n : Nat} {v : Value} {xs : List Value}, w.ownsRow base e size v n xs → w'.ownsRow base e size v n xs) : OwnBB w' base v es := ⟨hk h.row, fun e he => hk (h.ok e he)⟩
theorem OwnEE.same {v : Value} {es : List El} (h : OwnEE w base v es) (hk : ∀ {e : TypeId} {size n : Nat} {v : Value} {xs : List Value}, w.ownsRow base e size v n xs → w'.ownsRow base e size v n xs) : OwnEE w' base v es := ⟨hk h.row, fun e he => hk (h.ok e he)⟩
theorem LsmIn.up (h : LsmIn w base g M lim s) (hb : Below w.heap.size w w') : LsmIn w' base g M lim s :=
  ⟨h.ok, h.gb, h.Mb, (by
    obtain ⟨D, h1, h2⟩ := h.map_
    exact ⟨D, own_up_map h1 hb, h2⟩), (by
    obtain ⟨vt, vl, bs, es, h1, h2, h3, h4, h5⟩ := h.rows
    exact ⟨vt, vl, bs, es, (hb.block g h1.lt).trans h1, h2.up hb, h3.up hb, h4, h5⟩)⟩
theorem LsmIn.drewN (h : LsmIn w base g M lim s) (q : Nat) : LsmIn (w.drewN q) base g M lim s := h.up (below_drewN (Below.refl _ _) q)
theorem LsmIn.keep {f : Obj → Bool} (h : LsmIn w base g M lim s) (hk : KeepF f w w') (hS : ∀ cs, f (.cells cs 120 (0, 0)) = true) (h1 : ∀ cs, f (.cells cs 22 (0, 0)) = true) (h2 : ∀ cs, f (.cells cs 5 (0, 0)) = true)
    (h3 : ∀ cs, f (.cells cs 72 (0, 0)) = true) (h4 : ∀ cs, f (.cells cs 107 (0, 0)) = true) (hm : ∀ es cl, f (.map es cl) = true) : LsmIn w' base g M lim s :=
  ⟨h.ok, h.gb, h.Mb, (by
    obtain ⟨D, k1, k2⟩ := h.map_
    exact ⟨D, hk.map_ k1 hm, k2⟩), (by
    obtain ⟨vt, vl, bs, es, k1, k2, k3, k4, k5⟩ := h.rows
    exact ⟨vt, vl, bs, es, hk.blk k1 (hS _), ⟨hk.own k2.row h1, fun e he => hk.own (k2.ok e he) h2⟩, ⟨hk.own k3.row h3, fun e he => hk.own (k3.ok e he) h4⟩, k4, k5⟩)⟩
theorem LsmIn.ltg (h : LsmIn w base g M lim s) : g < w.heap.size := by obtain ⟨vt, vl, bs, es, h1, _⟩ := h.rows; exact h1.lt
theorem LsmIn.ltM (h : LsmIn w base g M lim s) : M < w.heap.size := by obtain ⟨D, h1, _⟩ := h.map_; exact h1.lt
theorem mapE_has {D : DataW Unit} {L : List Ent} (h : MapL kfE entD D L) (k : ByteArray) : Maps.has D (klS k) = (entOf L k).isSome := by
  rcases he : entOf L k with _ | y
  · exact h.not_has fun x hx e => entOf_none.1 he x hx (klS_inj e)
  · have := h.there y (entOf_some he).1
    rw [kfE, (entOf_some he).2] at this
    exact this
end
end Go.Proofs.Ytcfijljagohmlaa
