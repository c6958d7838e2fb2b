/- What of memory is fixed, told by the kinds of its blocks. -/
import Derived.Test.YtmeemcafjebanaaGreatDoorMapL
import Derived.Test.YtmeemcafjebanaaGreatDoorBase2
namespace Go.Proofs.YtmeemcafjebanaaGreatDoor
open Go.RowKit Go.Maps Go.WideMaps

/-- Blocks of some kinds have not turned. -/
structure KeepF (f : Obj → Bool) (w w' : World) : Prop where
  os : w'.os = w.os
  tape : w'.tape = w.tape
  output : w'.output = w.output
  size : w.heap.size ≤ w'.heap.size
  block : ∀ (k : Nat) (o : Obj), w.heap[k]? = some o → f o = true → w'.heap[k]? = some o
section
variable {f : Obj → Bool} {a b c w w' : World}
theorem KeepF.refl (f : Obj → Bool) (w : World) : KeepF f w w := ⟨rfl, rfl, rfl, Nat.le_refl _, fun _ _ h _ => h⟩
theorem KeepF.trans (h : KeepF f a b) (k : KeepF f b c) : KeepF f a c :=
  ⟨k.os.trans h.os, k.tape.trans h.tape, k.output.trans h.output, Nat.le_trans h.size k.size, fun i o hi ho => k.block i o (h.block i o hi ho) ho⟩
theorem keepF_below (h : Below w.heap.size w w') : KeepF f w w' := ⟨h.os, h.tape, h.output, h.size, fun k _ hk _ => (h.block k (heap_lt hk)).trans hk⟩
theorem keepF_grown {row : Option Nat} (h : w.grownBy w' row) (hf : ∀ (k : Nat) (o : Obj), row = some k → w.heap[k]? = some o → f o = false) : KeepF f w w' :=
  ⟨h.os, h.tape, h.output, h.size, fun k o hk ho => (h.block k (heap_lt hk) fun e => by rw [hf k o e.symm hk] at ho; cases ho).trans hk⟩
theorem KeepF.up (h : KeepF f a w) (hb : Below w.heap.size w w') : KeepF f a w' := h.trans (keepF_below hb)
theorem KeepF.set_ (h : KeepF f a w) {p : Addr} (hp : ∀ o, w.heap[p.block]? = some o → f o = false) (u : Value) : KeepF f a (w.setCell p u) :=
  ⟨h.os, h.tape, h.output, by simpa [World.setCell] using h.size, fun k o hk ho => by
    have h1 := h.block k o hk ho
    rw [Below.heap_setCell w p u k (fun e => by rw [hp o (e ▸ h1)] at ho; cases ho)]
    exact h1⟩
theorem KeepF.drew (h : KeepF f a w) : KeepF f a w.drew := ⟨h.os, h.tape, h.output, h.size, h.block⟩
theorem KeepF.drewN (h : KeepF f a w) (n : Nat) : KeepF f a (w.drewN n) := ⟨h.os, h.tape, h.output, h.size, h.block⟩
theorem KeepF.blk (h : KeepF f w w') {g : Nat} {t : TypeId} {cs : Array Value} (hb : Blk w g t cs) (hf : f (.cells cs t (0, 0)) = true) : Blk w' g t cs := h.block g _ hb hf
theorem KeepF.own (h : KeepF f w w') {base : Nat} {e : TypeId} {size n : Nat} {v : Value} {xs : List Value} (ho : w.ownsRow base e size v n xs) (hf : ∀ cur, f (.cells cur e (0, 0)) = true) : w'.ownsRow base e size v n xs := by
  refine ⟨ho.1, ?_⟩
  rcases ho.2 with hn | ⟨g, cap, cur, rfl, hbb, hgg, rest⟩
  · exact .inl hn
  · exact .inr ⟨g, cap, cur, rfl, hbb, h.block g _ hgg (hf cur), rest⟩
theorem KeepF.map_ (h : KeepF f w w') {P : Program} {k : TypeId} {R : Value → Option (DataW Unit × List MemPlace)} {b n : Nat} {D : DataW Unit} (ho : w.ownsMap P k R b n D) (hf : ∀ es cl, f (.map es cl) = true) : w'.ownsMap P k R b n D := by
  obtain ⟨es, clock, h1, rest⟩ := ho
  exact ⟨es, clock, h.block b _ h1 (hf _ _), rest⟩
end
theorem KeepF.mono {f f' : Obj → Bool} {w w' : World} (h : KeepF f w w') (hf : ∀ o, f' o = true → f o = true) : KeepF f' w w' := ⟨h.os, h.tape, h.output, h.size, fun k o hk ho => h.block k o hk (hf o ho)⟩
/-- All but cells of one type. -/
def offT (t : TypeId) : Obj → Bool
  | .cells _ t' _ => !(t' == t)
  | _ => true
/-- All but maps. -/
def offMap : Obj → Bool
  | .map _ _ => false
  | _ => true
theorem keepT_grown {w w' : World} {base n size : Nat} {e : TypeId} {v : Value} {xs : List Value} (ho : w.ownsRow base e size v n xs) (hg : w.grownBy w' v.ownBlock) : KeepF (offT e) w w' :=
  keepF_grown hg fun k o hk hko => by
    rcases ho.2 with ⟨rfl, _⟩ | ⟨g, cap, cur, rfl, _, hg2, _⟩
    · cases hk
    · obtain rfl : g = k := by simpa [Value.ownBlock] using hk
      rw [hg2] at hko
      injection hko with hko
      rw [← hko]
      simp [offT]
theorem keepT_set {w : World} {g : Nat} {t : TypeId} {cs : Array Value} (hb : Blk w g t cs) (i : Nat) (u : Value) : KeepF (offT t) w (w.setCell ⟨g, i, none⟩ u) :=
  (KeepF.refl _ w).set_ (p := ⟨g, i, none⟩) (fun o ho => by
    have := hb.symm.trans ho
    injection this with this
    rw [← this]
    simp [offT]) u
theorem keepM_grown {P : Program} {k : TypeId} {R : Value → Option (DataW Unit × List MemPlace)} {w w' : World} {M n : Nat} {D : DataW Unit} (ho : w.ownsMap P k R M n D) (hg : w.grownBy w' (some M)) : KeepF offMap w w' :=
  keepF_grown hg fun j o hk hko => by
    obtain ⟨es, cl, h1, _⟩ := ho
    injection hk with hk
    subst hk
    rw [h1] at hko
    injection hko with hko
    rw [← hko]; rfl
theorem run_clear_map {P : Program} {k e t : TypeId} {R : Value → Option (DataW Unit × List MemPlace)} {w : World} {M n : Nat} {D : DataW Unit} (ht : P.underlying t = some (.map k e)) (hown : w.ownsMap P k R M n D) :
    ∃ w', (∀ ty, (Builtin.clear_ #[t] ty #[.map (some M)]).run P w = .ok (.tuple #[]) w') ∧ w'.ownsMap P k R M 0 (.map []) ∧ w.grownBy w' (some M) := by
  obtain ⟨es, clock, hb, _⟩ := hown
  refine ⟨{ w with heap := w.heap.setIfInBounds M (.map #[] clock) }, fun ty => ?_, ⟨#[], clock, (Go.MapKept.heap_set hb).1, ⟨by simp, Go.MapKept.stamped_empty clock, by simp⟩, Nat.le_refl _, rfl⟩, ⟨rfl, rfl, rfl, by simp, fun i _ hi => (Go.MapKept.heap_set hb).2 i fun e => hi (by rw [e])⟩⟩
  simp [Builtin.clear_, run_underlying ht, Go.MapKept.run_getObj_map hb, Go.MapKept.run_setObj_map _ hb, Result.andThen]
end Go.Proofs.YtmeemcafjebanaaGreatDoor
