/- Memory that stays: the blocks of a set turn not. A row replaced in a row of rows. No program in sight. -/
import Derived.Test.YtmeemcafjebanaaGreatDoorBase2
namespace Go.Proofs.YtmeemcafjebanaaGreatDoor
open Go.RowKit

/-- The blocks of a set have not turned. -/
structure Keeps (Z : Nat → Prop) (w w' : World) : Prop where
  os : w'.os = w.os
  tape : w'.tape = w.tape
  output : w'.output = w.output
  size : w.heap.size ≤ w'.heap.size
  block : ∀ k, Z k → w'.heap[k]? = w.heap[k]?

section
variable {Z : Nat → Prop} {a b c w w' : World}
theorem Keeps.refl (Z : Nat → Prop) (w : World) : Keeps Z w w := ⟨rfl, rfl, rfl, Nat.le_refl _, fun _ _ => rfl⟩
theorem Keeps.trans (h : Keeps Z a b) (k : Keeps Z b c) : Keeps Z a c :=
  ⟨k.os.trans h.os, k.tape.trans h.tape, k.output.trans h.output, Nat.le_trans h.size k.size, fun i hi => (k.block i hi).trans (h.block i hi)⟩
theorem Keeps.below (h : Keeps Z w w') {B : Nat} (hB : ∀ k, k < B → Z k) : Below B w w' := ⟨h.os, h.tape, h.output, h.size, fun k hk => h.block k (hB k hk)⟩
theorem Keeps.mono (h : Keeps Z w w') {Y : Nat → Prop} (hY : ∀ k, Y k → Z k) : Keeps Y w w' := ⟨h.os, h.tape, h.output, h.size, fun k hk => h.block k (hY k hk)⟩
theorem keeps_below {B : Nat} (h : Below B w w') (hZ : ∀ k, Z k → k < B) : Keeps Z w w' := ⟨h.os, h.tape, h.output, h.size, fun k hk => h.block k (hZ k hk)⟩
theorem keeps_grown {row : Option Nat} (h : w.grownBy w' row) (hZ : ∀ k, Z k → k < w.heap.size ∧ some k ≠ row) : Keeps Z w w' := ⟨h.os, h.tape, h.output, h.size, fun k hk => h.block k (hZ k hk).1 (hZ k hk).2⟩
theorem Keeps.alloc (h : Keeps Z a w) (hZ : ∀ k, Z k → k < w.heap.size) (o : Obj) : Keeps Z a (w.alloc o) :=
  ⟨h.os, h.tape, h.output, Nat.le_trans h.size (by simp), fun k hk => (Below.heap_alloc w o k (hZ k hk)).trans (h.block k hk)⟩
theorem Keeps.set_ (h : Keeps Z a w) {p : Addr} (hp : ¬ Z p.block) (u : Value) : Keeps Z a (w.setCell p u) :=
  ⟨h.os, h.tape, h.output, by simpa [World.setCell] using h.size, fun k hk => (Below.heap_setCell w p u k (fun e => hp (e ▸ hk))).trans (h.block k hk)⟩
theorem Keeps.drewN (h : Keeps Z a w) (n : Nat) : Keeps Z a (w.drewN n) := ⟨h.os, h.tape, h.output, h.size, h.block⟩
theorem Keeps.drew (h : Keeps Z a w) : Keeps Z a w.drew := ⟨h.os, h.tape, h.output, h.size, h.block⟩
theorem Keeps.blk (h : Keeps Z w w') {g : Nat} {t : TypeId} {cs : Array Value} (hb : Blk w g t cs) (hg : Z g) : Blk w' g t cs := (h.block g hg).trans hb
theorem Keeps.own (h : Keeps Z w w') {base : Nat} {e : TypeId} {size n : Nat} {v : Value} {xs : List Value} (ho : w.ownsRow base e size v n xs) (hv : ∀ g, v.ownBlock = some g → Z g) : w'.ownsRow base e size v n xs := by
  refine ⟨ho.1, ?_⟩
  rcases ho.2 with hn | ⟨g, cap, cur, rfl, hbb, hgg, rest⟩
  · exact .inl hn
  · exact .inr ⟨g, cap, cur, rfl, hbb, by rw [h.block g (hv g rfl)]; exact hgg, rest⟩
theorem own_same {base : Nat} {e : TypeId} {size n : Nat} {v : Value} {xs : List Value} (ho : w.ownsRow base e size v n xs) (hv : ∀ g, v.ownBlock = some g → w'.heap[g]? = w.heap[g]?) : w'.ownsRow base e size v n xs := by
  refine ⟨ho.1, ?_⟩
  rcases ho.2 with hn | ⟨g, cap, cur, rfl, hbb, hgg, rest⟩
  · exact .inl hn
  · exact .inr ⟨g, cap, cur, rfl, hbb, by rw [hv g rfl]; exact hgg, rest⟩
theorem grown_undrew {row : Option Nat} (h : w.drew.grownBy w' row) : w.grownBy w' row := ⟨h.os, h.tape, h.output, h.size, h.block⟩
theorem grown_undrewN {row : Option Nat} {n : Nat} (h : (w.drewN n).grownBy w' row) : w.grownBy w' row := ⟨h.os, h.tape, h.output, h.size, h.block⟩
theorem heap_lt {w : World} {g : Nat} {o : Obj} (h : w.heap[g]? = some o) : g < w.heap.size := (Array.getElem?_eq_some_iff.1 h).1

/-- Rows, each of its own block: what each slice of sl reads. -/
structure Rows_ (w : World) (e : TypeId) (size : Nat) (sl : List Value) (xs : List (List Value)) : Prop where
  len : xs.length = sl.length
  row : ∀ (i : Nat) (v : Value) (x : List Value), sl[i]? = some v → xs[i]? = some x → w.ownsRow 0 e size v (x.length / size) x
  apart : ∀ (i j : Nat) (v u : Value) (g : Nat), sl[i]? = some v → sl[j]? = some u → v.ownBlock = some g → u.ownBlock = some g → i = j
theorem Rows_.same {e : TypeId} {size : Nat} {sl : List Value} {xs : List (List Value)} (h : Rows_ w e size sl xs) (hk : ∀ v g, v ∈ sl → v.ownBlock = some g → w'.heap[g]? = w.heap[g]?) : Rows_ w' e size sl xs :=
  ⟨h.len, fun i v x hv hx => own_same (h.row i v x hv hx) fun g hg => hk v g (List.mem_of_getElem? hv) hg, h.apart⟩
/-- Row i is another one. -/
theorem Rows_.replace {e : TypeId} {size : Nat} {sl : List Value} {xs : List (List Value)} (h : Rows_ w e size sl xs) {i : Nat} {v v' : Value} {x : List Value} (hi : sl[i]? = some v)
    (hg : w.grownBy w' v.ownBlock) (ho : w'.ownsRow 0 e size v' (x.length / size) x) (hv : ∀ g, v'.ownBlock = some g → v.ownBlock = some g ∨ w.heap.size ≤ g) : Rows_ w' e size (sl.set i v') (xs.set i x) := by
  have hil : i < sl.length := (List.getElem?_eq_some_iff.1 hi).1
  have old : ∀ (j : Nat) (u : Value), sl[j]? = some u → ∀ g, u.ownBlock = some g → g < w.heap.size := fun j u hu g hg => by
    have hjl : j < sl.length := (List.getElem?_eq_some_iff.1 hu).1
    have := h.row j u (xs[j]'(by rw [h.len]; exact hjl)) hu (List.getElem?_eq_getElem _)
    exact (this.lt g hg).2
  refine ⟨by simp [h.len], fun j u y hu hy => ?_, fun j k u t g hu ht e1 e2 => ?_⟩
  · rw [List.getElem?_set] at hu hy
    by_cases hj : i = j
    · rw [if_pos hj, if_pos (by omega)] at hu
      rw [if_pos hj, if_pos (by rw [h.len]; omega)] at hy
      injection hu with hu; injection hy with hy
      subst hu hy
      exact ho
    · rw [if_neg hj] at hu hy
      refine own_same (h.row j u y hu hy) fun g hg' => hg.block g (old j u hu g hg') fun e => hj ?_
      exact (h.apart i j v u g hi hu e.symm hg')
  · rw [List.getElem?_set] at hu ht
    by_cases hj : i = j
    · rw [if_pos hj, if_pos (by omega)] at hu
      injection hu with hu
      subst hu
      by_cases hk : i = k
      · omega
      · rw [if_neg hk] at ht
        rcases hv g e1 with e | e
        · have := h.apart i k v t g hi ht e e2; omega
        · have := old k t ht g e2; omega
    · rw [if_neg hj] at hu
      by_cases hk : i = k
      · rw [if_pos hk, if_pos (by omega)] at ht
        injection ht with ht
        subst ht
        rcases hv g e2 with e | e
        · have := h.apart j i u v g hu hi e1 e; omega
        · have := old j u hu g e1; omega
      · rw [if_neg hk] at ht
        exact h.apart j k u t g hu ht e1 e2
end
end Go.Proofs.YtmeemcafjebanaaGreatDoor
