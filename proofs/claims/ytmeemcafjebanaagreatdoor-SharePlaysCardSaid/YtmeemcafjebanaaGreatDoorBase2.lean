/- More laws of memory that the walks share. No program in sight. -/
import Derived.Test.YtmeemcafjebanaaGreatDoorBase
namespace Go.Proofs.YtmeemcafjebanaaGreatDoor
open Go.RowKit
theorem own_drewN {w : World} {base : Nat} {e : TypeId} {size n : Nat} {v : Value} {xs : List Value} (h : w.ownsRow base e size v n xs) (k : Nat) : (w.drewN k).ownsRow base e size v n xs := h
theorem own_rd {w : World} {base : Nat} {e : TypeId} {size n c : Nat} {A : Option Addr} {xs : List Value} (h : w.ownsRow base e size (.slice A n c) n xs) : Rd w w.heap.size size A n xs := by
  obtain ⟨A', c', he, _, _, _, hr⟩ := own_form h
  injection he with h1 h2 h3
  subst h1; exact hr
section
variable {P : Program}
/-- 'wpList_new' where the block's number is spelled otherwise. -/
theorem wpList_newg {ops : Array Oper} {rest : List Oper} {o : Oper} {a : Act} {Q : Exit → Act → World → Prop} {w : World} (s x : Operand) {t e : TypeId} {z : Value} {size bytes : Nat} (E : Elt P t e z size bytes)
    (hgd : o.guard = none) (ho : o.op = .call { callee := .builtin .append, args := #[s, x], argTypes := #[t, t] })
    {base : Nat} {v : Value} {n : Nat} {xs : List Value} (hown : w.ownsRow base e size v n xs) (hs : a.eval s = v)
    {g m c : Nat} {cs : Array Value} (hx : a.eval x = .slice (some ⟨g, 0, none⟩) m c) (hg : w.heap.size = g) (hl : cs.size = m * size) (h1 : cs.toList.all Value.oneCell' = true)
    (hbytes : (n + m) * bytes ≤ 140737488355328) (hbase : base ≤ w.heap.size)
    (h : ∀ v' w', w'.ownsRow base e size v' (n + m) (xs ++ cs.toList) → Below base w w' → w.grownBy w' v.ownBlock → (v'.ownBlock = v.ownBlock ∨ v'.ownBlock = some (w.heap.size + 1)) → wpList P ops Q rest (a.put o.dst v') w') : wpList P ops Q (o :: rest) a (w.alloc (.cells cs e)) := by
  subst hg
  exact wpList_new s x E hgd ho hown hs hx hl h1 hbytes hbase h
theorem step_newg {ops : Array Oper} {o : Oper} {a : Act} {K : Act → World → Prop} {Q : Exit → Act → World → Prop} {F : Prop} {w : World} (s x : Operand) {t e : TypeId} {z : Value} {size bytes : Nat} (E : Elt P t e z size bytes)
    (hgd : o.guard = none) (ho : o.op = .call { callee := .builtin .append, args := #[s, x], argTypes := #[t, t] })
    {base : Nat} {v : Value} {n : Nat} {xs : List Value} (hown : w.ownsRow base e size v n xs) (hs : a.eval s = v)
    {g m c : Nat} {cs : Array Value} (hx : a.eval x = .slice (some ⟨g, 0, none⟩) m c) (hg : w.heap.size = g) (hl : cs.size = m * size) (h1 : cs.toList.all Value.oneCell' = true)
    (hbytes : (n + m) * bytes ≤ 140737488355328) (hbase : base ≤ w.heap.size)
    (h : ∀ v' w', w'.ownsRow base e size v' (n + m) (xs ++ cs.toList) → Below base w w' → w.grownBy w' v.ownBlock → (v'.ownBlock = v.ownBlock ∨ v'.ownBlock = some (w.heap.size + 1)) → K (a.put o.dst v') w') :
    if Region.wanted o (yielded ops a.tmps) = true then Oper.wp P o a (w.alloc (.cells cs e)) K Q else F := by
  subst hg
  exact step_new s x E hgd ho hown hs hx hl h1 hbytes hbase h
end
end Go.Proofs.YtmeemcafjebanaaGreatDoor
