/- A gate as plain data: what waits at each input, the greatest barriers, whose turn it is. No program in sight. -/
import Derived.Test.YtmeemcafjebanaaDoorBase
namespace Go.Proofs.YtmeemcafjebanaaDoor
open Go.RowKit

/-- What waits at an input: a record, or a barrier. -/
structure Itm where
  key : ByteArray
  num : Int
  time : Int
  bar : Int
def Itm.cells (x : Itm) : List Value := [.string x.key, .int .i64 x.num, .int .i64 x.time, .int .i64 x.bar]
def itmCells (l : List Itm) : List Value := l.flatMap Itm.cells
/-- A gate. -/
structure Gat where
  waits : List (List Itm)
  last : List Int
  next : Nat

def Gat.n (s : Gat) : Nat := s.waits.length
def Gat.at_ (s : Gat) (i : Nat) : List Itm := s.waits.getD i []
/-- Does a barrier wait first? -/
def barred : List Itm → Bool
  | [] => false
  | x :: _ => decide (0 < x.bar)
/-- Does a record wait first? -/
def ready : List Itm → Bool
  | [] => false
  | x :: _ => !decide (0 < x.bar)
def newG (n : Nat) : Gat := ⟨List.replicate n [], List.replicate n 0, 0⟩
def newE (n : Int) : Nat := if n < 1 ∨ 64 < n then 1 else 0
def mayE (s : Gat) (i : Int) : Nat := if i < 0 ∨ (s.n : Int) ≤ i then 1 else if 400 ≤ (s.at_ i.toNat).length then 4 else 0
def Gat.put (s : Gat) (i : Nat) (l : List Itm) : Gat := { s with waits := s.waits.set i l }
def pushG (s : Gat) (i : Int) (x : Itm) : Gat := if mayE s i = 0 then s.put i.toNat (s.at_ i.toNat ++ [x]) else s
def barE (s : Gat) (i id : Int) : Nat := if id < 1 then 1 else if mayE s i ≠ 0 then mayE s i else if id ≤ s.last.getD i.toNat 0 then 5 else 0
def barItm (id : Int) : Itm := ⟨⟨#[]⟩, 0, 0, id⟩
def barG (s : Gat) (i id : Int) : Gat := if barE s i id = 0 then { s.put i.toNat (s.at_ i.toNat ++ [barItm id]) with last := s.last.set i.toNat id } else s
def takeG (s : Gat) (i : Nat) : Gat := s.put i (s.at_ i).tail
/-- The place of the k-th from the one whose turn it is. -/
def Gat.turn (s : Gat) (k : Nat) : Nat := (s.next + k) % s.n
/-- From the k-th on: whose turn it is, if anyone's. -/
def nextFrom (s : Gat) : Nat → Nat → Option Nat
  | 0, _ => none
  | m + 1, k => if ready (s.at_ (s.turn k)) = true then some (s.turn k) else nextFrom s m (k + 1)
def nextI (s : Gat) : Option Nat := nextFrom s s.n 0
def nextG (s : Gat) : Gat := match nextI s with | none => s | some i => { takeG s i with next := (i + 1) % s.n }
def noItm : Itm := ⟨⟨#[]⟩, 0, 0, 0⟩
def headI (l : List Itm) : Itm := l.headD noItm
def nextR (s : Gat) : Itm × Nat × Bool := match nextI s with | none => (noItm, 0, false) | some i => (headI (s.at_ i), i, true)
def closedG (s : Gat) : Bool := s.waits.all barred
/-- The least of barriers, none being 0. -/
def leastB : Int → List (List Itm) → Int
  | id, [] => id
  | id, l :: r => leastB (if id = 0 ∨ (headI l).bar < id then (headI l).bar else id) r
def boundId (s : Gat) : Int := if closedG s = true then leastB 0 s.waits else 0
def cutB (id : Int) (l : List Itm) : List Itm := if (headI l).bar = id then l.tail else l
def boundG (s : Gat) : Gat := if closedG s = true then { s with waits := s.waits.map (cutB (boundId s)) } else s
def waitingG (s : Gat) : Nat := (s.waits.map List.length).sum
/-- A gate that may be. -/
structure Gat.Ok (s : Gat) : Prop where
  pos : 0 < s.n
  most : s.n ≤ 64
  last : s.last.length = s.n
  next : s.next < s.n
  full : ∀ l ∈ s.waits, l.length ≤ 400

theorem at_put {s : Gat} {i j : Nat} {l : List Itm} (hi : i < s.n) : (s.put i l).at_ j = if j = i then l else s.at_ j := by
  unfold Gat.at_ Gat.put
  simp only [List.getD_eq_getElem?_getD, List.getElem?_set]
  by_cases h : i = j
  · subst h
    have : i < s.waits.length := hi
    simp [this]
  · simp [h, Ne.symm h]
theorem at_get {s : Gat} {i : Nat} (hi : i < s.n) : s.waits[i]? = some (s.at_ i) := by
  have : i < s.waits.length := hi
  simp [Gat.at_, List.getD_eq_getElem?_getD, List.getElem?_eq_getElem this]
theorem put_n (s : Gat) (i : Nat) (l : List Itm) : (s.put i l).n = s.n := by simp [Gat.put, Gat.n]
theorem Gat.Ok.len {s : Gat} (h : s.Ok) (i : Nat) : (s.at_ i).length ≤ 400 := by
  by_cases hi : i < s.n
  · exact h.full _ (List.mem_of_getElem? (at_get hi))
  · have : s.at_ i = [] := by
      have : ¬ i < s.waits.length := hi
      simp [Gat.at_, List.getD_eq_getElem?_getD, List.getElem?_eq_none (Nat.le_of_not_lt this)]
    simp [this]
theorem Gat.Ok.put {s : Gat} (h : s.Ok) (i : Nat) {l : List Itm} (hl : l.length ≤ 400) : (s.put i l).Ok :=
  ⟨by rw [put_n]; exact h.pos, by rw [put_n]; exact h.most, by rw [put_n]; exact h.last, by rw [put_n]; exact h.next, fun x hx => by
    rcases List.mem_or_eq_of_mem_set hx with hx | hx
    · exact h.full x hx
    · subst hx; exact hl⟩
theorem Gat.Ok.take {s : Gat} (h : s.Ok) (i : Nat) : (takeG s i).Ok := h.put i (by rw [List.length_tail]; have := h.len i; omega)
end Go.Proofs.YtmeemcafjebanaaDoor
