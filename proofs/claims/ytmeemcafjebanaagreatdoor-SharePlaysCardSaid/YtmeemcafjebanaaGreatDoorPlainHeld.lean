/- PlainRead PlainRead2 PlainHeld in one text. -/
import Derived.Test.YtmeemcafjebanaaGreatDoorPlainRec
/- Plain laws of numbers read out of bytes. No program in sight. -/
namespace Go.Proofs.YtmeemcafjebanaaGreatDoor
open Go.RowKit

/-- Is a byte none that may stand at the i-th place of a number? -/
def vbad (i : Nat) (c : UInt8) : Bool := decide (9 < i) || (decide (i = 9) && decide (1 < c.toNat)) || (decide (0 < i) && decide (c.toNat = 0))

/-- What stands at the head of some bytes, the i-th byte of a number first: how much it is, and how many bytes. -/
def vrd : Nat → List UInt8 → Option (Nat × Nat)
  | _, [] => none
  | i, c :: r =>
    if vbad i c then none
    else if c.toNat < 128 then some (c.toNat, 1)
    else (vrd (i + 1) r).map fun p => (c.toNat % 128 + 128 * p.1, p.2 + 1)

/-- From a number from 0 on to an int. -/
def unzig (x : Nat) : Int := if x % 2 = 1 then -((x / 2 : Nat) : Int) - 1 else ((x / 2 : Nat) : Int)

/-- The number at the head of some bytes, and how many bytes it takes. -/
def rdNum (l : List UInt8) : Option (Int × Nat) := (vrd 0 l).map fun p => (unzig p.1, p.2)

theorem vbad_not {i : Nat} {c : UInt8} (h : vbad i c = false) : i ≤ 9 ∧ (i = 9 → c.toNat ≤ 1) ∧ (0 < i → c.toNat ≠ 0) := by
  simp only [vbad, Bool.or_eq_false_iff, Bool.and_eq_false_iff, decide_eq_false_iff_not] at h
  refine ⟨by omega, fun h9 => ?_, fun h0 => ?_⟩
  · rcases h.1.2 with h' | h' <;> omega
  · rcases h.2 with h' | h' <;> omega

theorem vrd_bd : ∀ (l : List UInt8) (i : Nat) (p : Nat × Nat), vrd i l = some p → 1 ≤ p.2 ∧ p.2 ≤ l.length ∧ p.2 + i ≤ 10 ∧ p.1 < 2 * 128 ^ (9 - i) := by
  intro l
  induction l with
  | nil => intro i p h; simp [vrd] at h
  | cons c r ih =>
    intro i p h
    have hc := c.toNat_lt
    rw [vrd] at h
    split at h
    · cases h
    · rename_i hn
      obtain ⟨hi, h9, h0⟩ := vbad_not (by simpa using hn)
      split at h
      · rename_i hlt
        injection h with h
        subst h
        refine ⟨Nat.le_refl _, by simp, by simp; omega, ?_⟩
        rcases Nat.lt_or_ge i 9 with h9' | h9'
        · have h8 : 128 ^ 1 ≤ 128 ^ (9 - i) := Nat.pow_le_pow_right (by omega) (by omega)
          simp only; omega
        · have : i = 9 := by omega
          subst this
          simp; omega
      · rename_i hge
        obtain ⟨q, hq, rfl⟩ := Option.map_eq_some_iff.1 h
        have := ih (i + 1) q hq
        have h9' : i ≠ 9 := by omega
        have e : 128 ^ (9 - i) = 128 * 128 ^ (9 - (i + 1)) := by
          rw [← Nat.pow_succ']; congr 1; omega
        refine ⟨by omega, by simp; omega, by simp only; omega, ?_⟩
        simp only
        rw [e]
        have hm := Nat.mod_lt c.toNat (show 0 < 128 by omega)
        omega

theorem unzig_bd (x : Nat) (h : x < 18446744073709551616) : -9223372036854775808 ≤ unzig x ∧ unzig x ≤ 9223372036854775807 := by
  unfold unzig; split <;> omega

theorem rdNum_bd {l : List UInt8} {v : Int} {k : Nat} (h : rdNum l = some (v, k)) : 1 ≤ k ∧ k ≤ l.length ∧ k ≤ 10 ∧ -9223372036854775808 ≤ v ∧ v ≤ 9223372036854775807 := by
  obtain ⟨p, hp, he⟩ := Option.map_eq_some_iff.1 h
  injection he with e1 e2
  have := vrd_bd l 0 p hp
  have hz := unzig_bd p.1 (by omega)
  subst e1 e2
  exact ⟨this.1, this.2.1, by omega, hz.1, hz.2⟩

/-- The loop's form: what has been read is x, i bytes of it; what is left says the rest. -/
theorem vrd_step {l : List UInt8} {i : Nat} {c : UInt8} {r : List UInt8} (hl : l = c :: r) (hb : vbad i c = false) (hge : 128 ≤ c.toNat) : vrd i l = (vrd (i + 1) r).map fun p => (c.toNat % 128 + 128 * p.1, p.2 + 1) := by
  subst hl; rw [vrd, if_neg (by simp [hb]), if_neg (by omega)]
theorem vrd_last {l : List UInt8} {i : Nat} {c : UInt8} {r : List UInt8} (hl : l = c :: r) (hb : vbad i c = false) (hlt : c.toNat < 128) : vrd i l = some (c.toNat, 1) := by
  subst hl; rw [vrd, if_neg (by simp [hb]), if_pos hlt]
theorem vrd_bad {l : List UInt8} {i : Nat} {c : UInt8} {r : List UInt8} (hl : l = c :: r) (hb : vbad i c = true) : vrd i l = none := by
  subst hl; rw [vrd, if_pos hb]
theorem vrd_end {l : List UInt8} {i : Nat} (hl : l = []) : vrd i l = none := by subst hl; rw [vrd]

theorem and_127 : ∀ c : Fin 256, bits BinOp.and IntKind.u8 ((c.val : Nat) : Int) 127 = ((c.val % 128 : Nat) : Int) := by decide +kernel

/-- frame.Reader.Num's own step. -/
theorem acc_or {X k : Nat} {b : UInt8} (hX : X < 128 ^ k) (hk : k ≤ 9) (hb : k = 9 → b.toNat ≤ 1) :
    bits BinOp.or IntKind.u64 (X : Int) (IntKind.u64.wrap (IntKind.u64.wrap (bits BinOp.and IntKind.u8 (b.toNat : Int) 127) * 2 ^ (7 * k))) = ((X + 128 ^ k * (b.toNat % 128) : Nat) : Int) := by
  have hb2 := b.toNat_lt
  have h1 : bits BinOp.and IntKind.u8 (b.toNat : Int) 127 = ((b.toNat % 128 : Nat) : Int) := and_127 ⟨b.toNat, hb2⟩
  have hp : (2 : Nat) ^ (7 * k) = 128 ^ k := by rw [Nat.pow_mul]
  have hpi : ((2 : Int) ^ (7 * k)) = ((128 ^ k : Nat) : Int) := by rw [← hp, Int.natCast_pow]; rfl
  have hm : 128 ^ k * (b.toNat % 128) + 128 ^ k ≤ 18446744073709551616 := by
    rcases Nat.lt_or_ge k 9 with h | h
    · have h8 : 128 ^ k ≤ 128 ^ 8 := Nat.pow_le_pow_right (by omega) (by omega)
      have : 128 ^ k * (b.toNat % 128) ≤ 128 ^ 8 * 127 := Nat.mul_le_mul h8 (by omega)
      omega
    · have : k = 9 := by omega
      subst this
      have h1 := hb rfl
      have : 128 ^ 9 * (b.toNat % 128) ≤ 128 ^ 9 * 1 := Nat.mul_le_mul (Nat.le_refl _) (by omega)
      omega
  have hmul : (((b.toNat % 128 : Nat) : Int)) * ((128 ^ k : Nat) : Int) = ((128 ^ k * (b.toNat % 128) : Nat) : Int) := by
    rw [Int.mul_comm, ← Int.natCast_mul]
  rw [h1, IntWalk.u64_in ((b.toNat % 128 : Nat) : Int) (by omega), hpi, hmul, IntWalk.u64_in ((128 ^ k * (b.toNat % 128) : Nat) : Int) (by omega), u64_or_nat _ _ (by omega) (by omega)]
  congr 1
  have := Nat.two_pow_add_eq_or_of_lt (i := 7 * k) (b := X) (by rw [hp]; exact hX) (b.toNat % 128)
  rw [hp] at this
  rw [Nat.or_comm, ← this]
  omega

theorem acc_next {l : List UInt8} {a0 k q X : Nat} {b : UInt8} (hq : q = a0 + k) (hX : X < 128 ^ k) (hv : vrd 0 (l.drop a0) = (vrd k (l.drop q)).map fun p => (X + 128 ^ k * p.1, k + p.2))
    (hB : l.drop q = b :: l.drop (q + 1)) (hb : vbad k b = false) (hge : 128 ≤ b.toNat) :
    k + 1 ≤ 9 ∧ q + 1 = a0 + (k + 1) ∧ X + 128 ^ k * (b.toNat % 128) < 128 ^ (k + 1) ∧ vrd 0 (l.drop a0) = (vrd (k + 1) (l.drop (q + 1))).map fun p => (X + 128 ^ k * (b.toNat % 128) + 128 ^ (k + 1) * p.1, k + 1 + p.2) := by
  obtain ⟨h1, h2, h3⟩ := vbad_not hb
  refine ⟨?_, by omega, ?_, ?_⟩
  · rcases Nat.lt_or_ge k 9 with h | h
    · omega
    · have := h2 (by omega); omega
  · have : 128 ^ k * (b.toNat % 128) ≤ 128 ^ k * 127 := Nat.mul_le_mul (Nat.le_refl _) (by omega)
    rw [Nat.pow_succ]; omega
  · rw [hv, vrd_step hB hb hge, Option.map_map]
    congr 1
    funext p
    simp only [Function.comp, Nat.pow_succ, Nat.mul_add, Nat.mul_assoc, Nat.add_assoc]
    congr 1
    omega

theorem acc_last {l : List UInt8} {a0 k q X : Nat} {b : UInt8} (hv : vrd 0 (l.drop a0) = (vrd k (l.drop q)).map fun p => (X + 128 ^ k * p.1, k + p.2))
    (hB : l.drop q = b :: l.drop (q + 1)) (hb : vbad k b = false) (hlt : b.toNat < 128) :
    rdNum (l.drop a0) = some (unzig (X + 128 ^ k * (b.toNat % 128)), k + 1) ∧ X + 128 ^ k * (b.toNat % 128) < 18446744073709551616 := by
  have h : vrd 0 (l.drop a0) = some (X + 128 ^ k * (b.toNat % 128), k + 1) := by
    rw [hv, vrd_last hB hb hlt, Nat.mod_eq_of_lt hlt]; rfl
  refine ⟨by rw [rdNum, h]; rfl, ?_⟩
  have := vrd_bd _ _ _ h
  omega

theorem ofInt_nat64 (a : Nat) : BitVec.ofInt 64 (a : Int) = BitVec.ofNat 64 a := BitVec.ofInt_natCast _ _

theorem i64_xor_zero (a : Nat) (h : a < 9223372036854775808) : bits BinOp.xor IntKind.i64 (a : Int) 0 = (a : Int) := by
  show IntKind.i64.wrap ((BitVec.ofInt 64 (a : Int) ^^^ BitVec.ofInt 64 (0 : Int)).toNat : Int) = _
  have e : BitVec.ofInt 64 (0 : Int) = 0#64 := rfl
  rw [e, BitVec.xor_zero, ofInt_nat64, BitVec.toNat_ofNat, Nat.mod_eq_of_lt (by omega)]
  exact IntWalk.i64_in _ (by omega)

theorem i64_xor_ones (a : Nat) (h : a < 9223372036854775808) : bits BinOp.xor IntKind.i64 (a : Int) (-1) = -(a : Int) - 1 := by
  show IntKind.i64.wrap ((BitVec.ofInt 64 (a : Int) ^^^ BitVec.ofInt 64 (-1 : Int)).toNat : Int) = _
  have e : BitVec.ofInt 64 (-1 : Int) = BitVec.allOnes 64 := rfl
  rw [e, BitVec.xor_allOnes, BitVec.toNat_not, ofInt_nat64, BitVec.toNat_ofNat, Nat.mod_eq_of_lt (by omega), IntKind.wrap_i64]
  omega

/-- frame.Reader.Num's own way back. -/
theorem unzig_xor (x : Nat) (h : x < 18446744073709551616) :
    bits BinOp.xor IntKind.i64 (wrap64 ((x : Int) / 2)) (wrap64 (-wrap64 (bits BinOp.and IntKind.u64 (x : Int) 1))) = unzig x := by
  have h1 : bits BinOp.and IntKind.u64 (x : Int) 1 = ((x % 2 : Nat) : Int) := by
    have := u64_and_nat x 1 h (by omega)
    rw [Nat.and_one_is_mod] at this
    exact this
  have e2 : (x : Int) / 2 = ((x / 2 : Nat) : Int) := by omega
  rw [h1, IntWalk.wrap64_in ((x % 2 : Nat) : Int) (by omega), IntWalk.wrap64_in (-((x % 2 : Nat) : Int)) (by omega), e2, IntWalk.wrap64_in ((x / 2 : Nat) : Int) (by omega)]
  unfold unzig
  by_cases hx : x % 2 = 1
  · rw [if_pos hx, hx]
    exact i64_xor_ones _ (by omega)
  · have h0 : x % 2 = 0 := by omega
    rw [if_neg hx, h0]
    exact i64_xor_zero _ (by omega)

theorem drop_byte {l : List UInt8} {k : Nat} (h : k < l.length) : l.drop k = l.getD k 0 :: l.drop (k + 1) := by
  rw [List.drop_eq_getElem_cons h, List.getD_eq_getElem?_getD, List.getElem?_eq_getElem h]; rfl

/-! ### A reader: it stands at a place, or has failed (none) -/
def numS (l : List UInt8) : Option Nat → Int × Option Nat
  | none => (0, none)
  | some at_ => match rdNum (l.drop at_) with
    | none => (0, none)
    | some (v, k) => (v, some (at_ + k))
def uptoS (l : List UInt8) (most : Int) (s : Option Nat) : Int × Option Nat :=
  if (numS l s).1 < 0 ∨ most < (numS l s).1 then (0, none) else numS l s
def textS (l : List UInt8) (most : Int) (s : Option Nat) : List UInt8 × Option Nat :=
  match uptoS l most s with
  | (_, none) => ([], none)
  | (n, some at_) => if n ≤ (l.length - at_ : Int) then ((l.drop at_).take n.toNat, some (at_ + n.toNat)) else ([], none)

/-- Is the reader at the end, and has not failed? -/
def endS (l : List UInt8) (s : Option Nat) : Bool := match s with
  | none => false
  | some at_ => decide (at_ = l.length)

/-- The place is one. -/
def Stands (l : List UInt8) (s : Option Nat) : Prop := ∀ at_, s = some at_ → at_ ≤ l.length

theorem numS_bd (l : List UInt8) (s : Option Nat) (h : Stands l s) : Stands l (numS l s).2 ∧ -9223372036854775808 ≤ (numS l s).1 ∧ (numS l s).1 ≤ 9223372036854775807 := by
  rcases s with _ | at_
  · exact ⟨h, by simp [numS], by simp [numS]⟩
  · have ha := h at_ rfl
    rcases hr : rdNum (l.drop at_) with _ | ⟨v, k⟩
    · simp only [numS, hr]
      exact ⟨(fun _ hh => by cases hh), by omega, by omega⟩
    · have hb := rdNum_bd hr
      simp only [numS, hr]
      refine ⟨fun q hh => ?_, hb.2.2.2.1, hb.2.2.2.2⟩
      injection hh with hh
      have := hb.2.1
      simp at this
      omega
theorem uptoS_bd (l : List UInt8) (most : Int) (s : Option Nat) (h : Stands l s) (hm : 0 ≤ most) : Stands l (uptoS l most s).2 ∧ 0 ≤ (uptoS l most s).1 ∧ (uptoS l most s).1 ≤ most := by
  have := numS_bd l s h
  unfold uptoS
  split
  · exact ⟨(fun _ hh => by cases hh), Int.le_refl _, hm⟩
  · exact ⟨this.1, by omega, by omega⟩
theorem textS_bd (l : List UInt8) (most : Int) (s : Option Nat) (h : Stands l s) (hm : 0 ≤ most) : Stands l (textS l most s).2 ∧ (textS l most s).1.length ≤ most := by
  have hu := uptoS_bd l most s h hm
  unfold textS
  split
  · exact ⟨(fun _ hh => by cases hh), by simpa using hm⟩
  · rename_i n at_ he
    rw [he] at hu
    simp only at hu
    split
    · rename_i hle
      refine ⟨fun q hh => ?_, ?_⟩
      · injection hh with hh
        have := hu.1 at_ rfl
        omega
      · simp; omega
    · exact ⟨(fun _ hh => by cases hh), by simpa using hm⟩

/-! ### Records out of bytes -/
def recS (l : List UInt8) (s : Option Nat) : Rec × Option Nat :=
  (⟨⟨(textS l 40 s).1.toArray⟩, (numS l (textS l 40 s).2).1, (uptoS l 1000000 (numS l (textS l 40 s).2).2).1⟩, (uptoS l 1000000 (numS l (textS l 40 s).2).2).2)
/-- So many records, up to the first fault. -/
def recsS (l : List UInt8) : Nat → Option Nat → List Rec × Option Nat
  | 0, s => ([], s)
  | m + 1, s => match (recS l s).2 with
    | none => ([], none)
    | some a => ((recS l s).1 :: (recsS l m (some a)).1, (recsS l m (some a)).2)
/-- The records that some bytes are, if they are any. -/
def readRecs (l : List UInt8) : Option (List Rec) :=
  let r := recsS l (uptoS l 400 (some 0)).1.toNat (uptoS l 400 (some 0)).2
  if endS l r.2 then some r.1 else none

theorem recsS_bad {l : List UInt8} {m : Nat} {s : Option Nat} (h : (recS l s).2 = none) : recsS l (m + 1) s = ([], none) := by rw [recsS, h]
theorem recsS_good {l : List UInt8} {m a : Nat} {s : Option Nat} (h : (recS l s).2 = some a) : recsS l (m + 1) s = ((recS l s).1 :: (recsS l m (some a)).1, (recsS l m (some a)).2) := by rw [recsS, h]

theorem recCells_snoc (acc : List Rec) (r : Rec) : recCells (acc ++ [r]) = recCells acc ++ r.cells := by simp [recCells]
theorem recCells_len (acc : List Rec) : (recCells acc).length = acc.length * 3 := flat3 _ (fun _ => rfl) _
end Go.Proofs.YtmeemcafjebanaaGreatDoor

/- Plain laws of records read out of bytes, part two. -/
namespace Go.Proofs.YtmeemcafjebanaaGreatDoor
open Go.RowKit

theorem rec_parts (l : List UInt8) (s : Option Nat) (h : Stands l s) :
    ∃ (kb : List UInt8) (s2 : Option Nat) (n : Int) (s3 : Option Nat) (tm : Int) (s4 : Option Nat), textS l 40 s = (kb, s2) ∧ numS l s2 = (n, s3) ∧ uptoS l 1000000 s3 = (tm, s4) ∧ recS l s = (⟨⟨kb.toArray⟩, n, tm⟩, s4) ∧
      Stands l s2 ∧ Stands l s3 ∧ Stands l s4 ∧ kb.length ≤ 40 ∧ -9223372036854775808 ≤ n ∧ n ≤ 9223372036854775807 ∧ 0 ≤ tm ∧ tm ≤ 1000000 := by
  have h1 := textS_bd l 40 s h (by omega)
  have h2 := numS_bd l _ h1.1
  have h3 := uptoS_bd l 1000000 _ h2.1 (by omega)
  exact ⟨(textS l 40 s).1, (textS l 40 s).2, _, _, _, _, rfl, rfl, rfl, rfl, h1.1, h2.1, h3.1, by omega, h2.2.1, h2.2.2, h3.2.1, h3.2.2⟩

/-- The loop's form: what has been read, and what is still to be read. -/
def Reads2 (l : List UInt8) (N : Nat) (s0 : Option Nat) (acc : List Rec) (k : Nat) (s : Option Nat) : Prop :=
  recsS l N s0 = (acc ++ (recsS l (N - k) s).1, (recsS l (N - k) s).2)
theorem Reads2.start (l : List UInt8) (N : Nat) (s0 : Option Nat) : Reads2 l N s0 [] 0 s0 := by simp [Reads2]
theorem Reads2.step {l : List UInt8} {N k : Nat} {s0 s : Option Nat} {acc : List Rec} {r : Rec} {a : Nat} (h : Reads2 l N s0 acc k s) (hk : k < N) (hr : recS l s = (r, some a)) : Reads2 l N s0 (acc ++ [r]) (k + 1) (some a) := by
  have e : N - k = (N - (k + 1)) + 1 := by omega
  unfold Reads2 at *
  rw [h, e, recsS_good (by rw [hr]), hr]
  simp
theorem Reads2.bad {l : List UInt8} {N k : Nat} {s0 s : Option Nat} {acc : List Rec} {r : Rec} (h : Reads2 l N s0 acc k s) (hk : k < N) (hr : recS l s = (r, none)) : recsS l N s0 = (acc, none) := by
  have e : N - k = (N - (k + 1)) + 1 := by omega
  unfold Reads2 at h
  rw [h, e, recsS_bad (by rw [hr])]
  simp
theorem Reads2.done {l : List UInt8} {N k : Nat} {s0 s : Option Nat} {acc : List Rec} (h : Reads2 l N s0 acc k s) (hk : N ≤ k) : recsS l N s0 = (acc, s) := by
  unfold Reads2 at h
  rw [h, show N - k = 0 from by omega]
  simp [recsS]

/-- The fault of bytes as records. -/
def rrE (l : List UInt8) : Nat := if (readRecs l).isSome then 0 else 9
theorem rrE_none {l : List UInt8} (h : readRecs l = none) : rrE l = 9 := by rw [rrE, h]; rfl
theorem rrE_some {l : List UInt8} {r : List Rec} (h : readRecs l = some r) : rrE l = 0 := by rw [rrE, h]; rfl
end Go.Proofs.YtmeemcafjebanaaGreatDoor

/- States as plain data. No program in sight. -/
namespace Go.Proofs.YtmeemcafjebanaaGreatDoor
open Go.RowKit

/-- A state: of a node, of a key. -/
structure Hld where
  node : Int
  key : ByteArray
  a : Int
  b : Int
def Hld.cells (h : Hld) : List Value := [.int .i64 h.node, .string h.key, .int .i64 h.a, .int .i64 h.b]
def Hld.val (h : Hld) : Value := .agg #[.int .i64 h.node, .string h.key, .int .i64 h.a, .int .i64 h.b]
def hldCells (l : List Hld) : List Value := l.flatMap Hld.cells
def Hld.Ok (h : Hld) : Prop := h.key.size ≤ 9223372036854775807 ∧ i64ok h.node ∧ i64ok h.a ∧ i64ok h.b

/-- Is it a state? -/
def hldOk (h : Hld) : Bool := decide (0 ≤ h.node) && decide (h.node < 12) && decide (h.key.size ≤ 40)
/-- How two states stand to each other. -/
def cmpH (x y : Hld) : Int := orI (cmpI x.node y.node) (cmpS x.key y.key)
theorem cmpH_bd (x y : Hld) : -1 ≤ cmpH x y ∧ cmpH x y ≤ 1 := by
  have h1 := cmpI_bd x.node y.node
  have h2 := cmpS_bd x.key y.key
  unfold cmpH orI; split <;> omega

/-- The cells of the state at k. -/
theorem Rd.hld_ {w w' : World} {B D n k : Nat} {A : Option Addr} {l : List Hld} (h : Rd w B 4 A n (hldCells l)) (hk : k < n) (hl : l.length = n) (hb : Below D w w') (hD : B ≤ D) :
    ∃ ad, ∃ r : Hld, A = some ad ∧ (ad.add (k * 4)).block < B ∧ l[k]? = some r ∧ w'.cell? (ad.add (k * 4)) = some (.int .i64 r.node) ∧ w'.cell? ⟨(ad.add (k * 4)).block, (ad.add (k * 4)).off + 1, none⟩ = some (.string r.key) ∧
      w'.cell? ⟨(ad.add (k * 4)).block, (ad.add (k * 4)).off + 2, none⟩ = some (.int .i64 r.a) ∧ w'.cell? ⟨(ad.add (k * 4)).block, (ad.add (k * 4)).off + 3, none⟩ = some (.int .i64 r.b) := by
  obtain ⟨ad, rfl, hbb, hc⟩ := (h.below hb hD).2 (by omega)
  have hr : l[k]? = some l[k] := List.getElem?_eq_getElem (by omega)
  have hat : ∀ j, j < 4 → (hldCells l)[k * 4 + j]? = (l[k].cells)[j]? := fun j hj => by
    rw [hldCells, flat_at Hld.cells 4 (fun _ => rfl) l k j hj, hr]; rfl
  refine ⟨ad, l[k], rfl, by rw [block_add]; exact hbb, hr, hc _ _ ((hat 0 (by omega)).trans rfl), ?_, ?_, ?_⟩
  · rw [← add_more]; exact hc _ _ ((hat 1 (by omega)).trans rfl)
  · rw [← add_more]; exact hc _ _ ((hat 2 (by omega)).trans rfl)
  · rw [← add_more]; exact hc _ _ ((hat 3 (by omega)).trans rfl)

/-- Four cells in a row behind a call. -/
theorem keep4 {w w' : World} {D : Nat} {p : Addr} {x y z u : Value} (hb : Below D w w') (hp : p.block < D) (h0 : w.cell? p = some x) (h1 : w.cell? ⟨p.block, p.off + 1, none⟩ = some y) (h2 : w.cell? ⟨p.block, p.off + 2, none⟩ = some z) (h3 : w.cell? ⟨p.block, p.off + 3, none⟩ = some u) :
    w'.cell? p = some x ∧ w'.cell? ⟨p.block, p.off + 1, none⟩ = some y ∧ w'.cell? ⟨p.block, p.off + 2, none⟩ = some z ∧ w'.cell? ⟨p.block, p.off + 3, none⟩ = some u :=
  ⟨(hb.cell hp).trans h0, (hb.cell (p := ⟨p.block, p.off + 1, none⟩) hp).trans h1, (hb.cell (p := ⟨p.block, p.off + 2, none⟩) hp).trans h2, (hb.cell (p := ⟨p.block, p.off + 3, none⟩) hp).trans h3⟩
end Go.Proofs.YtmeemcafjebanaaGreatDoor
