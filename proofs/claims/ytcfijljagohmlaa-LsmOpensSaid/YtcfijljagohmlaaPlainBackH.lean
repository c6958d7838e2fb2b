/- Plain laws: states and pieces that are written are read as they were. No program in sight. -/
import Derived.Test.YtcfijljagohmlaaPlainBack
namespace Go.Proofs.Ytcfijljagohmlaa
open Go.RowKit

theorem hldS_at {l : List UInt8} {a : Nat} {x : Hld} {r : List UInt8} (h : Rest l a (hldB x ++ r)) (hx : hldOk x = true) (h1 : i64ok x.a) (h2 : i64ok x.b) : hldS l (some a) = (x, some (a + (hldB x).length)) := by
  simp only [hldOk, Bool.and_eq_true, decide_eq_true_eq] at hx
  obtain ⟨⟨h3, h4⟩, hk⟩ := hx
  rw [hldB, List.append_assoc, List.append_assoc, List.append_assoc] at h
  have hks : x.key.data.toList.length = x.key.size := by rw [Array.length_toList]; rfl
  have e0 := uptoS_at (most := 11) h ⟨by omega, by omega⟩ h3 (by omega)
  have e1 := textS_at (most := 40) h.on (by rw [hks]; omega) (by rw [hks]; omega)
  have e2 := numS_at h.on.on h1
  have e3 := numS_at h.on.on.on h2
  rw [hldS, e0]
  simp only
  rw [e1]
  simp only
  rw [e2]
  simp only
  rw [e3]
  simp [hldB, Nat.add_assoc]

theorem heldsGo_cons {p : Option Hld} {x : Hld} {xs : List Hld} (h : heldsGo p (x :: xs) = 0) : hldOk x = true ∧ notAfter p x = false ∧ heldsGo (some x) xs = 0 := by
  rw [heldsGo] at h
  split at h
  · cases h
  · rename_i h1
    split at h
    · cases h
    · rename_i h2
      exact ⟨by simpa using h1, by simpa using h2, h⟩

theorem hldsS_at {l : List UInt8} : ∀ (xs : List Hld) (p : Option Hld) (a : Nat) (r : List UInt8), Rest l a (xs.flatMap hldB ++ r) → heldsGo p xs = 0 → (∀ x ∈ xs, i64ok x.a ∧ i64ok x.b) → hldsS l xs.length p (some a) = (xs, some (a + (xs.flatMap hldB).length)) := by
  intro xs
  induction xs with
  | nil => intro p a r _ _ _; simp [hldsS]
  | cons x xs ih =>
    intro p a r h hgo hall
    rw [List.flatMap_cons, List.append_assoc] at h
    obtain ⟨h1, h2, h3⟩ := heldsGo_cons hgo
    have hx := hall x (by simp)
    have e := hldS_at h h1 hx.1 hx.2
    have hr : riseS p (hldS l (some a)).1 (hldS l (some a)).2 = some (a + (hldB x).length) := by rw [e]; simp [riseS, h2]
    rw [List.length_cons, hldsS_good hr, e, ih _ _ r h.on h3 (fun y hy => hall y (by simp [hy]))]
    simp [Nat.add_assoc]

theorem helds_read {xs : List Hld} (h : heldsE xs = 0) (hn : ∀ x ∈ xs, i64ok x.a ∧ i64ok x.b) : readHelds (heldsB xs) = some xs := by
  have hB := hldE_good h
  unfold heldsE at h
  split at h
  · cases h
  · rename_i hl
    have hR : Rest (heldsB xs) 0 (numB xs.length ++ (xs.flatMap hldB ++ [])) := by rw [List.append_nil, ← hB]; exact Rest.start _
    have e1 := uptoS_at (most := 400) hR ⟨by omega, by omega⟩ (by omega) (by omega)
    have e2 := hldsS_at xs none _ [] hR.on h hn
    have hlen := hR.on.on.len
    unfold readHelds
    rw [e1]
    simp only [Int.toNat_natCast]
    rw [e2]
    have h2 : endS (heldsB xs) (some (0 + (numB (xs.length : Int)).length + (xs.flatMap hldB).length)) = true := by simpa [endS] using hlen
    simp only [h2, if_true]

/-! ### A piece -/
/-- What the first piece has, and how many bytes it is. -/
def openS (l : List UInt8) : Option (List UInt8 × Nat) :=
  match rdNum l with
  | none => none
  | some (n, k) => if n < 0 ∨ (l.length : Int) - k - 4 < n then none
    else if (l.drop (k + n.toNat)).take 4 = sum4 (sumB ((l.drop k).take n.toNat)) then some ((l.drop k).take n.toNat, k + n.toNat + 4) else none

theorem open_seal (b more : List UInt8) (h : b.length < 9223372036854775808) : openS (sealB b ++ more) = some (b, (sealB b).length) := by
  have e : sealB b ++ more = numB b.length ++ (b ++ (sum4 (sumB b) ++ more)) := by simp [sealB]
  have hr := rdNum_numB (n := (b.length : Int)) ⟨by omega, by omega⟩ (b ++ (sum4 (sumB b) ++ more))
  rw [openS, e, hr]
  simp only
  have h4 : (sum4 (sumB b)).length = 4 := rfl
  rw [if_neg (by simp only [List.length_append]; omega), Int.toNat_natCast]
  have d1 : (numB b.length ++ (b ++ (sum4 (sumB b) ++ more))).drop (numB b.length).length = b ++ (sum4 (sumB b) ++ more) := by simp
  have d2 : (numB b.length ++ (b ++ (sum4 (sumB b) ++ more))).drop ((numB b.length).length + b.length) = sum4 (sumB b) ++ more := by
    rw [← List.drop_drop, d1]; simp
  rw [d1, d2, List.take_append_of_le_length (by omega), List.take_append_of_le_length (by omega), List.take_length, List.take_of_length_le (by omega), if_pos rfl]
  simp [sealB, h4, Nat.add_assoc]

theorem open_cut (b : List UInt8) (h : b.length < 9223372036854775808) : openS ((sealB b).take ((sealB b).length - 1)) = none := by
  have h4 : (sum4 (sumB b)).length = 4 := rfl
  have hl : (sealB b).length = (numB b.length).length + b.length + 4 := by simp [sealB, h4, Nat.add_assoc]
  have e : (sealB b).take ((sealB b).length - 1) = numB b.length ++ (b ++ (sum4 (sumB b)).take 3) := by
    rw [hl, sealB, List.append_assoc, List.take_append, List.take_of_length_le (by omega), List.take_append, List.take_of_length_le (by omega)]
    congr 3
    omega
  have hr := rdNum_numB (n := (b.length : Int)) ⟨by omega, by omega⟩ (b ++ (sum4 (sumB b)).take 3)
  rw [openS, e, hr]
  simp only
  rw [if_pos]
  right
  simp only [List.length_append, List.length_take, h4]
  omega

theorem sumB_lt' (l : List UInt8) : sumB l < 4294967296 := sumTo_lt _ _
/-- What Open answers. -/
def opB (l : List UInt8) : List UInt8 := ((openS l).map (·.1)).getD []
def opN (l : List UInt8) : Int := (((openS l).map (·.2)).getD 0 : Nat)
def opE (l : List UInt8) : Nat := if (openS l).isSome then 0 else 9
theorem op_none {l : List UInt8} (h : openS l = none) : opB l = [] ∧ opN l = 0 ∧ opE l = 9 := by simp [opB, opN, opE, h]
theorem op_some {l i : List UInt8} {n : Nat} (h : openS l = some (i, n)) : opB l = i ∧ opN l = n ∧ opE l = 0 := by simp [opB, opN, opE, h]
/-- Open, of the number ahead and where it ends. -/
def openAt (l : List UInt8) (v : Int) : Option Nat → Option (List UInt8 × Nat)
  | none => none
  | some a => if v < 0 ∨ (l.length : Int) - a - 4 < v then none
    else if (l.drop (a + v.toNat)).take 4 = sum4 (sumB ((l.drop a).take v.toNat)) then some ((l.drop a).take v.toNat, a + v.toNat + 4) else none
theorem open_form (l : List UInt8) (v : Int) (s1 : Option Nat) (hv : v = (numS l (some 0)).1) (hs : s1 = (numS l (some 0)).2) : openS l = openAt l v s1 := by
  simp only [numS, List.drop_zero] at hv hs
  rw [openS]
  rcases hr : rdNum l with _ | ⟨n, k⟩
  · rw [hr] at hs; subst hs; rfl
  · rw [hr] at hv hs
    simp only at hv hs
    subst hv hs
    simp only [openAt, Nat.zero_add]
theorem openAt_out {l : List UInt8} {v : Int} {a : Nat} (h : v < 0 ∨ (l.length : Int) - a - 4 < v) : openAt l v (some a) = none := by rw [openAt, if_pos h]
/-- The first k bytes of the sum are those that stand there. -/
def SumTo (l : List UInt8) (e x k : Nat) : Prop := ∀ j, j < k → l.getD (e + j) 0 = UInt8.ofNat (x / 256 ^ j % 256)
theorem take4 {l : List UInt8} {e : Nat} (h : e + 4 ≤ l.length) : (l.drop e).take 4 = [l.getD e 0, l.getD (e + 1) 0, l.getD (e + 2) 0, l.getD (e + 3) 0] := by
  rw [drop_byte (by omega), drop_byte (k := e + 1) (by omega), drop_byte (k := e + 2) (by omega), drop_byte (k := e + 3) (by omega)]
  rfl
theorem SumTo.iff4 {l : List UInt8} {e x : Nat} (h : e + 4 ≤ l.length) : SumTo l e x 4 ↔ (l.drop e).take 4 = sum4 x := by
  rw [take4 h, sum4]
  constructor
  · intro hs
    have h0 := hs 0 (by omega); have h1 := hs 1 (by omega); have h2 := hs 2 (by omega); have h3 := hs 3 (by omega)
    simp only [Nat.add_zero, Nat.pow_zero, Nat.div_one, Nat.pow_one] at h0 h1
    rw [h0, h1, h2, h3]
  · intro hs j hj
    simp only [List.cons.injEq] at hs
    match j, hj with
    | 0, _ => simpa using hs.1
    | 1, _ => simpa using hs.2.1
    | 2, _ => simpa using hs.2.2.1
    | 3, _ => simpa using hs.2.2.2.1
theorem SumTo.next {l : List UInt8} {e x k : Nat} (h : SumTo l e x k) (hk : (l.getD (e + k) 0).toNat = x / 256 ^ k % 256) : SumTo l e x (k + 1) := by
  intro j hj
  by_cases hjk : j = k
  · subst hjk; rw [← hk]; simp
  · exact h j (by omega)
theorem SumTo.not {l : List UInt8} {e x k : Nat} (hk : k < 4) (hb : (l.getD (e + k) 0).toNat ≠ x / 256 ^ k % 256) : ¬ SumTo l e x 4 := by
  intro h
  have := h k hk
  rw [this, toNat_ofNat _ (by omega)] at hb
  exact hb rfl
theorem openAt_bad {l : List UInt8} {v : Int} {a : Nat} (h0 : 0 ≤ v) (h1 : v ≤ (l.length : Int) - a - 4) (h : ¬ SumTo l (a + v.toNat) (sumB ((l.drop a).take v.toNat)) 4) : openAt l v (some a) = none := by
  rw [openAt, if_neg (by omega), if_neg (fun e => h ((SumTo.iff4 (by omega)).2 e))]
theorem openAt_good {l : List UInt8} {v : Int} {a : Nat} (h0 : 0 ≤ v) (h1 : v ≤ (l.length : Int) - a - 4) (h : SumTo l (a + v.toNat) (sumB ((l.drop a).take v.toNat)) 4) :
    openAt l v (some a) = some ((l.drop a).take v.toNat, a + v.toNat + 4) := by
  rw [openAt, if_neg (by omega), if_pos ((SumTo.iff4 (by omega)).1 h)]

theorem flat_le {α : Type} (f : α → List UInt8) (n : Nat) (l : List α) (h : ∀ a ∈ l, (f a).length ≤ n) : (l.flatMap f).length ≤ l.length * n := by
  induction l with
  | nil => simp
  | cons a l ih =>
    rw [List.flatMap_cons, List.length_append, List.length_cons, Nat.succ_mul]
    have h1 := h a (by simp)
    have h2 := ih fun x hx => h x (by simp [hx])
    omega
theorem recsB_le (l : List Rec) : (recsB l).length ≤ 30000 := by
  unfold recsB
  split
  · rename_i h
    unfold recsE at h
    split at h
    · cases h
    · split at h
      · rename_i hl hall
        have h1 := flat_le recB 70 l fun r hr => by
          have h2 := textB_le r.key 40 (recOk_key (List.all_eq_true.1 hall r hr))
          have h3 := numB_le r.num
          have h4 := numB_le r.time
          simp only [recB, List.length_append]; omega
        have h5 := numB_le (l.length : Int)
        rw [List.length_append]; omega
      · cases h
  · simp
theorem heldsGo_all : ∀ (l : List Hld) (p : Option Hld), heldsGo p l = 0 → ∀ r ∈ l, hldOk r = true := by
  intro l
  induction l with
  | nil => intro p _ r hr; cases hr
  | cons x l ih =>
    intro p h r hr
    obtain ⟨h1, h2, h3⟩ := heldsGo_cons h
    rcases List.mem_cons.1 hr with rfl | hr
    · exact h1
    · exact ih _ h3 r hr
theorem heldsB_le (l : List Hld) : (heldsB l).length ≤ 40000 := by
  unfold heldsB
  split
  · rename_i h
    unfold heldsE at h
    split at h
    · cases h
    · have h1 := flat_le hldB 80 l fun r hr => by
        have h2 := textB_le r.key 40 (hldOk_key (heldsGo_all l none h r hr))
        have h3 := numB_le r.node
        have h4 := numB_le r.a
        have h6 := numB_le r.b
        simp only [hldB, List.length_append]; omega
      have h5 := numB_le (l.length : Int)
      rw [List.length_append]; omega
  · simp

theorem fact300 : numB 300 = [216, 4] := by decide
end Go.Proofs.Ytcfijljagohmlaa
