/- Where a key stands among keys that rise, as plain data; how two strings compare. No program in sight. -/
import Derived.Test.YtmeemcafjebanaaGreatDoorPlainSess
import Derived.Lib.Bytealg
namespace Go.Proofs.YtmeemcafjebanaaGreatDoor
open Go.RowKit

theorem compareBytes_is : ∀ (x y : List UInt8), Lib.compareBytes x y = if Op.bytesLess x y then -1 else if x == y then 0 else 1 := by
  intro x
  induction x with
  | nil =>
    intro y
    cases y with
    | nil => rfl
    | cons b bs => rw [bytesLess_is]; simp [Lib.compareBytes]
  | cons a u ih =>
    intro y
    cases y with
    | nil => rw [bytesLess_is]; simp [Lib.compareBytes]
    | cons b bs =>
      have h := ih bs
      rw [bytesLess_is] at h ⊢
      rw [Lib.compareBytes, h]
      by_cases h1 : a < b
      · have : a :: u < b :: bs := List.cons_lt_cons_iff.2 (.inl h1)
        rw [if_pos h1, if_pos (decide_eq_true this)]
      · by_cases h2 : b < a
        · have hn : ¬ (a :: u < b :: bs) := by
            rw [List.cons_lt_cons_iff]
            rintro (e | ⟨e, _⟩)
            · exact h1 e
            · subst e; exact UInt8.lt_irrefl _ h2
          have hne : a ≠ b := by rintro rfl; exact UInt8.lt_irrefl _ h2
          rw [if_neg h1, if_pos h2, if_neg (by simp only [decide_eq_true_eq]; exact hn), if_neg (by simp [hne])]
        · have e : a = b := UInt8.le_antisymm (UInt8.not_lt.1 h2) (UInt8.not_lt.1 h1)
          subst e
          have e2 : (a :: u < a :: bs) ↔ u < bs := by rw [List.cons_lt_cons_iff]; simp [UInt8.lt_irrefl]
          rw [if_neg (UInt8.lt_irrefl _), if_neg (UInt8.lt_irrefl _)]
          simp only [e2, decide_eq_true_eq, List.cons_beq_cons, beq_self_eq_true, Bool.true_and]

def klt (a b : ByteArray) : Bool := Op.bytesLess a.toList b.toList
theorem klt_iff {a b : ByteArray} : klt a b = true ↔ a.toList < b.toList := by rw [klt, bytesLess_is]; simp
theorem klt_no {a b : ByteArray} : klt a b = false ↔ ¬ a.toList < b.toList := by rw [klt, bytesLess_is]; simp
theorem klt_irrefl (a : ByteArray) : klt a a = false := klt_no.2 (bl_irrefl _)
theorem klt_trans {a b c : ByteArray} (h : klt a b = true) (k : klt b c = true) : klt a c = true := klt_iff.2 (bl_trans (klt_iff.1 h) (klt_iff.1 k))
theorem klt_asymm {a b : ByteArray} (h : klt a b = true) : klt b a = false := klt_no.2 fun k => bl_irrefl _ (bl_trans (klt_iff.1 h) k)
theorem klt_tri (a b : ByteArray) : klt a b = true ∨ a = b ∨ klt b a = true := by
  rcases bl_tri a.toList b.toList with h | h | h
  · exact .inl (klt_iff.2 h)
  · exact .inr (.inl (bytes_same h))
  · exact .inr (.inr (klt_iff.2 h))
theorem klt_ne {a b : ByteArray} (h : klt a b = true) : a ≠ b := fun e => by subst e; rw [klt_irrefl] at h; cases h
def riseK (l : List ByteArray) : Prop := l.Pairwise fun a b => klt a b = true
def keyA (ks : List ByteArray) (i : Nat) : ByteArray := ks.getD i ⟨#[]⟩

/-- How many stand ahead of a key. -/
def lowK (t : ByteArray) : List ByteArray → Nat
  | [] => 0
  | k :: ks => if klt k t = true then lowK t ks + 1 else 0
theorem lowK_is {t : ByteArray} : ∀ {ks : List ByteArray} {i : Nat}, i ≤ ks.length → (∀ m, m < i → klt (keyA ks m) t = true) → (∀ m, i ≤ m → m < ks.length → klt (keyA ks m) t = false) → lowK t ks = i := by
  intro ks
  induction ks with
  | nil => intro i h _ _; simp at h; rw [lowK, h]
  | cons k ks ih =>
    intro i hi h1 h2
    rw [lowK]
    cases i with
    | zero =>
      have := h2 0 (Nat.le_refl _) (by simp)
      rw [if_neg (by simpa [keyA] using this)]
    | succ i =>
      have := h1 0 (by omega)
      rw [if_pos (by simpa [keyA] using this), ih (i := i) (by simpa using hi) (fun m hm => by simpa [keyA] using h1 (m + 1) (by omega)) (fun m h3 h4 => by simpa [keyA] using h2 (m + 1) (by omega) (by simpa using h4))]
theorem lowK_le (t : ByteArray) : ∀ (ks : List ByteArray), lowK t ks ≤ ks.length := by
  intro ks
  induction ks with
  | nil => exact Nat.le_refl _
  | cons k ks ih => rw [lowK]; split <;> simp <;> omega
theorem lowK_lt {t : ByteArray} : ∀ {ks : List ByteArray} {m : Nat}, m < lowK t ks → klt (keyA ks m) t = true := by
  intro ks
  induction ks with
  | nil => intro m h; simp [lowK] at h
  | cons k ks ih =>
    intro m h
    rw [lowK] at h
    split at h
    · rename_i hk
      cases m with
      | zero => simpa [keyA] using hk
      | succ m => simpa [keyA] using ih (m := m) (by omega)
    · omega
theorem lowK_at {t : ByteArray} : ∀ {ks : List ByteArray}, lowK t ks < ks.length → klt (keyA ks (lowK t ks)) t = false := by
  intro ks
  induction ks with
  | nil => intro h; simp at h
  | cons k ks ih =>
    intro h
    rw [lowK] at h ⊢
    split
    · rename_i hk
      rw [if_pos hk] at h
      simpa [keyA] using ih (by simpa using h)
    · rename_i hk
      simpa [keyA] using hk
theorem rise_mono {ks : List ByteArray} (h : riseK ks) {i j : Nat} (hij : i ≤ j) (hj : j < ks.length) {t : ByteArray} (ht : klt (keyA ks j) t = true) : klt (keyA ks i) t = true := by
  rcases Nat.eq_or_lt_of_le hij with e | e
  · subst e; exact ht
  · have := List.pairwise_iff_getElem.1 h i j (by omega) hj e
    have ei : keyA ks i = ks[i] := by rw [keyA, List.getD_eq_getElem?_getD, List.getElem?_eq_getElem (by omega)]; rfl
    have ej : keyA ks j = ks[j] := by rw [keyA, List.getD_eq_getElem?_getD, List.getElem?_eq_getElem hj]; rfl
    rw [ej] at ht
    rw [ei]
    exact klt_trans this ht
theorem lowK_ge {t : ByteArray} {ks : List ByteArray} (h : riseK ks) {m : Nat} (h1 : lowK t ks ≤ m) (h2 : m < ks.length) : klt (keyA ks m) t = false := by
  rcases hk : klt (keyA ks m) t with _ | _
  · rfl
  · have h3 := rise_mono h h1 h2 hk
    rw [lowK_at (by omega)] at h3
    cases h3
/-- Is the key there? -/
def hasK (t : ByteArray) (ks : List ByteArray) : Bool := decide (lowK t ks < ks.length) && decide (keyA ks (lowK t ks) = t)
end Go.Proofs.YtmeemcafjebanaaGreatDoor
