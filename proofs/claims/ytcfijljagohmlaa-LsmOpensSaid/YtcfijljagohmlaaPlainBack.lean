/- Plain laws: what is written is read as it was, and what is read is written as it stood. No program in sight. -/
import Derived.Test.YtcfijljagohmlaaPlainReadH
import Derived.Test.YtcfijljagohmlaaPlainRead2
namespace Go.Proofs.Ytcfijljagohmlaa
open Go.RowKit

/-! ### Numbers -/
theorem vrd_vb (r : List UInt8) : ∀ (f i x : Nat), f + i = 10 → x < 2 * 128 ^ (9 - i) → (0 < i → x ≠ 0) → 0 < f → vrd i (vb f x ++ r) = some (x, (vb f x).length) := by
  intro f
  induction f with
  | zero => intro i x _ _ _ h; omega
  | succ f ih =>
    intro i x hf hx h0 _
    by_cases hlt : x < 128
    · rw [vb, if_pos hlt]
      have hn : (UInt8.ofNat x).toNat = x := toNat_ofNat x (by omega)
      have h9 : i = 9 → x ≤ 1 := fun e => by subst e; simp at hx; omega
      have hb : vbad i (UInt8.ofNat x) = false := by
        simp only [vbad, hn, Bool.or_eq_false_iff, Bool.and_eq_false_iff, decide_eq_false_iff_not]
        refine ⟨⟨by omega, ?_⟩, ?_⟩
        · by_cases e : i = 9
          · right; have := h9 e; omega
          · left; exact e
        · by_cases e : 0 < i
          · right; exact h0 e
          · left; exact e
      simp only [List.cons_append, List.nil_append, vrd, hb, hn, hlt, if_true, Bool.false_eq_true, if_false, List.length_singleton]
    · rw [vb, if_neg hlt]
      have hn : (UInt8.ofNat (x % 128 + 128)).toNat = x % 128 + 128 := toNat_ofNat _ (by omega)
      have h9 : i < 9 := by
        rcases Nat.lt_or_ge i 9 with h | h
        · exact h
        · have : 9 - i = 0 := by omega
          rw [this] at hx; simp at hx; omega
      have hb : vbad i (UInt8.ofNat (x % 128 + 128)) = false := by
        simp only [vbad, hn, Bool.or_eq_false_iff, Bool.and_eq_false_iff, decide_eq_false_iff_not]
        refine ⟨⟨by omega, .inl (by omega)⟩, .inr (by omega)⟩
      have e : 128 ^ (9 - i) = 128 * 128 ^ (9 - (i + 1)) := by
        rw [← Nat.pow_succ']; congr 1; omega
      have hd : x / 128 < 2 * 128 ^ (9 - (i + 1)) := by
        rw [e] at hx
        exact Nat.div_lt_of_lt_mul (by omega)
      have := ih (i + 1) (x / 128) (by omega) hd (fun _ => by omega) (by omega)
      simp only [List.cons_append, vrd, hb, hn, Bool.false_eq_true, if_false, this, Option.map_some, List.length_cons]
      rw [if_neg (by omega)]
      congr 2
      omega

theorem unzig_zig (n : Int) : unzig (zig n) = n := by
  unfold unzig zig
  split <;> split <;> omega
theorem zig_unzig (x : Nat) : zig (unzig x) = x := by
  unfold unzig zig
  split <;> split <;> omega

theorem rdNum_numB {n : Int} (h : i64ok n) (r : List UInt8) : rdNum (numB n ++ r) = some (n, (numB n).length) := by
  have hz := zig_lt n h.1 h.2
  rw [rdNum, numB, vrd_vb r 10 0 (zig n) rfl (by simp; omega) (fun h => absurd h (by omega)) (by omega)]
  simp [unzig_zig]

theorem vrd_take : ∀ (l : List UInt8) (i : Nat) (x k : Nat), vrd i l = some (x, k) → l.take k = vb (10 - i) x ∧ (0 < i → x ≠ 0) := by
  intro l
  induction l with
  | nil => intro i x k h; simp [vrd] at h
  | cons c r ih =>
    intro i x k h
    have hc := c.toNat_lt
    rw [vrd] at h
    split at h
    · cases h
    · rename_i hn
      obtain ⟨hi, h9, h0⟩ := vbad_not (by simpa using hn)
      have hf : 10 - i = (10 - (i + 1)) + 1 := by omega
      split at h
      · rename_i hlt
        injection h with h; injection h with h1 h2
        subst h1 h2
        refine ⟨?_, h0⟩
        rw [hf, vb, if_pos hlt]
        simp
      · rename_i hge
        obtain ⟨q, hq, he⟩ := Option.map_eq_some_iff.1 h
        injection he with h1 h2
        obtain ⟨hq1, hq2⟩ := ih (i + 1) q.1 q.2 hq
        have hq0 := hq2 (by omega)
        subst h1 h2
        refine ⟨?_, fun _ => by omega⟩
        rw [hf, vb, if_neg (by omega), List.take_succ_cons, hq1]
        have e1 : (c.toNat % 128 + 128 * q.1) % 128 + 128 = c.toNat := by omega
        have e2 : (c.toNat % 128 + 128 * q.1) / 128 = q.1 := by omega
        rw [e1, e2]
        simp

theorem numB_rdNum {l : List UInt8} {v : Int} {k : Nat} (h : rdNum l = some (v, k)) : l = numB v ++ l.drop k ∧ k = (numB v).length := by
  obtain ⟨p, hp, he⟩ := Option.map_eq_some_iff.1 h
  injection he with h1 h2
  have ht := (vrd_take l 0 p.1 p.2 hp).1
  have hb := (rdNum_bd h).2.1
  subst h1 h2
  have e : numB (unzig p.1) = l.take p.2 := by rw [numB, zig_unzig, ht]
  refine ⟨by rw [e, List.take_append_drop], by rw [e, List.length_take]; omega⟩

/-! ### A reader at a place: what is left there -/
/-- At a of l stands r. -/
def Rest (l : List UInt8) (a : Nat) (r : List UInt8) : Prop := a ≤ l.length ∧ l.drop a = r
theorem Rest.start (l : List UInt8) : Rest l 0 l := ⟨Nat.zero_le _, by simp⟩
theorem Rest.on {l : List UInt8} {a : Nat} {p r : List UInt8} (h : Rest l a (p ++ r)) : Rest l (a + p.length) r := by
  have hl : (l.drop a).length = (p ++ r).length := by rw [h.2]
  have h1 := h.1
  simp at hl
  refine ⟨by omega, ?_⟩
  rw [← List.drop_drop, h.2]; simp
theorem Rest.len {l : List UInt8} {a : Nat} {r : List UInt8} (h : Rest l a r) : a + r.length = l.length := by
  have hl : (l.drop a).length = r.length := by rw [h.2]
  have h1 := h.1
  simp at hl; omega
theorem Rest.back {l : List UInt8} {a k : Nat} {p : List UInt8} (ha : a ≤ l.length) (h : l.drop a = p ++ (l.drop a).drop k) : Rest l a (p ++ l.drop (a + k)) := by
  refine ⟨ha, ?_⟩
  rw [List.drop_drop] at h; exact h

theorem numS_at {l : List UInt8} {a : Nat} {n : Int} {r : List UInt8} (h : Rest l a (numB n ++ r)) (hn : i64ok n) : numS l (some a) = (n, some (a + (numB n).length)) := by
  simp only [numS, h.2, rdNum_numB hn]
theorem uptoS_at {l : List UInt8} {a : Nat} {n most : Int} {r : List UInt8} (h : Rest l a (numB n ++ r)) (hn : i64ok n) (h0 : 0 ≤ n) (h1 : n ≤ most) : uptoS l most (some a) = (n, some (a + (numB n).length)) := by
  rw [uptoS, numS_at h hn, if_neg (by simp only; omega)]
theorem textS_at {l : List UInt8} {a : Nat} {most : Int} {s r : List UInt8} (h : Rest l a (textB s ++ r)) (h1 : (s.length : Int) ≤ most) (hs : s.length < 9223372036854775808) :
    textS l most (some a) = (s, some (a + (textB s).length)) := by
  rw [textB, List.append_assoc] at h
  have hl := h.len
  have e := h.on
  have hu := uptoS_at h (most := most) ⟨by omega, by omega⟩ (by omega) h1
  simp only [List.length_append] at hl
  rw [textS, hu]
  simp only
  rw [if_pos (by omega), e.2, Int.toNat_natCast, textB]
  simp [Nat.add_assoc]

theorem numS_back {l : List UInt8} {a b : Nat} {n : Int} (ha : a ≤ l.length) (h : numS l (some a) = (n, some b)) : Rest l a (numB n ++ l.drop b) ∧ b ≤ l.length ∧ i64ok n := by
  simp only [numS] at h
  rcases hr : rdNum (l.drop a) with _ | ⟨v, k⟩
  · rw [hr] at h; simp at h
  · rw [hr] at h
    simp only [Prod.mk.injEq, Option.some.injEq] at h
    obtain ⟨rfl, rfl⟩ := h
    obtain ⟨h1, h2⟩ := numB_rdNum hr
    have hb := rdNum_bd hr
    have hl := hb.2.1
    simp at hl
    exact ⟨Rest.back ha h1, by omega, hb.2.2.2.1, hb.2.2.2.2⟩
theorem uptoS_back {l : List UInt8} {a b : Nat} {n most : Int} (ha : a ≤ l.length) (h : uptoS l most (some a) = (n, some b)) : Rest l a (numB n ++ l.drop b) ∧ b ≤ l.length ∧ 0 ≤ n ∧ n ≤ most := by
  unfold uptoS at h
  split at h
  · cases h
  · rename_i hn
    have := numS_back ha h
    rw [h] at hn
    simp only at hn
    exact ⟨this.1, this.2.1, by omega, by omega⟩
theorem textS_back {l : List UInt8} {a b : Nat} {s : List UInt8} {most : Int} (ha : a ≤ l.length) (h : textS l most (some a) = (s, some b)) : Rest l a (textB s ++ l.drop b) ∧ b ≤ l.length ∧ (s.length : Int) ≤ most := by
  unfold textS at h
  split at h
  · cases h
  · rename_i n q hu
    have hb := uptoS_back ha hu
    split at h
    · rename_i hle
      simp only [Prod.mk.injEq, Option.some.injEq] at h
      obtain ⟨rfl, rfl⟩ := h
      have hlen : ((l.drop q).take n.toNat).length = n.toNat := by simp; omega
      refine ⟨⟨ha, ?_⟩, by omega, by rw [hlen]; omega⟩
      rw [hb.1.2, textB, hlen, Int.toNat_of_nonneg hb.2.2.1, List.append_assoc]
      congr 1
      rw [← List.drop_drop, List.take_append_drop]
    · cases h
theorem numS_none (l : List UInt8) : numS l none = (0, none) := rfl
theorem uptoS_none (l : List UInt8) (m : Int) : (uptoS l m none).2 = none := by unfold uptoS; split <;> rfl
theorem textS_none (l : List UInt8) (m : Int) : (textS l m none).2 = none := by
  unfold textS
  split
  · rfl
  · rename_i h; have := uptoS_none l m; rw [h] at this; cases this

/-! ### Records -/
theorem recS_at {l : List UInt8} {a : Nat} {x : Rec} {r : List UInt8} (h : Rest l a (recB x ++ r)) (hx : recOk x = true) (hn : i64ok x.num) : recS l (some a) = (x, some (a + (recB x).length)) := by
  simp only [recOk, Bool.and_eq_true, decide_eq_true_eq] at hx
  obtain ⟨⟨hk, h0⟩, h1⟩ := hx
  rw [recB, List.append_assoc, List.append_assoc] at h
  have hks : x.key.data.toList.length = x.key.size := by rw [Array.length_toList]; rfl
  have e1 := textS_at (most := 40) h (by rw [hks]; omega) (by rw [hks]; omega)
  have e2 := numS_at h.on hn
  have e3 := uptoS_at (most := 1000000) h.on.on ⟨by omega, by omega⟩ h0 h1
  rw [recS, e1]
  simp only
  rw [e2]
  simp only
  rw [e3]
  simp [recB, Nat.add_assoc]

theorem recsS_at {l : List UInt8} : ∀ (xs : List Rec) (a : Nat) (r : List UInt8), Rest l a (xs.flatMap recB ++ r) → (∀ x ∈ xs, recOk x = true ∧ i64ok x.num) → recsS l xs.length (some a) = (xs, some (a + (xs.flatMap recB).length)) := by
  intro xs
  induction xs with
  | nil => intro a r _ _; simp [recsS]
  | cons x xs ih =>
    intro a r h hall
    rw [List.flatMap_cons, List.append_assoc] at h
    obtain ⟨h1, h2⟩ := hall x (by simp)
    have e := recS_at h h1 h2
    rw [List.length_cons, recsS_good (by rw [e]), e, ih _ r h.on (fun y hy => hall y (by simp [hy]))]
    simp [Nat.add_assoc]

theorem recs_read {xs : List Rec} (h : recsE xs = 0) (hn : ∀ x ∈ xs, i64ok x.num) : readRecs (recsB xs) = some xs := by
  unfold recsE at h
  split at h
  · cases h
  · rename_i hl
    split at h
    · rename_i hall
      have hB : recsB xs = numB xs.length ++ xs.flatMap recB := (recE_good (by omega) fun j r hj hr => List.all_eq_true.1 hall r (List.mem_of_getElem? hr)).2
      have hR : Rest (recsB xs) 0 (numB xs.length ++ (xs.flatMap recB ++ [])) := by rw [List.append_nil, ← hB]; exact Rest.start _
      have e1 := uptoS_at (most := 400) hR ⟨by omega, by omega⟩ (by omega) (by omega)
      have e2 := recsS_at xs _ [] hR.on (fun x hx => ⟨List.all_eq_true.1 hall x hx, hn x hx⟩)
      have hlen := hR.on.on.len
      unfold readRecs
      rw [e1]
      simp only [Int.toNat_natCast]
      rw [e2]
      have h2 : endS (recsB xs) (some (0 + (numB (xs.length : Int)).length + (xs.flatMap recB).length)) = true := by simpa [endS] using hlen
      simp only [h2, if_true]
    · cases h

theorem recS_back {l : List UInt8} {a b : Nat} {x : Rec} (ha : a ≤ l.length) (h : recS l (some a) = (x, some b)) : Rest l a (recB x ++ l.drop b) ∧ b ≤ l.length ∧ recOk x = true ∧ i64ok x.num := by
  unfold recS at h
  rcases e1 : textS l 40 (some a) with ⟨kb, s2⟩
  rw [e1] at h
  simp only at h
  rcases s2 with _ | a2
  · simp only [numS_none, uptoS_none] at h; cases h
  · rcases e2 : numS l (some a2) with ⟨n, s3⟩
    rw [e2] at h
    simp only at h
    rcases s3 with _ | a3
    · simp only [uptoS_none] at h; cases h
    · rcases e3 : uptoS l 1000000 (some a3) with ⟨t, s4⟩
      rw [e3] at h
      simp only [Prod.mk.injEq] at h
      obtain ⟨rfl, rfl⟩ := h
      obtain ⟨r1, l1, k1⟩ := textS_back ha e1
      obtain ⟨r2, l2, n2⟩ := numS_back l1 e2
      obtain ⟨r3, l3, t0, t1⟩ := uptoS_back l2 e3
      refine ⟨⟨ha, ?_⟩, l3, ?_, n2⟩
      · rw [r1.2, r2.2, r3.2]; simp [recB]
      · have hsz : (ByteArray.mk kb.toArray).size = kb.length := by show kb.toArray.size = _; simp
        simp only [recOk, hsz, Bool.and_eq_true, decide_eq_true_eq]
        omega
theorem recsS_back {l : List UInt8} : ∀ (m : Nat) (s : Option Nat) (a b : Nat) (xs : List Rec), s = some a → a ≤ l.length → recsS l m s = (xs, some b) → Rest l a (xs.flatMap recB ++ l.drop b) ∧ b ≤ l.length ∧ xs.length = m ∧ ∀ x ∈ xs, recOk x = true ∧ i64ok x.num := by
  intro m
  induction m with
  | zero => intro s a b xs hs ha h; subst hs; simp only [recsS, Prod.mk.injEq, Option.some.injEq] at h; obtain ⟨rfl, rfl⟩ := h; exact ⟨⟨ha, rfl⟩, ha, rfl, fun _ hx => absurd hx (List.not_mem_nil)⟩
  | succ m ih =>
    intro s a b xs hs ha h
    subst hs
    rcases e : recS l (some a) with ⟨x, s'⟩
    rcases s' with _ | a'
    · rw [recsS_bad (by rw [e])] at h; cases h
    · rw [recsS_good (by rw [e]), e] at h
      simp only [Prod.mk.injEq] at h
      obtain ⟨rfl, h2⟩ := h
      obtain ⟨r1, l1, o1⟩ := recS_back ha e
      obtain ⟨r2, l2, e2, o2⟩ := ih (some a') a' b (recsS l m (some a')).1 rfl l1 (by rw [← h2])
      refine ⟨⟨ha, ?_⟩, l2, by simp [e2], ?_⟩
      · rw [r1.2, r2.2]; simp
      · intro y hy
        rcases List.mem_cons.1 hy with rfl | hy
        · exact o1
        · exact o2 y hy
theorem recOk_ok {x : Rec} (h : recOk x = true) (hn : i64ok x.num) : x.Ok := by
  simp only [recOk, Bool.and_eq_true, decide_eq_true_eq] at h
  exact ⟨by omega, hn, by unfold i64ok; omega⟩
theorem recsS_none (l : List UInt8) : ∀ m, (recsS l m none).2 = none ∨ m = 0 := by
  intro m
  cases m with
  | zero => exact .inr rfl
  | succ m =>
    left
    have : (recS l none).2 = none := by simp only [recS]; rw [show (textS l 40 none).2 = none from textS_none _ _, numS_none]; exact uptoS_none _ _
    rw [recsS_bad this]

theorem read_recs {l : List UInt8} {xs : List Rec} (h : readRecs l = some xs) : recsE xs = 0 ∧ recsB xs = l ∧ xs.length ≤ 400 ∧ ∀ x ∈ xs, recOk x = true ∧ i64ok x.num := by
  unfold readRecs at h
  rcases e1 : uptoS l 400 (some 0) with ⟨n, s⟩
  rw [e1] at h
  simp only at h
  split at h
  · rename_i hend
    injection h with h
    rcases hs : (recsS l n.toNat s).2 with _ | b
    · rw [hs] at hend; cases hend
    · rw [hs] at hend
      simp only [endS, decide_eq_true_eq] at hend
      rcases s with _ | a
      · have hn : n = 0 := by
          have h1 : (uptoS l 400 (some 0)) = (n, none) := e1
          unfold uptoS at h1
          split at h1
          · injection h1 with h1 _; exact h1.symm
          · rcases hr : rdNum (l.drop 0) with _ | ⟨v, k⟩
            · simp only [numS, hr] at h1; injection h1 with h1 _; exact h1.symm
            · simp only [numS, hr] at h1; cases h1
        subst hn
        simp [recsS] at hs
      · obtain ⟨r1, l1, n0, n1⟩ := uptoS_back (Nat.zero_le _) e1
        obtain ⟨r2, l2, e2, o2⟩ := recsS_back n.toNat (some a) a b xs rfl l1 (by rw [← h, ← hs])
        have hE := recE_good (l := xs) (by omega) (fun j r hj hr => (o2 r (List.mem_of_getElem? hr)).1)
        refine ⟨hE.1, ?_, by omega, o2⟩
        have hl0 := r1.2
        simp only [List.drop_zero] at hl0
        rw [hE.2, hl0, r2.2, e2, Int.toNat_of_nonneg n0, hend]
        simp
  · cases h
end Go.Proofs.Ytcfijljagohmlaa
