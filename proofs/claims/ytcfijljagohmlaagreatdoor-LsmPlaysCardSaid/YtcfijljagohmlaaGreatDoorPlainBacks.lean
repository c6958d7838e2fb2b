/- PlainBack PlainBackH in one text. -/
import Derived.Test.YtcfijljagohmlaaGreatDoorPlainReadH
import Derived.Test.YtcfijljagohmlaaGreatDoorPlainRead2
/- Plain laws: what is written is read as it was, and what is read is written as it stood. No program in sight. -/
namespace Go.Proofs.YtcfijljagohmlaaGreatDoor
open Go.RowKit

/-! ### Numbers -/
theorem vrd_vb (r : List UInt8) : ∀ (f i x : Nat), f + i = 10 → x < 2 * 128 ^ (9 - i) → (0 < i → x ≠ 0) → 0 < f → vrd i (vb f x ++ r) = some (x, (vb f x).length) := by
  intro f
  induction f with
  | zero => intro i x _ _ _ h; omega
  | succ f ih =>
    intro i x hf hx h0 _
    by_cases hlt : x < 128
    · rw [vb, if_pos hlt]
      have hn : (UInt8.ofNat x).toNat = x := toNat_ofNat x (by omega)
      have h9 : i = 9 → x ≤ 1 := fun e => by subst e; simp at hx; omega
      have hb : vbad i (UInt8.ofNat x) = false := by
        simp only [vbad, hn, Bool.or_eq_false_iff, Bool.and_eq_false_iff, decide_eq_false_iff_not]
        refine ⟨⟨by omega, ?_⟩, ?_⟩
        · by_cases e : i = 9
          · right; have := h9 e; omega
          · left; exact e
        · by_cases e : 0 < i
          · right; exact h0 e
          · left; exact e
      simp only [List.cons_append, List.nil_append, vrd, hb, hn, hlt, if_true, Bool.false_eq_true, if_false, List.length_singleton]
    · rw [vb, if_neg hlt]
      have hn : (UInt8.ofNat (x % 128 + 128)).toNat = x % 128 + 128 := toNat_ofNat _ (by omega)
      have h9 : i < 9 := by
        rcases Nat.lt_or_ge i 9 with h | h
        · exact h
        · have : 9 - i = 0 := by omega
          rw [this] at hx; simp at hx; omega
      have hb : vbad i (UInt8.ofNat (x % 128 + 128)) = false := by
        simp only [vbad, hn, Bool.or_eq_false_iff, Bool.and_eq_false_iff, decide_eq_false_iff_not]
        refine ⟨⟨by omega, .inl (by omega)⟩, .inr (by omega)⟩
      have e : 128 ^ (9 - i) = 128 * 128 ^ (9 - (i + 1)) := by
        rw [← Nat.pow_succ']; congr 1; omega
      have hd : x / 128 < 2 * 128 ^ (9 - (i + 1)) := by
        rw [e] at hx
        exact Nat.div_lt_of_lt_mul (by omega)
      have := ih (i + 1) (x / 128) (by omega) hd (fun _ => by omega) (by omega)
      simp only [List.cons_append, vrd, hb, hn, Bool.false_eq_true, if_false, this, Option.map_some, List.length_cons]
      rw [if_neg (by omega)]
      congr 2
      omega

theorem unzig_zig (n : Int) : unzig (zig n) = n := by
  unfold unzig zig
  split <;> split <;> omega
theorem zig_unzig (x : Nat) : zig (unzig x) = x := by
  unfold unzig zig
  split <;> split <;> omega

theorem rdNum_numB {n : Int} (h : i64ok n) (r : List UInt8) : rdNum (numB n ++ r) = some (n, (numB n).length) := by
  have hz := zig_lt n h.1 h.2
  rw [rdNum, numB, vrd_vb r 10 0 (zig n) rfl (by simp; omega) (fun h => absurd h (by omega)) (by omega)]
  simp [unzig_zig]

theorem vrd_take : ∀ (l : List UInt8) (i : Nat) (x k : Nat), vrd i l = some (x, k) → l.take k = vb (10 - i) x ∧ (0 < i → x ≠ 0) := by
  intro l
  induction l with
  | nil => intro i x k h; simp [vrd] at h
  | cons c r ih =>
    intro i x k h
    have hc := c.toNat_lt
    rw [vrd] at h
    split at h
    · cases h
    · rename_i hn
      obtain ⟨hi, h9, h0⟩ := vbad_not (by simpa using hn)
      have hf : 10 - i = (10 - (i + 1)) + 1 := by omega
      split at h
      · rename_i hlt
        injection h with h; injection h with h1 h2
        subst h1 h2
        refine ⟨?_, h0⟩
        rw [hf, vb, if_pos hlt]
        simp
      · rename_i hge
        obtain ⟨q, hq, he⟩ := Option.map_eq_some_iff.1 h
        injection he with h1 h2
        obtain ⟨hq1, hq2⟩ := ih (i + 1) q.1 q.2 hq
        have hq0 := hq2 (by omega)
        subst h1 h2
        refine ⟨?_, fun _ => by omega⟩
        rw [hf, vb, if_neg (by omega), List.take_succ_cons, hq1]
        have e1 : (c.toNat % 128 + 128 * q.1) % 128 + 128 = c.toNat := by omega
        have e2 : (c.toNat % 128 + 128 * q.1) / 128 = q.1 := by omega
        rw [e1, e2]
        simp

theorem numB_rdNum {l : List UInt8} {v : Int} {k : Nat} (h : rdNum l = some (v, k)) : l = numB v ++ l.drop k ∧ k = (numB v).length := by
  obtain ⟨p, hp, he⟩ := Option.map_eq_some_iff.1 h
  injection he with h1 h2
  have ht := (vrd_take l 0 p.1 p.2 hp).1
  have hb := (rdNum_bd h).2.1
  subst h1 h2
  have e : numB (unzig p.1) = l.take p.2 := by rw [numB, zig_unzig, ht]
  refine ⟨by rw [e, List.take_append_drop], by rw [e, List.length_take]; omega⟩

/-! ### A reader at a place: what is left there -/
/-- At a of l stands r. -/
def Rest (l : List UInt8) (a : Nat) (r : List UInt8) : Prop := a ≤ l.length ∧ l.drop a = r
theorem Rest.start (l : List UInt8) : Rest l 0 l := ⟨Nat.zero_le _, by simp⟩
theorem Rest.on {l : List UInt8} {a : Nat} {p r : List UInt8} (h : Rest l a (p ++ r)) : Rest l (a + p.length) r := by
  have hl : (l.drop a).length = (p ++ r).length := by rw [h.2]
  have h1 := h.1
  simp at hl
  refine ⟨by omega, ?_⟩
  rw [← List.drop_drop, h.2]; simp
theorem Rest.len {l : List UInt8} {a : Nat} {r : List UInt8} (h : Rest l a r) : a + r.length = l.length := by
  have hl : (l.drop a).length = r.length := by rw [h.2]
  have h1 := h.1
  simp at hl; omega
theorem Rest.back {l : List UInt8} {a k : Nat} {p : List UInt8} (ha : a ≤ l.length) (h : l.drop a = p ++ (l.drop a).drop k) : Rest l a (p ++ l.drop (a + k)) := by
  refine ⟨ha, ?_⟩
  rw [List.drop_drop] at h; exact h

theorem numS_at {l : List UInt8} {a : Nat} {n : Int} {r : List UInt8} (h : Rest l a (numB n ++ r)) (hn : i64ok n) : numS l (some a) = (n, some (a + (numB n).length)) := by
  simp only [numS, h.2, rdNum_numB hn]
theorem uptoS_at {l : List UInt8} {a : Nat} {n most : Int} {r : List UInt8} (h : Rest l a (numB n ++ r)) (hn : i64ok n) (h0 : 0 ≤ n) (h1 : n ≤ most) : uptoS l most (some a) = (n, some (a + (numB n).length)) := by
  rw [uptoS, numS_at h hn, if_neg (by simp only; omega)]
theorem textS_at {l : List UInt8} {a : Nat} {most : Int} {s r : List UInt8} (h : Rest l a (textB s ++ r)) (h1 : (s.length : Int) ≤ most) (hs : s.length < 9223372036854775808) :
    textS l most (some a) = (s, some (a + (textB s).length)) := by
  rw [textB, List.append_assoc] at h
  have hl := h.len
  have e := h.on
  have hu := uptoS_at h (most := most) ⟨by omega, by omega⟩ (by omega) h1
  simp only [List.length_append] at hl
  rw [textS, hu]
  simp only
  rw [if_pos (by omega), e.2, Int.toNat_natCast, textB]
  simp [Nat.add_assoc]

theorem numS_back {l : List UInt8} {a b : Nat} {n : Int} (ha : a ≤ l.length) (h : numS l (some a) = (n, some b)) : Rest l a (numB n ++ l.drop b) ∧ b ≤ l.length ∧ i64ok n := by
  simp only [numS] at h
  rcases hr : rdNum (l.drop a) with _ | ⟨v, k⟩
  · rw [hr] at h; simp at h
  · rw [hr] at h
    simp only [Prod.mk.injEq, Option.some.injEq] at h
    obtain ⟨rfl, rfl⟩ := h
    obtain ⟨h1, h2⟩ := numB_rdNum hr
    have hb := rdNum_bd hr
    have hl := hb.2.1
    simp at hl
    exact ⟨Rest.back ha h1, by omega, hb.2.2.2.1, hb.2.2.2.2⟩
theorem uptoS_back {l : List UInt8} {a b : Nat} {n most : Int} (ha : a ≤ l.length) (h : uptoS l most (some a) = (n, some b)) : Rest l a (numB n ++ l.drop b) ∧ b ≤ l.length ∧ 0 ≤ n ∧ n ≤ most := by
  unfold uptoS at h
  split at h
  · cases h
  · rename_i hn
    have := numS_back ha h
    rw [h] at hn
    simp only at hn
    exact ⟨this.1, this.2.1, by omega, by omega⟩
theorem textS_back {l : List UInt8} {a b : Nat} {s : List UInt8} {most : Int} (ha : a ≤ l.length) (h : textS l most (some a) = (s, some b)) : Rest l a (textB s ++ l.drop b) ∧ b ≤ l.length ∧ (s.length : Int) ≤ most := by
  unfold textS at h
  split at h
  · cases h
  · rename_i n q hu
    have hb := uptoS_back ha hu
    split at h
    · rename_i hle
      simp only [Prod.mk.injEq, Option.some.injEq] at h
      obtain ⟨rfl, rfl⟩ := h
      have hlen : ((l.drop q).take n.toNat).length = n.toNat := by simp; omega
      refine ⟨⟨ha, ?_⟩, by omega, by rw [hlen]; omega⟩
      rw [hb.1.2, textB, hlen, Int.toNat_of_nonneg hb.2.2.1, List.append_assoc]
      congr 1
      rw [← List.drop_drop, List.take_append_drop]
    · cases h
theorem numS_none (l : List UInt8) : numS l none = (0, none) := rfl
theorem uptoS_none (l : List UInt8) (m : Int) : (uptoS l m none).2 = none := by unfold uptoS; split <;> rfl
theorem textS_none (l : List UInt8) (m : Int) : (textS l m none).2 = none := by
  unfold textS
  split
  · rfl
  · rename_i h; have := uptoS_none l m; rw [h] at this; cases this

/-! ### Records -/
theorem recS_at {l : List UInt8} {a : Nat} {x : Rec} {r : List UInt8} (h : Rest l a (recB x ++ r)) (hx : recOk x = true) (hn : i64ok x.num) : recS l (some a) = (x, some (a + (recB x).length)) := by
  simp only [recOk, Bool.and_eq_true, decide_eq_true_eq] at hx
  obtain ⟨⟨hk, h0⟩, h1⟩ := hx
  rw [recB, List.append_assoc, List.append_assoc] at h
  have hks : x.key.data.toList.length = x.key.size := by rw [Array.length_toList]; rfl
  have e1 := textS_at (most := 40) h (by rw [hks]; omega) (by rw [hks]; omega)
  have e2 := numS_at h.on hn
  have e3 := uptoS_at (most := 1000000) h.on.on ⟨by omega, by omega⟩ h0 h1
  rw [recS, e1]
  simp only
  rw [e2]
  simp only
  rw [e3]
  simp [recB, Nat.add_assoc]

theorem recsS_at {l : List UInt8} : ∀ (xs : List Rec) (a : Nat) (r : List UInt8), Rest l a (xs.flatMap recB ++ r) → (∀ x ∈ xs, recOk x = true ∧ i64ok x.num) → recsS l xs.length (some a) = (xs, some (a + (xs.flatMap recB).length)) := by
  intro xs
  induction xs with
  | nil => intro a r _ _; simp [recsS]
  | cons x xs ih =>
    intro a r h hall
    rw [List.flatMap_cons, List.append_assoc] at h
    obtain ⟨h1, h2⟩ := hall x (by simp)
    have e := recS_at h h1 h2
    rw [List.length_cons, recsS_good (by rw [e]), e, ih _ r h.on (fun y hy => hall y (by simp [hy]))]
    simp [Nat.add_assoc]

theorem recs_read {xs : List Rec} (h : recsE xs = 0) (hn : ∀ x ∈ xs, i64ok x.num) : readRecs (recsB xs) = some xs := by
  unfold recsE at h
  split at h
  · cases h
  · rename_i hl
    split at h
    · rename_i hall
      have hB : recsB xs = numB xs.length ++ xs.flatMap recB := (recE_good (by omega) fun j r hj hr => List.all_eq_true.1 hall r (List.mem_of_getElem? hr)).2
      have hR : Rest (recsB xs) 0 (numB xs.length ++ (xs.flatMap recB ++ [])) := by rw [List.append_nil, ← hB]; exact Rest.start _
      have e1 := uptoS_at (most := 400) hR ⟨by omega, by omega⟩ (by omega) (by omega)
      have e2 := recsS_at xs _ [] hR.on (fun x hx => ⟨List.all_eq_true.1 hall x hx, hn x hx⟩)
      have hlen := hR.on.on.len
      unfold readRecs
      rw [e1]
      simp only [Int.toNat_natCast]
      rw [e2]
      have h2 : endS (recsB xs) (some (0 + (numB (xs.length : Int)).length + (xs.flatMap recB).length)) = true := by simpa [endS] using hlen
      simp only [h2, if_true]
    · cases h

theorem recS_back {l : List UInt8} {a b : Nat} {x : Rec} (ha : a ≤ l.length) (h : recS l (some a) = (x, some b)) : Rest l a (recB x ++ l.drop b) ∧ b ≤ l.length ∧ recOk x = true ∧ i64ok x.num := by
  unfold recS at h
  rcases e1 : textS l 40 (some a) with ⟨kb, s2⟩
  rw [e1] at h
  simp only at h
  rcases s2 with _ | a2
  · simp only [numS_none, uptoS_none] at h; cases h
  · rcases e2 : numS l (some a2) with ⟨n, s3⟩
    rw [e2] at h
    simp only at h
    rcases s3 with _ | a3
    · simp only [uptoS_none] at h; cases h
    · rcases e3 : uptoS l 1000000 (some a3) with ⟨t, s4⟩
      rw [e3] at h
      simp only [Prod.mk.injEq] at h
      obtain ⟨rfl, rfl⟩ := h
      obtain ⟨r1, l1, k1⟩ := textS_back ha e1
      obtain ⟨r2, l2, n2⟩ := numS_back l1 e2
      obtain ⟨r3, l3, t0, t1⟩ := uptoS_back l2 e3
      refine ⟨⟨ha, ?_⟩, l3, ?_, n2⟩
      · rw [r1.2, r2.2, r3.2]; simp [recB]
      · have hsz : (ByteArray.mk kb.toArray).size = kb.length := by show kb.toArray.size = _; simp
        simp only [recOk, hsz, Bool.and_eq_true, decide_eq_true_eq]
        omega
theorem recsS_back {l : List UInt8} : ∀ (m : Nat) (s : Option Nat) (a b : Nat) (xs : List Rec), s = some a → a ≤ l.length → recsS l m s = (xs, some b) → Rest l a (xs.flatMap recB ++ l.drop b) ∧ b ≤ l.length ∧ xs.length = m ∧ ∀ x ∈ xs, recOk x = true ∧ i64ok x.num := by
  intro m
  induction m with
  | zero => intro s a b xs hs ha h; subst hs; simp only [recsS, Prod.mk.injEq, Option.some.injEq] at h; obtain ⟨rfl, rfl⟩ := h; exact ⟨⟨ha, rfl⟩, ha, rfl, fun _ hx => absurd hx (List.not_mem_nil)⟩
  | succ m ih =>
    intro s a b xs hs ha h
    subst hs
    rcases e : recS l (some a) with ⟨x, s'⟩
    rcases s' with _ | a'
    · rw [recsS_bad (by rw [e])] at h; cases h
    · rw [recsS_good (by rw [e]), e] at h
      simp only [Prod.mk.injEq] at h
      obtain ⟨rfl, h2⟩ := h
      obtain ⟨r1, l1, o1⟩ := recS_back ha e
      obtain ⟨r2, l2, e2, o2⟩ := ih (some a') a' b (recsS l m (some a')).1 rfl l1 (by rw [← h2])
      refine ⟨⟨ha, ?_⟩, l2, by simp [e2], ?_⟩
      · rw [r1.2, r2.2]; simp
      · intro y hy
        rcases List.mem_cons.1 hy with rfl | hy
        · exact o1
        · exact o2 y hy
theorem recOk_ok {x : Rec} (h : recOk x = true) (hn : i64ok x.num) : x.Ok := by
  simp only [recOk, Bool.and_eq_true, decide_eq_true_eq] at h
  exact ⟨by omega, hn, by unfold i64ok; omega⟩
theorem recsS_none (l : List UInt8) : ∀ m, (recsS l m none).2 = none ∨ m = 0 := by
  intro m
  cases m with
  | zero => exact .inr rfl
  | succ m =>
    left
    have : (recS l none).2 = none := by simp only [recS]; rw [show (textS l 40 none).2 = none from textS_none _ _, numS_none]; exact uptoS_none _ _
    rw [recsS_bad this]

theorem read_recs {l : List UInt8} {xs : List Rec} (h : readRecs l = some xs) : recsE xs = 0 ∧ recsB xs = l ∧ xs.length ≤ 400 ∧ ∀ x ∈ xs, recOk x = true ∧ i64ok x.num := by
  unfold readRecs at h
  rcases e1 : uptoS l 400 (some 0) with ⟨n, s⟩
  rw [e1] at h
  simp only at h
  split at h
  · rename_i hend
    injection h with h
    rcases hs : (recsS l n.toNat s).2 with _ | b
    · rw [hs] at hend; cases hend
    · rw [hs] at hend
      simp only [endS, decide_eq_true_eq] at hend
      rcases s with _ | a
      · have hn : n = 0 := by
          have h1 : (uptoS l 400 (some 0)) = (n, none) := e1
          unfold uptoS at h1
          split at h1
          · injection h1 with h1 _; exact h1.symm
          · rcases hr : rdNum (l.drop 0) with _ | ⟨v, k⟩
            · simp only [numS, hr] at h1; injection h1 with h1 _; exact h1.symm
            · simp only [numS, hr] at h1; cases h1
        subst hn
        simp [recsS] at hs
      · obtain ⟨r1, l1, n0, n1⟩ := uptoS_back (Nat.zero_le _) e1
        obtain ⟨r2, l2, e2, o2⟩ := recsS_back n.toNat (some a) a b xs rfl l1 (by rw [← h, ← hs])
        have hE := recE_good (l := xs) (by omega) (fun j r hj hr => (o2 r (List.mem_of_getElem? hr)).1)
        refine ⟨hE.1, ?_, by omega, o2⟩
        have hl0 := r1.2
        simp only [List.drop_zero] at hl0
        rw [hE.2, hl0, r2.2, e2, Int.toNat_of_nonneg n0, hend]
        simp
  · cases h
end Go.Proofs.YtcfijljagohmlaaGreatDoor

/- Plain laws: states and pieces that are written are read as they were. No program in sight. -/
namespace Go.Proofs.YtcfijljagohmlaaGreatDoor
open Go.RowKit

theorem hldS_at {l : List UInt8} {a : Nat} {x : Hld} {r : List UInt8} (h : Rest l a (hldB x ++ r)) (hx : hldOk x = true) (h1 : i64ok x.a) (h2 : i64ok x.b) : hldS l (some a) = (x, some (a + (hldB x).length)) := by
  simp only [hldOk, Bool.and_eq_true, decide_eq_true_eq] at hx
  obtain ⟨⟨h3, h4⟩, hk⟩ := hx
  rw [hldB, List.append_assoc, List.append_assoc, List.append_assoc] at h
  have hks : x.key.data.toList.length = x.key.size := by rw [Array.length_toList]; rfl
  have e0 := uptoS_at (most := 11) h ⟨by omega, by omega⟩ h3 (by omega)
  have e1 := textS_at (most := 40) h.on (by rw [hks]; omega) (by rw [hks]; omega)
  have e2 := numS_at h.on.on h1
  have e3 := numS_at h.on.on.on h2
  rw [hldS, e0]
  simp only
  rw [e1]
  simp only
  rw [e2]
  simp only
  rw [e3]
  simp [hldB, Nat.add_assoc]

theorem heldsGo_cons {p : Option Hld} {x : Hld} {xs : List Hld} (h : heldsGo p (x :: xs) = 0) : hldOk x = true ∧ notAfter p x = false ∧ heldsGo (some x) xs = 0 := by
  rw [heldsGo] at h
  split at h
  · cases h
  · rename_i h1
    split at h
    · cases h
    · rename_i h2
      exact ⟨by simpa using h1, by simpa using h2, h⟩

theorem hldsS_at {l : List UInt8} : ∀ (xs : List Hld) (p : Option Hld) (a : Nat) (r : List UInt8), Rest l a (xs.flatMap hldB ++ r) → heldsGo p xs = 0 → (∀ x ∈ xs, i64ok x.a ∧ i64ok x.b) → hldsS l xs.length p (some a) = (xs, some (a + (xs.flatMap hldB).length)) := by
  intro xs
  induction xs with
  | nil => intro p a r _ _ _; simp [hldsS]
  | cons x xs ih =>
    intro p a r h hgo hall
    rw [List.flatMap_cons, List.append_assoc] at h
    obtain ⟨h1, h2, h3⟩ := heldsGo_cons hgo
    have hx := hall x (by simp)
    have e := hldS_at h h1 hx.1 hx.2
    have hr : riseS p (hldS l (some a)).1 (hldS l (some a)).2 = some (a + (hldB x).length) := by rw [e]; simp [riseS, h2]
    rw [List.length_cons, hldsS_good hr, e, ih _ _ r h.on h3 (fun y hy => hall y (by simp [hy]))]
    simp [Nat.add_assoc]

theorem helds_read {xs : List Hld} (h : heldsE xs = 0) (hn : ∀ x ∈ xs, i64ok x.a ∧ i64ok x.b) : readHelds (heldsB xs) = some xs := by
  have hB := hldE_good h
  unfold heldsE at h
  split at h
  · cases h
  · rename_i hl
    have hR : Rest (heldsB xs) 0 (numB xs.length ++ (xs.flatMap hldB ++ [])) := by rw [List.append_nil, ← hB]; exact Rest.start _
    have e1 := uptoS_at (most := 400) hR ⟨by omega, by omega⟩ (by omega) (by omega)
    have e2 := hldsS_at xs none _ [] hR.on h hn
    have hlen := hR.on.on.len
    unfold readHelds
    rw [e1]
    simp only [Int.toNat_natCast]
    rw [e2]
    have h2 : endS (heldsB xs) (some (0 + (numB (xs.length : Int)).length + (xs.flatMap hldB).length)) = true := by simpa [endS] using hlen
    simp only [h2, if_true]

/-! ### A piece -/
/-- What the first piece has, and how many bytes it is. -/
def openS (l : List UInt8) : Option (List UInt8 × Nat) :=
  match rdNum l with
  | none => none
  | some (n, k) => if n < 0 ∨ (l.length : Int) - k - 4 < n then none
    else if (l.drop (k + n.toNat)).take 4 = sum4 (sumB ((l.drop k).take n.toNat)) then some ((l.drop k).take n.toNat, k + n.toNat + 4) else none

theorem open_seal (b more : List UInt8) (h : b.length < 9223372036854775808) : openS (sealB b ++ more) = some (b, (sealB b).length) := by
  have e : sealB b ++ more = numB b.length ++ (b ++ (sum4 (sumB b) ++ more)) := by simp [sealB]
  have hr := rdNum_numB (n := (b.length : Int)) ⟨by omega, by omega⟩ (b ++ (sum4 (sumB b) ++ more))
  rw [openS, e, hr]
  simp only
  have h4 : (sum4 (sumB b)).length = 4 := rfl
  rw [if_neg (by simp only [List.length_append]; omega), Int.toNat_natCast]
  have d1 : (numB b.length ++ (b ++ (sum4 (sumB b) ++ more))).drop (numB b.length).length = b ++ (sum4 (sumB b) ++ more) := by simp
  have d2 : (numB b.length ++ (b ++ (sum4 (sumB b) ++ more))).drop ((numB b.length).length + b.length) = sum4 (sumB b) ++ more := by
    rw [← List.drop_drop, d1]; simp
  rw [d1, d2, List.take_append_of_le_length (by omega), List.take_append_of_le_length (by omega), List.take_length, List.take_of_length_le (by omega), if_pos rfl]
  simp [sealB, h4, Nat.add_assoc]

theorem open_cut (b : List UInt8) (h : b.length < 9223372036854775808) : openS ((sealB b).take ((sealB b).length - 1)) = none := by
  have h4 : (sum4 (sumB b)).length = 4 := rfl
  have hl : (sealB b).length = (numB b.length).length + b.length + 4 := by simp [sealB, h4, Nat.add_assoc]
  have e : (sealB b).take ((sealB b).length - 1) = numB b.length ++ (b ++ (sum4 (sumB b)).take 3) := by
    rw [hl, sealB, List.append_assoc, List.take_append, List.take_of_length_le (by omega), List.take_append, List.take_of_length_le (by omega)]
    congr 3
    omega
  have hr := rdNum_numB (n := (b.length : Int)) ⟨by omega, by omega⟩ (b ++ (sum4 (sumB b)).take 3)
  rw [openS, e, hr]
  simp only
  rw [if_pos]
  right
  simp only [List.length_append, List.length_take, h4]
  omega

theorem sumB_lt' (l : List UInt8) : sumB l < 4294967296 := sumTo_lt _ _
/-- What Open answers. -/
def opB (l : List UInt8) : List UInt8 := ((openS l).map (·.1)).getD []
def opN (l : List UInt8) : Int := (((openS l).map (·.2)).getD 0 : Nat)
def opE (l : List UInt8) : Nat := if (openS l).isSome then 0 else 9
theorem op_none {l : List UInt8} (h : openS l = none) : opB l = [] ∧ opN l = 0 ∧ opE l = 9 := by simp [opB, opN, opE, h]
theorem op_some {l i : List UInt8} {n : Nat} (h : openS l = some (i, n)) : opB l = i ∧ opN l = n ∧ opE l = 0 := by simp [opB, opN, opE, h]
/-- Open, of the number ahead and where it ends. -/
def openAt (l : List UInt8) (v : Int) : Option Nat → Option (List UInt8 × Nat)
  | none => none
  | some a => if v < 0 ∨ (l.length : Int) - a - 4 < v then none
    else if (l.drop (a + v.toNat)).take 4 = sum4 (sumB ((l.drop a).take v.toNat)) then some ((l.drop a).take v.toNat, a + v.toNat + 4) else none
theorem open_form (l : List UInt8) (v : Int) (s1 : Option Nat) (hv : v = (numS l (some 0)).1) (hs : s1 = (numS l (some 0)).2) : openS l = openAt l v s1 := by
  simp only [numS, List.drop_zero] at hv hs
  rw [openS]
  rcases hr : rdNum l with _ | ⟨n, k⟩
  · rw [hr] at hs; subst hs; rfl
  · rw [hr] at hv hs
    simp only at hv hs
    subst hv hs
    simp only [openAt, Nat.zero_add]
theorem openAt_out {l : List UInt8} {v : Int} {a : Nat} (h : v < 0 ∨ (l.length : Int) - a - 4 < v) : openAt l v (some a) = none := by rw [openAt, if_pos h]
/-- The first k bytes of the sum are those that stand there. -/
def SumTo (l : List UInt8) (e x k : Nat) : Prop := ∀ j, j < k → l.getD (e + j) 0 = UInt8.ofNat (x / 256 ^ j % 256)
theorem take4 {l : List UInt8} {e : Nat} (h : e + 4 ≤ l.length) : (l.drop e).take 4 = [l.getD e 0, l.getD (e + 1) 0, l.getD (e + 2) 0, l.getD (e + 3) 0] := by
  rw [drop_byte (by omega), drop_byte (k := e + 1) (by omega), drop_byte (k := e + 2) (by omega), drop_byte (k := e + 3) (by omega)]
  rfl
theorem SumTo.iff4 {l : List UInt8} {e x : Nat} (h : e + 4 ≤ l.length) : SumTo l e x 4 ↔ (l.drop e).take 4 = sum4 x := by
  rw [take4 h, sum4]
  constructor
  · intro hs
    have h0 := hs 0 (by omega); have h1 := hs 1 (by omega); have h2 := hs 2 (by omega); have h3 := hs 3 (by omega)
    simp only [Nat.add_zero, Nat.pow_zero, Nat.div_one, Nat.pow_one] at h0 h1
    rw [h0, h1, h2, h3]
  · intro hs j hj
    simp only [List.cons.injEq] at hs
    match j, hj with
    | 0, _ => simpa using hs.1
    | 1, _ => simpa using hs.2.1
    | 2, _ => simpa using hs.2.2.1
    | 3, _ => simpa using hs.2.2.2.1
theorem SumTo.next {l : List UInt8} {e x k : Nat} (h : SumTo l e x k) (hk : (l.getD (e + k) 0).toNat = x / 256 ^ k % 256) : SumTo l e x (k + 1) := by
  intro j hj
  by_cases hjk : j = k
  · subst hjk; rw [← hk]; simp
  · exact h j (by omega)
theorem SumTo.not {l : List UInt8} {e x k : Nat} (hk : k < 4) (hb : (l.getD (e + k) 0).toNat ≠ x / 256 ^ k % 256) : ¬ SumTo l e x 4 := by
  intro h
  have := h k hk
  rw [this, toNat_ofNat _ (by omega)] at hb
  exact hb rfl
theorem openAt_bad {l : List UInt8} {v : Int} {a : Nat} (h0 : 0 ≤ v) (h1 : v ≤ (l.length : Int) - a - 4) (h : ¬ SumTo l (a + v.toNat) (sumB ((l.drop a).take v.toNat)) 4) : openAt l v (some a) = none := by
  rw [openAt, if_neg (by omega), if_neg (fun e => h ((SumTo.iff4 (by omega)).2 e))]
theorem openAt_good {l : List UInt8} {v : Int} {a : Nat} (h0 : 0 ≤ v) (h1 : v ≤ (l.length : Int) - a - 4) (h : SumTo l (a + v.toNat) (sumB ((l.drop a).take v.toNat)) 4) :
    openAt l v (some a) = some ((l.drop a).take v.toNat, a + v.toNat + 4) := by
  rw [openAt, if_neg (by omega), if_pos ((SumTo.iff4 (by omega)).1 h)]

theorem flat_le {α : Type} (f : α → List UInt8) (n : Nat) (l : List α) (h : ∀ a ∈ l, (f a).length ≤ n) : (l.flatMap f).length ≤ l.length * n := by
  induction l with
  | nil => simp
  | cons a l ih =>
    rw [List.flatMap_cons, List.length_append, List.length_cons, Nat.succ_mul]
    have h1 := h a (by simp)
    have h2 := ih fun x hx => h x (by simp [hx])
    omega
theorem recsB_le (l : List Rec) : (recsB l).length ≤ 30000 := by
  unfold recsB
  split
  · rename_i h
    unfold recsE at h
    split at h
    · cases h
    · split at h
      · rename_i hl hall
        have h1 := flat_le recB 70 l fun r hr => by
          have h2 := textB_le r.key 40 (recOk_key (List.all_eq_true.1 hall r hr))
          have h3 := numB_le r.num
          have h4 := numB_le r.time
          simp only [recB, List.length_append]; omega
        have h5 := numB_le (l.length : Int)
        rw [List.length_append]; omega
      · cases h
  · simp
theorem heldsGo_all : ∀ (l : List Hld) (p : Option Hld), heldsGo p l = 0 → ∀ r ∈ l, hldOk r = true := by
  intro l
  induction l with
  | nil => intro p _ r hr; cases hr
  | cons x l ih =>
    intro p h r hr
    obtain ⟨h1, h2, h3⟩ := heldsGo_cons h
    rcases List.mem_cons.1 hr with rfl | hr
    · exact h1
    · exact ih _ h3 r hr
theorem heldsB_le (l : List Hld) : (heldsB l).length ≤ 40000 := by
  unfold heldsB
  split
  · rename_i h
    unfold heldsE at h
    split at h
    · cases h
    · have h1 := flat_le hldB 80 l fun r hr => by
        have h2 := textB_le r.key 40 (hldOk_key (heldsGo_all l none h r hr))
        have h3 := numB_le r.node
        have h4 := numB_le r.a
        have h6 := numB_le r.b
        simp only [hldB, List.length_append]; omega
      have h5 := numB_le (l.length : Int)
      rw [List.length_append]; omega
  · simp

theorem fact300 : numB 300 = [216, 4] := by decide
end Go.Proofs.YtcfijljagohmlaaGreatDoor
