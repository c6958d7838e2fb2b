/- The gate's calls, as GateAligns uses them. -/
import Derived.Test.YtmeemcafjebanaaWalkNext
namespace Go.Proofs.Ytmeemcafjebanaa
open Go.RowKit

def FillAt (w : World) (Z : Nat → Prop) (G : Nat) (a b : Nat → Nat) (n i : Nat) (l : List Itm) (z : Int) : Prop := ∃ s, GateAt w Z G s ∧ Fill a b n s i l z
def Go1At (w : World) (Z : Nat → Prop) (G : Nat) (a b : Nat → Nat) (n : Nat) (t : Nat → Nat) : Prop := ∃ s, GateAt w Z G s ∧ Go1 a b n s t
def Go2At (w : World) (Z : Nat → Prop) (G : Nat) (a b : Nat → Nat) (n : Nat) (t : Nat → Nat) : Prop := ∃ s, GateAt w Z G s ∧ Go2 a b n s t
theorem GateAt.same {w w' : World} {Z : Nat → Prop} {G : Nat} {s : Gat} (h : GateAt w Z G s) (hk : ∀ g, ¬ Z g → g < w.heap.size → w'.heap[g]? = w.heap[g]?) : GateAt w' Z G s := by
  obtain ⟨gw, gl, sl, h⟩ := h
  exact ⟨gw, gl, sl, h.same hk⟩
theorem GateAt.drewN {w : World} {Z : Nat → Prop} {G : Nat} {s : Gat} (h : GateAt w Z G s) (n : Nat) : GateAt (w.drewN n) Z G s := h.same fun _ _ _ => rfl
theorem GateAt.alloc {w : World} {Z : Nat → Prop} {G : Nat} {s : Gat} (h : GateAt w Z G s) (o : Obj) : GateAt (w.alloc o) Z G s := h.same fun g _ hg => Below.heap_alloc w o g hg
theorem GateAt.set_ {w : World} {Z : Nat → Prop} {G : Nat} {s : Gat} (h : GateAt w Z G s) {p : Addr} (hp : Z p.block) (u : Value) : GateAt (w.setCell p u) Z G s := h.same fun g hg _ => Below.heap_setCell w p u g fun e => hg (e ▸ hp)
theorem GateAt.more {w : World} {Z : Nat → Prop} {G : Nat} {s : Gat} (h : GateAt w Z G s) {Y : Nat → Prop} (hY : ∀ k, Y k → w.heap.size ≤ k) : GateAt w (fun k => Z k ∨ Y k) G s := by
  obtain ⟨gw, gl, sl, h⟩ := h
  exact ⟨gw, gl, sl, h.more hY⟩
section
variable {w : World} {Z : Nat → Prop} {G n i : Nat} {a b t : Nat → Nat} {l : List Itm} {z : Int}
theorem FillAt.drewN (h : FillAt w Z G a b n i l z) (m : Nat) : FillAt (w.drewN m) Z G a b n i l z := by obtain ⟨s, h1, h2⟩ := h; exact ⟨s, h1.drewN m, h2⟩
theorem Go1At.drewN (h : Go1At w Z G a b n t) (m : Nat) : Go1At (w.drewN m) Z G a b n t := by obtain ⟨s, h1, h2⟩ := h; exact ⟨s, h1.drewN m, h2⟩
theorem Go2At.drewN (h : Go2At w Z G a b n t) (m : Nat) : Go2At (w.drewN m) Z G a b n t := by obtain ⟨s, h1, h2⟩ := h; exact ⟨s, h1.drewN m, h2⟩
theorem Go1At.alloc (h : Go1At w Z G a b n t) (o : Obj) : Go1At (w.alloc o) Z G a b n t := by obtain ⟨s, h1, h2⟩ := h; exact ⟨s, h1.alloc o, h2⟩
theorem Go2At.alloc (h : Go2At w Z G a b n t) (o : Obj) : Go2At (w.alloc o) Z G a b n t := by obtain ⟨s, h1, h2⟩ := h; exact ⟨s, h1.alloc o, h2⟩
theorem Go1At.set_ (h : Go1At w Z G a b n t) {p : Addr} (hp : Z p.block) (u : Value) : Go1At (w.setCell p u) Z G a b n t := by obtain ⟨s, h1, h2⟩ := h; exact ⟨s, h1.set_ hp u, h2⟩
theorem Go2At.set_ (h : Go2At w Z G a b n t) {p : Addr} (hp : Z p.block) (u : Value) : Go2At (w.setCell p u) Z G a b n t := by obtain ⟨s, h1, h2⟩ := h; exact ⟨s, h1.set_ hp u, h2⟩

theorem bar_fill (h : FillAt w Z G a b n i l z) (hi : i < n) (hn : n ≤ 64) (hl : l.length < 400) (hz : z < 3) (hZ : ∀ k, Z k → k < w.heap.size) :
    Calls Try.prog 5 #[.pointer (some ⟨G, 0, none⟩), .int .i64 i, .int .i64 3] w fun e w' => e = .returned .nilIface ∧ FillAt w' Z G a b n i (l ++ [barItm 3]) 3 ∧ Keeps Z w w' := by
  obtain ⟨s, h1, h2⟩ := h
  refine (bar_any w Z G s i 3 h1 (by omega) (by omega) hZ).mono ?_
  rintro e w' ⟨rfl, h3, h4⟩
  refine ⟨by rw [h2.barE_ hi hl (by omega) hz]; rfl, ⟨_, h3, h2.bar hi hl (by omega) hz⟩, h4⟩
theorem push_fill (k : Nat) (h : FillAt w Z G a b n i l z) (hi : i < n) (hn : n ≤ 64) (hl : l.length < 400) (hZ : ∀ k, Z k → k < w.heap.size) :
    Calls Try.prog 7 #[.pointer (some ⟨G, 0, none⟩), .int .i64 i, .agg #[.string ⟨#[]⟩, .int .i64 k, .int .i64 0]] w fun e w' => e = .returned .nilIface ∧ FillAt w' Z G a b n i (l ++ [recI k]) z ∧ Keeps Z w w' := by
  obtain ⟨s, h1, h2⟩ := h
  refine (push_any w Z G s i ⟨#[]⟩ k 0 h1 (by omega) (by omega) hZ).mono ?_
  rintro e w' ⟨rfl, h3, h4⟩
  refine ⟨by rw [h2.may hi hl]; rfl, ⟨_, h3, h2.push hi hl _⟩, h4⟩
theorem bound_go1 (h : Go1At w Z G a b n t) (hs : sumN t n < sumN a n) (hZ : ∀ k, Z k → k < w.heap.size) :
    Calls Try.prog 6 #[.pointer (some ⟨G, 0, none⟩)] w fun e w' => e = .returned (.tuple #[.int .i64 0, .bool false]) ∧ Go1At w' Z G a b n t ∧ Keeps Z w w' := by
  obtain ⟨s, h1, h2⟩ := h
  obtain ⟨hc, _⟩ := h2.step hs
  obtain ⟨e1, e2⟩ := boundG_open hc
  refine (bound_any w Z G s h1 hZ).mono ?_
  rintro e w' ⟨rfl, h3, h4⟩
  rw [e1] at h3
  exact ⟨by rw [e2, hc], ⟨s, h3, h2⟩, h4⟩
theorem next_go1 (h : Go1At w Z G a b n t) (hs : sumN t n < sumN a n) (hZ : ∀ k, Z k → k < w.heap.size) :
    Calls Try.prog 8 #[.pointer (some ⟨G, 0, none⟩)] w fun e w' => ∃ i, i < n ∧ t i < a i ∧ e = .returned (.tuple #[.agg #[.string ⟨#[]⟩, .int .i64 (t i), .int .i64 0], .int .i64 i, .bool true]) ∧ Go1At w' Z G a b n (upd t i) ∧ Keeps Z w w' := by
  obtain ⟨s, h1, h2⟩ := h
  obtain ⟨_, i, hi, hx, ht, hr, h5⟩ := h2.step hs
  refine (next_any w Z G s h1 hZ).mono ?_
  rintro e w' ⟨rfl, h3, h4⟩
  exact ⟨i, hi, ht, by rw [nextR_some hx, hr]; rfl, ⟨_, h3, h5⟩, h4⟩
theorem next_go1_none (h : Go1At w Z G a b n t) (hs : sumN a n ≤ sumN t n) (hZ : ∀ k, Z k → k < w.heap.size) :
    Calls Try.prog 8 #[.pointer (some ⟨G, 0, none⟩)] w fun e w' => e = .returned (.tuple #[.agg #[.string ⟨#[]⟩, .int .i64 0, .int .i64 0], .int .i64 0, .bool false]) ∧ Go1At w' Z G a b n t ∧ Keeps Z w w' := by
  obtain ⟨s, h1, h2⟩ := h
  obtain ⟨hx, _⟩ := h2.done hs
  refine (next_any w Z G s h1 hZ).mono ?_
  rintro e w' ⟨rfl, h3, h4⟩
  have e2 : nextG s = s := by rw [nextG, hx]
  rw [e2] at h3
  exact ⟨by rw [nextR_none hx]; rfl, ⟨s, h3, h2⟩, h4⟩
theorem bound_go1_done (h : Go1At w Z G a b n t) (hs : sumN a n ≤ sumN t n) (hZ : ∀ k, Z k → k < w.heap.size) :
    Calls Try.prog 6 #[.pointer (some ⟨G, 0, none⟩)] w fun e w' => e = .returned (.tuple #[.int .i64 3, .bool true]) ∧ Go2At w' Z G a b n a ∧ Keeps Z w w' := by
  obtain ⟨s, h1, h2⟩ := h
  obtain ⟨_, hc, hid, h5⟩ := h2.done hs
  refine (bound_any w Z G s h1 hZ).mono ?_
  rintro e w' ⟨rfl, h3, h4⟩
  exact ⟨by rw [hid, hc], ⟨_, h3, h5⟩, h4⟩
/-- What Next does behind the barrier. -/
theorem next_go2 (h : Go2At w Z G a b n t) (hZ : ∀ k, Z k → k < w.heap.size) :
    Calls Try.prog 8 #[.pointer (some ⟨G, 0, none⟩)] w fun e w' =>
      (∃ i, i < n ∧ t i < a i + b i ∧ e = .returned (.tuple #[.agg #[.string ⟨#[]⟩, .int .i64 (t i), .int .i64 0], .int .i64 i, .bool true]) ∧ Go2At w' Z G a b n (upd t i) ∧ Keeps Z w w') ∨
      ((∀ j, j < n → t j = a j + b j) ∧ e = .returned (.tuple #[.agg #[.string ⟨#[]⟩, .int .i64 0, .int .i64 0], .int .i64 0, .bool false]) ∧ (∃ s, GateAt w' Z G s ∧ waitingG s = 0) ∧ Keeps Z w w') := by
  obtain ⟨s, h1, h2⟩ := h
  refine (next_any w Z G s h1 hZ).mono ?_
  rintro e w' ⟨rfl, h3, h4⟩
  rcases hx : nextI s with _ | i
  · have e2 : nextG s = s := by rw [nextG, hx]
    rw [e2] at h3
    obtain ⟨h5, h6⟩ := h2.done hx
    exact .inr ⟨h5, by rw [nextR_none hx]; rfl, ⟨s, h3, h6⟩, h4⟩
  · obtain ⟨hi, ht, hr, h5⟩ := h2.step hx
    exact .inl ⟨i, hi, ht, by rw [nextR_some hx, hr]; rfl, ⟨_, h3, h5⟩, h4⟩
theorem waiting_zero (h : ∃ s, GateAt w Z G s ∧ waitingG s = 0) :
    Calls Try.prog 9 #[.pointer (some ⟨G, 0, none⟩)] w fun e w' => e = .returned (.int .i64 0) ∧ w = w' := by
  obtain ⟨s, h1, h2⟩ := h
  refine (waiting_any w Z G s h1).mono ?_
  rintro e w' ⟨rfl, h3⟩
  exact ⟨by rw [h2]; rfl, h3⟩
theorem newG_fill (w : World) (Z : Nat → Prop) (a b : Nat → Nat) (n : Nat) (h0 : 0 < n) (h1 : n ≤ 64) (hZ : ∀ k, Z k → k < w.heap.size) :
    Calls Try.prog 4 #[.int .i64 n] w fun e w' => ∃ G, e = .returned (.tuple #[.pointer (some ⟨G, 0, none⟩), .nilIface]) ∧ FillAt w' Z G a b n 0 [] 0 ∧ Keeps Z w w' := by
  refine (new_good n w Z h0 h1 hZ).mono ?_
  rintro e w' ⟨G, rfl, h3, h4⟩
  exact ⟨G, rfl, ⟨_, h3, Fill.start h0 h1⟩, h4⟩
/-- The first gate: one barrier. -/
theorem one_bar (h : GateAt w Z G (newG 1)) (hZ : ∀ k, Z k → k < w.heap.size) :
    Calls Try.prog 5 #[.pointer (some ⟨G, 0, none⟩), .int .i64 0, .int .i64 7] w fun e w' => e = .returned .nilIface ∧ GateAt w' Z G (barG (newG 1) 0 7) ∧ Keeps Z w w' :=
  (bar_any w Z G (newG 1) 0 7 h (by omega) (by omega) hZ).mono fun _ _ ⟨h1, h2, h3⟩ => ⟨h1, h2, h3⟩
theorem one_bound (h : GateAt w Z G (barG (newG 1) 0 7)) (hZ : ∀ k, Z k → k < w.heap.size) :
    Calls Try.prog 6 #[.pointer (some ⟨G, 0, none⟩)] w fun e w' => e = .returned (.tuple #[.int .i64 7, .bool true]) ∧ Keeps Z w w' :=
  (bound_any w Z G _ h hZ).mono fun _ _ ⟨h1, _, h3⟩ => ⟨h1, h3⟩
end
end Go.Proofs.Ytmeemcafjebanaa
