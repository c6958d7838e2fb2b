/- Files by their names, in memory; what a disk's steps do with them. -/
import Derived.Test.YtmeemcafjebanaaGreatDoorKeepF
import Derived.Test.YtmeemcafjebanaaGreatDoorProg
namespace Go.Proofs.YtmeemcafjebanaaGreatDoor
open Go.RowKit Go.Maps Go.WideMaps

def klS (k : ByteArray) : Lit := .string k.data.toList
theorem ba_inj {a b : ByteArray} (h : a.data.toList = b.data.toList) : a = b := by
  have : a.data = b.data := Array.toList_inj.1 h
  cases a; cases b; simp at this; rw [this]
theorem klS_inj {a b : ByteArray} (h : klS a = klS b) : a = b := by
  injection h with h
  exact ba_inj h
theorem klS_lit (a : ByteArray) : WideAt.IsKeyLit (klS a) := by trivial
theorem kstr : Keyed Tryz.prog 9 := string_keyed Tryz.underlying9
theorem klS_key {k : ByteArray} (h : k.size ≤ maxLen) : keyOf Tryz.prog 9 (.string k) = some (klS k) := keyOf_string_mk Tryz.underlying9 h
/-- A file: its name, its bytes, and where they lie. -/
structure Fl where
  name : ByteArray
  b : List UInt8
  g : Option Nat
  c : Nat
def Fl.val (x : Fl) : Value := .slice (x.g.map fun k => ⟨k, 0, none⟩) x.b.length x.c
/-- How a slice that begins a block reads: the block, how many, how many fit. -/
def slD (g : Option Nat) (n c : Nat) : DataW Unit := .slice [.lit (.bool g.isSome), .lit (.int .i64 (g.getD 0)), .lit (.int .i64 n), .lit (.int .i64 c)] []
def slR (v : Value) : Option (DataW Unit × List MemPlace) := match v with
  | .slice none n c => some (slD none n c, [])
  | .slice (some ⟨k, 0, none⟩) n c => some (slD (some k) n c, [])
  | _ => none
def flD (x : Fl) : DataW Unit := slD x.g x.b.length x.c
def kfF (x : Fl) : Lit := klS x.name
theorem slR_mk (g : Option Nat) (n c : Nat) : slR (.slice (g.map fun k => ⟨k, 0, none⟩) n c) = some (slD g n c, []) := by
  rcases g with _ | k <;> rfl
theorem slD_inj {g g' : Option Nat} {n n' c c' : Nat} (h : slD g n c = slD g' n' c') : g = g' ∧ n = n' ∧ c = c' := by
  unfold slD at h
  injection h with h _
  injection h with h1 h
  injection h with h2 h
  injection h with h3 h
  injection h with h4 _
  injection h1 with h1
  injection h1 with h1
  injection h2 with h2
  injection h2 with _ h2
  injection h3 with h3
  injection h3 with _ h3
  injection h4 with h4
  injection h4 with _ h4
  refine ⟨?_, by omega, by omega⟩
  rcases g with _ | k <;> rcases g' with _ | k' <;> simp at h1 h2 ⊢
  omega
theorem slR_inv {v : Value} {y : DataW Unit × List MemPlace} (h : slR v = some y) : ∃ g n c, v = .slice (Option.map (fun k => (⟨k, 0, none⟩ : Addr)) g) n c ∧ y = (slD g n c, []) := by
  unfold slR at h
  split at h
  · injection h with h; exact ⟨none, _, _, rfl, h.symm⟩
  · injection h with h; exact ⟨some _, _, _, rfl, h.symm⟩
  · cases h
/-- What is done with files: one is put, gets another name, is taken away. -/
inductive DOp where
  | put (x : Fl)
  | ren (a b : ByteArray)
  | del (a : ByteArray)
def offF (n : ByteArray) (l : List Fl) : List Fl := offKey kfF (klS n) l
def atF (n : ByteArray) (l : List Fl) : Option Fl := l.find? fun z => decide (z.name = n)
def renF (l : List Fl) (a b : ByteArray) : Option Fl → List Fl
  | none => l
  | some x => ⟨b, x.b, x.g, x.c⟩ :: offF b (offF a l)
def doF (l : List Fl) : DOp → List Fl
  | .put x => x :: offF x.name l
  | .ren a b => renF l a b (atF a l)
  | .del a => offF a l
/-- It can be done, and names are short. -/
def okOp (l : List Fl) : DOp → Prop
  | .put x => x.name.size ≤ 20
  | .ren a b => (∃ x, atF a l = some x) ∧ a.size ≤ 20 ∧ b.size ≤ 20
  | .del a => a.size ≤ 20
def runF (l : List Fl) (os : List DOp) : List Fl := os.foldl doF l
def okRun : List Fl → List DOp → Prop
  | _, [] => True
  | l, o :: os => okOp l o ∧ okRun (doF l o) os
theorem runF_app (l : List Fl) (os : List DOp) (o : DOp) : runF l (os ++ [o]) = doF (runF l os) o := by simp [runF]
theorem okRun_app {o : DOp} : ∀ {os : List DOp} {l : List Fl}, okRun l (os ++ [o]) ↔ okRun l os ∧ okOp (runF l os) o := by
  intro os
  induction os with
  | nil => intro l; simp [okRun, runF]
  | cons p ps ih => intro l; rw [List.cons_append, okRun, ih, okRun]; simp [runF, and_assoc]
theorem atF_some {n : ByteArray} {l : List Fl} {x : Fl} (h : atF n l = some x) : x ∈ l ∧ x.name = n := ⟨List.mem_of_find?_eq_some h, by simpa using List.find?_some h⟩
theorem atF_none {n : ByteArray} {l : List Fl} : atF n l = none ↔ ∀ x ∈ l, x.name ≠ n := by
  rw [atF, List.find?_eq_none]
  constructor
  · intro h x hx e; exact h x hx (by simpa using e)
  · intro h x hx e; exact h x hx (by simpa using e)
theorem off_le (n : ByteArray) (l : List Fl) : (offF n l).length ≤ l.length := List.length_filter_le _ _
theorem off_lt {n : ByteArray} {l : List Fl} {x : Fl} (h : atF n l = some x) : (offF n l).length < l.length := by
  obtain ⟨h1, h2⟩ := atF_some h
  rw [offF, offKey]
  refine Nat.lt_of_le_of_ne (List.length_filter_le _ _) fun e => ?_
  have := List.length_filter_eq_length_iff.1 e x h1
  rw [show kfF x = klS n from by rw [kfF, h2], WideAt.sameKey_self (klS_lit n)] at this
  cases this
theorem do_le (l : List Fl) (o : DOp) : (doF l o).length ≤ l.length + 1 := by
  cases o with
  | put x => exact Nat.succ_le_succ (off_le _ _)
  | ren a b =>
    show (renF l a b (atF a l)).length ≤ _
    rcases h : atF a l with _ | x
    · exact Nat.le_succ _
    · exact Nat.succ_le_succ (Nat.le_trans (off_le _ _) (off_le _ _))
  | del a => exact Nat.le_succ_of_le (off_le _ _)
theorem run_le : ∀ (os : List DOp) (l : List Fl), (runF l os).length ≤ l.length + os.length := by
  intro os
  induction os with
  | nil => intro l; exact Nat.le_refl _
  | cons p ps ih =>
    intro l
    have h1 := ih (doF l p)
    have h2 := do_le l p
    show (runF (doF l p) ps).length ≤ _
    simp
    omega
/-- What holds of files whatever their names. -/
theorem do_fine {P : Fl → Prop} (hn : ∀ x n, P x → P ⟨n, x.b, x.g, x.c⟩) {l : List Fl} {o : DOp} (h1 : ∀ x ∈ l, P x) (h2 : ∀ x, o = .put x → P x) : ∀ x ∈ doF l o, P x := by
  have hoff : ∀ {n : ByteArray} {l : List Fl}, (∀ x ∈ l, P x) → ∀ x ∈ offF n l, P x := fun h x hx => h x (List.mem_filter.1 hx).1
  cases o with
  | put y =>
    intro x hx
    rcases List.mem_cons.1 hx with rfl | hx
    · exact h2 x rfl
    · exact hoff h1 x hx
  | ren a b =>
    show ∀ x ∈ renF l a b (atF a l), P x
    rcases h : atF a l with _ | y
    · exact h1
    · intro x hx
      rcases List.mem_cons.1 hx with rfl | hx
      · exact hn y b (h1 y (atF_some h).1)
      · exact hoff (hoff h1) x hx
  | del a => exact hoff h1
theorem run_fine {P : Fl → Prop} (hn : ∀ x n, P x → P ⟨n, x.b, x.g, x.c⟩) : ∀ {os : List DOp} {l : List Fl}, (∀ x ∈ l, P x) → (∀ o ∈ os, ∀ x, o = .put x → P x) → ∀ x ∈ runF l os, P x := by
  intro os
  induction os with
  | nil => intro l h _; exact h
  | cons p ps ih => intro l h1 h2; exact ih (do_fine hn h1 fun x e => h2 p List.mem_cons_self x e) fun o ho => h2 o (List.mem_cons_of_mem _ ho)
theorem okRun_take {os : List DOp} : ∀ {l : List Fl} (k : Nat), okRun l os → okRun l (os.take k) := by
  induction os with
  | nil => intro l k h; simp [okRun]
  | cons p ps ih =>
    intro l k h
    cases k with
    | zero => exact trivial
    | succ k => exact ⟨h.1, ih k h.2⟩
theorem okRun_at {os : List DOp} : ∀ {l : List Fl} {k : Nat} {o : DOp}, okRun l os → os[k]? = some o → okOp (runF l (os.take k)) o := by
  induction os with
  | nil => intro l k o _ h; simp at h
  | cons p ps ih =>
    intro l k o h hk
    cases k with
    | zero => simp at hk; subst hk; exact h.1
    | succ k => exact ih (l := doF l p) h.2 (by simpa using hk)
/-- A map of files. -/
def FMap (w : World) (M : Nat) (l : List Fl) : Prop := ∃ D, w.ownsMap Tryz.prog 9 slR M l.length D ∧ MapL kfF flD D l
/-- A file's bytes lie in a row of their own. -/
def FlOk (w : World) (base : Nat) (x : Fl) : Prop := w.ownsRow base 5 1 x.val x.b.length (x.b.map bv) ∧ x.b.length ≤ 60000
/-- The function value that does it. -/
def OpVal (w : World) (base : Nat) : DOp → Value → Prop
  | .put x, v => ∃ bb nb, v = .func (.func 42) #[] #[.pointer (some ⟨bb, 0, none⟩), .pointer (some ⟨nb, 0, none⟩)] ∧ base ≤ bb ∧ base ≤ nb ∧ Blk w bb 41 #[x.val] ∧ Blk w nb 9 #[.string x.name] ∧ FlOk w base x
  | .ren a b, v => ∃ ab bb, v = .func (.func 44) #[] #[.pointer (some ⟨ab, 0, none⟩), .pointer (some ⟨bb, 0, none⟩)] ∧ base ≤ ab ∧ base ≤ bb ∧ Blk w ab 9 #[.string a] ∧ Blk w bb 9 #[.string b]
  | .del a, v => ∃ ab, v = .func (.func 45) #[] #[.pointer (some ⟨ab, 0, none⟩)] ∧ base ≤ ab ∧ Blk w ab 9 #[.string a]
def OpsAt (w : World) (base : Nat) (since : List DOp) (os : List Value) : Prop := os.length = since.length ∧ ∀ (i : Nat) (o : DOp) (v : Value), since[i]? = some o → os[i]? = some v → OpVal w base o v
/-- A disk at block g: what is safe, what was done since, how many steps, where they stop. -/
structure DiskIn (w : World) (base g : Nat) (safe : List Fl) (since : List DOp) (steps : Nat) (stop : Int) : Prop where
  gb : base ≤ g
  rows : ∃ Mn Ms vs os, Blk w g 89 #[.map (some Mn), .map (some Ms), vs, .int .i64 steps, .int .i64 stop] ∧ base ≤ Mn ∧ base ≤ Ms ∧ Mn ≠ Ms ∧ FMap w Mn (runF safe since) ∧ FMap w Ms safe ∧ w.ownsRow base 92 1 vs since.length os ∧ OpsAt w base since os
  run : okRun safe since
  fine : ∀ x ∈ safe, FlOk w base x
/-- What a disk's steps turn not. -/
def fixD : Obj → Bool
  | .cells _ t _ => !(t == 89) && !(t == 92)
  | .map _ _ => false
  | _ => true
/-- .. its function values may. -/
theorem offT_fixD {t : TypeId} (h : t = 89 ∨ t = 92) : ∀ o, fixD o = true → offT t o = true := by
  intro o ho
  cases o with
  | cells c t' fz =>
    simp only [fixD, Bool.and_eq_true, Bool.not_eq_true', beq_eq_false_iff_ne] at ho
    simp only [offT, Bool.not_eq_true', beq_eq_false_iff_ne]
    rcases h with rfl | rfl
    · exact ho.1
    · exact ho.2
  | _ => rfl
theorem offMap_fixD : ∀ o, fixD o = true → offMap o = true := by
  intro o ho
  cases o with
  | map _ _ => cases ho
  | _ => rfl
section
variable {w w' : World} {base g : Nat} {safe : List Fl} {since : List DOp} {steps : Nat} {stop : Int} {f : Obj → Bool}
theorem FMap.up {M : Nat} {l : List Fl} (h : FMap w M l) (hb : Below w.heap.size w w') : FMap w' M l := by
  obtain ⟨D, h1, h2⟩ := h
  exact ⟨D, own_up_map h1 hb, h2⟩
theorem FMap.same {M : Nat} {l : List Fl} (h : FMap w M l) (hb : w'.heap[M]? = w.heap[M]?) : FMap w' M l := by
  obtain ⟨D, h1, h2⟩ := h
  exact ⟨D, own_map_same h1 hb, h2⟩
theorem FMap.lt {M : Nat} {l : List Fl} (h : FMap w M l) : M < w.heap.size := by obtain ⟨D, h1, _⟩ := h; exact h1.lt
theorem FMap.keep {M : Nat} {l : List Fl} (h : FMap w M l) (hk : KeepF f w w') (hf : ∀ es cl, f (.map es cl) = true) : FMap w' M l := by
  obtain ⟨D, h1, h2⟩ := h
  exact ⟨D, hk.map_ h1 hf, h2⟩
theorem FlOk.keep {x : Fl} (h : FlOk w base x) (hk : KeepF f w w') (hf : ∀ cs, f (.cells cs 5 (0, 0)) = true) : FlOk w' base x := ⟨hk.own h.1 hf, h.2⟩
theorem FlOk.name {x : Fl} (h : FlOk w base x) (n : ByteArray) : FlOk w base ⟨n, x.b, x.g, x.c⟩ := h
theorem OpVal.keep {o : DOp} {v : Value} (h : OpVal w base o v) (hk : KeepF f w w') (h1 : ∀ cs, f (.cells cs 5 (0, 0)) = true) (h2 : ∀ cs, f (.cells cs 41 (0, 0)) = true) (h3 : ∀ cs, f (.cells cs 9 (0, 0)) = true) : OpVal w' base o v := by
  cases o with
  | put x =>
    obtain ⟨bb, nb, e, k1, k2, k3, k4, k5⟩ := h
    exact ⟨bb, nb, e, k1, k2, hk.blk k3 (h2 _), hk.blk k4 (h3 _), k5.keep hk h1⟩
  | ren a b =>
    obtain ⟨ab, bb, e, k1, k2, k3, k4⟩ := h
    exact ⟨ab, bb, e, k1, k2, hk.blk k3 (h3 _), hk.blk k4 (h3 _)⟩
  | del a =>
    obtain ⟨ab, e, k1, k2⟩ := h
    exact ⟨ab, e, k1, hk.blk k2 (h3 _)⟩
theorem OpVal.up {o : DOp} {v : Value} (h : OpVal w base o v) (hb : Below w.heap.size w w') : OpVal w' base o v :=
  h.keep (f := fun _ => true) (keepF_below hb) (fun _ => rfl) (fun _ => rfl) (fun _ => rfl)
theorem OpsAt.keep {os : List Value} (h : OpsAt w base since os) (hk : KeepF f w w') (h1 : ∀ cs, f (.cells cs 5 (0, 0)) = true) (h2 : ∀ cs, f (.cells cs 41 (0, 0)) = true) (h3 : ∀ cs, f (.cells cs 9 (0, 0)) = true) : OpsAt w' base since os :=
  ⟨h.1, fun i o v ho hv => (h.2 i o v ho hv).keep hk h1 h2 h3⟩
theorem OpsAt.push {os : List Value} {o : DOp} {v : Value} (h : OpsAt w base since os) (hv : OpVal w base o v) : OpsAt w base (since ++ [o]) (os ++ [v]) := by
  refine ⟨by rw [List.length_append, List.length_append, h.1]; rfl, fun i p u hp hu => ?_⟩
  rcases Nat.lt_or_ge i since.length with hi | hi
  · rw [List.getElem?_append_left hi] at hp
    rw [List.getElem?_append_left (by rw [h.1]; exact hi)] at hu
    exact h.2 i p u hp hu
  · rw [List.getElem?_append_right hi] at hp
    rw [List.getElem?_append_right (by rw [h.1]; exact hi), h.1] at hu
    rcases hj : i - since.length with _ | j
    · rw [hj] at hp hu
      simp at hp hu
      rw [← hp, ← hu]; exact hv
    · rw [hj] at hp
      simp at hp
theorem DiskIn.up (h : DiskIn w base g safe since steps stop) (hb : Below w.heap.size w w') : DiskIn w' base g safe since steps stop := by
  obtain ⟨Mn, Ms, vs, os, h1, h2, h3, h4, h5, h6, h7, h8⟩ := h.rows
  exact ⟨h.gb, ⟨Mn, Ms, vs, os, h1.up hb, h2, h3, h4, h5.up hb, h6.up hb, own_up h7 hb, h8.keep (f := fun _ => true) (keepF_below hb) (fun _ => rfl) (fun _ => rfl) (fun _ => rfl)⟩, h.run, fun x hx => ⟨own_up (h.fine x hx).1 hb, (h.fine x hx).2⟩⟩
theorem OpsAt.put_fine {os : List Value} (h : OpsAt w base since os) : ∀ o ∈ since, ∀ x, o = .put x → FlOk w base x := by
  intro o ho x e
  obtain ⟨i, hi⟩ := List.mem_iff_getElem?.1 ho
  have hl : i < os.length := by rw [h.1]; exact (List.getElem?_eq_some_iff.1 hi).1
  have := h.2 i o os[i] hi (List.getElem?_eq_getElem hl)
  subst e
  obtain ⟨_, _, _, _, _, _, _, hk⟩ := this
  exact hk
theorem DiskIn.now_fine (h : DiskIn w base g safe since steps stop) : ∀ x ∈ runF safe since, FlOk w base x := by
  obtain ⟨Mn, Ms, vs, os, h1, h2, h3, h4, h5, h6, h7, h8⟩ := h.rows
  exact run_fine (P := FlOk w base) (fun x n hx => hx) h.fine h8.put_fine
end
end Go.Proofs.YtmeemcafjebanaaGreatDoor
