/- The reference disk in memory: files by their names in a list, what was done since. -/
import Derived.Test.YtmeemcafjebanaaGreatDoorPlainFiles
import Derived.Test.YtmeemcafjebanaaGreatDoorDiskCrash
namespace Go.Proofs.YtmeemcafjebanaaGreatDoor
open Go.RowKit Go.Maps Go.WideMaps

def RFl.val (x : RFl) : Value := .slice x.A x.b.length x.c
def RFl.cells (x : RFl) : List Value := [.string x.name, x.val]
def fCells (l : List RFl) : List Value := l.flatMap RFl.cells
def RW.sl (w : RW) : Value := .slice w.A w.b.length w.c
def RW.cells (w : RW) : List Value := [.int .i64 w.kind, .string w.name, .string w.to, w.sl, .int .i64 w.n]
def RW.val (w : RW) : Value := .agg #[.int .i64 w.kind, .string w.name, .string w.to, w.sl, .int .i64 w.n]
def wCells (l : List RW) : List Value := l.flatMap RW.cells
theorem flatK {α : Type} (f : α → List Value) (m : Nat) (hf : ∀ x, (f x).length = m) : ∀ (l : List α) (k j : Nat), j < m → (l.flatMap f)[k * m + j]? = l[k]?.bind fun x => (f x)[j]? := by
  intro l
  induction l with
  | nil => intro k j _; simp
  | cons x xs ih =>
    intro k j hj
    rw [List.flatMap_cons]
    cases k with
    | zero => rw [List.getElem?_append_left (by rw [hf]; omega)]; simp
    | succ k =>
      rw [List.getElem?_append_right (by rw [hf, Nat.succ_mul]; omega), hf, show (k + 1) * m + j - m = k * m + j from by rw [Nat.succ_mul]; omega, ih k j hj]
      simp
theorem flatK_len {α : Type} (f : α → List Value) (m : Nat) (hf : ∀ x, (f x).length = m) (l : List α) : (l.flatMap f).length = l.length * m := by
  induction l with
  | nil => simp
  | cons x xs ih => rw [List.flatMap_cons, List.length_append, ih, hf, List.length_cons, Nat.succ_mul]; omega
theorem fCells_snoc (l : List RFl) (x : RFl) : fCells (l ++ [x]) = fCells l ++ [.string x.name, x.val] := by simp [fCells, RFl.cells]
theorem wCells_snoc (l : List RW) (x : RW) : wCells (l ++ [x]) = wCells l ++ [.int .i64 x.kind, .string x.name, .string x.to, x.sl, .int .i64 x.n] := by simp [wCells, RW.cells]
theorem fCells_one (l : List RFl) : ∀ u ∈ fCells l, u.oneCell' = true := by
  intro u hu
  obtain ⟨x, _, hx⟩ := List.mem_flatMap.1 hu
  simp only [RFl.cells, List.mem_cons, List.not_mem_nil, or_false] at hx
  rcases hx with rfl | rfl <;> rfl
theorem wCells_one (l : List RW) : ∀ u ∈ wCells l, u.oneCell' = true := by
  intro u hu
  obtain ⟨x, _, hx⟩ := List.mem_flatMap.1 hu
  simp only [RW.cells, List.mem_cons, List.not_mem_nil, or_false] at hx
  rcases hx with rfl | rfl | rfl | rfl | rfl <;> rfl
theorem Rd.fl_ {w : World} {B n k : Nat} {A : Option Addr} {l : List RFl} (h : Rd w B 2 A n (fCells l)) (hk : k < n) (hl : l.length = n) :
    ∃ ad, ∃ r : RFl, A = some ad ∧ (ad.add (k * 2)).block < B ∧ l[k]? = some r ∧ w.cell? (ad.add (k * 2)) = some (.string r.name) ∧ w.cell? ⟨(ad.add (k * 2)).block, (ad.add (k * 2)).off + 1, none⟩ = some (.slice r.A r.b.length r.c) := by
  obtain ⟨ad, rfl, hbb, hc⟩ := h.2 (by omega)
  have hr : l[k]? = some l[k] := List.getElem?_eq_getElem (by omega)
  have hat : ∀ j, j < 2 → (fCells l)[k * 2 + j]? = (l[k].cells)[j]? := fun j hj => by
    rw [fCells, flatK RFl.cells 2 (fun _ => rfl) l k j hj, hr]; rfl
  refine ⟨ad, l[k], rfl, by rw [block_add]; exact hbb, hr, hc _ _ ((hat 0 (by omega)).trans rfl), ?_⟩
  rw [← add_more]; exact hc _ _ ((hat 1 (by omega)).trans rfl)
theorem Rd.w_ {w : World} {B n k : Nat} {A : Option Addr} {l : List RW} (h : Rd w B 5 A n (wCells l)) (hk : k < n) (hl : l.length = n) :
    ∃ ad, ∃ r : RW, A = some ad ∧ (ad.add (k * 5)).block < B ∧ l[k]? = some r ∧ w.cell? (ad.add (k * 5)) = some (.int .i64 r.kind) ∧ w.cell? ⟨(ad.add (k * 5)).block, (ad.add (k * 5)).off + 1, none⟩ = some (.string r.name) ∧ w.cell? ⟨(ad.add (k * 5)).block, (ad.add (k * 5)).off + 2, none⟩ = some (.string r.to) ∧
      w.cell? ⟨(ad.add (k * 5)).block, (ad.add (k * 5)).off + 3, none⟩ = some (.slice r.A r.b.length r.c) ∧ w.cell? ⟨(ad.add (k * 5)).block, (ad.add (k * 5)).off + 4, none⟩ = some (.int .i64 r.n) := by
  obtain ⟨ad, rfl, hbb, hc⟩ := h.2 (by omega)
  have hr : l[k]? = some l[k] := List.getElem?_eq_getElem (by omega)
  have hat : ∀ j, j < 5 → (wCells l)[k * 5 + j]? = (l[k].cells)[j]? := fun j hj => by
    rw [wCells, flatK RW.cells 5 (fun _ => rfl) l k j hj, hr]; rfl
  refine ⟨ad, l[k], rfl, by rw [block_add]; exact hbb, hr, hc _ _ ((hat 0 (by omega)).trans rfl), ?_, ?_, ?_, ?_⟩
  · rw [← add_more]; exact hc _ _ ((hat 1 (by omega)).trans rfl)
  · rw [← add_more]; exact hc _ _ ((hat 2 (by omega)).trans rfl)
  · rw [← add_more]; exact hc _ _ ((hat 3 (by omega)).trans rfl)
  · rw [← add_more]; exact hc _ _ ((hat 4 (by omega)).trans rfl)
theorem el_fl : Elt Tryz.prog 45 61 (.agg #[.string ByteArray.empty, .slice none 0 0]) 2 40 := ⟨Tryz.underlying45, by kernel_rfl, rfl, by omega, by omega⟩
theorem el_w : Elt Tryz.prog 46 52 (.agg #[.int .i64 0, .string ByteArray.empty, .string ByteArray.empty, .slice none 0 0, .int .i64 0]) 5 72 := ⟨Tryz.underlying46, by kernel_rfl, rfl, by omega, by omega⟩
/-- The reference: files now, those that are safe, what was done since, how many steps, where they stop. -/
structure KS where
  now : List RFl
  safe : List RFl
  since : List RW
  steps : Nat
  stop : Int
/-- Bytes in a row of their own. -/
def BOk (w : World) (base : Nat) (b : List UInt8) (A : Option Addr) (c : Nat) : Prop := w.ownsRow base 5 1 (.slice A b.length c) b.length (b.map bv)
def FsAt (w : World) (base : Nat) (v : Value) (l : List RFl) : Prop := w.ownsRow base 61 2 v l.length (fCells l) ∧ ∀ x ∈ l, BOk w base x.b x.A x.c
structure KAt (w : World) (base R : Nat) (k : KS) : Prop where
  rb : base ≤ R
  rows : ∃ vn vs vw, Blk w R 48 #[vn, vs, vw, .int .i64 k.steps, .int .i64 k.stop] ∧ FsAt w base vn k.now ∧ FsAt w base vs k.safe ∧ w.ownsRow base 52 5 vw k.since.length (wCells k.since)
  sinceB : ∀ x ∈ k.since, BOk w base x.b x.A x.c
section
variable {w w' : World} {base R : Nat} {k : KS} {f : Obj → Bool} {v : Value} {l : List RFl}
theorem FsAt.keep (h : FsAt w base v l) (hk : KeepF f w w') (h1 : ∀ cs, f (.cells cs 5 (0, 0)) = true) (h2 : ∀ cs, f (.cells cs 61 (0, 0)) = true) : FsAt w' base v l := ⟨hk.own h.1 h2, fun x hx => hk.own (h.2 x hx) h1⟩
theorem FsAt.up (h : FsAt w base v l) (hb : Below w.heap.size w w') : FsAt w' base v l := h.keep (f := fun _ => true) (keepF_below hb) (fun _ => rfl) (fun _ => rfl)
theorem KAt.keep (h : KAt w base R k) (hk : KeepF f w w') (h1 : ∀ cs, f (.cells cs 5 (0, 0)) = true) (h2 : ∀ cs, f (.cells cs 61 (0, 0)) = true) (h3 : ∀ cs, f (.cells cs 52 (0, 0)) = true) (h4 : ∀ cs, f (.cells cs 48 (0, 0)) = true) : KAt w' base R k := by
  obtain ⟨vn, vs, vw, b, n, s, ow⟩ := h.rows
  exact ⟨h.rb, ⟨vn, vs, vw, hk.blk b (h4 _), n.keep hk h1 h2, s.keep hk h1 h2, hk.own ow h3⟩, fun x hx => hk.own (h.sinceB x hx) h1⟩
theorem KAt.up (h : KAt w base R k) (hb : Below w.heap.size w w') : KAt w' base R k := h.keep (f := fun _ => true) (keepF_below hb) (fun _ => rfl) (fun _ => rfl) (fun _ => rfl) (fun _ => rfl)
theorem KAt.keepD (h : KAt w base R k) (hk : KeepF fixD w w') : KAt w' base R k := h.keep hk (fun _ => rfl) (fun _ => rfl) (fun _ => rfl) (fun _ => rfl)
theorem DiskAt.keepV {g : Nat} {s : DS} (h : DiskAt w base g s) (hk : KeepF (offT 49) w w') : DiskAt w' base g s := by
  obtain ⟨Mn, Ms, vs, os, h1, h2, h3, h4, h5, h6, h7, h8⟩ := DiskIn.rows h
  exact ⟨DiskIn.gb h, ⟨Mn, Ms, vs, os, hk.blk h1 rfl, h2, h3, h4, h5.keep hk (fun _ _ => rfl), h6.keep hk (fun _ _ => rfl), hk.own h7 (fun _ => rfl), h8.keep hk (fun _ => rfl) (fun _ => rfl) (fun _ => rfl)⟩, DiskIn.run h, fun x hx => (DiskIn.fine h x hx).keep hk (fun _ => rfl)⟩
theorem DiskAt.keepW {g : Nat} {s : DS} (h : DiskAt w base g s) (hk : KeepF (offT 52) w w') : DiskAt w' base g s := by
  obtain ⟨Mn, Ms, vs, os, h1, h2, h3, h4, h5, h6, h7, h8⟩ := DiskIn.rows h
  exact ⟨DiskIn.gb h, ⟨Mn, Ms, vs, os, hk.blk h1 rfl, h2, h3, h4, h5.keep hk (fun _ _ => rfl), h6.keep hk (fun _ _ => rfl), hk.own h7 (fun _ => rfl), h8.keep hk (fun _ => rfl) (fun _ => rfl) (fun _ => rfl)⟩, DiskIn.run h, fun x hx => (DiskIn.fine h x hx).keep hk (fun _ => rfl)⟩
theorem DiskAt.keepK {g : Nat} {s : DS} (h : DiskAt w base g s) (hk : KeepF (offT 48) w w') : DiskAt w' base g s := by
  obtain ⟨Mn, Ms, vs, os, h1, h2, h3, h4, h5, h6, h7, h8⟩ := DiskIn.rows h
  exact ⟨DiskIn.gb h, ⟨Mn, Ms, vs, os, hk.blk h1 rfl, h2, h3, h4, h5.keep hk (fun _ _ => rfl), h6.keep hk (fun _ _ => rfl), hk.own h7 (fun _ => rfl), h8.keep hk (fun _ => rfl) (fun _ => rfl) (fun _ => rfl)⟩, DiskIn.run h, fun x hx => (DiskIn.fine h x hx).keep hk (fun _ => rfl)⟩
end
end Go.Proofs.YtmeemcafjebanaaGreatDoor
