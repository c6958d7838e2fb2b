/- A share of pictures in memory: the files of each picture, in how many pictures a file is. -/
import Derived.Test.YtmeemcafjebanaaGreatDoorDiskMem
import Derived.Test.YtmeemcafjebanaaGreatDoorPlainDisk
import Derived.Test.YtmeemcafjebanaaGreatDoorPlainCompact
import Derived.Test.YtmeemcafjebanaaGreatDoorWalkSpread
namespace Go.Proofs.YtmeemcafjebanaaGreatDoor
open Go.RowKit Go.Maps Go.WideMaps

theorem kint : Keyed Tryz.prog 3 := int_keyed Tryz.underlying3
/-- A picture: its number, its files' names, where they lie. -/
structure Pic where
  n : Int
  nm : List ByteArray
  g : Option Nat
  c : Nat
def Pic.val (p : Pic) : Value := .slice (p.g.map fun k => ⟨k, 0, none⟩) p.nm.length p.c
def kfP (p : Pic) : Lit := .int .i64 p.n
def pD (p : Pic) : DataW Unit := slD p.g p.nm.length p.c
/-- A file's name, and in how many pictures it is. -/
structure Cn where
  name : ByteArray
  k : Nat
def kfC (x : Cn) : Lit := klS x.name
def cD (x : Cn) : DataW Unit := .lit (.int .i64 x.k)
def cR (v : Value) : Option (DataW Unit × List MemPlace) := match v with
  | .int .i64 z => some (.lit (.int .i64 z), [])
  | _ => none
theorem cR_inv {v : Value} {y : DataW Unit × List MemPlace} (h : cR v = some y) : ∃ z : Int, v = .int .i64 z ∧ y = (.lit (.int .i64 z), []) := by
  unfold cR at h
  split at h
  · injection h with h; exact ⟨_, rfl, h.symm⟩
  · cases h
def PMap (w : World) (M : Nat) (l : List Pic) : Prop := ∃ D, w.ownsMap Tryz.prog 3 slR M l.length D ∧ MapL kfP pD D l
def CMap (w : World) (M : Nat) (l : List Cn) : Prop := ∃ D, w.ownsMap Tryz.prog 9 cR M l.length D ∧ MapL kfC cD D l
def PicOk (w : World) (base : Nat) (p : Pic) : Prop := w.ownsRow base 9 1 p.val p.nm.length (p.nm.map sv)
/-- In how many pictures a file is. -/
def cntP (l : List Pic) (nm : ByteArray) : Nat := l.countP fun p => p.nm.any fun z => decide (z = nm)
/-- Counts that a function tells; none is nought. -/
structure CntOk (f : ByteArray → Nat) (C : List Cn) : Prop where
  is_ : ∀ x ∈ C, x.k = f x.name ∧ 0 < x.k
  has : ∀ nm, 0 < f nm → ∃ x ∈ C, x.name = nm
def atC (n : ByteArray) (l : List Cn) : Option Cn := l.find? fun z => decide (z.name = n)
def offC (n : ByteArray) (l : List Cn) : List Cn := offKey kfC (klS n) l
theorem atC_some {n : ByteArray} {l : List Cn} {x : Cn} (h : atC n l = some x) : x ∈ l ∧ x.name = n := ⟨List.mem_of_find?_eq_some h, by simpa using List.find?_some h⟩
theorem atC_none {n : ByteArray} {l : List Cn} : atC n l = none ↔ ∀ x ∈ l, x.name ≠ n := by
  rw [atC, List.find?_eq_none]
  constructor
  · intro h x hx e; exact h x hx (by simpa using e)
  · intro h x hx e; exact h x hx (by simpa using e)
theorem mem_offC {n : ByteArray} {l : List Cn} {x : Cn} : x ∈ offC n l ↔ x ∈ l ∧ x.name ≠ n := by
  rw [offC, mem_off (klS_lit n)]
  exact ⟨fun ⟨h1, h2⟩ => ⟨h1, fun e => h2 (by rw [kfC, e])⟩, fun ⟨h1, h2⟩ => ⟨h1, fun e => h2 (klS_inj e)⟩⟩
/-- The count that a look-up gives. -/
theorem CntOk.at_ {f : ByteArray → Nat} {C : List Cn} (h : CntOk f C) (nm : ByteArray) : ((atC nm C).map Cn.k).getD 0 = f nm := by
  rcases ha : atC nm C with _ | x
  · show 0 = f nm
    rcases Nat.eq_zero_or_pos (f nm) with h0 | h0
    · exact h0.symm
    · obtain ⟨x, hx, e⟩ := h.has nm h0
      exact absurd e (atC_none.1 ha x hx)
  · obtain ⟨h1, h2⟩ := atC_some ha
    show x.k = f nm
    rw [(h.is_ x h1).1, h2]
def setF (f : ByteArray → Nat) (nm : ByteArray) (k : Nat) : ByteArray → Nat := fun m => if m = nm then k else f m
theorem CntOk.put {f : ByteArray → Nat} {C : List Cn} (h : CntOk f C) (nm : ByteArray) {k : Nat} (hk : 0 < k) : CntOk (setF f nm k) (⟨nm, k⟩ :: offC nm C) := by
  refine ⟨fun x hx => ?_, fun m hm => ?_⟩
  · rcases List.mem_cons.1 hx with rfl | hx
    · exact ⟨by simp [setF], hk⟩
    · obtain ⟨h1, h2⟩ := mem_offC.1 hx
      obtain ⟨h3, h4⟩ := h.is_ x h1
      exact ⟨by rw [setF, if_neg h2]; exact h3, h4⟩
  · by_cases e : m = nm
    · exact ⟨⟨nm, k⟩, List.mem_cons_self, e.symm⟩
    · rw [setF, if_neg e] at hm
      obtain ⟨x, hx, hn⟩ := h.has m hm
      exact ⟨x, List.mem_cons_of_mem _ (mem_offC.2 ⟨hx, by rw [hn]; exact e⟩), hn⟩
theorem CntOk.del {f : ByteArray → Nat} {C : List Cn} (h : CntOk f C) (nm : ByteArray) : CntOk (setF f nm 0) (offC nm C) := by
  refine ⟨fun x hx => ?_, fun m hm => ?_⟩
  · obtain ⟨h1, h2⟩ := mem_offC.1 hx
    obtain ⟨h3, h4⟩ := h.is_ x h1
    exact ⟨by rw [setF, if_neg h2]; exact h3, h4⟩
  · by_cases e : m = nm
    · rw [setF, if_pos e] at hm; cases hm
    · rw [setF, if_neg e] at hm
      obtain ⟨x, hx, hn⟩ := h.has m hm
      exact ⟨x, mem_offC.2 ⟨hx, by rw [hn]; exact e⟩, hn⟩
theorem setF_set (f : ByteArray → Nat) (nm : ByteArray) (a b : Nat) : setF (setF f nm a) nm b = setF f nm b := by
  funext m
  unfold setF
  split <;> rfl
theorem CntOk.congr {f f' : ByteArray → Nat} {C : List Cn} (h : CntOk f C) (e : ∀ m, f m = f' m) : CntOk f' C := by
  have : f = f' := funext e
  rwa [this] at h
/-- A share at block g. -/
structure ShareIn (w : World) (base g : Nat) (pics : List Pic) : Prop where
  rows : ∃ Mp Mc C, Blk w g 70 #[.map (some Mp), .map (some Mc)] ∧ base ≤ g ∧ base ≤ Mp ∧ base ≤ Mc ∧ Mp ≠ Mc ∧ PMap w Mp pics ∧ CMap w Mc C ∧ CntOk (cntP pics) C
  fine : ∀ p ∈ pics, PicOk w base p ∧ (∀ x ∈ p.nm, x.size ≤ 20) ∧ p.nm.Nodup ∧ p.nm.length ≤ 400
section
variable {w w' : World} {base g M : Nat} {pics : List Pic} {f : Obj → Bool}
theorem PMap.same {l : List Pic} (h : PMap w M l) (hb : w'.heap[M]? = w.heap[M]?) : PMap w' M l := by
  obtain ⟨D, h1, h2⟩ := h
  exact ⟨D, own_map_same h1 hb, h2⟩
theorem CMap.same {l : List Cn} (h : CMap w M l) (hb : w'.heap[M]? = w.heap[M]?) : CMap w' M l := by
  obtain ⟨D, h1, h2⟩ := h
  exact ⟨D, own_map_same h1 hb, h2⟩
theorem PMap.lt {l : List Pic} (h : PMap w M l) : M < w.heap.size := by obtain ⟨D, h1, _⟩ := h; exact h1.lt
theorem CMap.lt {l : List Cn} (h : CMap w M l) : M < w.heap.size := by obtain ⟨D, h1, _⟩ := h; exact h1.lt
theorem PMap.up {l : List Pic} (h : PMap w M l) (hb : Below w.heap.size w w') : PMap w' M l := h.same (hb.block M h.lt)
theorem CMap.up {l : List Cn} (h : CMap w M l) (hb : Below w.heap.size w w') : CMap w' M l := h.same (hb.block M h.lt)
theorem PMap.of {n : Nat} {D : DataW Unit} {l : List Pic} (h1 : w.ownsMap Tryz.prog 3 slR M n D) (h2 : MapL kfP pD D l) : PMap w M l := ⟨D, by rw [← h2.size]; exact own_tight h1, h2⟩
theorem CMap.of {n : Nat} {D : DataW Unit} {l : List Cn} (h1 : w.ownsMap Tryz.prog 9 cR M n D) (h2 : MapL kfC cD D l) : CMap w M l := ⟨D, by rw [← h2.size]; exact own_tight h1, h2⟩
theorem PicOk.keep {p : Pic} (h : PicOk w base p) (hk : KeepF f w w') (hf : ∀ cs, f (.cells cs 9 (0, 0)) = true) : PicOk w' base p := hk.own h hf
theorem ShareIn.up (h : ShareIn w base g pics) (hb : Below w.heap.size w w') : ShareIn w' base g pics := by
  obtain ⟨Mp, Mc, C, h1, h2, h3, h4, h5, h6, h7, h8⟩ := h.rows
  exact ⟨⟨Mp, Mc, C, h1.up hb, h2, h3, h4, h5, h6.up hb, h7.up hb, h8⟩, fun p hp => ⟨own_up (h.fine p hp).1 hb, (h.fine p hp).2⟩⟩
end
theorem zslS (w : World) : (zeroValue 23).run Tryz.prog w = .ok (.slice none 0 0) w := by kernel_rfl
theorem zintS (w : World) : (zeroValue 3).run Tryz.prog w = .ok (.int .i64 0) w := by kernel_rfl
def atP (n : Int) (l : List Pic) : Option Pic := l.find? fun z => decide (z.n = n)
theorem atP_some {n : Int} {l : List Pic} {x : Pic} (h : atP n l = some x) : x ∈ l ∧ x.n = n := ⟨List.mem_of_find?_eq_some h, by simpa using List.find?_some h⟩
theorem atP_none {n : Int} {l : List Pic} : atP n l = none ↔ ∀ x ∈ l, x.n ≠ n := by
  rw [atP, List.find?_eq_none]
  constructor
  · intro h x hx e; exact h x hx (by simpa using e)
  · intro h x hx e; exact h x hx (by simpa using e)
def picV : Option Pic → Value
  | none => .slice none 0 0
  | some p => p.val
theorem kfP_lit (p : Pic) : WideAt.IsKeyLit (kfP p) := by trivial
theorem kfC_lit (x : Cn) : WideAt.IsKeyLit (kfC x) := klS_lit _
theorem klI_lit (n : Int) : WideAt.IsKeyLit (Lit.int .i64 n) := by trivial
theorem kint_key {n : Int} (h : (Lit.int .i64 n).wf = true) : keyOf Tryz.prog 3 (.int .i64 n) = some (.int .i64 n) := keyOf_int_mk Tryz.underlying3 h
set_option maxRecDepth 100000 in
theorem PMap.look {w : World} {M : Nat} {l : List Pic} (h : PMap w M l) {n : Int} (hn : (Lit.int .i64 n).wf = true) : (Instr.lookup 67 (.map (some M)) (.int .i64 n) true).run Tryz.prog w = .ok (.tuple #[picV (atP n l), .bool (atP n l).isSome]) w := by
  obtain ⟨D, h1, h2⟩ := h
  obtain ⟨v, ps, hrun, hv⟩ := h1.look_ok kint Tryz.underlying67 (zslS w) (zd := slD none 0 0) (zp := []) rfl (kint_key hn)
  have inj : ∀ {x : Pic}, kfP x = Lit.int .i64 n → x.n = n := fun {x} e => by injection e
  rcases ha : atP n l with _ | x
  · have hh : Maps.has D (Lit.int .i64 n) = false := h2.not_has fun x hx e => atP_none.1 ha x hx (inj e)
    rw [hrun, hh]
    obtain ⟨g, m, c, rfl, e2⟩ := slR_inv hv
    injection e2 with e2 _
    rw [Maps.atKey_of_not_has hh] at e2
    obtain ⟨rfl, rfl, rfl⟩ := slD_inj e2
    rfl
  · obtain ⟨k1, k2⟩ := atP_some ha
    have hk : kfP x = Lit.int .i64 n := by rw [kfP, k2]
    have hh := h2.there x k1
    have h3 := h2.at_ x k1 (slD none 0 0)
    rw [hk] at hh h3
    rw [hrun, hh]
    obtain ⟨g, m, c, rfl, e2⟩ := slR_inv hv
    injection e2 with e2 _
    rw [h3] at e2
    obtain ⟨rfl, rfl, rfl⟩ := slD_inj e2
    rfl
set_option maxRecDepth 100000 in
theorem CMap.look {w : World} {M : Nat} {l : List Cn} (h : CMap w M l) {n : ByteArray} (hn : n.size ≤ maxLen) : (Instr.lookup 68 (.map (some M)) (.string n) false).run Tryz.prog w = .ok (.int .i64 (((atC n l).map Cn.k).getD 0 : Nat)) w := by
  obtain ⟨D, h1, h2⟩ := h
  obtain ⟨v, ps, hrun, hv⟩ := h1.lookup kstr Tryz.underlying68 (zintS w) (zd := .lit (.int .i64 0)) (zp := []) rfl (klS_key hn)
  obtain ⟨z, rfl, e⟩ := cR_inv hv
  injection e with e _
  rw [hrun]
  rcases ha : atC n l with _ | x
  · have hh : Maps.has D (klS n) = false := h2.not_has fun x hx e => atC_none.1 ha x hx (klS_inj e)
    rw [Maps.atKey_of_not_has hh] at e
    injection e with e
    injection e with _ e
    rw [← e]; rfl
  · obtain ⟨k1, k2⟩ := atC_some ha
    have h3 := h2.at_ x k1 (.lit (.int .i64 0))
    rw [show kfC x = klS n from by rw [kfC, k2]] at h3
    rw [h3] at e
    injection e with e
    injection e with _ e
    rw [← e]; rfl
end Go.Proofs.YtmeemcafjebanaaGreatDoor
