/- The reference's gate in memory, and both side by side. -/
import Derived.Test.YtmeemcafjebanaaDoorMemGate
namespace Go.Proofs.YtmeemcafjebanaaDoor
open Go.RowKit

/-- A gate's blocks. -/
def GBlk (G gw gl : Nat) (sl : List Value) (b : Nat) : Prop := b = G ∨ b = gw ∨ b = gl ∨ ∃ v ∈ sl, v.ownBlock = some b
/-- A slice of what waits. -/
def WRow (w : World) (v : Value) (l : List Itm) : Prop := ∃ A c, v = .slice A l.length c ∧ l.length ≤ c ∧ c ≤ maxLen ∧ Rd w w.heap.size 4 A l.length (itmCells l)
theorem WRow.same {w w' : World} {v : Value} {l : List Itm} (h : WRow w v l) (hs : w.heap.size ≤ w'.heap.size) (hk : ∀ g, v.ownBlock = some g → g < w.heap.size → w'.heap[g]? = w.heap[g]?) : WRow w' v l := by
  obtain ⟨A, c, rfl, h1, h2, hr⟩ := h
  refine ⟨A, c, rfl, h1, h2, hr.1, fun hn => ?_⟩
  obtain ⟨ad, e, hb, hc⟩ := hr.2 hn
  subst e
  exact ⟨ad, rfl, by omega, fun j u hu => (World.cell?_of_block (by rw [block_add]; exact hk ad.block rfl hb)).trans (hc j u hu)⟩

structure RefIn (w : World) (Z : Nat → Prop) (G gw gl : Nat) (sl : List Value) (s : Gat) : Prop where
  ok : s.Ok
  obj : Blk w G 33 #[.slice (some ⟨gw, 0, none⟩) s.n s.n, .slice (some ⟨gl, 0, none⟩) s.n s.n, .int .i64 s.next]
  ws : Blk w gw 46 sl.toArray
  ls : Blk w gl 3 (s.last.map iv).toArray
  len : sl.length = s.n
  rows : ∀ (i : Nat) (v : Value), sl[i]? = some v → WRow w v (s.at_ i)
  zz : ∀ b, GBlk G gw gl sl b → ¬ Z b
  lt : ∀ b, GBlk G gw gl sl b → b < w.heap.size
  d1 : G ≠ gw
  d2 : G ≠ gl
  d3 : gw ≠ gl
  dr : ∀ v ∈ sl, ∀ g, v.ownBlock = some g → g ≠ G ∧ g ≠ gw ∧ g ≠ gl
def RefAt (w : World) (Z : Nat → Prop) (G : Nat) (s : Gat) : Prop := ∃ gw gl sl, RefIn w Z G gw gl sl s

section
variable {w w' : World} {Z : Nat → Prop} {G gw gl : Nat} {sl : List Value} {s : Gat}
theorem RefIn.wait (h : RefIn w Z G gw gl sl s) {i : Nat} (hi : i < s.n) :
    ∃ A c, sl[i]? = some (.slice A (s.at_ i).length c) ∧ w.cell? ⟨gw, i, none⟩ = some (.slice A (s.at_ i).length c) ∧ (s.at_ i).length ≤ c ∧ c ≤ maxLen ∧ Rd w w.heap.size 4 A (s.at_ i).length (itmCells (s.at_ i)) := by
  have hl : i < sl.length := by rw [h.len]; exact hi
  obtain ⟨A, c, e, h1, h2, h3⟩ := h.rows i sl[i] (List.getElem?_eq_getElem hl)
  have hs : sl[i]? = some (.slice A (s.at_ i).length c) := by rw [List.getElem?_eq_getElem hl, e]
  refine ⟨A, c, hs, ?_, h1, h2, h3⟩
  rw [h.ws.cell, List.getElem?_toArray, hs]
theorem RefIn.lastc (h : RefIn w Z G gw gl sl s) {i : Nat} (hi : i < s.n) : w.cell? ⟨gl, i, none⟩ = some (.int .i64 (s.last.getD i 0)) := by
  have hl : i < s.last.length := by rw [h.ok.last]; exact hi
  rw [h.ls.cell, List.getElem?_toArray, List.getElem?_map, List.getElem?_eq_getElem hl, List.getD_eq_getElem?_getD, List.getElem?_eq_getElem hl]
  rfl
theorem RefIn.c0 (h : RefIn w Z G gw gl sl s) : w.cell? ⟨G, 0, none⟩ = some (.slice (some ⟨gw, 0, none⟩) s.n s.n) := h.obj.cell 0
theorem RefIn.c1 (h : RefIn w Z G gw gl sl s) : w.cell? ⟨G, 1, none⟩ = some (.slice (some ⟨gl, 0, none⟩) s.n s.n) := h.obj.cell 1
theorem RefIn.c2 (h : RefIn w Z G gw gl sl s) : w.cell? ⟨G, 2, none⟩ = some (.int .i64 s.next) := h.obj.cell 2
theorem RefIn.same (h : RefIn w Z G gw gl sl s) (hs : w.heap.size ≤ w'.heap.size) (hk : ∀ g, GBlk G gw gl sl g → g < w.heap.size → w'.heap[g]? = w.heap[g]?) : RefIn w' Z G gw gl sl s :=
  ⟨h.ok, (hk G (.inl rfl) h.obj.lt).trans h.obj, (hk gw (.inr (.inl rfl)) h.ws.lt).trans h.ws, (hk gl (.inr (.inr (.inl rfl))) h.ls.lt).trans h.ls, h.len,
   fun i v hv => (h.rows i v hv).same hs fun g hg hlt => hk g (.inr (.inr (.inr ⟨v, List.mem_of_getElem? hv, hg⟩))) hlt, h.zz, fun b hb => Nat.lt_of_lt_of_le (h.lt b hb) hs, h.d1, h.d2, h.d3, h.dr⟩
theorem RefIn.keeps (h : RefIn w Z G gw gl sl s) {Y : Nat → Prop} (hk : Keeps Y w w') (hY : ∀ b, GBlk G gw gl sl b → Y b) : RefIn w' Z G gw gl sl s := h.same hk.size fun g hg _ => hk.block g (hY g hg)
theorem RefIn.up (h : RefIn w Z G gw gl sl s) (hb : Below w.heap.size w w') : RefIn w' Z G gw gl sl s := h.same hb.size fun g _ hg => hb.block g hg
theorem RefIn.alloc (h : RefIn w Z G gw gl sl s) (o : Obj) : RefIn (w.alloc o) Z G gw gl sl s := h.same (by simp) fun g _ hg => Below.heap_alloc w o g hg
theorem RefIn.drewN (h : RefIn w Z G gw gl sl s) (n : Nat) : RefIn (w.drewN n) Z G gw gl sl s := h.same (Nat.le_refl _) fun _ _ _ => rfl
theorem RefIn.drew (h : RefIn w Z G gw gl sl s) : RefIn w.drew Z G gw gl sl s := h.same (Nat.le_refl _) fun _ _ _ => rfl
theorem RefIn.zone (h : RefIn w Z G gw gl sl s) {Y : Nat → Prop} (hY : ∀ b, GBlk G gw gl sl b → ¬ Y b) : RefIn w Y G gw gl sl s :=
  ⟨h.ok, h.obj, h.ws, h.ls, h.len, h.rows, hY, h.lt, h.d1, h.d2, h.d3, h.dr⟩
theorem RefIn.set_ (h : RefIn w Z G gw gl sl s) {p : Addr} (hp : Z p.block) (u : Value) : RefIn (w.setCell p u) Z G gw gl sl s :=
  h.same (by simp [World.setCell]) fun g hg _ => Below.heap_setCell w p u g fun e => h.zz g hg (e ▸ hp)
/-- The row at i is another slice, of another block or a part of the old one. -/
theorem RefIn.replace (h : RefIn w Z G gw gl sl s) {i : Nat} {v' : Value} {l : List Itm} (hi : i < s.n) (hl : l.length ≤ 400) (hr : WRow w v' l) (hv : ∀ g, v'.ownBlock = some g → (¬ Z g ∧ g ≠ G ∧ g ≠ gw ∧ g ≠ gl) ∧ g < w.heap.size) :
    RefIn (w.setCell ⟨gw, i, none⟩ v') Z G gw gl (sl.set i v') (s.put i l) ∧ Keeps Z w (w.setCell ⟨gw, i, none⟩ v') := by
  have hmem : ∀ u ∈ sl.set i v', ∀ g, u.ownBlock = some g → ¬ Z g ∧ g ≠ G ∧ g ≠ gw ∧ g ≠ gl := by
    intro u hu g hg'
    rcases List.mem_or_eq_of_mem_set hu with hu | rfl
    · exact ⟨h.zz g (.inr (.inr (.inr ⟨u, hu, hg'⟩))), h.dr u hu g hg'⟩
    · exact (hv g hg').1
  refine ⟨⟨h.ok.put i hl, ?_, ?_, Blk.far h.ls (Ne.symm h.d3) _, by rw [List.length_set, put_n]; exact h.len, fun j u hu => ?_, fun b hb => ?_, fun b hb => ?_, h.d1, h.d2, h.d3, fun u hu g hg => (hmem u hu g hg).2⟩, ?_⟩
  · rw [put_n]; exact Blk.far h.obj h.d1 _
  · have := Blk.set_ h.ws i v'
    simpa using this
  · have hb := (hmem u (List.mem_of_getElem? hu))
    rw [at_put hi]
    rw [List.getElem?_set] at hu
    by_cases hj : i = j
    · subst hj
      rw [if_pos rfl, if_pos (by rw [h.len]; exact hi)] at hu
      injection hu with hu
      subst hu
      rw [if_pos rfl]
      exact hr.same (by simp [World.setCell]) fun g hg _ => Below.heap_setCell w ⟨gw, i, none⟩ v' g (hb g hg).2.2.1
    · rw [if_neg hj] at hu
      rw [if_neg (Ne.symm hj)]
      exact (h.rows j u hu).same (by simp [World.setCell]) fun g hg _ => Below.heap_setCell w ⟨gw, i, none⟩ v' g (hb g hg).2.2.1
  · rcases hb with rfl | rfl | rfl | ⟨u, hu, hg⟩
    · exact h.zz _ (.inl rfl)
    · exact h.zz _ (.inr (.inl rfl))
    · exact h.zz _ (.inr (.inr (.inl rfl)))
    · exact (hmem u hu b hg).1
  · have : b < w.heap.size := by
      rcases hb with rfl | rfl | rfl | ⟨u, hu, hg⟩
      · exact h.obj.lt
      · exact h.ws.lt
      · exact h.ls.lt
      · rcases List.mem_or_eq_of_mem_set hu with hu | rfl
        · exact h.lt b (.inr (.inr (.inr ⟨u, hu, hg⟩)))
        · exact (hv b hg).2
    simpa [World.setCell] using this
  · exact Keeps.set_ (Keeps.refl _ _) (h.zz gw (.inr (.inl rfl))) v'
theorem RefIn.next_ (h : RefIn w Z G gw gl sl s) {j : Nat} (hj : j < s.n) : RefIn (w.setCell ⟨G, 2, none⟩ (.int .i64 j)) Z G gw gl sl { s with next := j } ∧ Keeps Z w (w.setCell ⟨G, 2, none⟩ (.int .i64 j)) := by
  refine ⟨⟨⟨h.ok.pos, h.ok.most, h.ok.last, hj, h.ok.full⟩, ?_, Blk.far h.ws (Ne.symm h.d1) _, Blk.far h.ls (Ne.symm h.d2) _, h.len, fun i v hv => (h.rows i v hv).same (by simp [World.setCell]) fun g hg _ => Below.heap_setCell w ⟨G, 2, none⟩ _ g (h.dr v (List.mem_of_getElem? hv) g hg).1, h.zz, fun b hb => by simpa [World.setCell] using h.lt b hb, h.d1, h.d2, h.d3, h.dr⟩, Keeps.set_ (Keeps.refl _ _) (h.zz G (.inl rfl)) _⟩
  exact Blk.set_ h.obj 2 (.int .i64 j)
theorem RefIn.last_ (h : RefIn w Z G gw gl sl s) (i : Nat) (id : Int) : RefIn (w.setCell ⟨gl, i, none⟩ (.int .i64 id)) Z G gw gl sl { s with last := s.last.set i id } ∧ Keeps Z w (w.setCell ⟨gl, i, none⟩ (.int .i64 id)) := by
  refine ⟨⟨⟨h.ok.pos, h.ok.most, by rw [List.length_set]; exact h.ok.last, h.ok.next, h.ok.full⟩, Blk.far h.obj h.d2 _, Blk.far h.ws h.d3 _, ?_, h.len, fun i v hv => (h.rows i v hv).same (by simp [World.setCell]) fun g hg _ => Below.heap_setCell w ⟨gl, _, none⟩ _ g (h.dr v (List.mem_of_getElem? hv) g hg).2.2, h.zz, fun b hb => by simpa [World.setCell] using h.lt b hb, h.d1, h.d2, h.d3, h.dr⟩, Keeps.set_ (Keeps.refl _ _) (h.zz gl (.inr (.inr (.inl rfl)))) _⟩
  have := Blk.set_ h.ls i (.int .i64 id)
  simpa [List.map_set, iv] using this

/-- A gate, and the reference's, side by side. -/
def Both (w : World) (Z : Nat → Prop) (G R : Nat) (s t : Gat) : Prop := ∃ gw gl sl rw rl rs, GateIn w Z G gw gl sl s ∧ RefIn w Z R rw rl rs t ∧ ∀ b, GBlk G gw gl sl b → ¬ GBlk R rw rl rs b
theorem GateIn.zz (h : GateIn w Z G gw gl sl s) : ∀ b, GBlk G gw gl sl b → ¬ Z b := by
  rintro b (rfl | rfl | rfl | ⟨v, hv, hg⟩)
  · exact h.zG
  · exact h.zw
  · exact h.zl
  · exact h.zr v hv b hg
theorem GateIn.zone (h : GateIn w Z G gw gl sl s) {Y : Nat → Prop} (hY : ∀ b, GBlk G gw gl sl b → ¬ Y b) : GateIn w Y G gw gl sl s :=
  ⟨h.ok, h.obj, h.ws, h.ls, h.len, h.rows, hY G (.inl rfl), hY gw (.inr (.inl rfl)), hY gl (.inr (.inr (.inl rfl))), fun v hv g hg => hY g (.inr (.inr (.inr ⟨v, hv, hg⟩))), h.d1, h.d2, h.d3, h.dr⟩
theorem GateIn.keeps (h : GateIn w Z G gw gl sl s) {Y : Nat → Prop} (hk : Keeps Y w w') (hY : ∀ b, GBlk G gw gl sl b → Y b) : GateIn w' Z G gw gl sl s := by
  have h1 := h.zone (Y := fun b => ¬ GBlk G gw gl sl b) (fun b hb hn => hn hb)
  have h2 := h1.same (w' := w') fun g hg _ => hk.block g (hY g (Classical.byContradiction fun hn => hg hn))
  exact h2.zone h.zz
/-- What a step of the gate leaves beside the reference's. -/
theorem Both.gate {R : Nat} {t : Gat} (h : Both w Z G R s t) (hZ : ∀ k, Z k → k < w.heap.size) :
    ∃ Y : Nat → Prop, (∀ b, Z b → Y b) ∧ (∀ b, Y b → b < w.heap.size) ∧ GateAt w Y G s ∧ ∀ w' s', GateAt w' Y G s' → Keeps Y w w' → Both w' Z G R s' t := by
  obtain ⟨gw, gl, sl, rw_, rl, rs, hg, hr, hd⟩ := h
  refine ⟨fun b => Z b ∨ GBlk R rw_ rl rs b, fun b hb => .inl hb, fun b hb => hb.elim (hZ b) (hr.lt b), ⟨gw, gl, sl, hg.zone fun b hb h => h.elim (hg.zz b hb) (hd b hb)⟩, ?_⟩
  rintro w' s' ⟨gw', gl', sl', hg'⟩ hk
  exact ⟨gw', gl', sl', rw_, rl, rs, hg'.zone fun b hb hz => hg'.zz b hb (.inl hz), hr.same hk.size fun g hb _ => hk.block g (.inr hb), fun b hb hb2 => hg'.zz b hb (.inr hb2)⟩
theorem GateIn.blt (h : GateIn w Z G gw gl sl s) : ∀ b, GBlk G gw gl sl b → b < w.heap.size := by
  obtain ⟨a1, a2, a3, a4⟩ := h.lt
  rintro b (rfl | rfl | rfl | ⟨v, hv, hg⟩)
  · exact a1
  · exact a2
  · exact a3
  · exact a4 v hv b hg
/-- What a step of the reference's gate leaves beside the gate. -/
theorem Both.ref {R : Nat} {t : Gat} (h : Both w Z G R s t) (hZ : ∀ k, Z k → k < w.heap.size) :
    ∃ Y : Nat → Prop, (∀ b, Z b → Y b) ∧ (∀ b, Y b → b < w.heap.size) ∧ RefAt w Y R t ∧ ∀ w' t', RefAt w' Y R t' → Keeps Y w w' → Both w' Z G R s t' := by
  obtain ⟨gw, gl, sl, rw_, rl, rs, hg, hr, hd⟩ := h
  refine ⟨fun b => Z b ∨ GBlk G gw gl sl b, fun b hb => .inl hb, fun b hb => hb.elim (hZ b) (hg.blt b), ⟨rw_, rl, rs, hr.zone fun b hb h => h.elim (hr.zz b hb) fun h => hd b h hb⟩, ?_⟩
  rintro w' t' ⟨rw', rl', rs', hr'⟩ hk
  exact ⟨gw, gl, sl, rw', rl', rs', hg.keeps hk fun b hb => .inr hb, hr'.zone fun b hb hz => hr'.zz b hb (.inl hz), fun b hb hb2 => hr'.zz b hb2 (.inr hb)⟩
theorem Both.same {R : Nat} {t : Gat} (h : Both w Z G R s t) (hs : w.heap.size ≤ w'.heap.size) (hk : ∀ g, ¬ Z g → g < w.heap.size → w'.heap[g]? = w.heap[g]?) : Both w' Z G R s t := by
  obtain ⟨gw, gl, sl, rw_, rl, rs, hg, hr, hd⟩ := h
  exact ⟨gw, gl, sl, rw_, rl, rs, hg.same hk, hr.same hs fun g hb hlt => hk g (hr.zz g hb) hlt, hd⟩
theorem Both.alloc {R : Nat} {t : Gat} (h : Both w Z G R s t) (o : Obj) : Both (w.alloc o) Z G R s t := h.same (by simp) fun g _ hg => Below.heap_alloc w o g hg
theorem Both.drewN {R : Nat} {t : Gat} (h : Both w Z G R s t) (n : Nat) : Both (w.drewN n) Z G R s t := h.same (Nat.le_refl _) fun _ _ _ => rfl
theorem Both.drew {R : Nat} {t : Gat} (h : Both w Z G R s t) : Both w.drew Z G R s t := h.same (Nat.le_refl _) fun _ _ _ => rfl
theorem Both.set_ {R : Nat} {t : Gat} (h : Both w Z G R s t) {p : Addr} (hp : Z p.block) (u : Value) : Both (w.setCell p u) Z G R s t := h.same (by simp [World.setCell]) fun g hg _ => Below.heap_setCell w p u g fun e => hg (e ▸ hp)
theorem Both.up {R : Nat} {t : Gat} (h : Both w Z G R s t) (hb : Below w.heap.size w w') : Both w' Z G R s t := h.same hb.size fun g _ hg => hb.block g hg
theorem Both.more {R : Nat} {t : Gat} (h : Both w Z G R s t) {Y : Nat → Prop} (hY : ∀ k, Y k → w.heap.size ≤ k) : Both w (fun k => Z k ∨ Y k) G R s t := by
  obtain ⟨gw, gl, sl, rw_, rl, rs, hg, hr, hd⟩ := h
  exact ⟨gw, gl, sl, rw_, rl, rs, hg.more hY, hr.zone fun b hb h => h.elim (hr.zz b hb) fun h => by have := hY b h; have := hr.lt b hb; omega, hd⟩
theorem Both.less {R : Nat} {t : Gat} (h : Both w Z G R s t) {Y : Nat → Prop} (hY : ∀ k, Y k → Z k) : Both w Y G R s t := by
  obtain ⟨gw, gl, sl, rw_, rl, rs, hg, hr, hd⟩ := h
  exact ⟨gw, gl, sl, rw_, rl, rs, hg.less hY, hr.zone fun b hb h => hr.zz b hb (hY b h), hd⟩
end
end Go.Proofs.YtmeemcafjebanaaDoor
