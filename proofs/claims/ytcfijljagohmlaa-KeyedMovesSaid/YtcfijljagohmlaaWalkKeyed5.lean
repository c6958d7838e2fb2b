/- The walk of keyed.Get. -/
import Derived.Test.YtcfijljagohmlaaWalkKeyed2
namespace Go.Proofs.Ytcfijljagohmlaa
open Go.RowKit Go.Maps Go.WideMaps Go.Sort

theorem results_cell_k {P : Program} {fn : Func} {p u : Tmp} {ty : TypeId} (h : fn.results = #[.cell p ty, .tmp u]) (tmps : Array Value) (w : World) (g : Nat) (t : TypeId) (cs : Array Value) (fr : Nat × Nat) (d : TypeDesc)
    (hp : tmps.getD p undef = .pointer (some ⟨g, 0, none⟩)) (hg : w.heap[g]? = some (.cells cs t fr))
    (hu : P.underlying ty = some d) (hd : (match d with | .struct _ | .array _ _ => true | _ => false) = true) (hi : (P.info? ty).map (·.size) = some cs.size) :
    (results fn tmps).run P w = .ok (.tuple #[.agg cs, tmps.getD u undef]) w := by
  have hp' : tmps[p]?.getD undef = .pointer (some ⟨g, 0, none⟩) := by simpa using hp
  simp [results, h, hp', asAddr, run_loadVar_row w g t ty cs fr d hg hu hd hi]
theorem blk_set4 {w : World} {g : Nat} {t : TypeId} {x y z u a b c d : Value} (h : Blk w g t #[x, y, z, u]) : Blk ((((w.setCell ⟨g, 0, none⟩ a).setCell ⟨g, 1, none⟩ b).setCell ⟨g, 2, none⟩ c).setCell ⟨g, 3, none⟩ d) g t #[a, b, c, d] := by
  have := (((h.set_ 0 a).set_ 1 b).set_ 2 c).set_ 3 d
  simpa using this
/-- What stands at a node and key. -/
def getH (n : Int) (k : ByteArray) (S : List Hld) : Hld := (S.find? fun x => decide (x.node = n ∧ x.key = k)).getD hld0
def getHE (n : Int) (k : ByteArray) (S : List Hld) : Nat := if hasH n k S = true then 0 else 6
theorem getH_none {n : Int} {k : ByteArray} {S : List Hld} (h : hasH n k S = false) : getH n k S = hld0 := by
  have : (S.find? fun x => decide (x.node = n ∧ x.key = k)) = none := by
    rw [List.find?_eq_none]
    intro x hx
    have := hasH_no h x hx
    simpa using this
  rw [getH, this]; rfl
theorem getH_some {n : Int} {k : ByteArray} {S : List Hld} (h : hasH n k S = true) : getH n k S ∈ S ∧ (getH n k S).node = n ∧ (getH n k S).key = k := by
  obtain ⟨x, hx, e⟩ := hasH_iff.1 h
  rcases hf : (S.find? fun x => decide (x.node = n ∧ x.key = k)) with _ | y
  · rw [List.find?_eq_none] at hf
    exact absurd (by simpa using e) (hf x hx)
  · rw [getH, hf]
    have h1 := List.find?_some hf
    have h2 := List.mem_of_find?_eq_some hf
    simp only [decide_eq_true_eq] at h1
    exact ⟨h2, h1⟩
set_option maxRecDepth 100000 in
set_option maxHeartbeats 1000000 in
theorem kget_any (g M : Nat) (S : List Hld) (n : Int) (k : ByteArray) (w : World) (hk : KIn w g M S) (hn : i64ok n) (hkk : k.size ≤ maxLen) :
    Calls Try.prog 22 #[.pointer (some ⟨g, 0, none⟩), .int .i64 n, .string k] w fun e w' => e = .returned (.tuple #[(getH n k S).val, errV (getHE n k S)]) ∧ Below w.heap.size w w' := by
  have hkey := keyOf_at hn hkk
  have hb0 := (Below.refl w.heap.size w).alloc (Nat.le_refl _) (.cells #[.int .i64 0, .string ⟨#[]⟩, .int .i64 0, .int .i64 0] 47)
  have hG0 := Blk.new w 47 #[.int .i64 0, .string ⟨#[]⟩, .int .i64 0, .int .i64 0]
  have hk0 := hk.up hb0
  have hbv : Hid (hasH n k S = hasH n k S) := Lib.hid rfl
  go_enter Try.func22, Try.ntmps22
  go_upto_region 1 with fail
  have hsz0 : (w.alloc (.cells #[.int .i64 0, .string ⟨#[]⟩, .int .i64 0, .int .i64 0] 47)).heap.size = w.heap.size + 1 := by simp
  obtain ⟨gw, hgw⟩ : ∃ gw, gw = w.heap.size := ⟨_, rfl⟩
  rw [← hgw] at hG0 hsz0 ⊢
  have HGW := Lib.hid hgw
  clear hgw
  generalize w.alloc (.cells #[.int .i64 0, .string ⟨#[]⟩, .int .i64 0, .int .i64 0] 47) = w0 at *
  have HSZ := Lib.hid hsz0
  obtain ⟨D, hown, hD⟩ := hk0.own
  have hhas := mapL_has hD (fun x hx => (hk.fine x hx).2) hn hkk
  have HHAS := Lib.hid hhas
  have HD := Lib.hid hD
  have HF := Lib.hid hk.fine
  have c0 := hk0.blk.cell 0
  simp at c0
  have hG0s := hG0
  have hl0 := hG0.lt
  have f0 := hG0.frozen 0
  have f1 := hG0.frozen 1
  have f2 := hG0.frozen 2
  have f3 := hG0.frozen 3
  obtain ⟨y0, y1, y2, y3⟩ := cells4 hG0
  have hbv0 := Lib.hid hb0
  clear hsz0 hhas hD hk0 hk hb0
  obtain ⟨bh, hbh⟩ : ∃ bh, bh = hasH n k S := ⟨_, rfl⟩
  have HBH := Lib.hid hbh
  rw [← hbh] at HHAS
  clear hbh
  rcases bh
  · have E1 : Hid ((getH n k S).val = .agg #[.int .i64 0, .string ⟨#[]⟩, .int .i64 0, .int .i64 0]) := Lib.hid (by rw [getH_none HBH.out.symm]; rfl)
    have E2 : Hid (getHE n k S = 6) := Lib.hid (by rw [getHE, ← HBH.out]; rfl)
    go_wp2_with (first
      | (with_reducible show wpList _ _ _ (⟨some 18, _, _, _, _, _⟩ :: _) _ _; go_must (refine wpList_lookup_hld _ rfl _ _ 93 rfl 97 47 kat Try.underlying93 (zhld _) M S.length D rfl hown (.agg #[.int .i64 n, .string k]) (klA n k) rfl hkey ?_); intro y hy; clear hy; rw [HHAS.out]))
    have yb := (blk_set4 (a := .int .i64 0) (b := .string ⟨#[]⟩) (c := .int .i64 0) (d := .int .i64 0) hG0s).alloc (.cells #[.int .i64 y.node, .string y.key, .int .i64 y.a, .int .i64 y.b] 47)
    refine bodyPost_ret (results_cell_k rfl _ _ gw 47 _ (0, 0) _ rfl yb Try.underlying47 rfl (by kernel_rfl)) rfl ?_
    have hb4 := (((hbv0.out.setCell (p := ⟨gw, 0, none⟩) (Nat.le_of_eq HGW.out.symm) (.int .i64 0)).setCell (p := ⟨gw, 1, none⟩) (Nat.le_of_eq HGW.out.symm) (.string ⟨#[]⟩)).setCell (p := ⟨gw, 2, none⟩) (Nat.le_of_eq HGW.out.symm) (.int .i64 0)).setCell (p := ⟨gw, 3, none⟩) (Nat.le_of_eq HGW.out.symm) (.int .i64 0)
    exact ⟨by rw [E1.out, E2.out]; rfl, hb4.alloc hb4.size _⟩
  · go_wp2_with (first
      | (with_reducible show wpList _ _ _ (⟨some 18, _, _, _, _, _⟩ :: _) _ _; go_must (refine wpList_lookup_hld _ rfl _ _ 93 rfl 97 47 kat Try.underlying93 (zhld _) M S.length D rfl hown (.agg #[.int .i64 n, .string k]) (klA n k) rfl hkey ?_); intro y hy; have HY := Lib.hid hy; clear hy; rw [HHAS.out]))
    have hyS : y = getH n k S := by
      obtain ⟨h1, h2, h3⟩ := getH_some HBH.out.symm
      have h4 := HD.out.at_ _ h1 (hldD hld0)
      rw [kfH, h2, h3, HY.out] at h4
      exact hldD_inj h4
    have E1 : Hid ((getH n k S).val = .agg #[.int .i64 y.node, .string y.key, .int .i64 y.a, .int .i64 y.b]) := Lib.hid (by rw [← hyS]; rfl)
    have E2 : Hid (getHE n k S = 0) := Lib.hid (by rw [getHE, ← HBH.out]; rfl)
    have yb := (blk_set4 (a := .int .i64 y.node) (b := .string y.key) (c := .int .i64 y.a) (d := .int .i64 y.b) hG0s).alloc (.cells #[.int .i64 y.node, .string y.key, .int .i64 y.a, .int .i64 y.b] 47)
    refine bodyPost_ret (results_cell_k rfl _ _ gw 47 _ (0, 0) _ rfl yb Try.underlying47 rfl (by kernel_rfl)) rfl ?_
    have hb4 := (((hbv0.out.setCell (p := ⟨gw, 0, none⟩) (Nat.le_of_eq HGW.out.symm) (.int .i64 y.node)).setCell (p := ⟨gw, 1, none⟩) (Nat.le_of_eq HGW.out.symm) (.string y.key)).setCell (p := ⟨gw, 2, none⟩) (Nat.le_of_eq HGW.out.symm) (.int .i64 y.a)).setCell (p := ⟨gw, 3, none⟩) (Nat.le_of_eq HGW.out.symm) (.int .i64 y.b)
    exact ⟨by rw [E1.out, E2.out]; rfl, hb4.alloc hb4.size _⟩
end Go.Proofs.Ytcfijljagohmlaa
