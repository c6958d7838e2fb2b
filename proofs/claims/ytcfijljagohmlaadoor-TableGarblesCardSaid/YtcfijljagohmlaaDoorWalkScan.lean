/- The walks of table.Scan and table.Get, of bytes that are a table. -/
import Derived.Test.YtcfijljagohmlaaDoorWalkTab2
import Derived.Test.YtcfijljagohmlaaDoorWalkPart
namespace Go.Proofs.YtcfijljagohmlaaDoor
open Go.RowKit

set_option maxRecDepth 100000 in
set_option maxHeartbeats 1000000 in
theorem scan_any (A : Option Addr) (c B : Nat) (b : List UInt8) (E : List Ent) (low high : ByteArray) (w : World) (hr : Rd w B 1 A b.length (b.map bv)) (hB : B ≤ w.heap.size) (hl : b.length ≤ 140737488355328) (hc : b.length ≤ c) (ht : readTab b = some E) (hE : E.length ≤ 400) (hs : riseK (keysE E)) :
    Calls Tryd.prog 26 #[.slice A b.length c, .string low, .string high] w fun e w' => ∃ v, e = .returned (.tuple #[v, .nilIface]) ∧ w'.ownsRow w.heap.size 57 3 v (partE low high E).length (entCells (partE low high E)) ∧ Below w.heap.size w w' := by
  have hrd := readtab_any A c B b w hr hB hl hc
  rw [rtE_some ht, ht, Option.getD_some, errV_zero] at hrd
  generalize b.length = n at *
  go_enter Tryd.func26, Tryd.ntmps26
  go_wp2_with fail
  refine hrd.mono ?_
  rintro e w1 ⟨v1, rfl, ho1, hb1⟩
  obtain ⟨A1, c1, rfl, h1, h2, _, r1⟩ := own_form ho1
  have hp := part_any A1 c1 w1.heap.size E low high w1 r1 (Nat.le_refl _) hE hs h1 h2
  clear ho1 hrd
  generalize E.length = m at *
  go_wp2_with fail
  refine hp.mono ?_
  rintro e w2 ⟨v2, rfl, ho2, hb2⟩
  go_wp2_with fail
  go_ret2
  exact ⟨_, rfl, own_base ho2 hb1.size, below_up hb1 hb2⟩
/-- What stands at a key. -/
def gotE (key : ByteArray) (E : List Ent) : Ent := if hasK key (keysE E) = true then E.getD (lowK key (keysE E)) ⟨⟨#[]⟩, ⟨#[]⟩, false⟩ else ⟨⟨#[]⟩, ⟨#[]⟩, false⟩
def gotN (key : ByteArray) (E : List Ent) : Nat := if hasK key (keysE E) = true then 0 else 6
theorem hasK_lt {t : ByteArray} {ks : List ByteArray} (h : hasK t ks = true) : lowK t ks < ks.length := by
  rw [hasK, Bool.and_eq_true] at h
  exact of_decide_eq_true h.1
theorem results_cell_one {P : Program} {fn : Func} {p u : Tmp} {ty : TypeId} (h : fn.results = #[.cell p ty, .tmp u]) (tmps : Array Value) (w : World) (g : Nat) (t : TypeId) (cs : Array Value) (fr : Nat × Nat) (d : TypeDesc)
    (hp : tmps.getD p undef = .pointer (some ⟨g, 0, none⟩)) (hg : w.heap[g]? = some (.cells cs t fr))
    (hu : P.underlying ty = some d) (hd : (match d with | .struct _ | .array _ _ => true | _ => false) = true) (hi : (P.info? ty).map (·.size) = some cs.size) :
    (results fn tmps).run P w = .ok (.tuple #[.agg cs, tmps.getD u undef]) w := by
  have hp' : tmps[p]?.getD undef = .pointer (some ⟨g, 0, none⟩) := by simpa using hp
  simp [results, h, hp', asAddr, run_loadVar_row w g t ty cs fr d hg hu hd hi]
theorem blk_set3 {w : World} {g : Nat} {t : TypeId} {x y z a b c : Value} (h : Blk w g t #[x, y, z]) : Blk (((w.setCell ⟨g, 0, none⟩ a).setCell ⟨g, 1, none⟩ b).setCell ⟨g, 2, none⟩ c) g t #[a, b, c] := by
  have := ((h.set_ 0 a).set_ 1 b).set_ 2 c
  simpa using this

set_option maxRecDepth 100000 in
set_option maxHeartbeats 2000000 in
theorem get_any (A : Option Addr) (c B : Nat) (b : List UInt8) (E : List Ent) (key : ByteArray) (w : World) (hr : Rd w B 1 A b.length (b.map bv)) (hB : B ≤ w.heap.size) (hl : b.length ≤ 140737488355328) (hc : b.length ≤ c) (ht : readTab b = some E) (hE : E.length ≤ 400) (hs : riseK (keysE E)) :
    Calls Tryd.prog 25 #[.slice A b.length c, .string key] w fun e w' => e = .returned (.tuple #[(gotE key E).val, errV (gotN key E)]) ∧ Below w.heap.size w w' := by
  have hrd := fun W (hb : Below w.heap.size w W) => readtab_any A c B b W (hr.below hb hB) (Nat.le_trans hB hb.size) hl hc
  rw [rtE_some ht, ht, Option.getD_some, errV_zero] at hrd
  generalize b.length = n at *
  have hb0 := (Below.refl w.heap.size w).alloc (Nat.le_refl _) (.cells #[.string ⟨#[]⟩, .string ⟨#[]⟩, .bool false] 57)
  have hG0 := Blk.new w 57 #[.string ⟨#[]⟩, .string ⟨#[]⟩, .bool false]
  have hzs : w.heap.size < (w.alloc (.cells #[.string ⟨#[]⟩, .string ⟨#[]⟩, .bool false] 57)).heap.size := by simp
  go_enter Tryd.func25, Tryd.ntmps25
  go_wp2_with fail
  refine (hrd _ hb0).mono ?_
  generalize w.alloc (.cells #[.string ⟨#[]⟩, .string ⟨#[]⟩, .bool false] 57) = w0 at *
  rintro e w1 ⟨v1, rfl, ho1, hb1⟩
  obtain ⟨A1, c1, rfl, h1, h2, _, r1⟩ := own_form ho1
  have hp := search_any A1 c1 w1.heap.size E key w1 r1 (Nat.le_refl _) hE hs
  have hG1 := hG0.up hb1
  have hbb1 := hb0.trans (hb1.mono (Nat.le_of_lt hzs))
  have hs1 := hb1.size
  clear ho1 hrd
  obtain ⟨m, hm⟩ : ∃ m, m = E.length := ⟨_, rfl⟩
  rw [← hm] at hp r1 h1 hE ⊢
  have Hm := Lib.hid hm
  clear hm
  go_wp2_with fail
  refine hp.mono ?_
  rintro e w2 ⟨rfl, hb2⟩
  have hG2 := hG1.up hb2
  have hbb2 := below_up hbb1 hb2
  have r2 := r1.below hb2 (Nat.le_refl _)
  have hs2 := hb2.size
  obtain ⟨gw, hgw⟩ : ∃ gw, gw = w.heap.size := ⟨_, rfl⟩
  rw [← hgw] at hG2 hzs hbb2 ⊢
  have HGW := Lib.hid hgw
  clear hgw hG1 hG0 hbb1 hb0 hp
  rcases hh : hasK key (keysE E)
  · have e1 : Hid ((gotE key E).val = .agg #[.string ⟨#[]⟩, .string ⟨#[]⟩, .bool false]) := Lib.hid (by rw [gotE, if_neg (by simp [hh])]; rfl)
    have e2 : Hid (gotN key E = 6) := Lib.hid (by rw [gotN, if_neg (by simp [hh])])
    have f0 := hG2.frozen 0
    have f1 := hG2.frozen 1
    have f2 := hG2.frozen 2
    obtain ⟨y0, y1, y2⟩ := cells3 hG2
    clear hh
    generalize lowK key (keysE E) = q at *
    go_wp2_with fail
    have yb := blk_set3 (a := .string ⟨#[]⟩) (b := .string ⟨#[]⟩) (c := .bool false) hG2
    refine bodyPost_ret (results_cell_one rfl _ _ gw 57 _ (0, 0) _ rfl yb Tryd.underlying57 rfl (by kernel_rfl)) rfl ?_
    exact ⟨by rw [e1.out, e2.out]; rfl, by rw [← HGW.out]; exact ((hbb2.setCell (p := ⟨gw, 0, none⟩) (Nat.le_refl _) _).setCell (p := ⟨gw, 1, none⟩) (Nat.le_refl _) _).setCell (p := ⟨gw, 2, none⟩) (Nat.le_refl _) _⟩
  · have hlt := hasK_lt hh
    have e2 : Hid (gotN key E = 0) := Lib.hid (by rw [gotN, if_pos hh])
    rw [keysE_len, ← Hm.out] at hlt
    obtain ⟨ad, r, rfl, hbq, hx, q0, q1, q2⟩ := r2.ent_ hlt Hm.out.symm (Below.refl w1.heap.size w2) (Nat.le_refl _)
    have e1 : Hid ((gotE key E).val = .agg #[.string r.key, .string r.value, .bool r.dead]) := Lib.hid (by rw [gotE, if_pos hh, List.getD_eq_getElem?_getD, hx]; rfl)
    have f0 := hG2.frozen 0
    have f1 := hG2.frozen 1
    have f2 := hG2.frozen 2
    obtain ⟨y0, y1, y2⟩ := cells3 hG2
    clear hh hx
    generalize lowK key (keysE E) = q at *
    have hk0 : (0 : Int) ≤ (q : Int) := by omega
    have hk1 : (q : Int) < (m : Int) := by omega
    go_wp2_with fail
    have yb := blk_set3 (a := .string r.key) (b := .string r.value) (c := .bool r.dead) hG2
    refine bodyPost_ret (results_cell_one rfl _ _ gw 57 _ (0, 0) _ rfl yb Tryd.underlying57 rfl (by kernel_rfl)) rfl ?_
    exact ⟨by rw [e1.out, e2.out]; rfl, by rw [← HGW.out]; exact ((hbb2.setCell (p := ⟨gw, 0, none⟩) (Nat.le_refl _) _).setCell (p := ⟨gw, 1, none⟩) (Nat.le_refl _) _).setCell (p := ⟨gw, 2, none⟩) (Nat.le_refl _) _⟩
end Go.Proofs.YtcfijljagohmlaaDoor
