/- The walk of gate: Next. -/
import Derived.Test.YtmeemcafjebanaaDoorWalkBound
namespace Go.Proofs.YtmeemcafjebanaaDoor
open Go.RowKit

theorem results_cell_row3 {P : Program} {fn : Func} {p u v : Tmp} {ty : TypeId} (h : fn.results = #[.cell p ty, .tmp u, .tmp v]) (tmps : Array Value) (w : World) (g : Nat) (t : TypeId) (cs : Array Value) (fr : Nat × Nat) (d : TypeDesc)
    (hp : tmps.getD p undef = .pointer (some ⟨g, 0, none⟩)) (hg : w.heap[g]? = some (.cells cs t fr))
    (hu : P.underlying ty = some d) (hd : (match d with | .struct _ | .array _ _ => true | _ => false) = true) (hi : (P.info? ty).map (·.size) = some cs.size) :
    (results fn tmps).run P w = .ok (.tuple #[.agg cs, tmps.getD u undef, tmps.getD v undef]) w := by
  have hp' : tmps[p]?.getD undef = .pointer (some ⟨g, 0, none⟩) := by simpa using hp
  simp [results, h, hp', asAddr, run_loadVar_row w g t ty cs fr d hg hu hd hi]

def Itm.rec_ (x : Itm) : Value := .agg #[.string x.key, .int .i64 x.num, .int .i64 x.time]
theorem itm_field (w : World) (s : ByteArray) (a b c : Int) : (Instr.field 74 (.agg #[.string s, .int .i64 a, .int .i64 b, .int .i64 c]) 0).run Tryd.prog w = .ok (.agg #[.string s, .int .i64 a, .int .i64 b]) w := by kernel_rfl
theorem nextI_go {s : Gat} {k : Nat} (h : nextFrom s (s.n - k) k = nextI s) (hk : k < s.n) : (ready (s.at_ (s.turn k)) = true → nextI s = some (s.turn k)) ∧ (ready (s.at_ (s.turn k)) = false → nextFrom s (s.n - (k + 1)) (k + 1) = nextI s) := by
  rw [show s.n - k = (s.n - (k + 1)) + 1 from by omega, nextFrom] at h
  constructor
  · intro hr; rw [← h, if_pos hr]
  · intro hr; rw [← h, if_neg (by simp [hr])]
theorem ready_bar_of {l : List Itm} (h : l ≠ []) : ready l = !barred l := by
  rcases l with _ | ⟨x, r⟩
  · exact absurd rfl h
  · rfl

set_option maxRecDepth 100000 in
set_option maxHeartbeats 4000000 in
theorem next_any (w : World) (Z : Nat → Prop) (G : Nat) (s : Gat) (h : GateAt w Z G s) (hZ : ∀ k, Z k → k < w.heap.size) :
    Calls Tryd.prog 10 #[.pointer (some ⟨G, 0, none⟩)] w fun e w' => e = .returned (.tuple #[(nextR s).1.rec_, .int .i64 (nextR s).2.1, .bool (nextR s).2.2]) ∧ GateAt w' Z G (nextG s) ∧ Keeps Z w w' := by
  obtain ⟨gw, gl, sl, hI0⟩ := h
  have hI := (hI0.more (Y := fun j => j = w.heap.size) (fun j hj => by omega)).alloc (.cells #[.string ⟨#[]⟩, .int .i64 0, .int .i64 0] 36)
  have hK := (Keeps.refl Z w).alloc hZ (.cells #[.string ⟨#[]⟩, .int .i64 0, .int .i64 0] 36)
  have hbx := Blk.new w 36 #[.string ⟨#[]⟩, .int .i64 0, .int .i64 0]
  have hzn : ¬ Z w.heap.size := fun h => by have := hZ _ h; omega
  have hZa : ∀ j, (Z j ∨ j = w.heap.size) → j < (w.alloc (.cells #[.string ⟨#[]⟩, .int .i64 0, .int .i64 0] 36)).heap.size := fun j hj => by
    rcases hj with hj | hj
    · have := hZ j hj; simp; omega
    · simp; omega
  have c0 := hI.c0
  have c2 := hI.c2
  have h64 := hI.ok.most
  have hp := hI.ok.pos
  have hx := hI.ok.next
  obtain ⟨n, hn⟩ : ∃ n, n = s.n := ⟨_, rfl⟩
  rw [← hn] at c0 h64 hp hx
  have Hn := Lib.hid hn
  clear hn
  obtain ⟨N, hN⟩ : ∃ N, N = s.next := ⟨_, rfl⟩
  rw [← hN] at c2 hx
  have HN := Lib.hid hN
  clear hN
  go_enter Tryd.func10, Tryd.ntmps10
  go_wp2_with fail
  generalize w.alloc (.cells #[.string ⟨#[]⟩, .int .i64 0, .int .i64 0] 36) = wa at *
  go_loopw [12] (fun i wr => ∃ k : Nat, k ≤ n ∧ i = .int .i64 k ∧ Hid (nextFrom s (s.n - k) k = nextI s) ∧ GateIn wr (fun j => Z j ∨ j = w.heap.size) G gw gl sl s ∧ Keeps (fun j => Z j ∨ j = w.heap.size) wa wr ∧ Blk wr w.heap.size 36 #[.string ⟨#[]⟩, .int .i64 0, .int .i64 0]) (fun i _ => n - (intOf i).toNat)
  case atStart => exact ⟨0, Nat.zero_le _, rfl, Lib.hid rfl, hI, Keeps.refl _ _, hbx⟩
  case round =>
    clear c0 c2 hI hbx
    obtain ⟨k, hk, rfl, HA, hI, hK2, hbx⟩ := hrel
    have c0 := hI.c0
    have c2 := hI.c2
    rw [← Hn.out] at c0
    rw [← HN.out] at c2
    by_cases hlt : k < n
    · obtain ⟨ht1, ht2⟩ := nextI_go HA.out (by have := Hn.out; omega)
      obtain ⟨i, hi⟩ : ∃ i, i = (N + k) % n := ⟨_, rfl⟩
      have hti : s.turn k = i := by rw [Gat.turn, hi, ← HN.out, ← Hn.out]
      rw [hti] at ht1 ht2
      have hin : i < n := by rw [hi]; exact Nat.mod_lt _ hp
      have hrem : Int.tmod ((N : Int) + (k : Int)) (n : Int) = (i : Int) := by rw [hi, ← Int.natCast_add, ← Int.ofNat_tmod]
      have hwr : IntKind.i64.wrap ((N : Int) + (k : Int)) = (N : Int) + (k : Int) := IntWalk.i64_in _ (by omega)
      have hwi : IntKind.i64.wrap (i : Int) = (i : Int) := IntWalk.i64_in _ (by omega)
      have hn0 : ¬ ((n : Int) = 0) := by omega
      obtain ⟨A, c, hs, cw, hlc, hcm, hown, hr⟩ := hI.wait (i := i) (by have := Hn.out; omega)
      have hlen := hI.ok.len i
      have H1 := Lib.hid ht1
      have H2 := Lib.hid ht2
      clear ht1 ht2 hi hti
      go_wp2_with fail
      go_quiet (fail)
      have hI2 := hI.drewN nq
      have hK3 := hK2.drewN nq
      have hbx2 := hbx.drewN nq
      have d0 : (wr.drewN nq).cell? ⟨G, 0, none⟩ = some (.slice (some ⟨gw, 0, none⟩) n n) := c0
      have dw : (wr.drewN nq).cell? ⟨gw, i, none⟩ = some (.slice A (s.at_ i).length c) := cw
      generalize wr.drewN nq = wb at *
      clear hI hK2 hbx c0 c2 cw hr hown
      rcases hl : s.at_ i with _ | ⟨x, r⟩
      · rw [hl] at dw
        simp only [List.length_nil] at dw
        have H3 := Lib.hid (H2.out (by rw [hl]; rfl))
        clear hl hs hlc hcm
        go_wp2
        go_roundw
        case rel => exact ⟨k + 1, by omega, by go_num, H3, hI2, hK3, hbx2⟩
        case measure => simp [intOf]; omega
      · have hbl := blocked_any wb _ G s i ⟨gw, gl, sl, hI2⟩ (by have := Hn.out; omega)
        have hrb := ready_bar_of (l := s.at_ i) (by rw [hl]; simp)
        obtain ⟨m, hm⟩ : ∃ m, m = (s.at_ i).length := ⟨_, rfl⟩
        have hm0 : 0 < m := by rw [hm, hl]; simp
        rw [← hm] at dw hlen
        have HL := Lib.hid hl
        clear hl hs hlc hcm hm
        rcases hbb : barred (s.at_ i)
        · rw [hbb] at hbl hrb
          have HBL := Lib.hid hbl
          have HR := Lib.hid (H1.out hrb)
          clear hbl hrb hbb
          have HT := Lib.hid (fun W (hG : GateAt W (fun j => Z j ∨ j = w.heap.size) G { s with next := (i + 1) % n }) (hz : ∀ j, (Z j ∨ j = w.heap.size) → j < W.heap.size) => take_any W _ G { s with next := (i + 1) % n } i x r hG (show i < s.n from by have := Hn.out; omega) HL.out hz)
          have hwr2 : IntKind.i64.wrap ((i : Int) + 1) = (i : Int) + 1 := IntWalk.i64_in _ (by omega)
          have hj : (i + 1) % n < n := Nat.mod_lt _ hp
          have fG := hI2.obj.frozen 2
          have hfd := fun W => itm_field W x.key x.num x.time x.bar
          have d2 := hI2.c2
          obtain ⟨n1, n2⟩ := hI2.next_ (j := (i + 1) % n) (by have := Hn.out; omega)
          rw [show (((i + 1) % n : Nat) : Int) = ((i : Int) + 1) % (n : Int) from by rw [Int.natCast_emod, Int.natCast_add]; rfl] at n1 n2
          have hbx3 := n2.blk hbx2 (.inr rfl)
          have hz3 : ∀ j, (Z j ∨ j = w.heap.size) → j < (wb.setCell ⟨G, 2, none⟩ (.int .i64 (((i : Int) + 1) % (n : Int)))).heap.size := fun j hj => by
            have := hZa j hj
            have h1 := hK3.size
            have h2 := n2.size
            omega
          have HT2 := Lib.hid (HT.out _ ⟨gw, gl, sl, n1⟩ hz3)
          go_wp2_with (first
            | (go_at_call 28; refine HBL.out.mono ?_; rintro e w1 ⟨rfl, rfl⟩)
            | (go_at_call 29; refine HT2.out.mono ?_; rintro e w1 ⟨rfl, hG2, hK4⟩; unfold Itm.val
               have hbx4 := hK4.blk hbx3 (.inr rfl)
               obtain ⟨o0, o1, o2⟩ : _ ∧ _ ∧ _ := ⟨hbx4.cell 0, hbx4.cell 1, hbx4.cell 2⟩
               simp only [List.getElem?_toArray, List.getElem?_cons_zero, List.getElem?_cons_succ] at o0 o1 o2
               obtain ⟨f0, f1, f2⟩ : _ ∧ _ ∧ _ := ⟨hbx4.frozen 0, hbx4.frozen 1, hbx4.frozen 2⟩))
          have yb := ((hbx4.set_ 0 (.string x.key)).set_ 1 (.int .i64 x.num)).set_ 2 (.int .i64 x.time)
          (try simp only [Exit.inBlock, Exit.then])
          refine bodyPost_ret (results_cell_row3 rfl _ _ w.heap.size 36 _ (0, 0) _ rfl yb Tryd.underlying36 rfl (by kernel_rfl)) rfl ?_
          obtain ⟨gw', gl', sl', hI5⟩ := hG2
          have r3 := ((hI5.set_ (p := ⟨w.heap.size, 0, none⟩) (.inr rfl) (.string x.key)).set_ (p := ⟨w.heap.size, 1, none⟩) (.inr rfl) (.int .i64 x.num)).set_ (p := ⟨w.heap.size, 2, none⟩) (.inr rfl) (.int .i64 x.time)
          have r4 := (((((hK3.trans n2).trans hK4).mono (Y := Z) fun _ h => .inl h).set_ (p := ⟨w.heap.size, 0, none⟩) hzn (.string x.key)).set_ (p := ⟨w.heap.size, 1, none⟩) hzn (.int .i64 x.num)).set_ (p := ⟨w.heap.size, 2, none⟩) hzn (.int .i64 x.time)
          have e1 : nextR s = (x, i, true) := by
            rw [nextR, HR.out]
            show (headI (s.at_ i), i, true) = _
            rw [HL.out]; rfl
          have e2 : nextG s = takeG { s with next := (i + 1) % n } i := by rw [nextG, HR.out, ← Hn.out]; rfl
          rw [e1, e2]
          exact ⟨rfl, ⟨gw', gl', sl', r3.less fun _ h => .inl h⟩, hK.trans r4⟩
        · rw [hbb] at hbl hrb
          have HBL := Lib.hid hbl
          have H3 := Lib.hid (H2.out hrb)
          clear hbl hrb hbb
          go_wp2_with (first | (go_at_call 28; refine HBL.out.mono ?_; rintro e w1 ⟨rfl, rfl⟩))
          go_roundw
          case rel => exact ⟨k + 1, by omega, by go_num, H3, hI2, hK3, hbx2⟩
          case measure => simp [intOf]; omega
    · have e0 : nextI s = none := by
        have e := HA.out
        rw [show s.n - k = 0 from by have := Hn.out; omega] at e
        exact e.symm
      have H0 := Lib.hid e0
      clear e0
      obtain ⟨o0, o1, o2⟩ : _ ∧ _ ∧ _ := ⟨hbx.cell 0, hbx.cell 1, hbx.cell 2⟩
      simp only [List.getElem?_toArray, List.getElem?_cons_zero, List.getElem?_cons_succ] at o0 o1 o2
      obtain ⟨f0, f1, f2⟩ : _ ∧ _ ∧ _ := ⟨hbx.frozen 0, hbx.frozen 1, hbx.frozen 2⟩
      go_wp2
      have yb := ((hbx.set_ 0 (.string ⟨#[]⟩)).set_ 1 (.int .i64 0)).set_ 2 (.int .i64 0)
      (try simp only [Exit.inBlock, Exit.then])
      refine bodyPost_ret (results_cell_row3 rfl _ _ w.heap.size 36 _ (0, 0) _ rfl yb Tryd.underlying36 rfl (by kernel_rfl)) rfl ?_
      have r3 := ((hI.set_ (p := ⟨w.heap.size, 0, none⟩) (.inr rfl) (.string ⟨#[]⟩)).set_ (p := ⟨w.heap.size, 1, none⟩) (.inr rfl) (.int .i64 0)).set_ (p := ⟨w.heap.size, 2, none⟩) (.inr rfl) (.int .i64 0)
      have r4 := (((hK2.mono (Y := Z) fun _ h => .inl h).set_ (p := ⟨w.heap.size, 0, none⟩) hzn (.string ⟨#[]⟩)).set_ (p := ⟨w.heap.size, 1, none⟩) hzn (.int .i64 0)).set_ (p := ⟨w.heap.size, 2, none⟩) hzn (.int .i64 0)
      have e1 : nextR s = (noItm, 0, false) := by rw [nextR, H0.out]
      have e2 : nextG s = s := by rw [nextG, H0.out]
      rw [e1, e2]
      exact ⟨rfl, ⟨gw, gl, sl, r3.less fun _ h => .inl h⟩, hK.trans r4⟩
end Go.Proofs.YtmeemcafjebanaaDoor
