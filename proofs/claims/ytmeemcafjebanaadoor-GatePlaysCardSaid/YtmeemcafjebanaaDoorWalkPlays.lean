/- The walk of weirlaw2.GatePlays. -/
import Derived.Test.YtmeemcafjebanaaDoorWalkBoth
import Derived.Test.YtmeemcafjebanaaDoorWalkAs
import Derived.Test.YtmeemcafjebanaaDoorOpenII
import Derived.Deep.OwnRows
import Derived.Deep.DeepCutAuto
import Derived.Deep.CutBlock
import Derived.Deep.CutRange
namespace Go.Proofs.YtmeemcafjebanaaDoor
open Go.RowKit

theorem Rd.intc {w : World} {B n k : Nat} {A : Option Addr} {l : List Int} (h : Rd w B 1 A n (l.map iv)) (hk : k < n) : ∃ ad, A = some ad ∧ ad.block < B ∧ w.cell? (ad.add k) = some (.int .i64 (l.getD k 0)) := by
  obtain ⟨ad, u, rfl, hb, hu, hc⟩ := h.at_ hk
  refine ⟨ad, rfl, hb, hc.trans ?_⟩
  have hl : k < l.length := by have := h.1; simp at this; omega
  rw [← hu, List.getElem?_map, List.getD_eq_getElem?_getD, List.getElem?_eq_getElem hl]
  rfl
theorem GateAt.stays {w w' : World} {Z : Nat → Prop} {G : Nat} {s : Gat} (h : GateAt w Z G s) (hb : Below w.heap.size w w') : GateAt w' Z G s := by
  obtain ⟨gw, gl, sl, h⟩ := h
  exact ⟨gw, gl, sl, h.up hb⟩
theorem newR_in {w : World} {Z : Nat → Prop} {G gw gl n : Nat} (h0 : 0 < n) (h1 : n ≤ 64)
    (hG : Blk w G 33 #[.slice (some ⟨gw, 0, none⟩) n n, .slice (some ⟨gl, 0, none⟩) n n, .int .i64 0]) (hw : Blk w gw 46 (madeCells #[.slice none 0 0] n)) (hl : Blk w gl 3 (madeCells #[.int .i64 0] n))
    (zG : ¬ Z G) (zw : ¬ Z gw) (zl : ¬ Z gl) (d1 : G ≠ gw) (d2 : G ≠ gl) (d3 : gw ≠ gl) : RefIn w Z G gw gl (List.replicate n (.slice none 0 0)) (newG n) := by
  have hn : (newG n).n = n := by simp [newG, Gat.n]
  have none_ : ∀ v ∈ List.replicate n (Value.slice none 0 0), v.ownBlock = none := fun v hv => by rw [List.eq_of_mem_replicate hv]; rfl
  have blk : ∀ b, GBlk G gw gl (List.replicate n (.slice none 0 0)) b → b = G ∨ b = gw ∨ b = gl := by
    rintro b (h | h | h | ⟨v, hv, hg⟩)
    · exact .inl h
    · exact .inr (.inl h)
    · exact .inr (.inr h)
    · rw [none_ v hv] at hg; cases hg
  refine ⟨newG_ok h0 h1, by rw [hn]; exact hG, by rw [made_one] at hw; exact hw, ?_, by rw [hn]; simp, fun i v hv => ?_, fun b hb => ?_, fun b hb => ?_, d1, d2, d3, ?_⟩
  · rw [made_one] at hl
    have e : ((newG n).last.map iv).toArray = (List.replicate n (Value.int .i64 0)).toArray := by simp [newG, iv]
    rw [e]; exact hl
  · have e1 := List.eq_of_mem_replicate (List.mem_of_getElem? hv)
    subst e1
    rw [newG_at]
    exact ⟨none, 0, rfl, Nat.le_refl _, Nat.zero_le _, Rd.nil_⟩
  · rcases blk b hb with rfl | rfl | rfl
    · exact zG
    · exact zw
    · exact zl
  · rcases blk b hb with rfl | rfl | rfl
    · exact hG.lt
    · exact hw.lt
    · exact hl.lt
  · intro v hv g hg; rw [none_ v hv] at hg; cases hg
/-- The reference's gate is made beside the gate. -/
theorem Both.start {w w' : World} {Z : Nat → Prop} {G R rw_ rl n : Nat} (hg : GateAt w Z G (newG n)) (hr : RefIn w' Z R rw_ rl (List.replicate n (.slice none 0 0)) (newG n)) (hb : Below w.heap.size w w')
    (h1 : w.heap.size ≤ R) (h2 : w.heap.size ≤ rw_) (h3 : w.heap.size ≤ rl) : Both w' Z G R (newG n) (newG n) := by
  obtain ⟨gw, gl, sl, hI⟩ := hg
  refine ⟨gw, gl, sl, rw_, rl, _, hI.up hb, hr, fun b hb1 hb2 => ?_⟩
  have := hI.blt b hb1
  rcases hb2 with h | h | h | ⟨v, hv, hg⟩
  · omega
  · omega
  · omega
  · rw [List.eq_of_mem_replicate hv] at hg; cases hg
theorem rec_eql (w : World) (s : ByteArray) (a b : Int) : (binOp .eql 36 (.agg #[.string s, .int .i64 a, .int .i64 b]) (.agg #[.string s, .int .i64 a, .int .i64 b])).run Tryd.prog w = .ok (.bool true) w := by
  rw [run_eql_struct, run_equalIn_agg w _ _ _ _ (by kernel_rfl) (by kernel_rfl)]
  simp [Program.fieldsOf, Tryd.underlying36, go_sem]

theorem pushG_n (s : Gat) (i : Int) (x : Itm) : (pushG s i x).n = s.n := by
  unfold pushG; split
  · exact put_n _ _ _
  · rfl
theorem barG_n (s : Gat) (i id : Int) : (barG s i id).n = s.n := by
  unfold barG; split
  · exact put_n s i.toNat (s.at_ i.toNat ++ [barItm id])
  · rfl
theorem nextG_nn (s : Gat) : (nextG s).n = s.n := by
  rcases h : nextI s with _ | i
  · rw [nextG, h]
  · exact nextG_n h
theorem boundG_n (s : Gat) : (boundG s).n = s.n := by
  unfold boundG; split
  · simp [Gat.n]
  · rfl
/-- What the first j of a step's numbers are, three in all. -/
def cell3 (l : List Int) (j k : Nat) : Value := .int .i64 (if k < j then l.getD k 0 else 0)
def cells3_ (l : List Int) (j : Nat) : Array Value := #[cell3 l j 0, cell3 l j 1, cell3 l j 2]
theorem cells3_zero (l : List Int) : cells3_ l 0 = #[.int .i64 0, .int .i64 0, .int .i64 0] := rfl
theorem cells3_step (l : List Int) {j : Nat} (h : j < 3) : (cells3_ l j).setIfInBounds j (.int .i64 (l.getD j 0)) = cells3_ l (j + 1) := by
  rcases j with _ | _ | _ | j
  · simp [cells3_, cell3]
  · simp [cells3_, cell3]
  · simp [cells3_, cell3]
  · omega
theorem cells3_end (l : List Int) {j : Nat} (h : 3 ≤ j ∨ l.length ≤ j) : cells3_ l j = #[.int .i64 (l.getD 0 0), .int .i64 (l.getD 1 0), .int .i64 (l.getD 2 0)] := by
  have e : ∀ k, k < 3 → cell3 l j k = .int .i64 (l.getD k 0) := by
    intro k hk
    unfold cell3
    split
    · rfl
    · have : l.getD k 0 = 0 := by rw [List.getD_eq_getElem?_getD, List.getElem?_eq_none (by omega)]; rfl
      rw [this]
  rw [cells3_, e 0 (by omega), e 1 (by omega), e 2 (by omega)]

set_option maxRecDepth 100000 in
set_option maxHeartbeats 8000000 in
theorem plays_walk (inputs : Int) (A : Option Addr) (c : Nat) (ls : List (List Int)) (w : World) (hg : HasErr w) (hr : RdII w w.heap.size A ls) (h0 : -9223372036854775808 ≤ inputs) (h1 : inputs ≤ 9223372036854775807)
    (hl : ls.length ≤ 140737488355328) (hb : ∀ l ∈ ls, ∀ z ∈ l, -9223372036854775808 ≤ z ∧ z ≤ 9223372036854775807) :
    Calls Tryd.prog 3 #[.int .i64 inputs, .slice A ls.length c] w fun e w' => e = .returned (.bool true) ∧ Below w.heap.size w w' := by
  obtain ⟨m, hm⟩ : ∃ m, m = ls.length := ⟨_, rfl⟩
  rw [← hm] at hl ⊢
  have Hm := Lib.hid hm
  clear hm
  by_cases hbad : inputs < 1 ∨ 64 < inputs
  · have HN := Lib.hid (new_bad inputs w hbad h0 h1)
    have HS := fun W (h : HasErr W) => same_err 1 1 W h
    rw [show errV 1 = .iface 66 (.int .i64 1) from rfl] at HS
    have HS := Lib.hid HS
    by_cases hlt : inputs < 1
    · go_enter Tryd.func3, Tryd.ntmps3
      go_wp2_with (first
        | (go_at_call 5; refine HN.out.mono ?_; rintro e w1 ⟨rfl, rfl⟩)
        | (go_at_call 6; refine (HS.out _ hg).mono ?_; rintro e w2 ⟨rfl, hb2⟩))
      go_ret
      exact ⟨rfl, hb2⟩
    · have hgt : 64 < inputs := by omega
      go_enter Tryd.func3, Tryd.ntmps3
      go_wp2_with (first
        | (go_at_call 5; refine HN.out.mono ?_; rintro e w1 ⟨rfl, rfl⟩)
        | (go_at_call 6; refine (HS.out _ hg).mono ?_; rintro e w2 ⟨rfl, hb2⟩))
      go_ret
      exact ⟨rfl, hb2⟩
  · obtain ⟨n, rfl⟩ : ∃ n : Nat, inputs = n := ⟨inputs.toNat, by omega⟩
    have hn0 : 0 < n := by omega
    have hn64 : n ≤ 64 := by omega
    have hx1 : ¬ ((n : Int) < 1) := by omega
    have hx2 : ¬ (64 < (n : Int)) := by omega
    clear hbad
    have HS := fun W (h : HasErr W) => same_err 0 0 W h
    rw [errV_zero] at HS
    have HS := Lib.hid HS
    have HS1 := fun W (h : HasErr W) => same_err 1 1 W h
    rw [show errV 1 = .iface 66 (.int .i64 1) from rfl] at HS1
    have HS1 := Lib.hid HS1
    have m1 := fun W => run_make_row' (P := Tryd.prog) 30 46 (.slice none 0 0) 24 Tryd.underlying30 (by kernel_rfl) rfl .i64 .i64 n (by omega) (by omega) W
    have m2 := fun W => run_make_row' (P := Tryd.prog) 31 3 (.int .i64 0) 8 Tryd.underlying31 (by kernel_rfl) rfl .i64 .i64 n (by omega) (by omega) W
    go_enter Tryd.func3, Tryd.ntmps3
    go_wp2_with (first
      | (go_at_call 5; refine (new_good n w (· < w.heap.size) hn0 hn64 (fun _ h => h)).mono ?_; rintro e w1 ⟨G, rfl, hG1, hK1⟩; have hbb1 := hK1.below (B := w.heap.size) (fun _ h => h))
      | (go_at_call 6; refine (HS.out _ (hg.up hbb1)).mono ?_; rintro e w2 ⟨rfl, hb2⟩; have hbb2 := below_up hbb1 hb2))
    have hG2 := hG1.stays hb2
    have hw12 : w.heap.size ≤ w2.heap.size := hbb2.size
    go_cut [9] (fun s9 wx => ∃ R, s9 = .pointer (some ⟨R, 0, none⟩) ∧ Both wx (· < w.heap.size) G R (newG n) (newG n) ∧ Below w.heap.size w wx)
    case first =>
      go_region_held3 (fun _ => True) (trivial) (fail)
      · go_wp2_with fail
        go_meet
        have b1 := ((Blk.new w2 46 (madeCells #[.slice none 0 0] n)).alloc (.cells (madeCells #[.int .i64 0] n) 3)).alloc (.cells #[.slice (some ⟨w2.heap.size, 0, none⟩) n n, .slice (some ⟨w2.heap.size + 1, 0, none⟩) n n, .int .i64 0] 33)
        have b2 := (Blk.new (w2.alloc (.cells (madeCells #[.slice none 0 0] n) 46)) 3 (madeCells #[.int .i64 0] n)).alloc (.cells #[.slice (some ⟨w2.heap.size, 0, none⟩) n n, .slice (some ⟨w2.heap.size + 1, 0, none⟩) n n, .int .i64 0] 33)
        have b3 := Blk.new ((w2.alloc (.cells (madeCells #[.slice none 0 0] n) 46)).alloc (.cells (madeCells #[.int .i64 0] n) 3)) 33 #[.slice (some ⟨w2.heap.size, 0, none⟩) n n, .slice (some ⟨w2.heap.size + 1, 0, none⟩) n n, .int .i64 0]
        simp only [World.size_alloc] at b1 b2 b3
        have hbq := (((Below.refl w2.heap.size w2).alloc (Nat.le_refl _) (.cells (madeCells #[.slice none 0 0] n) 46)).alloc (by simp) (.cells (madeCells #[.int .i64 0] n) 3)).alloc (by simp; omega) (.cells #[.slice (some ⟨w2.heap.size, 0, none⟩) n n, .slice (some ⟨w2.heap.size + 1, 0, none⟩) n n, .int .i64 0] 33)
        exact ⟨_, rfl, (Both.start hG2 (newR_in hn0 hn64 b3 b1 b2 (by omega) (by omega) (by omega) (by omega) (by omega) (by omega)) hbq (by omega) (by omega) (by omega)).drew, (hbb2.trans (hbq.mono hw12)).drew⟩
      · go_wp2_with fail
        go_meet
        have b1 := ((Blk.new w2 3 (madeCells #[.int .i64 0] n)).alloc (.cells (madeCells #[.slice none 0 0] n) 46)).alloc (.cells #[.slice (some ⟨w2.heap.size + 1, 0, none⟩) n n, .slice (some ⟨w2.heap.size, 0, none⟩) n n, .int .i64 0] 33)
        have b2 := (Blk.new (w2.alloc (.cells (madeCells #[.int .i64 0] n) 3)) 46 (madeCells #[.slice none 0 0] n)).alloc (.cells #[.slice (some ⟨w2.heap.size + 1, 0, none⟩) n n, .slice (some ⟨w2.heap.size, 0, none⟩) n n, .int .i64 0] 33)
        have b3 := Blk.new ((w2.alloc (.cells (madeCells #[.int .i64 0] n) 3)).alloc (.cells (madeCells #[.slice none 0 0] n) 46)) 33 #[.slice (some ⟨w2.heap.size + 1, 0, none⟩) n n, .slice (some ⟨w2.heap.size, 0, none⟩) n n, .int .i64 0]
        simp only [World.size_alloc] at b1 b2 b3
        have hbq := (((Below.refl w2.heap.size w2).alloc (Nat.le_refl _) (.cells (madeCells #[.int .i64 0] n) 3)).alloc (by simp) (.cells (madeCells #[.slice none 0 0] n) 46)).alloc (by simp; omega) (.cells #[.slice (some ⟨w2.heap.size + 1, 0, none⟩) n n, .slice (some ⟨w2.heap.size, 0, none⟩) n n, .int .i64 0] 33)
        exact ⟨_, rfl, (Both.start hG2 (newR_in hn0 hn64 b3 b2 b1 (by omega) (by omega) (by omega) (by omega) (by omega) (by omega)) hbq (by omega) (by omega) (by omega)).drew, (hbb2.trans (hbq.mono hw12)).drew⟩
    case rest =>
      obtain ⟨R, rfl, hB, hbel⟩ := hcut
      clear hG1 hG2 hK1 hbb1 hb2 hbb2 hw12 m1 m2
      have hg9 := hg.below hbel hg.2
      go_wp2_with fail
      go_loopw [8, 10] (fun s8 v wr => s8 = .bool true ∧ ∃ i : Nat, ∃ s : Gat, i ≤ m ∧ i ≤ 120 ∧ v = .int .i64 i ∧ s.n = n ∧ Both wr (· < w.heap.size) G R s s ∧ Below w.heap.size w wr) (fun _ v _ => 120 - (intOf v).toNat)
      case atStart => exact ⟨rfl, 0, newG n, Nat.zero_le _, by omega, rfl, by simp [newG, Gat.n], hB, hbel⟩
      case round =>
        clear hB hbel hg9
        obtain ⟨rfl, i, s, hi, hi120, rfl, hsn, hB, hbel⟩ := hrel
        have HSN := Lib.hid hsn
        clear hsn
        by_cases him : i < m
        · by_cases hi1 : i < 120
          · obtain ⟨ad, A', c', rfl, cl, hlc, hcm, hrl⟩ := hr.at_ (Below.refl _ _) (i := i) (by have := Hm.out; omega)
            have hbl := hb (ls.getD i []) (by
              have hx : ls[i]? = some (ls.getD i []) := by rw [List.getD_eq_getElem?_getD, List.getElem?_eq_getElem (by have := Hm.out; omega)]; rfl
              exact List.mem_of_getElem? hx)
            have hadb : (ad.add i).block < w.heap.size := by
              obtain ⟨ad2, e2, hlt2, _⟩ := hr (by have := Hm.out; omega)
              injection e2 with e2; subst e2
              rw [block_add]; exact hlt2
            obtain ⟨l, hl9⟩ : ∃ l, l = ls.getD i [] := ⟨_, rfl⟩
            rw [← hl9] at cl hlc hrl hbl
            clear hl9
            obtain ⟨q, hq⟩ : ∃ q, q = l.length := ⟨_, rfl⟩
            rw [← hq] at cl hlc hrl
            have Hq := Lib.hid hq
            clear hq
            have CL := Lib.hid (fun (W : World) (h : Below w.heap.size w W) => (h.cell hadb).trans cl)
            have HBL := Lib.hid hbl
            have hB2 := (hB.more (Y := fun j => j = wr.heap.size) (fun j hj => by omega)).alloc (.cells (cells3_ l 0) 34)
            have hV := Blk.new wr 34 (cells3_ l 0)
            have hbel2 := hbel.alloc hbel.size (.cells (cells3_ l 0) 34)
            have hws : w.heap.size ≤ wr.heap.size := hbel.size
            obtain ⟨vb, hvb⟩ : ∃ vb, vb = wr.heap.size := ⟨_, rfl⟩
            have hvw : w.heap.size ≤ vb := by omega
            rw [← hvb] at hB2 hV
            rw [cells3_zero] at hB2 hbel2
            have hV2 : Blk (wr.alloc (.cells #[.int .i64 0, .int .i64 0, .int .i64 0] 34)) vb 34 (cells3_ l 0) := hV
            have hbl0 := hbl
            clear hV hB hbl hbl0 cl hws
            go_upto_block 2 with fail
            rw [← hvb]
            clear hvb
            generalize wr.alloc (.cells #[.int .i64 0, .int .i64 0, .int .i64 0] 34) = wv at *
            clear hbel
            go_cut [12] from 58 to 89 (fun s12 wx => Blk wx vb 34 #[.int .i64 (l.getD 0 0), .int .i64 (l.getD 1 0), .int .i64 (l.getD 2 0)] ∧ Both wx (fun j => j < w.heap.size ∨ j = vb) G R s s ∧ Below w.heap.size w wx)
            case first =>
              as_aux_lemma =>
                go_wp2_with fail
                go_loopw [12] (fun v wr => ∃ j : Nat, j ≤ 3 ∧ j ≤ q ∧ v = .int .i64 j ∧ Blk wr vb 34 (cells3_ l j) ∧ Both wr (fun j => j < w.heap.size ∨ j = vb) G R s s ∧ Below w.heap.size w wr) (fun v _ => 3 - (intOf v).toNat)
                case atStart => exact ⟨0, by omega, by omega, rfl, hV2, hB2, hbel2⟩
                case round =>
                  clear hV2 hB2 hbel2
                  obtain ⟨j, hj3, hjq, rfl, hV, hB, hbel⟩ := hrel
                  have cl := CL.out _ hbel
                  by_cases hjl : j < q
                  · by_cases hj : j < 3
                    · obtain ⟨ad2, rfl, _, cj⟩ := (hrl.below hbel (Nat.le_refl _)).intc hjl
                      have cv : ∃ u, wr.cell? ⟨vb, j, none⟩ = some u := ⟨_, (hV.cell j).trans (Array.getElem?_eq_getElem (by simp [cells3_]; omega))⟩
                      obtain ⟨cu, hcu⟩ := cv
                      have fv := hV.frozen j
                      have hst := hV.set_ j (.int .i64 (l.getD j 0))
                      rw [cells3_step l hj] at hst
                      obtain ⟨z, hz⟩ : ∃ z, z = l.getD j 0 := ⟨_, rfl⟩
                      rw [← hz] at cj hst
                      clear hz
                      go_wp2_with fail
                      go_roundw
                      case rel => exact ⟨j + 1, by omega, by omega, by go_num, hst, hB.set_ (.inr rfl) _, hbel.setCell hvw _⟩
                      case measure => simp [intOf]; omega
                    · have hj3e : j = 3 := by omega
                      subst hj3e
                      rw [cells3_end l (.inl (by omega))] at hV
                      go_wp2_with fail
                      go_meet
                      exact ⟨hV, hB, hbel⟩
                  · rw [cells3_end l (.inr (by have := Hq.out; omega))] at hV
                    go_wp2_with fail
                    go_meet
                    exact ⟨hV, hB, hbel⟩
            case rest =>
              as_aux_lemma =>
                clear hV2 hB2 hbel2 hrl CL
                obtain ⟨hV, hB, hbel⟩ := hcut
                have hbd : ∀ k, -9223372036854775808 ≤ l.getD k 0 ∧ l.getD k 0 ≤ 9223372036854775807 := fun k => by
                  by_cases hk : k < l.length
                  · have hx : l.getD k 0 ∈ l := by rw [List.getD_eq_getElem?_getD, List.getElem?_eq_getElem hk]; exact List.getElem_mem hk
                    exact HBL.out _ hx
                  · rw [List.getD_eq_getElem?_getD, List.getElem?_eq_none (by omega)]; simp
                obtain ⟨ha0, ha1⟩ := hbd 0
                obtain ⟨hb0, hb1⟩ := hbd 1
                obtain ⟨hc0, hc1⟩ := hbd 2
                generalize l.getD 0 0 = a at *
                generalize l.getD 1 0 = b at *
                generalize l.getD 2 0 = d at *
                clear hbd Hq HBL
                have v0 := hV.cell 0
                have v1 := hV.cell 1
                have v2 := hV.cell 2
                simp only [List.getElem?_toArray, List.getElem?_cons_zero, List.getElem?_cons_succ] at v0 v1 v2
                go_upto_block 4 with fail
                go_cut [8] from 58 to 172 (fun s8 wx => s8 = .bool true ∧ ∃ s' : Gat, s'.n = n ∧ Both wx (fun j => j < w.heap.size ∨ j = vb) G R s' s' ∧ Below w.heap.size w wx ∧ Blk wx vb 34 #[.int .i64 a, .int .i64 b, .int .i64 d])
                case first =>
                  have hZ2 : ∀ W : World, wc.heap.size ≤ W.heap.size → ∀ j, (j < w.heap.size ∨ j = vb) → j < W.heap.size := fun W hW j hj => by
                    have h1 := hbel.size; have h2 := hV.lt; rcases hj with hj | hj <;> omega
                  have hlow : ∀ W W' : World, Keeps (fun j => j < w.heap.size ∨ j = vb) W W' → Below w.heap.size W W' := fun W W' h => h.below fun j hj => .inl hj
                  by_cases e0 : a = 0
                  · subst e0
                    have hB3 := (hB.more (Y := fun j => j = wc.heap.size) (fun j hj => by omega)).alloc (.cells #[.string ⟨#[107]⟩, .int .i64 d, .int .i64 0] 36)
                    have hV3 := hV.alloc (.cells #[.string ⟨#[107]⟩, .int .i64 d, .int .i64 0] 36)
                    have hRb := Blk.new wc 36 #[.string ⟨#[107]⟩, .int .i64 d, .int .i64 0]
                    have hbel3 := hbel.alloc hbel.size (.cells #[.string ⟨#[107]⟩, .int .i64 d, .int .i64 0] 36)
                    have hZ3 : ∀ W : World, (wc.alloc (.cells #[.string ⟨#[107]⟩, .int .i64 d, .int .i64 0] 36)).heap.size ≤ W.heap.size → ∀ j, ((j < w.heap.size ∨ j = vb) ∨ j = wc.heap.size) → j < W.heap.size := fun W hW j hj => by
                      simp only [World.size_alloc] at hW
                      have h1 := hbel.size; have h2 := hV.lt; rcases hj with (hj | hj) | hj <;> omega
                    go_wp2_with fail
                    generalize wc.alloc (.cells #[.string ⟨#[107]⟩, .int .i64 d, .int .i64 0] 36) = wz at *
                    have z1 : wz.cell? ⟨vb, 1, none⟩ = some (.int .i64 b) := hV3.cell 1
                    have y0 : wz.cell? ⟨wc.heap.size, 0, none⟩ = some (.string ⟨#[107]⟩) := hRb.cell 0
                    have y1 : wz.cell? ⟨wc.heap.size, 1, none⟩ = some (.int .i64 d) := hRb.cell 1
                    have y2 : wz.cell? ⟨wc.heap.size, 2, none⟩ = some (.int .i64 0) := hRb.cell 2
                    go_region_held3 (fun w' => w'.cell? ⟨vb, 1, none⟩ = some (.int .i64 b) ∧ w'.cell? ⟨wc.heap.size, 0, none⟩ = some (.string ⟨#[107]⟩) ∧ w'.cell? ⟨wc.heap.size, 1, none⟩ = some (.int .i64 d) ∧ w'.cell? ⟨wc.heap.size, 2, none⟩ = some (.int .i64 0)) (first | exact ⟨z1, y0, y1, y2⟩ | exact ⟨p1, hR5.cell 0, hR5.cell 1, hR5.cell 2⟩ | exact ⟨q1, hR6.cell 0, hR6.cell 1, hR6.cell 2⟩ | exact ⟨o1, hR7.cell 0, hR7.cell 1, hR7.cell 2⟩)
                      ((first
                        | (go_at_call 7; refine (gpush_both hB3.drew (hZ3 _ (Nat.le_refl _)) b ⟨#[107]⟩ d 0 hb0 hb1).mono ?_; rintro e w5 ⟨rfl, hB5, hK5⟩; have hV5 := hK5.blk hV3.drew (.inl (.inr rfl)); have hR5 := hK5.blk hRb.drew (.inr rfl); have p1 : w5.cell? ⟨vb, 1, none⟩ = some (.int .i64 b) := hV5.cell 1; have hbel5 := hbel3.drew.trans (hlow _ _ (hK5.mono fun j hj => .inl hj)))
                        | (go_at_call 8; refine (rpush_both hB5 (hZ3 _ hK5.size) b ⟨#[107]⟩ d 0 hb0 hb1).mono ?_; rintro e w6 ⟨rfl, hB6, hK6⟩; have hV6 := hK6.blk hV5 (.inl (.inr rfl)); have hR6 := hK6.blk hR5 (.inr rfl); have q1 : w6.cell? ⟨vb, 1, none⟩ = some (.int .i64 b) := hV6.cell 1; have hbel6 := hbel5.trans (hlow _ _ (hK6.mono fun j hj => .inl hj)))
                        | (go_at_call 6; refine (same_err (mayE s b) (mayE s b) _ (hg.below hbel6 hg.2)).mono ?_; rintro e w7 ⟨rfl, hb7⟩; have hB7 := hB6.up hb7; have hV7 := hV6.up hb7; have hR7 := hR6.up hb7; have o1 : w7.cell? ⟨vb, 1, none⟩ = some (.int .i64 b) := hV7.cell 1; have hbel7 := below_up hbel6 hb7)))
                    go_wp2_with fail
                    go_meet
                    exact ⟨by simp, _, (pushG_n s b _).trans HSN.out, hB7.less (fun _ h => .inl h), hbel7, hV7⟩
                  by_cases e1 : a = 1
                  · subst e1
                    have hB3 := (hB.more (Y := fun j => j = wc.heap.size) (fun j hj => by omega)).alloc (.cells #[.string ⟨#[107]⟩, .int .i64 d, .int .i64 0] 36)
                    have hV3 := hV.alloc (.cells #[.string ⟨#[107]⟩, .int .i64 d, .int .i64 0] 36)
                    have hRb := Blk.new wc 36 #[.string ⟨#[107]⟩, .int .i64 d, .int .i64 0]
                    have hbel3 := hbel.alloc hbel.size (.cells #[.string ⟨#[107]⟩, .int .i64 d, .int .i64 0] 36)
                    have hZ3 : ∀ W : World, (wc.alloc (.cells #[.string ⟨#[107]⟩, .int .i64 d, .int .i64 0] 36)).heap.size ≤ W.heap.size → ∀ j, ((j < w.heap.size ∨ j = vb) ∨ j = wc.heap.size) → j < W.heap.size := fun W hW j hj => by
                      simp only [World.size_alloc] at hW
                      have h1 := hbel.size; have h2 := hV.lt; rcases hj with (hj | hj) | hj <;> omega
                    go_wp2_with fail
                    generalize wc.alloc (.cells #[.string ⟨#[107]⟩, .int .i64 d, .int .i64 0] 36) = wz at *
                    have z1 : wz.cell? ⟨vb, 1, none⟩ = some (.int .i64 b) := hV3.cell 1
                    have y0 : wz.cell? ⟨wc.heap.size, 0, none⟩ = some (.string ⟨#[107]⟩) := hRb.cell 0
                    have y1 : wz.cell? ⟨wc.heap.size, 1, none⟩ = some (.int .i64 d) := hRb.cell 1
                    have y2 : wz.cell? ⟨wc.heap.size, 2, none⟩ = some (.int .i64 0) := hRb.cell 2
                    go_region_held3 (fun w' => w'.cell? ⟨vb, 1, none⟩ = some (.int .i64 b) ∧ w'.cell? ⟨wc.heap.size, 0, none⟩ = some (.string ⟨#[107]⟩) ∧ w'.cell? ⟨wc.heap.size, 1, none⟩ = some (.int .i64 d) ∧ w'.cell? ⟨wc.heap.size, 2, none⟩ = some (.int .i64 0)) (first | exact ⟨z1, y0, y1, y2⟩ | exact ⟨p1, hR5.cell 0, hR5.cell 1, hR5.cell 2⟩ | exact ⟨q1, hR6.cell 0, hR6.cell 1, hR6.cell 2⟩ | exact ⟨o1, hR7.cell 0, hR7.cell 1, hR7.cell 2⟩)
                      ((first
                        | (go_at_call 7; refine (gpush_both hB3.drew (hZ3 _ (Nat.le_refl _)) b ⟨#[107]⟩ d 0 hb0 hb1).mono ?_; rintro e w5 ⟨rfl, hB5, hK5⟩; have hV5 := hK5.blk hV3.drew (.inl (.inr rfl)); have hR5 := hK5.blk hRb.drew (.inr rfl); have p1 : w5.cell? ⟨vb, 1, none⟩ = some (.int .i64 b) := hV5.cell 1; have hbel5 := hbel3.drew.trans (hlow _ _ (hK5.mono fun j hj => .inl hj)))
                        | (go_at_call 8; refine (rpush_both hB5 (hZ3 _ hK5.size) b ⟨#[107]⟩ d 0 hb0 hb1).mono ?_; rintro e w6 ⟨rfl, hB6, hK6⟩; have hV6 := hK6.blk hV5 (.inl (.inr rfl)); have hR6 := hK6.blk hR5 (.inr rfl); have q1 : w6.cell? ⟨vb, 1, none⟩ = some (.int .i64 b) := hV6.cell 1; have hbel6 := hbel5.trans (hlow _ _ (hK6.mono fun j hj => .inl hj)))
                        | (go_at_call 6; refine (same_err (mayE s b) (mayE s b) _ (hg.below hbel6 hg.2)).mono ?_; rintro e w7 ⟨rfl, hb7⟩; have hB7 := hB6.up hb7; have hV7 := hV6.up hb7; have hR7 := hR6.up hb7; have o1 : w7.cell? ⟨vb, 1, none⟩ = some (.int .i64 b) := hV7.cell 1; have hbel7 := below_up hbel6 hb7)))
                    go_wp2_with fail
                    go_meet
                    exact ⟨by simp, _, (pushG_n s b _).trans HSN.out, hB7.less (fun _ h => .inl h), hbel7, hV7⟩
                  by_cases e2 : a = 2
                  · subst e2
                    go_wp2_with fail
                    go_region_held3 (fun w' => w'.cell? ⟨vb, 1, none⟩ = some (.int .i64 b) ∧ w'.cell? ⟨vb, 2, none⟩ = some (.int .i64 d)) (first | exact ⟨v1, v2⟩ | exact ⟨p1, p2⟩ | exact ⟨q1, q2⟩ | exact ⟨o1, o2⟩)
                      ((first
                        | (go_at_call 9; refine (gbar_both hB.drew (hZ2 _ (Nat.le_refl _)) b d hb0 hb1).mono ?_; rintro e w5 ⟨rfl, hB5, hK5⟩; have hV5 := hK5.blk hV.drew (.inr rfl); have p1 : w5.cell? ⟨vb, 1, none⟩ = some (.int .i64 b) := hV5.cell 1; have p2 : w5.cell? ⟨vb, 2, none⟩ = some (.int .i64 d) := hV5.cell 2; have hbel5 := hbel.drew.trans (hlow _ _ hK5))
                        | (go_at_call 8; refine (rbar_both hB5 (hZ2 _ hK5.size) b d hb0 hb1).mono ?_; rintro e w6 ⟨rfl, hB6, hK6⟩; have hV6 := hK6.blk hV5 (.inr rfl); have q1 : w6.cell? ⟨vb, 1, none⟩ = some (.int .i64 b) := hV6.cell 1; have q2 : w6.cell? ⟨vb, 2, none⟩ = some (.int .i64 d) := hV6.cell 2; have hbel6 := hbel5.trans (hlow _ _ hK6))
                        | (go_at_call 6; refine (same_err (barE s b d) (barE s b d) _ (hg.below hbel6 hg.2)).mono ?_; rintro e w7 ⟨rfl, hb7⟩; have hB7 := hB6.up hb7; have hV7 := hV6.up hb7; have o1 : w7.cell? ⟨vb, 1, none⟩ = some (.int .i64 b) := hV7.cell 1; have o2 : w7.cell? ⟨vb, 2, none⟩ = some (.int .i64 d) := hV7.cell 2; have hbel7 := below_up hbel6 hb7)))
                    go_wp2_with fail
                    go_meet
                    exact ⟨by simp, _, (barG_n s b d).trans HSN.out, hB7, hbel7, hV7⟩
                  by_cases e3 : a = 3
                  · subst e3
                    obtain ⟨X, hX⟩ : ∃ X, X = nextR s := ⟨_, rfl⟩
                    have HN := gnext_both hB (hZ2 _ (Nat.le_refl _))
                    have HT : ∀ (Z' : Nat → Prop) (W : World), Both W Z' G R (nextG s) s → (∀ k, Z' k → k < W.heap.size) →
                        Calls Tryd.prog 11 #[.pointer (some ⟨R, 0, none⟩)] W fun e w' => e = .returned (.tuple #[X.1.rec_, .int .i64 X.2.1, .bool X.2.2]) ∧ Both w' Z' G R (nextG s) (nextG s) ∧ Keeps Z' W w' := fun Z' W h hz => by
                      have h9 := rtake_both h hz
                      rw [← hX] at h9
                      exact h9
                    rw [← hX] at HN
                    have eX : X.1.rec_ = .agg #[.string X.1.key, .int .i64 X.1.num, .int .i64 X.1.time] := rfl
                    rw [eX] at HN HT
                    have heq := fun W => rec_eql W X.1.key X.1.num X.1.time
                    have HN := Lib.hid HN
                    have HT := Lib.hid HT
                    clear hX eX
                    obtain ⟨xk, hxk⟩ : ∃ xk, xk = X.1.key := ⟨_, rfl⟩
                    obtain ⟨xn, hxn⟩ : ∃ xn, xn = X.1.num := ⟨_, rfl⟩
                    obtain ⟨xt, hxt⟩ : ∃ xt, xt = X.1.time := ⟨_, rfl⟩
                    rw [← hxk, ← hxn, ← hxt] at HN HT heq
                    clear hxk hxn hxt
                    go_wp2_with (first
                      | (go_at_call 10; refine HN.out.mono ?_; rintro e w5 ⟨rfl, hB5, hK5⟩; have hbel5 := hbel.trans (hlow _ _ hK5); have hV5 := (hK5.blk hV (.inr rfl)).alloc (.cells #[.string xk, .int .i64 xn, .int .i64 xt] 36); have hB5a := (hB5.more (Y := fun j => j = w5.heap.size) (fun j hj => by omega)).alloc (.cells #[.string xk, .int .i64 xn, .int .i64 xt] 36); have hR5 := Blk.new w5 36 #[.string xk, .int .i64 xn, .int .i64 xt]; have hbel5a := hbel5.alloc hbel5.size (.cells #[.string xk, .int .i64 xn, .int .i64 xt] 36))
                      | (go_at_call 11; refine (HT.out _ _ hB5a (fun j hj => by
                          have h1 := hbel.size; have h2 := hV.lt; have h3 := hK5.size; simp only [World.size_alloc]; rcases hj with (hj | hj) | hj <;> omega)).mono ?_; rintro e w6 ⟨rfl, hB6, hK6⟩; have hV6 := (hK6.blk hV5 (.inl (.inr rfl))).alloc (.cells #[.string xk, .int .i64 xn, .int .i64 xt] 36); have hR6 := (hK6.blk hR5 (.inr rfl)).alloc (.cells #[.string xk, .int .i64 xn, .int .i64 xt] 36); have hQ6 := Blk.new w6 36 #[.string xk, .int .i64 xn, .int .i64 xt]; have hB6a := (hB6.less (Y := fun j => j < w.heap.size ∨ j = vb) (fun _ h => .inl h)).alloc (.cells #[.string xk, .int .i64 xn, .int .i64 xt] 36); have hbel6 := hbel5a.trans (hlow _ _ (hK6.mono fun j hj => .inl hj)); have hbel6a := hbel6.alloc hbel6.size (.cells #[.string xk, .int .i64 xn, .int .i64 xt] 36)
                         have y0 := hR6.cell 0; have y1 := hR6.cell 1; have y2 := hR6.cell 2; have z0 := hQ6.cell 0; have z1 := hQ6.cell 1; have z2 := hQ6.cell 2
                         simp only [List.getElem?_toArray, List.getElem?_cons_zero, List.getElem?_cons_succ] at y0 y1 y2 z0 z1 z2))
                    go_meet
                    exact ⟨by simp, _, (nextG_nn s).trans HSN.out, hB6a, hbel6a, hV6⟩
                  by_cases e4 : a = 4
                  · subst e4
                    have HN := Lib.hid (gbound_both hB (hZ2 _ (Nat.le_refl _)))
                    go_wp2_with (first
                      | (go_at_call 12; refine HN.out.mono ?_; rintro e w5 ⟨rfl, hB5, hK5⟩; have hV5 := hK5.blk hV (.inr rfl); have hbel5 := hbel.trans (hlow _ _ hK5))
                      | (go_at_call 13; refine (rbound_both hB5 (hZ2 _ hK5.size)).mono ?_; rintro e w6 ⟨rfl, hB6, hK6⟩; have hV6 := hK6.blk hV5 (.inr rfl); have hbel6 := hbel5.trans (hlow _ _ hK6)))
                    go_meet
                    exact ⟨by simp, _, (boundG_n s).trans HSN.out, hB6, hbel6, hV6⟩
                  · go_wp2_with fail
                    go_meet
                    exact ⟨rfl, s, HSN.out, hB, hbel, hV⟩
                case rest =>
                  clear hV hB hbel v0 v1 v2 hc0 hc1 HSN s
                  obtain ⟨rfl, s, hsn, hB, hbel, hV⟩ := hcut
                  have HSN := Lib.hid hsn
                  clear hsn
                  have v1 := hV.cell 1
                  simp only [List.getElem?_toArray, List.getElem?_cons_zero, List.getElem?_cons_succ] at v1
                  have hBB := hB
                  obtain ⟨gw, gl, sl, rw_, rl, rs, hgI, hrI, hdj⟩ := hBB
                  have c0 := hrI.c0
                  rw [HSN.out] at c0
                  go_wp2_with fail
                  go_loopw [24, 25] (fun x i wr => ∃ k t : Nat, k ≤ n ∧ i = .int .i64 k ∧ x = .int .i64 t ∧ t ≤ 400 * k ∧ Hid (t + ((s.waits.drop k).map List.length).sum = waitingG s) ∧ wc = wr) (fun _ i _ => n - (intOf i).toNat)
                  case atStart => exact ⟨0, 0, Nat.zero_le _, rfl, rfl, by omega, Lib.hid (by simp [waitingG]), rfl⟩
                  case round =>
                    obtain ⟨k, t, hk, rfl, rfl, ht, HA, rfl⟩ := hrel
                    by_cases hlt : k < n
                    · obtain ⟨A9, c9, hs9, cw, hlc9, hcm9, hr9⟩ := hrI.wait (i := k) (by have := HSN.out; omega)
                      have hlen := hrI.ok.len k
                      have hdr : s.waits.drop k = s.at_ k :: s.waits.drop (k + 1) := by
                        have hx := at_get (s := s) (i := k) (by have := HSN.out; omega)
                        obtain ⟨h1, h2⟩ := List.getElem?_eq_some_iff.1 hx
                        rw [← h2]; exact List.drop_eq_getElem_cons h1
                      have HA2 : Hid (t + (s.at_ k).length + ((s.waits.drop (k + 1)).map List.length).sum = waitingG s) := Lib.hid (by
                        have := HA.out; rw [hdr, List.map_cons, List.sum_cons] at this; omega)
                      obtain ⟨p, hp⟩ : ∃ p, p = (s.at_ k).length := ⟨_, rfl⟩
                      rw [← hp] at cw hlen HA2
                      clear hp hs9 hlc9 hcm9 hr9 hdr
                      go_wp2_with fail
                      go_roundw
                      case rel => exact ⟨k + 1, t + p, by omega, by go_num, by go_num, by omega, HA2, trivial⟩
                      case measure => simp [intOf]; omega
                    · have e := HA.out
                      rw [List.drop_eq_nil_of_le (by have := HSN.out; unfold Gat.n at this; omega)] at e
                      simp only [List.map_nil, List.sum_nil, Nat.add_zero] at e
                      have HW := Lib.hid (fun W (h : Both W (fun j => j < w.heap.size ∨ j = vb) G R s s) => gwaiting_both h)
                      rw [← e] at HW
                      clear e HA
                      obtain ⟨Yz, hGz⟩ := hB.at_
                      by_cases hb2 : b < 0
                      · have HK := Lib.hid (gblocked_out wc Yz G s b hGz (.inl hb2))
                        rw [show errV 1 = .iface 66 (.int .i64 1) from rfl] at HK
                        go_wp2_with (first
                          | (go_at_call 15; refine HK.out.mono ?_; rintro e w5 ⟨rfl, rfl⟩)
                          | (go_at_call 6; refine (HS1.out _ (hg.below hbel hg.2)).mono ?_; rintro e w6 ⟨rfl, hb6⟩; have hB6 := hB.up hb6; have hbel6 := below_up hbel hb6)
                          | (go_at_call 16; refine (HW.out _ hB6).mono ?_; rintro e w7 ⟨rfl, rfl⟩))
                        go_roundw
                        case rel => exact ⟨rfl, i + 1, s, by omega, by omega, by go_num, HSN.out, hB6.less (fun _ h => .inl h), hbel6⟩
                        case measure => simp [intOf]; omega
                      by_cases hb3 : (n : Int) ≤ b
                      · have HK := Lib.hid (gblocked_out wc Yz G s b hGz (.inr (by have := HSN.out; omega)))
                        rw [show errV 1 = .iface 66 (.int .i64 1) from rfl] at HK
                        go_wp2_with (first
                          | (go_at_call 15; refine HK.out.mono ?_; rintro e w5 ⟨rfl, rfl⟩)
                          | (go_at_call 6; refine (HS1.out _ (hg.below hbel hg.2)).mono ?_; rintro e w6 ⟨rfl, hb6⟩; have hB6 := hB.up hb6; have hbel6 := below_up hbel hb6)
                          | (go_at_call 16; refine (HW.out _ hB6).mono ?_; rintro e w7 ⟨rfl, rfl⟩))
                        go_roundw
                        case rel => exact ⟨rfl, i + 1, s, by omega, by omega, by go_num, HSN.out, hB6.less (fun _ h => .inl h), hbel6⟩
                        case measure => simp [intOf]; omega
                      · obtain ⟨kb, rfl⟩ : ∃ kb : Nat, b = kb := ⟨b.toNat, by omega⟩
                        have HK := gblocked_in wc Yz G s kb hGz (by have := HSN.out; omega)
                        have HR := rblocked_both hB (k := kb) (by have := HSN.out; omega)
                        obtain ⟨bb, hbb⟩ : ∃ bb, bb = barred (s.at_ kb) := ⟨_, rfl⟩
                        rw [← hbb] at HK HR
                        have HK := Lib.hid HK
                        have HR := Lib.hid HR
                        clear hbb
                        go_wp2_with (first
                          | (go_at_call 14; refine HR.out.mono ?_; rintro e w4 ⟨rfl, rfl⟩)
                          | (go_at_call 15; refine HK.out.mono ?_; rintro e w5 ⟨rfl, rfl⟩)
                          | (go_at_call 6; refine (HS.out _ (hg.below hbel hg.2)).mono ?_; rintro e w6 ⟨rfl, hb6⟩; have hB6 := hB.up hb6; have hbel6 := below_up hbel hb6)
                          | (go_at_call 16; refine (HW.out _ hB6).mono ?_; rintro e w7 ⟨rfl, rfl⟩))
                        go_roundw
                        case rel => exact ⟨rfl, i + 1, s, by omega, by omega, by go_num, HSN.out, hB6.less (fun _ h => .inl h), hbel6⟩
                        case measure => simp [intOf]; omega
          · go_wp2
            go_ret
            exact ⟨rfl, hbel⟩
        · go_wp2
          go_ret
          exact ⟨rfl, hbel⟩
end Go.Proofs.YtmeemcafjebanaaDoor
