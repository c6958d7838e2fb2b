/- The walk of spread.Even. -/
import Derived.Test.YtelailhghhjleaaWalkSpread
namespace Go.Proofs.Ytelailhghhjleaa
open Go.RowKit

set_option maxRecDepth 100000 in
set_option maxHeartbeats 2000000 in
theorem even_bad (A : Option Addr) (c : Nat) (l : List ByteArray) (p : Int) (w : World) (hl : l.length ≤ 140737488355328) (h0 : -9223372036854775808 ≤ p) (h1 : p ≤ 9223372036854775807) (hE : spreadE l.length p ≠ 0) :
    Calls Try.prog 11 #[.slice A l.length c, .int .i64 p] w fun e w' => e = .returned (.tuple #[.slice none 0 0, errV (spreadE l.length p)]) ∧ w = w' := by
  obtain ⟨E, hEE⟩ : ∃ E, E = spreadE l.length p := ⟨_, rfl⟩
  have hc := spcheck_any l.length p w hl h0 h1
  rw [← hEE] at hc hE ⊢
  have hV : errV E = .iface 63 (.int .i64 E) := by rw [errV, if_neg hE]
  rw [hV] at hc ⊢
  have HC := Lib.hid hc
  clear hc hEE hV hE
  go_enter Try.func11, Try.ntmps11
  go_wp2_with (first | (go_at_call 32; refine HC.out.mono ?_; rintro e w1 ⟨rfl, rfl⟩))
  go_ret2
  exact ⟨rfl, rfl⟩

set_option maxRecDepth 100000 in
set_option maxHeartbeats 4000000 in
theorem even_good (A : Option Addr) (c B : Nat) (l : List ByteArray) (p : Nat) (w : World) (hr : Rd w B 1 A l.length (l.map sv)) (hB : B ≤ w.heap.size) (hE : spreadE l.length p = 0) :
    Calls Try.prog 11 #[.slice A l.length c, .int .i64 p] w fun e w' => ∃ go sl, e = .returned (.tuple #[.slice (some ⟨go, 0, none⟩) p p, .nilIface]) ∧ TextRows w' w.heap.size go sl (rowsAt l p l.length) ∧ Below w.heap.size w w' := by
  have hp : 1 ≤ p ∧ p ≤ 16 ∧ l.length ≤ 400 := by
    unfold spreadE at hE
    split at hE
    · cases hE
    · split at hE
      · cases hE
      · omega
  obtain ⟨hp1, hp16, hn4⟩ := hp
  have hc := spcheck_any l.length p w (by omega) (by omega) (by omega)
  rw [hE] at hc
  rw [show errV 0 = .nilIface from rfl] at hc
  obtain ⟨n, hn⟩ : ∃ n, n = l.length := ⟨_, rfl⟩
  rw [← hn] at hr hn4 hc ⊢
  have HC := Lib.hid hc
  have Hn := Lib.hid hn
  clear hn hc hE
  have hmk := run_make_row' (P := Try.prog) 38 35 (.slice none 0 0) 24 Try.underlying38 (by kernel_rfl) rfl .i64 .i64 p (by omega) (by omega) w
  have hT := TextRows.start (base := w.heap.size) (p := p) (Nat.le_refl w.heap.size) (Blk.new w 35 (madeCells #[.slice none 0 0] p))
  rw [← rowsAt_zero l p] at hT
  have hTg : ∀ go, go = w.heap.size → TextRows (w.alloc (.cells (madeCells #[.slice none 0 0] p) 35)) w.heap.size go (List.replicate p (.slice none 0 0)) (rowsAt l p 0) := fun go h => by rw [h]; exact hT
  have hbx := (Below.refl w.heap.size w).alloc (Nat.le_refl _) (.cells (madeCells #[.slice none 0 0] p) 35)
  go_enter Try.func11, Try.ntmps11
  go_wp2_with (first | (go_at_call 32; refine HC.out.mono ?_; rintro e w1 ⟨rfl, rfl⟩))
  generalize w.alloc (.cells (madeCells #[.slice none 0 0] p) 35) = wm at *
  obtain ⟨go, hgo⟩ : ∃ go, go = w.heap.size := ⟨_, rfl⟩
  have hgw : w.heap.size ≤ go := by omega
  rw [← hgo] at hmk ⊢
  have hT2 := hTg go hgo
  clear hT hTg hmk hgo
  go_loopw [21] (fun i wr => ∃ k : Nat, ∃ sl : List Value, k ≤ n ∧ i = .int .i64 k ∧ TextRows wr w.heap.size go sl (rowsAt l p k) ∧ Below w.heap.size w wr) (fun i _ => n - (intOf i).toNat)
  case atStart => exact ⟨0, _, Nat.zero_le _, rfl, hT2, hbx⟩
  case round =>
    clear hT2 hbx
    obtain ⟨k, sl, hk, rfl, hT, hbel⟩ := hrel
    by_cases hlt : k < n
    · obtain ⟨ad, rfl, _, g0⟩ := (hr.below hbel hB).str_ hlt
      obtain ⟨j, hj⟩ : ∃ j, j = k % p := ⟨_, rfl⟩
      have hjp : j < p := by rw [hj]; exact Nat.mod_lt _ (by omega)
      obtain ⟨Aj, cj, hs, cw, hlc, hcm, hown, hrj⟩ := hT.row (rowsAt_get (l := l) (k := k) hjp)
      have hml := pick_len l p j k
      have hrs : rowsAt l p (k + 1) = (rowsAt l p k).set j (pick l p j k ++ [strAt l k]) := by rw [hj]; exact rowsAt_succ (by omega)
      have HRS := Lib.hid hrs
      obtain ⟨z, hz⟩ : ∃ z, z = strAt l k := ⟨_, rfl⟩
      rw [← hz] at g0 HRS
      obtain ⟨q, hq⟩ : ∃ q, q = pick l p j k := ⟨_, rfl⟩
      rw [← hq] at cw hlc hown hrj hml HRS hs
      obtain ⟨m, hm⟩ : ∃ m, m = q.length := ⟨_, rfl⟩
      rw [← hm] at cw hlc hown hrj hml hs
      have Hm := Lib.hid hm
      have hrem : Int.tmod (k : Int) (p : Int) = (j : Int) := by rw [hj, ← Int.ofNat_tmod]
      have hwj : IntKind.i64.wrap (j : Int) = (j : Int) := IntWalk.i64_in _ (by omega)
      have hp0 : ¬ (p = 0) := by omega
      clear hrs hz hq hm hj hrj
      have hd := hT.low _ (List.mem_of_getElem? hs)
      have hvo : some go ≠ (Value.slice Aj m cj).ownBlock := fun e => (hd go e.symm).2 rfl
      have hone : ∀ u ∈ (#[.string z] : Array Value).toList, u.oneCell' = true := by simp [Value.oneCell']
      have kn := (World.cell?_alloc_lt wr (.cells #[.string z] 9) ⟨go, j, none⟩ hT.blk.lt).trans cw
      have hwn := hT.blk.alloc (.cells #[.string z] 9)
      have hj0 : (0 : Int) ≤ (j : Int) := by omega
      have hj1 : (j : Int) < (p : Int) := by omega
      go_wp2_with fail
      go_region_law
        ((first
          | (with_reducible show (if Region.wanted (⟨some 38, _, _, _, _, _⟩ : Oper) _ = true then _ else _); go_must (refine step_rd (.tmp 35) (.tmp 37) el_str rfl rfl (own_drew (hown.alloc _)) rfl (rd_new wr #[.string z] 9 (size := 1) (m := 1) rfl).drew rfl hone (by omega) (Nat.zero_le _) ?_); intro v4 w4 hown4 hb4 hg4d ha4; have hg4 := grown_undrew hg4d; have hc4 := hg4.cell kn hvo; have hf4 : w4.frozen? ⟨go, j, none⟩ = false := Blk.frozen (Blk.grown hwn hg4 hvo) j; obtain ⟨A4, c4, rfl, hn4, hc5, hl4, r4⟩ := own_form hown4)))
      all_goals go_wp2_with fail
      all_goals
        have hg5 : wr.grownBy w4 (Value.slice Aj m cj).ownBlock := only_trans (only_alloc (only_refl _ _) _) hg4
        obtain ⟨r1, r2⟩ := hT.replace (i := j) (l := q ++ [z]) hs (Nat.le_trans hbel.size (Nat.le_refl _)) hg5
          (by have e1 : m + 1 = (q ++ [z]).length := by have := Hm.out; simp; omega
              have e2 : (q ++ [z]).map sv = q.map sv ++ #[.string z].toList := by simp [sv]
              rw [← e1, e2]; exact hown4)
          (fun g hg => by
            rcases ha4 with e | e
            · exact .inl (e ▸ hg)
            · rw [hg] at e; injection e with e; subst e; exact .inr (by simp))
        go_roundw
        case rel => exact ⟨k + 1, _, by omega, by go_num, by rw [HRS.out]; exact r1, hbel.trans r2⟩
        case measure => simp [intOf]; omega
    · go_wp2_with fail
      go_ret2
      have e : k = n := by omega
      subst e
      exact ⟨go, sl, rfl, hT, hbel⟩
end Go.Proofs.Ytelailhghhjleaa
