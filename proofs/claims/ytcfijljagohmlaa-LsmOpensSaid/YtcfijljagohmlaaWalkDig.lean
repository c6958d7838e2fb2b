/- The walk of weirgatebig's small, Text, String and of Digits: that they end, with some text. -/
import Derived.Test.YtcfijljagohmlaaBigOne
import Derived.Test.YtcfijljagohmlaaRowE
import Derived.Test.YtcfijljagohmlaaWalkNum
import Derived.Deep.LoopGhost
namespace Go.Proofs.Ytcfijljagohmlaa
open Go.RowKit

def OwnW (w : World) (v : Value) (n : Nat) : Prop := ∃ A c, v = .slice A (wordsN n).length c ∧ w.ownsRow 0 82 1 (.slice A (wordsN n).length c) (wordsN n).length ((wordsN n).map u4)
theorem OwnW.up {w w' : World} {v : Value} {n : Nat} (h : OwnW w v n) (hb : Below w.heap.size w w') : OwnW w' v n := by
  obtain ⟨A, c, h1, h2⟩ := h
  exact ⟨A, c, h1, own_up h2 hb⟩
theorem OwnW.drew {w : World} {v : Value} {n : Nat} (h : OwnW w v n) : OwnW w.drew v n := by
  obtain ⟨A, c, h1, h2⟩ := h
  exact ⟨A, c, h1, own_drew h2⟩
theorem own_at_blk {w : World} {g n : Nat} {t : TypeId} {cs : Array Value} (h : Blk w g t cs) (hn : cs.size = n) (hm : n ≤ maxLen) : w.ownsRow 0 t 1 (.slice (some ⟨g, 0, none⟩) n n) n cs.toList := by
  refine ⟨by simp [hn], .inr ⟨g, n, cs, rfl, Nat.zero_le _, h, Nat.le_refl _, hm, by omega, ?_⟩⟩
  rw [Nat.mul_one, ← hn, ← Array.length_toList, List.take_length]
theorem trim_blk (g n v : Nat) (cs : Array Value) (l : List Nat) (W : World) (hb : Blk W g 82 cs) (hl : cs.toList = l.map u4) (hn : l.length = n) (hm : n ≤ 140737488355328) (hw : trimW l = wordsN v) :
    Calls Try.prog 120 #[.slice (some ⟨g, 0, none⟩) n n] W fun e w' => ∃ z, e = .returned z ∧ OwnW w' z v ∧ W = w' := by
  have hs : cs.size = n := by rw [← Array.length_toList, hl, List.length_map, hn]
  have hown := own_at_blk hb hs (by unfold maxLen; omega)
  rw [hl] at hown
  refine (trim_any (some ⟨g, 0, none⟩) n _ n l W (own_rd hown) hn hm (Nat.le_refl _)).mono ?_
  rintro e w1 ⟨rfl, rfl⟩
  have h := own_take hown (k := trimN l) (by rw [← hn]; exact trimN_le _)
  have hl2 : trimN l = (wordsN v).length := by
    rw [← hw, trimW, List.length_take]
    exact (Nat.min_eq_left (trimN_le _)).symm
  have hx : (l.map u4).take (trimN l * 1) = (wordsN v).map u4 := by
    rw [← hw, trimW, List.map_take, Nat.mul_one]
  rw [hx, hl2] at h
  exact ⟨_, rfl, ⟨_, _, by rw [hl2], h⟩, rfl⟩
theorem wordsN_one {v : Nat} (h0 : v ≠ 0) (hv : v < 4294967296) : wordsN v = [v] := by rw [wordsN, if_neg h0, if_pos hv]
theorem wordsN_two {v : Nat} (hv : ¬ v < 4294967296) : wordsN v = [v % 4294967296, v / 4294967296] := by rw [wordsN, if_neg (by omega), if_neg hv]
theorem trimW_one (v : Nat) (hv : v < 4294967296) : trimW [v] = wordsN v := by
  by_cases h : v = 0
  · subst h; rfl
  · rw [wordsN_one h hv]
    unfold trimW
    rw [trimN_is (l := [v]) (n := 1) (by simp) (fun j h1 h2 => by simp at h2; omega) (fun _ => by simpa using h)]
    rfl
set_option maxRecDepth 100000 in
set_option maxHeartbeats 2000000 in
theorem small_one (A : Addr) (c v : Nat) (w : World) (ha : w.cell? A = some (.int .u32 v)) (hA : A.block < w.heap.size) (hv : v < 4294967296) :
    Calls Try.prog 108 #[.slice (some A) 1 c, .int .u32 10] w fun e w' => ∃ z, e = .returned (.tuple #[z, .int .u32 (v % 10 : Nat)]) ∧ OwnW w' z (v / 10) ∧ Below w.heap.size w w' := by
  have hmk : ∀ w : World, (Instr.makeSlice 131 (.int .i64 1) (.int .i64 1)).run Try.prog w = .ok (.slice (some ⟨w.heap.size, 0, none⟩) 1 1) (w.alloc (.cells #[.int .u32 0] 82)) := fun _ => by kernel_rfl
  go_enter Try.func108, Try.ntmps108
  go_wp2_with fail
  refine wp_loop_rounds 2 ?_
  rw [rounds_succ]
  go_wp2_with fail
  rw [rounds_succ]
  go_wp2_with fail
  have HB1 : bits BinOp.or IntKind.u64 0 (v : Int) = (v : Int) := by
    have := u64_or_nat 0 v (by omega) (by omega)
    simpa using this
  have HQ : IntKind.u64.wrap ((v : Int).tdiv 10) % 4294967296 = ((v / 10 : Nat) : Int) := by
    have e : (v : Int).tdiv 10 = ((v / 10 : Nat) : Int) := by
      rw [Int.tdiv_eq_ediv_of_nonneg (by omega)]; omega
    rw [e, IntKind.wrap_u64]; omega
  have HR : (v : Int).tmod 10 = ((v % 10 : Nat) : Int) := by
    rw [Int.tmod_eq_emod_of_nonneg (by omega)]; omega
  rw [HB1, HQ, HR]
  have htr := trim_blk w.heap.size 1 (v / 10) #[.int .u32 (v / 10 : Nat)] [v / 10] (w.alloc (.cells #[.int .u32 (v / 10 : Nat)] 82)) (Blk.new _ _ _) rfl rfl (by omega) (trimW_one _ (by omega))
  have hb := (Below.refl w.heap.size w).alloc (Nat.le_refl _) (.cells #[.int .u32 (v / 10 : Nat)] 82)
  have HV : Hid (IntKind.u32.wrap ((v % 10 : Nat) : Int) = ((v % 10 : Nat) : Int)) := Lib.hid (by rw [IntKind.wrap_u32]; omega)
  refine htr.mono ?_
  rintro e w1 ⟨z, rfl, hz, rfl⟩
  go_wp2_with fail
  go_ret2
  exact ⟨z, by rfl, hz, hb⟩
set_option maxRecDepth 100000 in
set_option maxHeartbeats 2000000 in
theorem small_two (A : Addr) (c x y : Nat) (w : World) (ha : w.cell? A = some (.int .u32 x)) (ha1 : w.cell? ⟨A.block, A.off + 1, none⟩ = some (.int .u32 y)) (hA : A.block < w.heap.size) (hx : x < 4294967296) (hy : y < 4294967296) :
    Calls Try.prog 108 #[.slice (some A) 2 c, .int .u32 10] w fun e w' => ∃ z, e = .returned (.tuple #[z, .int .u32 ((x + y * 4294967296) % 10 : Nat)]) ∧ OwnW w' z ((x + y * 4294967296) / 10) ∧ Below w.heap.size w w' := by
  have hmk : ∀ w : World, (Instr.makeSlice 131 (.int .i64 2) (.int .i64 2)).run Try.prog w = .ok (.slice (some ⟨w.heap.size, 0, none⟩) 2 2) (w.alloc (.cells #[.int .u32 0, .int .u32 0] 82)) := fun _ => by kernel_rfl
  go_enter Try.func108, Try.ntmps108
  go_wp2_with fail
  refine wp_loop_rounds 3 ?_
  rw [rounds_succ]
  go_wp2_with fail
  rw [rounds_succ]
  go_wp2_with fail
  rw [rounds_succ]
  go_wp2_with fail
  have B1 : bits BinOp.or IntKind.u64 0 (y : Int) = (y : Int) := by
    have := u64_or_nat 0 y (by omega) (by omega)
    simpa using this
  have R1 : (y : Int).tmod 10 = ((y % 10 : Nat) : Int) := by
    rw [Int.tmod_eq_emod_of_nonneg (by omega)]; omega
  have W1 : IntKind.u64.wrap (((y % 10 : Nat) : Int) * 4294967296) = ((y % 10 : Nat) : Int) * 4294967296 := by
    rw [IntKind.wrap_u64]; omega
  have B2 : bits BinOp.or IntKind.u64 (((y % 10 : Nat) : Int) * 4294967296) (x : Int) = ((x + y % 10 * 4294967296 : Nat) : Int) := by
    have e : ((y % 10 : Nat) : Int) * 4294967296 = ((y % 10 * 4294967296 : Nat) : Int) := by omega
    rw [e, u64_or_nat (y % 10 * 4294967296) x (by omega) (by omega)]
    congr 1
    have h := Nat.two_pow_add_eq_or_of_lt (i := 32) (b := x) (by omega) (y % 10)
    have e2 : y % 10 * 4294967296 = 2 ^ 32 * (y % 10) := by omega
    rw [e2, ← h]
    omega
  obtain ⟨V, hV⟩ : ∃ V, V = (x + y * 4294967296) / 10 := ⟨_, rfl⟩
  have Q0 : IntKind.u64.wrap (((x + y % 10 * 4294967296 : Nat) : Int).tdiv 10) % 4294967296 = ((V % 4294967296 : Nat) : Int) := by
    rw [Int.tdiv_eq_ediv_of_nonneg (by omega), IntKind.wrap_u64]; omega
  have Q1 : IntKind.u64.wrap ((y : Int).tdiv 10) % 4294967296 = ((V / 4294967296 : Nat) : Int) := by
    have hq : V / 4294967296 = y / 10 := by
      rw [hV, Nat.div_div_eq_div_mul, show 10 * 4294967296 = 4294967296 * 10 from rfl, ← Nat.div_div_eq_div_mul]
      congr 1
      omega
    rw [Int.tdiv_eq_ediv_of_nonneg (by omega), IntKind.wrap_u64, hq]
    clear Q0 B2 hV hq
    omega
  have RR : ((x + y % 10 * 4294967296 : Nat) : Int).tmod 10 = (((x + y * 4294967296) % 10 : Nat) : Int) := by
    rw [Int.tmod_eq_emod_of_nonneg (by omega)]; omega
  rw [B1, R1, W1, B2, Q0, Q1, RR]
  have HV := Lib.hid hV
  clear hV Q0 Q1 B1 R1 W1 B2 RR
  have htr := trim_blk w.heap.size 2 V #[.int .u32 (V % 4294967296 : Nat), .int .u32 (V / 4294967296 : Nat)] [V % 4294967296, V / 4294967296] (w.alloc (.cells #[.int .u32 (V % 4294967296 : Nat), .int .u32 (V / 4294967296 : Nat)] 82)) (Blk.new _ _ _) rfl rfl (by omega) (trimW_two V)
  have hb := (Below.refl w.heap.size w).alloc (Nat.le_refl _) (.cells #[.int .u32 (V % 4294967296 : Nat), .int .u32 (V / 4294967296 : Nat)] 82)
  refine htr.mono ?_
  rintro e w1 ⟨z, rfl, hz, rfl⟩
  go_wp2_with fail
  go_ret2
  exact ⟨z, by rfl, by rw [← HV.out]; exact hz, hb⟩
/-- A word that is not nought, or two. -/
theorem small_own (x : Value) (v : Nat) (w : World) (h : OwnW w x v) (h0 : v ≠ 0) (hv : v < 18446744073709551616) :
    Calls Try.prog 108 #[x, .int .u32 10] w fun e w' => ∃ z, e = .returned (.tuple #[z, .int .u32 (v % 10 : Nat)]) ∧ OwnW w' z (v / 10) ∧ Below w.heap.size w w' := by
  obtain ⟨A, c, rfl, ho⟩ := h
  have hr := own_rd ho
  by_cases h1 : v < 4294967296
  · rw [wordsN_one h0 h1] at hr ⊢
    obtain ⟨ad, rfl, hb, hc⟩ := hr.word (k := 0) (by simp)
    simp only [List.getD_cons_zero, Addr.add, if_true] at hc
    exact small_one ad c v w hc hb h1
  · rw [wordsN_two h1] at hr ⊢
    obtain ⟨ad, rfl, hb, hc⟩ := hr.word (k := 0) (by simp)
    obtain ⟨ad', e1, _, hc1⟩ := hr.word (k := 1) (by simp)
    injection e1 with e1
    subst e1
    simp only [List.getD_cons_zero, Addr.add, if_true] at hc
    have hc1' : w.cell? ⟨ad.block, ad.off + 1, none⟩ = some (.int .u32 (v / 4294967296 : Nat)) := by
      simpa [Addr.add] using hc1
    have := small_two ad c (v % 4294967296) (v / 4294967296) w hc hc1' hb (by omega) (by omega)
    have e : v % 4294967296 + v / 4294967296 * 4294967296 = v := by omega
    rw [e] at this
    exact this
theorem own_set1 {w : World} {base n c g i : Nat} {e : TypeId} {xs : List Value} (h : w.ownsRow base e 1 (.slice (some ⟨g, 0, none⟩) n c) n xs) (hi : i < n) (u : Value) : (w.setCell ⟨g, i, none⟩ u).ownsRow base e 1 (.slice (some ⟨g, 0, none⟩) n c) n (xs.set i u) := by
  obtain ⟨h1, hb, hn, hc⟩ := shape_own h
  have hl := h.1
  obtain ⟨A', c', e', _, _, _, hr⟩ := own_form h
  injection e' with e1 _ e2
  subst e1 e2
  obtain ⟨adr, he, hab, hcl0⟩ := hr.2 (by omega)
  injection he with he
  subst he
  have hadd : ∀ j, (Addr.add ⟨g, 0, none⟩ j : Addr) = ⟨g, j, none⟩ := fun j => by
    unfold Addr.add
    split
    · rename_i h0; rw [h0]
    · simp
  have hcl : ∀ j v, xs[j]? = some v → w.cell? ⟨g, j, none⟩ = some v := fun j v hj => by
    have := hcl0 j v hj
    rwa [hadd] at this
  refine own_shape (h1.set_ _ _ _) hb hn hc (by rw [List.length_set]; exact hl) fun j v hj => ?_
  rw [List.getElem?_set] at hj
  by_cases hij : i = j
  · subst hij
    rw [if_pos rfl, if_pos (by rw [hl]; omega)] at hj
    injection hj with hj
    subst hj
    exact World.cell?_setCells_in g [u] i w (fun k hk => h1.some_ (by simp at hk; omega)) 0 (by simp)
  · rw [if_neg hij] at hj
    rw [show w.setCell ⟨g, i, none⟩ u = w.setCells g i [u] from rfl, World.cell?_setCells_out g [u] i w ⟨g, j, none⟩ (fun _ _ => by show j < i ∨ i + 1 ≤ j; omega)]
    exact hcl j v hj
theorem OwnW.apart {w w' : World} {z v : Value} {n b m : Nat} {xs : List Value} (h : OwnW w z n) (ho : w.ownsRow b 5 1 v m xs) (hg : w.grownBy w' v.ownBlock) : OwnW w' z n := by
  obtain ⟨A, c, rfl, h1⟩ := h
  refine ⟨A, c, rfl, own_far h1 hg fun g hg1 hg2 => ?_⟩
  rcases h1.2 with ⟨e1, _⟩ | ⟨g1, c1, u1, e1, _, k1, _⟩
  · rw [e1] at hg1; cases hg1
  · rcases ho.2 with ⟨e2, _⟩ | ⟨g2, c2, u2, e2, _, k2, _⟩
    · rw [e2] at hg2; cases hg2
    · rw [e1] at hg1
      rw [e2] at hg2
      simp [Value.ownBlock] at hg1 hg2
      subst hg1
      subst hg2
      rw [k1] at k2
      injection k2 with k2
      injection k2 with _ k2
      exact absurd k2 (by decide)
theorem digit_byte {r : Nat} (h : r < 10) : Value.int .u8 (48 + (r : Int)) = bv (UInt8.ofNat (48 + r)) := by
  unfold bv
  congr 1
  rw [UInt8.toNat_ofNat']
  omega
/-- A byte of a row of the call's own. -/
theorem own_byte {w : World} {base n c k : Nat} {A : Option Addr} {L : List UInt8} (h : w.ownsRow base 5 1 (.slice A n c) n (L.map bv)) (hk : k < n) : ∃ g x, A = some ⟨g, 0, none⟩ ∧ base ≤ g ∧ w.cell? ⟨g, k, none⟩ = some (bv x) ∧ w.frozen? ⟨g, k, none⟩ = false ∧ (∀ y, (L.map bv).set k (bv y) = (L.set k y).map bv) := by
  rcases h.2 with ⟨e0, e1⟩ | ⟨g, cap, cur, e0, _⟩
  · omega
  · injection e0 with e1 _ e2
    subst e1 e2
    obtain ⟨h1, hb, hn, hc⟩ := shape_own h
    obtain ⟨A', c', e', _, _, _, hr⟩ := own_form h
    injection e' with e1 _ e2
    subst e1 e2
    obtain ⟨adr, he, hab, hcl0⟩ := hr.2 (by omega)
    injection he with he
    subst he
    have hl : k < L.length := by have := h.1; simp at this; omega
    have := hcl0 k (bv L[k]) (by rw [List.getElem?_map, List.getElem?_eq_getElem hl]; rfl)
    have hadd : (Addr.add ⟨g, 0, none⟩ k : Addr) = ⟨g, k, none⟩ := by
      unfold Addr.add
      split
      · rename_i h0; rw [h0]
      · simp
    rw [hadd] at this
    exact ⟨g, L[k], rfl, hb, this, h1.frozen k, fun y => by rw [List.map_set]⟩
set_option maxRecDepth 100000 in
set_option maxHeartbeats 4000000 in
theorem btext_any (g v : Nat) (neg : Bool) (w : World) (h : BigW w g neg (wordsN v)) (hv : v < 18446744073709551616) :
    Calls Try.prog 81 #[.pointer (some ⟨g, 0, none⟩), .int .i64 10] w fun e w' => ∃ d, e = .returned (.string d) ∧ Below w.heap.size w w' := by
  obtain ⟨A, c, hb, ho⟩ := h.ex
  have c0 := hb.cell 0
  have c1 := hb.cell 1
  simp at c0 c1
  have hlb := hb.lt
  by_cases h0 : v = 0
  · subst h0
    have hw0 : (wordsN 0).length = 0 := rfl
    rw [hw0] at c1
    clear h hb ho
    go_enter Try.func81, Try.ntmps81
    go_wp2_with fail
    go_ret
    exact ⟨_, rfl, Below.refl _ _⟩
  · have hwp := wordsN_pos (v := v) (by omega)
    have htw := twin_any A c (wordsN v).length (wordsN v) w ho (by have := wordsN_len v; omega)
    have hwl : (((wordsN v).length : Int) == 0) = false := by rw [beq_eq_false_iff_ne]; omega
    have HWL : Hid ((wordsN v).length = (wordsN v).length) := Lib.hid rfl
    generalize hwn : (wordsN v).length = wl at *
    have HWN := Lib.hid hwn
    clear h hb ho hwn
    go_enter Try.func81, Try.ntmps81
    go_upto_region 7 with (go_at_call 107; go_must (refine htw.mono ?_); rintro e w1 ⟨A1, cc1, rfl, own1, hb1⟩)
    have hz0 : OwnW w1 (.slice A1 wl cc1) v := ⟨A1, cc1, by rw [HWN.out], by rw [HWN.out]; exact own_base own1 (Nat.zero_le _)⟩
    have hv1 := Below.cell (p := ⟨g, 0, none⟩) hb1 hlb
    clear own1 htw
    generalize Value.slice A1 wl cc1 = z0 at *
    go_wp2_with fail
    go_loopg [5, 6] v (fun gg b z wr => ∃ (v' : Nat) (L : List UInt8), v' ≤ gg ∧ OwnW wr z v' ∧ v' ≤ v ∧ wr.ownsRow w.heap.size 5 1 b L.length (L.map bv) ∧ L.length ≤ 64 ∧ Hid (0 < v' → v' * 2 ^ L.length ≤ v) ∧ Below w.heap.size w wr)
    case atStart => exact ⟨v, [], Nat.le_refl _, hz0, Nat.le_refl _, World.ownsRow_nil _ _ _ _, by simp, Lib.hid (fun _ => by simp), hb1⟩
    case round =>
      obtain ⟨v', L, hgg, hz, hvv, hrow, hL, HB, hbel⟩ := hrel
      have hws := hbel.size
      by_cases hv0 : v' = 0
      · subst hv0
        obtain ⟨A2, c2, rfl, _⟩ := hz
        have e0 := (hbel.cell (p := ⟨g, 0, none⟩) hlb).trans c0
        rw [show (wordsN 0).length = 0 from rfl]
        have hby : (L.length + 1) * 1 ≤ 140737488355328 := by omega
        cases neg with
        | false =>
          go_upto_region 15 with fail
          obtain ⟨Ab, cb, hbe, _, _, _, _⟩ := own_form hrow
          obtain ⟨nb, hnb⟩ : ∃ nb, nb = L.length := ⟨_, rfl⟩
          have hrowB := hrow
          rw [← hnb] at hrowB hbe
          subst hbe
          have HNB := Lib.hid hnb
          have hnb64 : nb ≤ 70 := by rw [hnb]; first | omega | (simp; omega)
          clear hnb
          go_wp2_with fail
          go_loopw [8, 9] (fun i j wr => ∃ (k : Nat) (L : List UInt8), k ≤ nb ∧ i = .int .i64 k ∧ j = .int .i64 ((nb : Int) - 1 - k) ∧ wr.ownsRow w.heap.size 5 1 (.slice Ab nb cb) nb (L.map bv) ∧ Below w.heap.size w wr) (fun _ j _ => (intOf j).toNat)
          case atStart => exact ⟨0, _, Nat.zero_le _, rfl, by simp, hrowB, hbel⟩
          clear hrowB
          obtain ⟨k, L2, hk, rfl, rfl, hrowB, hbelB⟩ := hrel
          have hwsB := hbelB.size
          by_cases hlk : (k : Int) < (nb : Int) - 1 - k
          · obtain ⟨mm, hmm⟩ : ∃ mm : Nat, mm = nb - 1 - k := ⟨_, rfl⟩
            have hmi : (nb : Int) - 1 - k = (mm : Int) := by omega
            rw [hmi] at hlk ⊢
            have HMI := Lib.hid hmi
            obtain ⟨gb, bx, rfl, hgb, k0, f0, s0⟩ := own_byte hrowB (k := k) (by omega)
            obtain ⟨gb2, by_, e2, _, k1, f1, s1⟩ := own_byte hrowB (k := mm) (by omega)
            injection e2 with e2
            injection e2 with e2
            subst e2
            have hd := own_set1 (own_set1 hrowB (i := k) (by omega) (bv by_)) (i := mm) (by omega) (bv bx)
            rw [s0] at hd
            have hd2 : ∃ L3 : List UInt8, ((wr.setCell ⟨gb, k, none⟩ (bv by_)).setCell ⟨gb, mm, none⟩ (bv bx)).ownsRow w.heap.size 5 1 (.slice (some ⟨gb, 0, none⟩) nb cb) nb (L3.map bv) := ⟨(L2.set k by_).set mm bx, by rw [List.map_set]; exact hd⟩
            have HD2 := Lib.hid hd2
            have hkm : ¬ (k = mm) := by omega
            have hmk : ¬ (mm = k) := by omega
            have hk0 : (0 : Int) ≤ (k : Int) := by omega
            have hk1 : (k : Int) < (nb : Int) := by omega
            have hm0 : (0 : Int) ≤ (mm : Int) := by omega
            have hm1 : (mm : Int) < (nb : Int) := by omega
            have HMM := Lib.hid hmm
            unfold bv at k0 k1
            clear hd hd2 s0 s1 hmm
            go_wp2_with fail
            obtain ⟨L3, hd3⟩ := HD2.out
            go_roundw
            case rel => exact ⟨k + 1, L3, by omega, by go_num, by have := HMM.out; have := HMI.out; congr 1; omega, hd3, (hbelB.setCell hgb _).setCell hgb _⟩
            case measure => simp [intOf]; omega
          · have q1 := run_string_rd (P := Try.prog) (c := cb) Try.underlying22 Try.underlying5 Try.underlying9 (own_rd hrowB)
            go_wp2_with fail
            go_ret
            exact ⟨⟨_, rfl⟩, hbelB⟩
        | true =>
          go_upto_region 15 with (first
            | (with_reducible show wpList _ _ _ (⟨some 55, _, _, _, _, _⟩ :: _) _ _; go_must (refine wpList_newg (.tmp 53) (.tmp 54) el_u8 rfl rfl hrow rfl rfl rfl rfl rfl hby hws ?_); intro v4 w4 hown4 hb4 hg4 ha4))
          have hrow4 : w4.ownsRow w.heap.size 5 1 v4 (L ++ [(45 : UInt8)]).length ((L ++ [(45 : UInt8)]).map bv) := by
            rw [List.length_append, List.map_append]
            exact hown4
          have hbel4 := hbel.trans hb4
          obtain ⟨Ab, cb, hbe, _, _, _, _⟩ := own_form hrow4
          obtain ⟨nb, hnb⟩ : ∃ nb, nb = (L++[(45:UInt8)]).length := ⟨_, rfl⟩
          have hrowB := hrow4
          rw [← hnb] at hrowB hbe
          subst hbe
          have HNB := Lib.hid hnb
          have hnb64 : nb ≤ 70 := by rw [hnb]; first | omega | (simp; omega)
          clear hnb
          go_wp2_with fail
          go_loopw [8, 9] (fun i j wr => ∃ (k : Nat) (L : List UInt8), k ≤ nb ∧ i = .int .i64 k ∧ j = .int .i64 ((nb : Int) - 1 - k) ∧ wr.ownsRow w.heap.size 5 1 (.slice Ab nb cb) nb (L.map bv) ∧ Below w.heap.size w wr) (fun _ j _ => (intOf j).toNat)
          case atStart => exact ⟨0, _, Nat.zero_le _, rfl, by simp, hrowB, hbel4⟩
          clear hrowB
          obtain ⟨k, L2, hk, rfl, rfl, hrowB, hbelB⟩ := hrel
          have hwsB := hbelB.size
          by_cases hlk : (k : Int) < (nb : Int) - 1 - k
          · obtain ⟨mm, hmm⟩ : ∃ mm : Nat, mm = nb - 1 - k := ⟨_, rfl⟩
            have hmi : (nb : Int) - 1 - k = (mm : Int) := by omega
            rw [hmi] at hlk ⊢
            have HMI := Lib.hid hmi
            obtain ⟨gb, bx, rfl, hgb, k0, f0, s0⟩ := own_byte hrowB (k := k) (by omega)
            obtain ⟨gb2, by_, e2, _, k1, f1, s1⟩ := own_byte hrowB (k := mm) (by omega)
            injection e2 with e2
            injection e2 with e2
            subst e2
            have hd := own_set1 (own_set1 hrowB (i := k) (by omega) (bv by_)) (i := mm) (by omega) (bv bx)
            rw [s0] at hd
            have hd2 : ∃ L3 : List UInt8, ((wr.setCell ⟨gb, k, none⟩ (bv by_)).setCell ⟨gb, mm, none⟩ (bv bx)).ownsRow w.heap.size 5 1 (.slice (some ⟨gb, 0, none⟩) nb cb) nb (L3.map bv) := ⟨(L2.set k by_).set mm bx, by rw [List.map_set]; exact hd⟩
            have HD2 := Lib.hid hd2
            have hkm : ¬ (k = mm) := by omega
            have hmk : ¬ (mm = k) := by omega
            have hk0 : (0 : Int) ≤ (k : Int) := by omega
            have hk1 : (k : Int) < (nb : Int) := by omega
            have hm0 : (0 : Int) ≤ (mm : Int) := by omega
            have hm1 : (mm : Int) < (nb : Int) := by omega
            have HMM := Lib.hid hmm
            unfold bv at k0 k1
            clear hd hd2 s0 s1 hmm
            go_wp2_with fail
            obtain ⟨L3, hd3⟩ := HD2.out
            go_roundw
            case rel => exact ⟨k + 1, L3, by omega, by go_num, by have := HMM.out; have := HMI.out; congr 1; omega, hd3, (hbelB.setCell hgb _).setCell hgb _⟩
            case measure => simp [intOf]; omega
          · have q1 := run_string_rd (P := Try.prog) (c := cb) Try.underlying22 Try.underlying5 Try.underlying9 (own_rd hrowB)
            go_wp2_with fail
            go_ret
            exact ⟨⟨_, rfl⟩, hbelB⟩
      · have hs := small_own _ v' wr hz hv0 (by omega)
        obtain ⟨A2, c2, rfl, _⟩ := hz
        have hwp2 := wordsN_pos (v := v') (by omega)
        have hLL : L.length < 64 := by
          have h1 := HB.out (by omega)
          have h2 : 1 * 2 ^ L.length ≤ v' * 2 ^ L.length := Nat.mul_le_mul_right _ (by omega)
          have h3 : 2 ^ L.length < 2 ^ 64 := by
            rw [show (2 : Nat) ^ 64 = 18446744073709551616 from by decide]; omega
          exact (Nat.pow_lt_pow_iff_right (by decide)).1 h3
        obtain ⟨r, hr⟩ : ∃ r, r = v' % 10 := ⟨_, rfl⟩
        have hr10 : r < 10 := by omega
        obtain ⟨q, hq⟩ : ∃ q, q = v' / 10 := ⟨_, rfl⟩
        have hqv : q < v' := by omega
        have HQ : Hid (0 < q → q * 2 ^ (L.length + 1) ≤ v) := Lib.hid (fun h => by
          have h1 := HB.out (by omega)
          have h2 : q * 2 ≤ v' := by omega
          have h3 : q * 2 * 2 ^ L.length ≤ v' * 2 ^ L.length := Nat.mul_le_mul_right _ h2
          rw [Nat.pow_succ, ← Nat.mul_assoc, Nat.mul_right_comm]
          exact Nat.le_trans h3 h1)
        rw [← hr, ← hq] at hs
        generalize (wordsN v').length = wl2 at *
        have hr10i : (r : Int) < 10 := by omega
        have hw2i : (0 : Int) < (wl2 : Int) := by omega
        clear hr hq
        have hby : (L.length + 1) * 1 ≤ 140737488355328 := by omega
        go_upto_region 10 with (go_at_call 108; go_must (refine hs.mono ?_); rintro e w3 ⟨z3, rfl, hz3, hb3⟩)
        have hrow3 := own_up hrow hb3
        have hs3 : w.heap.size ≤ w3.heap.size := Nat.le_trans hws hb3.size
        clear hs hrow
        go_wp2_with (first
          | (with_reducible show wpList _ _ _ (⟨some 41, _, _, _, _, _⟩ :: _) _ _; go_must (refine wpList_newg (.tmp 36) (.tmp 40) el_u8 rfl rfl hrow3 rfl rfl rfl rfl rfl hby hs3 ?_); intro v4 w4 hown4 hb4 hg4 ha4))
        have HD := Lib.hid (digit_byte hr10)
        go_roundg q
        case measure => omega
        case rel =>
          refine ⟨q, L ++ [UInt8.ofNat (48 + r)], Nat.le_refl _, hz3.apart hrow3 hg4, by omega, ?_, by simp; omega, Lib.hid (by rw [List.length_append]; exact HQ.out), (hbel.trans (hb3.mono hws)).trans hb4⟩
          rw [List.length_append, List.map_append]
          have := hown4
          rw [HD.out] at this
          exact this
set_option maxRecDepth 100000 in
set_option maxHeartbeats 1000000 in
theorem bstr_any (g v : Nat) (neg : Bool) (w : World) (h : BigW w g neg (wordsN v)) (hv : v < 18446744073709551616) :
    Calls Try.prog 61 #[.pointer (some ⟨g, 0, none⟩)] w fun e w' => ∃ d, e = .returned (.string d) ∧ Below w.heap.size w w' := by
  have ht := btext_any g v neg w h hv
  go_enter Try.func61, Try.ntmps61
  go_wp2_with (go_at_call 81; go_must (refine ht.mono ?_); rintro e w1 ⟨d, rfl, hb1⟩)
  go_ret
  exact ⟨d, rfl, hb1⟩
set_option maxRecDepth 100000 in
set_option maxHeartbeats 1000000 in
theorem digits_any (x : Int) (w : World) (h1 : -9223372036854775808 ≤ x) (h2 : x ≤ 9223372036854775807) :
    Calls Try.prog 35 #[.int .i64 x] w fun e w' => ∃ d, e = .returned (.string d) ∧ Below w.heap.size w w' := by
  have hn := newint_any x w h1 h2
  have HS := Lib.hid (fun W (h : BigW W w.heap.size (decide (x < 0)) (wordsN x.natAbs)) => bstr_any w.heap.size x.natAbs (decide (x < 0)) W h (by omega))
  go_enter Try.func35, Try.ntmps35
  go_wp2_with (first
    | (go_at_call 60; go_must (refine hn.mono ?_); rintro e w1 ⟨rfl, hw1, hb1⟩)
    | (go_at_call 61; go_must (refine (HS.out w1 hw1).mono ?_); rintro e w2 ⟨d, rfl, hb2⟩))
  go_ret
  exact ⟨d, rfl, below_up hb1 hb2⟩

end Go.Proofs.Ytcfijljagohmlaa
