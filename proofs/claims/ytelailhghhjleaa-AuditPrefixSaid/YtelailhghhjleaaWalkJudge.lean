/- The walk of audit.Judge. -/
import Derived.Test.YtelailhghhjleaaWalkFind
import Derived.Test.YtelailhghhjleaaWalkLine
import Derived.Test.YtelailhghhjleaaWalkKeys
import Derived.Test.YtelailhghhjleaaWalkLConcat
namespace Go.Proofs.Ytelailhghhjleaa
open Go.RowKit

theorem results_tmp4 {fn : Func} {t u v x : Tmp} (h : fn.results = #[.tmp t, .tmp u, .tmp v, .tmp x]) (tmps : Array Value) (P : Program) (w : World) :
    (results fn tmps).run P w = .ok (.tuple #[tmps.getD t undef, tmps.getD u undef, tmps.getD v undef, tmps.getD x undef]) w := by
  simp [results, h]
theorem find_none {A : Option Addr} {c B : Nat} {l : List Pl} {t : ByteArray} {w : World} (hr : RdPs w B A l.length l) (hB : B ≤ w.heap.size) (hs : LnsOk (lnsOf l)) (h : numsOf (lnsOf l) t = none) :
    Calls Try.prog 45 #[.slice A l.length c, .string t] w fun e w' => e = .returned (.slice none 0 0) ∧ Below w.heap.size w w' := by
  refine (find_any A c B l t w hr hB hs).mono ?_
  rintro e w' ⟨v, rfl, A', c', g, rfl, _, _, _, _, ho, hb⟩
  rcases ho with ⟨_, rfl, rfl, rfl⟩ | ⟨ho, _⟩
  · exact ⟨rfl, hb⟩
  · rw [h] at ho; cases ho
theorem find_some {A : Option Addr} {c B : Nat} {l : List Pl} {t : ByteArray} {w : World} (hr : RdPs w B A l.length l) (hB : B ≤ w.heap.size) (hs : LnsOk (lnsOf l)) {g : List Int} (h : numsOf (lnsOf l) t = some g) :
    Calls Try.prog 45 #[.slice A l.length c, .string t] w fun e w' => ∃ ad c', e = .returned (.slice (some ad) g.length c') ∧ g.length ≤ c' ∧ c' ≤ maxLen ∧ Rd w' B 1 (some ad) g.length (g.map iv) ∧ Below w.heap.size w w' := by
  refine (find_any A c B l t w hr hB hs).mono ?_
  rintro e w' ⟨v, rfl, A', c', g', rfl, h1, h2, h3, _, ho, hb⟩
  rcases ho with ⟨ho, _⟩ | ⟨ho, hp⟩
  · rw [h] at ho; cases ho
  · rw [h] at ho
    injection ho with ho
    subst ho
    obtain ⟨ad, rfl, _⟩ := h3.2 hp
    exact ⟨ad, c', rfl, h1, h2, h3, hb⟩
theorem find_got {A : Option Addr} {c B : Nat} {l : List Pl} {t : ByteArray} {w : World} (hr : RdPs w B A l.length l) (hB : B ≤ w.heap.size) (hs : LnsOk (lnsOf l)) {g : List Int} (h : (numsOf (lnsOf l) t).getD [] = g) :
    Calls Try.prog 45 #[.slice A l.length c, .string t] w fun e w' => ∃ A' c', e = .returned (.slice A' g.length c') ∧ g.length ≤ c' ∧ c' ≤ maxLen ∧ Rd w' B 1 A' g.length (g.map iv) ∧ Below w.heap.size w w' := by
  refine (find_any A c B l t w hr hB hs).mono ?_
  rintro e w' ⟨v, rfl, A', c', g', rfl, h1, h2, h3, _, ho, hb⟩
  have e : g' = g := by
    rcases ho with ⟨ho, _, rfl, _⟩ | ⟨ho, hp⟩
    · rw [ho] at h; exact h
    · rw [ho] at h; exact h
  subst e
  exact ⟨A', c', rfl, h1, h2, h3, hb⟩
theorem numsOf_wf {l : List Pl} {w : World} {B : Nat} {A : Option Addr} {n : Nat} (h : RdPs w B A n l) {t : ByteArray} : ∀ x ∈ (numsOf (lnsOf l) t).getD [], (Lit.int .i64 x).wf = true := by
  intro x hx
  rcases hn : numsOf (lnsOf l) t with _ | g
  · rw [hn] at hx; cases hx
  · rw [hn] at hx
    obtain ⟨y, hy, _, rfl⟩ := numsOf_some hn
    obtain ⟨p, hp, rfl⟩ := List.mem_map.1 hy
    exact (h.ok p hp).wf x hx
theorem strAt_drop {ks : List ByteArray} {k : Nat} (h : k < ks.length) : ks.drop k = strAt ks k :: ks.drop (k + 1) := by
  rw [List.drop_eq_getElem_cons h, strAt, List.getD_eq_getElem?_getD, List.getElem?_eq_getElem h]; rfl
def keyTo (ps : List Pl) (k : Nat) : List ByteArray := (ps.take k).map fun p => p.ln.key
theorem keyTo_succ {ps : List Pl} {k : Nat} {p : Pl} (h : ps[k]? = some p) : (keyTo ps (k + 1)).map sv = (keyTo ps k).map sv ++ [.string p.ln.key] := by
  rw [keyTo, take_at h]; simp [keyTo, sv]
theorem keyTo_all {ps : List Pl} {k : Nat} (h : ps.length ≤ k) : keyTo ps k = (lnsOf ps).map Ln.key := by
  rw [keyTo, List.take_of_length_le h, lnsOf, List.map_map]; rfl

set_option maxRecDepth 100000 in
set_option maxHeartbeats 4000000 in
theorem judge_bad (A1 A2 : Option Addr) (c1 c2 B : Nat) (p1 p2 : List Pl) (w : World) (hr1 : RdPs w B A1 p1.length p1) (hr2 : RdPs w B A2 p2.length p2) (hB : B ≤ w.heap.size) (hl1 : p1.length ≤ 140737488355328) (hl2 : p2.length ≤ 140737488355328)
    (hb : bothE (lnsOf p1) (lnsOf p2) ≠ 0) :
    Calls Try.prog 17 #[.slice A1 p1.length c1, .slice A2 p2.length c2] w fun e w' => e = .returned (.tuple #[.int .i64 0, .string ⟨#[]⟩, .int .i64 0, errV (bothE (lnsOf p1) (lnsOf p2))]) ∧ Below w.heap.size w w' := by
  have HE : Hid (errV (bothE (lnsOf p1) (lnsOf p2)) = .iface 63 (.int .i64 (bothE (lnsOf p1) (lnsOf p2) : Nat))) := Lib.hid (by rw [errV, if_neg hb])
  have hbo := both_any A1 A2 c1 c2 B _ _ p1 p2 w hr1 hr2 hB hl1 hl2
  clear hb
  generalize p1.length = n1 at *
  generalize p2.length = n2 at *
  go_enter Try.func17, Try.ntmps17
  go_wp2_with (first
    | (go_at_call 40; go_must (refine hbo.mono ?_); rintro e w1 ⟨rfl, hb1⟩; rw [HE.out]))
  (try simp only [Exit.inBlock, Exit.then])
  refine bodyPost_ret (results_tmp4 rfl _ _ _) rfl ?_
  exact ⟨by rw [HE.out]; rfl, hb1⟩

set_option maxRecDepth 100000 in
set_option maxHeartbeats 4000000 in
theorem judge_good (A1 A2 : Option Addr) (c1 c2 B : Nat) (p1 p2 : List Pl) (w : World) (hr1 : RdPs w B A1 p1.length p1) (hr2 : RdPs w B A2 p2.length p2) (hB : B ≤ w.heap.size) (hc1 : p1.length ≤ c1) (hc2 : p2.length ≤ c2) (hm1 : c1 ≤ maxLen) (hm2 : c2 ≤ maxLen)
    (h1 : linesE (lnsOf p1) = 0) (h2 : linesE (lnsOf p2) = 0) :
    Calls Try.prog 17 #[.slice A1 p1.length c1, .slice A2 p2.length c2] w fun e w' => e = .returned (.tuple #[.int .i64 ((judge (lnsOf p1) (lnsOf p2)).1 : Nat), .string (judge (lnsOf p1) (lnsOf p2)).2.1, .int .i64 ((judge (lnsOf p1) (lnsOf p2)).2.2 : Nat), .nilIface]) ∧ Below w.heap.size w w' := by
  have hk1 := linesE_ok h1
  have hk2 := linesE_ok h2
  have hn1 : p1.length ≤ 400 := by have := hk1.len; rwa [lnsOf_len] at this
  have hn2 : p2.length ≤ 400 := by have := hk2.len; rwa [lnsOf_len] at this
  have hbo := both_any A1 A2 c1 c2 B _ _ p1 p2 w hr1 hr2 hB (by omega) (by omega)
  have hbe : bothE (lnsOf p1) (lnsOf p2) = 0 := by rw [bothE, if_neg (by simp [h1]), h2]
  rw [hbe, errV_zero] at hbo
  clear hbe h1 h2
  have Hr1 := Lib.hid hr1
  have Hr2 := Lib.hid hr2
  have HK1 := Lib.hid hk1
  have HK2 := Lib.hid hk2
  clear hr1 hr2 hk1 hk2
  obtain ⟨n1, hn1e⟩ : ∃ n, n = p1.length := ⟨_, rfl⟩
  obtain ⟨n2, hn2e⟩ : ∃ n, n = p2.length := ⟨_, rfl⟩
  have HN1 := Lib.hid hn1e
  have HN2 := Lib.hid hn2e
  rw [← hn1e] at hn1 hbo hc1 ⊢
  rw [← hn2e] at hn2 hbo hc2 ⊢
  clear hn1e hn2e
  obtain ⟨N, hN⟩ : ∃ N, N = n1 + n2 := ⟨_, rfl⟩
  have hN8 : N ≤ 800 := by omega
  have HNN := Lib.hid hN
  clear hN
  go_enter Try.func17, Try.ntmps17
  go_wp2_with (first
    | (go_at_call 40; go_must (refine hbo.mono ?_); rintro e w1 ⟨rfl, hb1⟩)
    | (go_at_call 41; go_must (refine (lconcat_two (p1 := p1) (p2 := p2) (HN1.out ▸ Hr1.out.below hb1 hB) (HN2.out ▸ Hr2.out.below hb1 hB) (Nat.le_trans hB hb1.size) hc1 hc2 hm1 hm2 (by omega) HNN.out).mono ?_); rintro e w2 ⟨A3, c3, rfl, r3, hb2⟩))
  have hbel2 := hb1.trans (hb2.mono hb1.size)
  clear hb1 hb2 hbo
  have hps : (p1 ++ p2).length = n1 + n2 := by rw [List.length_append, ← HN1.out, ← HN2.out]
  rw [← HNN.out] at hps
  have HPS := Lib.hid hps
  clear hps
  go_loopw [9, 25] (fun v i wr => ∃ k : Nat, k ≤ N ∧ i = .int .i64 k ∧ wr.ownsRow w2.heap.size 9 1 v k ((keyTo (p1 ++ p2) k).map sv) ∧ Below w2.heap.size w2 wr) (fun _ i _ => N - (intOf i).toNat)
  case atStart => exact ⟨0, Nat.zero_le _, rfl, World.ownsRow_nil _ _ _ _, Below.refl _ _⟩
  obtain ⟨k, hk, rfl, hown, hbel⟩ := hrel
  have hws := hbel.size
  by_cases hlt : k < N
  · obtain ⟨ad, rfl, hab, hcc⟩ := r3.2 (by omega)
    obtain ⟨p, hp⟩ : ∃ p, (p1 ++ p2)[k]? = some p := ⟨_, List.getElem?_eq_getElem (by have := HPS.out; omega)⟩
    obtain ⟨e0, e1⟩ := plCells_at hp
    have g0 := (hbel.cell (by rw [block_add]; exact hab)).trans (hcc _ _ e0)
    have g1 := (hbel.cell (by rw [block_add]; exact hab)).trans (hcc _ _ e1)
    rw [add_more ad (k * 2) 0] at g1
    unfold Pl.val at g1
    have HST := Lib.hid (keyTo_succ hp)
    clear e0 e1 hp hcc
    have hk0 : (0 : Int) ≤ (k : Int) := by omega
    have hk1 : (k : Int) < (N : Int) := by omega
    go_wp2_with (first
      | (with_reducible show wpList _ _ _ (⟨some 33, _, _, _, _, _⟩ :: _) _ _; go_must (refine wpList_newg (.tmp 29) (.tmp 32) el_str rfl rfl (hown.alloc _) rfl rfl (by simp) rfl rfl (by omega) (by simp; omega) ?_); intro v4 w4 hown4 hb4 hg4 ha4))
    go_roundw
    case rel =>
      refine ⟨k + 1, by omega, by go_num, ?_, (hbel.alloc hws _).trans hb4⟩
      rw [HST.out]
      simpa using hown4
    case measure => simp [intOf]; omega
  · have e : k = N := by omega
    subst e
    rw [keyTo_all (by rw [HPS.out]; exact Nat.le_refl _)] at hown
    have hmk := allKeys_merge HK1.out HK2.out
    rw [show lnsOf p1 ++ lnsOf p2 = lnsOf (p1 ++ p2) by simp [lnsOf]] at hmk
    generalize (lnsOf (p1 ++ p2)).map Ln.key = ks at *
    obtain ⟨K, hK⟩ : ∃ K, K = mergeK (lnsOf p1) (lnsOf p2) := ⟨_, rfl⟩
    have HJ0 : Hid (judge (lnsOf p1) (lnsOf p2) = judgeOver (lnsOf p1) (lnsOf p2) K) := Lib.hid (by rw [hK]; rfl)
    rw [← hK] at hmk
    have hM : (allKeys ks).length = K.length := by rw [← hmk, List.length_map]
    have hle := allKeys_len ks
    have hkl : ks.length = k := by simpa using hown.1
    obtain ⟨M, hMe⟩ : ∃ M, M = K.length := ⟨_, rfl⟩
    rw [hM, hkl, ← hMe] at hle
    have HM : Hid ((allKeys ks).length = M) := Lib.hid (by rw [hM, hMe])
    have HMK := Lib.hid hmk
    have HML := Lib.hid hMe
    clear hM hMe hmk hK hkl
    go_wp2_with (first
      | (go_at_call 42; go_must (refine (sort_any _ k w2.heap.size ks _ hown hws (by omega)).mono ?_); rintro e w3 ⟨rfl, ho3, hb3⟩)
      | (go_at_call 43; go_must (refine (compact_any _ k w2.heap.size ks _ ho3 (Nat.le_trans hws hb3.size) (by omega)).mono ?_); rintro e w4 ⟨v4, rfl, ho4, hb4⟩; rw [HM.out, HMK.out] at ho4; obtain ⟨A4, c4, rfl, _, _, _, r4⟩ := own_form ho4))
    have hbel4 := hbel2.trans (((hbel.trans hb3).trans hb4).mono hbel2.size)
    clear hb3 hb4 hbel ho3 ho4 hown hbel2 hws r3
    go_loopw [4, 6, 13, 40] (fun _ _ _ i wr => ∃ j : Nat, j ≤ M ∧ i = .int .i64 j ∧ Hid (judge (lnsOf p1) (lnsOf p2) = judgeOver (lnsOf p1) (lnsOf p2) (K.drop j)) ∧ Below w4.heap.size w4 wr) (fun _ _ _ i _ => M - (intOf i).toNat)
    case atStart => exact ⟨0, Nat.zero_le _, rfl, Lib.hid HJ0.out, Below.refl _ _⟩
    obtain ⟨j, hj, rfl, HJ, hbel⟩ := hrel
    have hws := hbel.size
    have hbw := hbel4.trans (hbel.mono hbel4.size)
    by_cases hlt2 : j < M
    · obtain ⟨ad, rfl, hab, g0⟩ := (r4.below hbel (Nat.le_refl _)).str_ hlt2
      have hcons := judgeOver_cons (lnsOf p1) (lnsOf p2) (strAt K j) (K.drop (j + 1))
      rw [← strAt_drop (by have := HML.out; omega), ← HJ.out] at hcons
      generalize strAt K j = key at *
      obtain ⟨g, hg⟩ : ∃ g, g = (numsOf (lnsOf p2) key).getD [] := ⟨_, rfl⟩
      have hgw := numsOf_wf Hr2.out (t := key)
      have hgl := numsOf_few HK2.out (t := key)
      rw [← hg] at hcons hgw hgl
      have hBw : B ≤ wr.heap.size := Nat.le_trans hB hbw.size
      have hf2 := fun W (hW : Below wr.heap.size wr W) => find_got (c := c2) (t := key) (Hr2.out.below (hbw.trans (hW.mono hbw.size)) hB) (Nat.le_trans hBw hW.size) HK2.out hg.symm
      rw [← HN2.out] at hf2
      have hk0 : (0 : Int) ≤ (j : Int) := by omega
      have hk1 : (j : Int) < (M : Int) := by omega
      have HGW := Lib.hid hgw
      rcases ho : numsOf (lnsOf p1) key with _ | a
      · have hf1 := find_none (c := c1) (Hr1.out.below hbw hB) hBw HK1.out ho
        rw [← HN1.out] at hf1
        rw [ho, show lineO none g = (3, 0) from rfl] at hcons
        have HC : Hid (judge (lnsOf p1) (lnsOf p2) = (3, key, 0)) := Lib.hid hcons
        clear hcons ho hg hgw
        go_wp2_with (first
          | (go_at_call_of 45 A1; go_must (refine hf1.mono ?_); rintro e w5 ⟨rfl, hb5⟩)
          | (go_at_call_of 45 A2; go_must (refine (hf2 _ hb5).mono ?_); rintro e w6 ⟨A6, c6, rfl, _, _, _, hb6⟩)
          | (go_at_call 44; go_must (refine (line_none _ _ _ _).mono ?_); rintro e w7 ⟨rfl, rfl⟩))
        (try simp only [Exit.inBlock, Exit.then])
        refine bodyPost_ret (results_tmp4 rfl _ _ _) rfl ?_
        exact ⟨by rw [HC.out]; rfl, hbw.trans ((hb5.trans (hb6.mono hb5.size)).mono hbw.size)⟩
      · have hf1 := find_some (c := c1) (Hr1.out.below hbw hB) hBw HK1.out ho
        rw [← HN1.out] at hf1
        have haw := numsOf_wf Hr1.out (t := key)
        have hal := numsOf_few HK1.out (t := key)
        rw [ho] at haw hal
        replace haw : ∀ x ∈ a, (Lit.int .i64 x).wf = true := haw
        replace hal : a.length ≤ 400 := hal
        rw [ho, show lineO (some a) g = lineJ a g from rfl] at hcons
        obtain ⟨kd, pt, hl⟩ : ∃ kd pt, lineJ a g = (kd, pt) := ⟨_, _, rfl⟩
        rw [hl] at hcons
        have hle := lineJ_le a g
        rw [hl] at hle
        simp only at hle hcons
        have hkd : kd ≤ 4 := hle.1
        have hpt : pt ≤ 400 := by omega
        have HL := Lib.hid hl
        have HAW := Lib.hid haw
        clear ho hg hgw haw hl hle
        by_cases hz : kd = 0
        · have HC : Hid (judge (lnsOf p1) (lnsOf p2) = judgeOver (lnsOf p1) (lnsOf p2) (K.drop (j + 1))) := Lib.hid (by rw [hcons, if_neg (by simp [hz])])
          clear hcons
          subst hz
          go_wp2_with (first
            | (go_at_call_of 45 A1; go_must (refine hf1.mono ?_); rintro e w5 ⟨ad5, c5, rfl, k51, k52, k53, hb5⟩)
            | (go_at_call_of 45 A2; go_must (refine (hf2 _ hb5).mono ?_); rintro e w6 ⟨A6, c6, rfl, k61, k62, k63, hb6⟩)
            | (go_at_call 44; go_must (refine (line_any ad5 A6 c5 c6 B a g _ (k53.below hb6 (Nat.le_trans hBw hb5.size)) k63 (Nat.le_trans hBw (Nat.le_trans hb5.size hb6.size)) hal hgl HAW.out HGW.out k51 k61 k52 k62).mono ?_); rintro e w7 ⟨rfl, hb7⟩; rw [HL.out]))
          have hb567 := hb5.trans ((hb6.trans (hb7.mono hb6.size)).mono hb5.size)
          go_roundw
          case rel => exact ⟨j + 1, by omega, by go_num, HC, hbel.trans (hb567.mono hws)⟩
          case measure => simp [intOf]; omega
        · have HC : Hid (judge (lnsOf p1) (lnsOf p2) = (kd, key, pt)) := Lib.hid (by rw [hcons, if_pos hz])
          clear hcons
          have hz0 : ¬ ((kd : Int) = 0) := by omega
          go_wp2_with (first
            | (go_at_call_of 45 A1; go_must (refine hf1.mono ?_); rintro e w5 ⟨ad5, c5, rfl, k51, k52, k53, hb5⟩)
            | (go_at_call_of 45 A2; go_must (refine (hf2 _ hb5).mono ?_); rintro e w6 ⟨A6, c6, rfl, k61, k62, k63, hb6⟩)
            | (go_at_call 44; go_must (refine (line_any ad5 A6 c5 c6 B a g _ (k53.below hb6 (Nat.le_trans hBw hb5.size)) k63 (Nat.le_trans hBw (Nat.le_trans hb5.size hb6.size)) hal hgl HAW.out HGW.out k51 k61 k52 k62).mono ?_); rintro e w7 ⟨rfl, hb7⟩; rw [HL.out]))
          have hb567 := hb5.trans ((hb6.trans (hb7.mono hb6.size)).mono hb5.size)
          (try simp only [Exit.inBlock, Exit.then])
          refine bodyPost_ret (results_tmp4 rfl _ _ _) rfl ?_
          exact ⟨by rw [HC.out]; rfl, hbw.trans (hb567.mono hbw.size)⟩
    · have HC : Hid (judge (lnsOf p1) (lnsOf p2) = (0, ⟨#[]⟩, 0)) := Lib.hid (by rw [HJ.out, List.drop_eq_nil_of_le (by have := HML.out; omega)]; rfl)
      go_wp2_with fail
      (try simp only [Exit.inBlock, Exit.then])
      refine bodyPost_ret (results_tmp4 rfl _ _ _) rfl ?_
      exact ⟨by rw [HC.out]; rfl, hbw⟩
end Go.Proofs.Ytelailhghhjleaa
