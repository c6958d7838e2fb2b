/- WalkRPut WalkRLive in one text. -/
import Derived.Test.YtcfijljagohmlaaGreatDoorPlainMix
import Derived.Test.YtcfijljagohmlaaGreatDoorWalkSearch
import Derived.BigQuiet
import Derived.Deep.CutBlock
import Derived.Deep.CutRange
/- The walks of weirref2.Put (in no one's place) and weirref2.Live. -/
namespace Go.Proofs.YtcfijljagohmlaaGreatDoor
open Go.RowKit

theorem put_at {e : Ent} : ∀ {l : List Ent} {i : Nat} {x : Ent}, (∀ (j : Nat) (y : Ent), j < i → l[j]? = some y → klt y.key e.key = true) → l[i]? = some x → klt x.key e.key = false → entPut e l = l.take i ++ (if x.key = e.key then [x] else [e, x]) ++ l.drop (i + 1) := by
  intro l
  induction l with
  | nil => intro i x _ h; simp at h
  | cons y ys ih =>
    intro i x h1 h2 h3
    rw [entPut]
    cases i with
    | zero =>
      simp at h2
      subst h2
      rw [if_neg (by rw [h3]; simp)]
      split <;> simp
    | succ i =>
      rw [if_pos (h1 0 y (by omega) rfl), ih (i := i) (x := x) (fun j z hj hz => h1 (j + 1) z (by omega) (by simpa using hz)) (by simpa using h2) h3]
      simp
theorem put_end {e : Ent} : ∀ {l : List Ent}, (∀ y ∈ l, klt y.key e.key = true) → entPut e l = l ++ [e] := by
  intro l
  induction l with
  | nil => intro _; rfl
  | cons y ys ih => intro h; rw [entPut, if_pos (h y List.mem_cons_self), ih fun z hz => h z (List.mem_cons_of_mem _ hz)]; rfl
theorem byt1 {t : Nat} (h : t ≤ 2000002) : (t + 1) * 40 ≤ 140737488355328 := by omega
theorem byt2 {t : Nat} (h : t ≤ 2000002) : (t + 1 + 1) * 40 ≤ 140737488355328 := by omega
theorem one_le {t i : Nat} (h : t ≤ 2 * i + 1) : t + 1 ≤ 2 * (i + 1) + 1 := by omega
theorem two_le {t i : Nat} (h : t ≤ 2 * i + 1) : t + 1 + 1 ≤ 2 * (i + 1) + 1 := by omega
/-- How far it has come. -/
def PutInv (l : List Ent) (e : Ent) (i : Nat) (dn : Bool) (acc : List Ent) : Prop := if dn then acc ++ l.drop i = entPut e l else (∀ (j : Nat) (y : Ent), j < i → l[j]? = some y → klt y.key e.key = true) ∧ acc = l.take i
theorem PutInv.start (l : List Ent) (e : Ent) : PutInv l e 0 false [] := ⟨(fun j _ hj => absurd hj (by omega)), rfl⟩
theorem PutInv.behind {l : List Ent} {e x : Ent} {i : Nat} {acc : List Ent} (h : PutInv l e i true acc) (hx : l[i]? = some x) : PutInv l e (i + 1) true (acc ++ [x]) := by
  show acc ++ [x] ++ l.drop (i + 1) = entPut e l
  rw [← h, drop_ent hx, List.append_assoc]; rfl
theorem PutInv.ahead {l : List Ent} {e x : Ent} {i : Nat} {acc : List Ent} (h : PutInv l e i false acc) (hx : l[i]? = some x) (hc : klt x.key e.key = true) : PutInv l e (i + 1) false (acc ++ [x]) := by
  obtain ⟨h1, h2⟩ := h
  refine ⟨fun j y hj hy => ?_, by rw [List.take_add_one, hx, h2]; rfl⟩
  by_cases hji : j < i
  · exact h1 j y hji hy
  · obtain rfl : j = i := by omega
    rw [hx] at hy
    injection hy with hy
    rw [← hy]; exact hc
theorem PutInv.same {l : List Ent} {e x : Ent} {i : Nat} {acc : List Ent} (h : PutInv l e i false acc) (hx : l[i]? = some x) (hc : klt x.key e.key = false) (he : x.key = e.key) : PutInv l e (i + 1) true (acc ++ [x]) := by
  obtain ⟨h1, h2⟩ := h
  show acc ++ [x] ++ l.drop (i + 1) = entPut e l
  rw [put_at h1 hx hc, if_pos he, h2]
theorem PutInv.new_ {l : List Ent} {e x : Ent} {i : Nat} {acc : List Ent} (h : PutInv l e i false acc) (hx : l[i]? = some x) (hc : klt x.key e.key = false) (he : x.key ≠ e.key) : PutInv l e (i + 1) true (acc ++ [e] ++ [x]) := by
  obtain ⟨h1, h2⟩ := h
  show acc ++ [e] ++ [x] ++ l.drop (i + 1) = entPut e l
  rw [put_at h1 hx hc, if_neg he, h2]
  simp
theorem PutInv.done {l : List Ent} {e : Ent} {i : Nat} {acc : List Ent} (h : PutInv l e i true acc) (hi : l.length ≤ i) : acc = entPut e l := by
  have : acc ++ l.drop i = entPut e l := h
  rwa [List.drop_of_length_le hi, List.append_nil] at this
theorem PutInv.none_ {l : List Ent} {e : Ent} {i : Nat} {acc : List Ent} (h : PutInv l e i false acc) (hi : l.length ≤ i) : acc ++ [e] = entPut e l := by
  obtain ⟨h1, h2⟩ := h
  rw [h2, List.take_of_length_le hi, put_end fun y hy => ?_]
  obtain ⟨j, hj⟩ := List.mem_iff_getElem?.1 hy
  exact h1 j y (by have := (List.getElem?_eq_some_iff.1 hj).1; omega) hj
theorem entCells_app2 (acc : List Ent) (r : Ent) : entCells (acc ++ [r]) = entCells acc ++ r.cells := by simp [entCells]
set_option maxRecDepth 100000 in
set_option maxHeartbeats 4000000 in
theorem rput_any (A : Option Addr) (c B n : Nat) (l : List Ent) (e : Ent) (w : World) (hr : Rd w B 3 A n (entCells l)) (hln : l.length = n) (hB : B ≤ w.heap.size) (hn : n ≤ 1000000) :
    Calls Tryz.prog 61 #[.slice A n c, e.val, .bool false] w fun r w' => ∃ v, r = .returned v ∧ w'.ownsRow w.heap.size 67 3 v (entPut e l).length (entCells (entPut e l)) ∧ Below w.heap.size w w' := by
  have HLN := Lib.hid hln
  clear hln
  have hbx := Blk.new w 67 #[.string e.key, .string e.value, .bool e.dead]
  have hb0 := (Below.refl w.heap.size w).alloc (Nat.le_refl _) (.cells #[.string e.key, .string e.value, .bool e.dead] 67)
  obtain ⟨PE, hPE⟩ : ∃ x, x = entPut e l := ⟨_, rfl⟩
  have HPE := Lib.hid hPE
  rw [← hPE]
  clear hPE
  unfold Ent.val
  go_enter Tryz.func61, Tryz.ntmps61
  go_upto_region 4 with fail
  have hsz0 := hb0.size
  have hbxl := hbx.lt
  generalize w.alloc (.cells #[.string e.key, .string e.value, .bool e.dead] 67) = w1 at *
  go_loopw [7, 8, 9] (fun o d x wr => ∃ (i t : Nat) (dn : Bool) (acc : List Ent), i ≤ n ∧ x = .int .i64 i ∧ d = .bool dn ∧ acc.length = t ∧ t ≤ 2 * i + 1 ∧ Hid (PutInv l e i dn acc) ∧ wr.ownsRow w1.heap.size 67 3 o t (entCells acc) ∧ Below w1.heap.size w1 wr) (fun _ _ x _ => n - (intOf x).toNat)
  case atStart => exact ⟨0, 0, false, [], Nat.zero_le _, rfl, rfl, rfl, by omega, Lib.hid (PutInv.start _ _), World.ownsRow_nil _ _ _ _, Below.refl _ _⟩
  obtain ⟨i, t, dn, acc, hi, rfl, rfl, hat, hti, HI0, hown, hbel⟩ := hrel
  have hsz := hbel.size
  have ht8 : t ≤ 2000002 := Nat.le_trans hti (by omega)
  have hbz : Blk wr w.heap.size 67 #[.string e.key, .string e.value, .bool e.dead] := hbx.up hbel
  obtain ⟨k0, k1, k2⟩ := cells3 hbz
  clear hbz
  have hby : (t + 1) * 40 ≤ 140737488355328 := byt1 ht8
  have hby2 : (t + 1 + 1) * 40 ≤ 140737488355328 := byt2 ht8
  by_cases hlt : i < n
  · obtain ⟨ad, x, rfl, hpb, hx, x0, x1, x2⟩ := hr.ent_ hlt HLN.out (hb0.trans (hbel.mono hsz0)) hB
    have hpw : (ad.add (i * 3)).block < w1.heap.size := by omega
    have HX := Lib.hid hx
    clear hx hpb
    have hi0 : (0 : Int) ≤ (i : Int) := by omega
    have hi1 : (i : Int) < (n : Int) := by omega
    rcases dn with _ | _
    · rcases hc : klt x.key e.key
      · have tc : (Op.bytesLess x.key.toList e.key.toList) = false := hc
        by_cases he : x.key = e.key
        · have HI := Lib.hid (HI0.out.same HX.out hc he)
          have tc2 : (Op.bytesLess e.key.toList e.key.toList) = false := klt_irrefl _
          have HEQ : Hid ([.string e.key, .string x.value, .bool x.dead] = x.cells) := Lib.hid (by rw [Ent.cells, he])
          rw [he] at x0
          clear he hc tc
          go_wp2_with fail
          go_quiet (fail)
          have hbel := below_drewN hbel nq
          have hown := own_drewN hown nq
          have hsz := hbel.size
          have ec : wr.cell? = (wr.drewN nq).cell? := rfl
          rw [ec] at x0 x1 x2 k0 k1 k2
          clear ec
          generalize wr.drewN nq = wq at *
          go_wp2_with fail
          go_quiet (fail)
          have hbel := below_drewN hbel nq
          have hown := own_drewN hown nq
          have hsz := hbel.size
          have ec : wq.cell? = (wq.drewN nq).cell? := rfl
          rw [ec] at x0 x1 x2 k0 k1 k2
          clear ec
          generalize wq.drewN nq = wp at *
          go_wp2_with (first
            | (with_reducible show wpList _ _ _ (⟨some 51, _, _, _, _, _⟩ :: _) _ _; go_must (refine wpList_newg (.tmp 45) (.tmp 50) el_ent rfl rfl hown rfl rfl rfl rfl rfl hby hsz ?_); intro v5 w5 hown5 hb5 hg5 ha5)
            | (with_reducible show wpList _ _ _ (⟨some 58, _, _, _, _, _⟩ :: _) _ _; go_must (refine wpList_newg (.tmp 52) (.tmp 57) el_ent rfl rfl hown rfl rfl rfl rfl rfl hby hsz ?_); intro v5 w5 hown5 hb5 hg5 ha5))
          have hbel5 := hbel.trans hb5
          have hown6 : w5.ownsRow w1.heap.size 67 3 v5 (t + 1) (entCells (acc ++ [x])) := by rw [entCells_app2]; first | exact hown5 | (rw [← HEQ.out]; exact hown5)
          clear hown5
          go_roundw
          case rel => exact ⟨i + 1, t + 1, true, acc ++ [x], Nat.succ_le_of_lt hlt, by go_num, rfl, by rw [List.length_append, hat]; rfl, one_le hti, HI, hown6, hbel5⟩
          case measure => simp [intOf]; omega
        · have HI := Lib.hid (HI0.out.new_ HX.out hc he)
          have tn : (x.key.toList == e.key.toList) = false := by
            rcases h : (x.key.toList == e.key.toList)
            · rfl
            · exact absurd (bytes_same (by simpa using h)) he
          clear he hc
          go_wp2_with fail
          go_quiet (fail)
          have hbel := below_drewN hbel nq
          have hown := own_drewN hown nq
          have hsz := hbel.size
          have ec : wr.cell? = (wr.drewN nq).cell? := rfl
          rw [ec] at x0 x1 x2 k0 k1 k2
          clear ec
          generalize wr.drewN nq = wq at *
          go_wp2_with fail
          go_quiet (fail)
          have hbel := below_drewN hbel nq
          have hown := own_drewN hown nq
          have hsz := hbel.size
          have ec : wq.cell? = (wq.drewN nq).cell? := rfl
          rw [ec] at x0 x1 x2 k0 k1 k2
          clear ec
          generalize wq.drewN nq = wp at *
          go_wp2_with (first
            | (with_reducible show wpList _ _ _ (⟨some 39, _, _, _, _, _⟩ :: _) _ _; go_must (refine wpList_newg (.tmp 36) (.tmp 38) el_ent rfl rfl hown rfl rfl rfl rfl rfl hby hsz ?_); intro v4 w4 hown4 hb4 hg4 ha4; have hsz4 := Nat.le_trans hsz hb4.size; have z0 := (hb4.cell hpw).trans x0; have z1 := (hb4.cell (p := ⟨(ad.add (i * 3)).block, (ad.add (i * 3)).off + 1, none⟩) hpw).trans x1; have z2 := (hb4.cell (p := ⟨(ad.add (i * 3)).block, (ad.add (i * 3)).off + 2, none⟩) hpw).trans x2)
            | (with_reducible show wpList _ _ _ (⟨some 58, _, _, _, _, _⟩ :: _) _ _; go_must (refine wpList_newg (.tmp 52) (.tmp 57) el_ent rfl rfl hown4 rfl rfl rfl rfl rfl hby2 hsz4 ?_); intro v5 w5 hown5 hb5 hg5 ha5))
          have hbel5 := (hbel.trans hb4).trans hb5
          have hown6 : w5.ownsRow w1.heap.size 67 3 v5 (t + 1 + 1) (entCells (acc ++ [e] ++ [x])) := by rw [entCells_app2, entCells_app2]; exact hown5
          clear hown5 hown4
          go_roundw
          case rel => exact ⟨i + 1, t + 1 + 1, true, acc ++ [e] ++ [x], Nat.succ_le_of_lt hlt, by go_num, rfl, by rw [List.length_append, List.length_append, hat]; rfl, two_le hti, HI, hown6, hbel5⟩
          case measure => simp [intOf]; omega
      · have tc : (Op.bytesLess x.key.toList e.key.toList) = true := hc
        have HI := Lib.hid (HI0.out.ahead HX.out hc)
        clear hc
        go_wp2_with fail
        go_quiet (fail)
        have hbel := below_drewN hbel nq
        have hown := own_drewN hown nq
        have hsz := hbel.size
        have ec : wr.cell? = (wr.drewN nq).cell? := rfl
        rw [ec] at x0 x1 x2 k0 k1 k2
        clear ec
        generalize wr.drewN nq = wq at *
        go_wp2_with (first
          | (with_reducible show wpList _ _ _ (⟨some 51, _, _, _, _, _⟩ :: _) _ _; go_must (refine wpList_newg (.tmp 45) (.tmp 50) el_ent rfl rfl hown rfl rfl rfl rfl rfl hby hsz ?_); intro v5 w5 hown5 hb5 hg5 ha5)
          | (with_reducible show wpList _ _ _ (⟨some 58, _, _, _, _, _⟩ :: _) _ _; go_must (refine wpList_newg (.tmp 52) (.tmp 57) el_ent rfl rfl hown rfl rfl rfl rfl rfl hby hsz ?_); intro v5 w5 hown5 hb5 hg5 ha5))
        have hbel5 := hbel.trans hb5
        have hown6 : w5.ownsRow w1.heap.size 67 3 v5 (t + 1) (entCells (acc ++ [x])) := by rw [entCells_app2]; first | exact hown5 | (rw [← HEQ.out]; exact hown5)
        clear hown5
        go_roundw
        case rel => exact ⟨i + 1, t + 1, false, acc ++ [x], Nat.succ_le_of_lt hlt, by go_num, rfl, by rw [List.length_append, hat]; rfl, one_le hti, HI, hown6, hbel5⟩
        case measure => simp [intOf]; omega
    · have HI := Lib.hid (HI0.out.behind HX.out)
      go_wp2_with fail
      go_quiet (fail)
      have hbel := below_drewN hbel nq
      have hown := own_drewN hown nq
      have hsz := hbel.size
      have ec : wr.cell? = (wr.drewN nq).cell? := rfl
      rw [ec] at x0 x1 x2 k0 k1 k2
      clear ec
      generalize wr.drewN nq = wq at *
      go_wp2_with (first
        | (with_reducible show wpList _ _ _ (⟨some 51, _, _, _, _, _⟩ :: _) _ _; go_must (refine wpList_newg (.tmp 45) (.tmp 50) el_ent rfl rfl hown rfl rfl rfl rfl rfl hby hsz ?_); intro v5 w5 hown5 hb5 hg5 ha5)
        | (with_reducible show wpList _ _ _ (⟨some 58, _, _, _, _, _⟩ :: _) _ _; go_must (refine wpList_newg (.tmp 52) (.tmp 57) el_ent rfl rfl hown rfl rfl rfl rfl rfl hby hsz ?_); intro v5 w5 hown5 hb5 hg5 ha5))
      have hbel5 := hbel.trans hb5
      have hown6 : w5.ownsRow w1.heap.size 67 3 v5 (t + 1) (entCells (acc ++ [x])) := by rw [entCells_app2]; first | exact hown5 | (rw [← HEQ.out]; exact hown5)
      clear hown5
      go_roundw
      case rel => exact ⟨i + 1, t + 1, true, acc ++ [x], Nat.succ_le_of_lt hlt, by go_num, rfl, by rw [List.length_append, hat]; rfl, one_le hti, HI, hown6, hbel5⟩
      case measure => simp [intOf]; omega
  · obtain rfl : i = n := Nat.le_antisymm hi (Nat.le_of_not_lt hlt)
    rcases dn with _ | _
    · have hF := HI0.out.none_ (Nat.le_of_eq HLN.out)
      have HF := Lib.hid hF
      clear hF
      go_wp2_with (first
        | (with_reducible show wpList _ _ _ (⟨some 64, _, _, _, _, _⟩ :: _) _ _; go_must (refine wpList_newg (.tmp 61) (.tmp 63) el_ent rfl rfl hown rfl rfl rfl rfl rfl hby hsz ?_); intro v4 w4 hown4 hb4 hg4 ha4))
      go_ret
      refine ⟨v4, rfl, ?_, hb0.trans ((hbel.trans hb4).mono hsz0)⟩
      rw [HPE.out, ← HF.out, entCells_app2, List.length_append, hat]
      exact own_base hown4 hsz0
    · have hF := HI0.out.done (Nat.le_of_eq HLN.out)
      have HF := Lib.hid hF
      clear hF
      go_wp2_with fail
      go_ret
      refine ⟨_, rfl, ?_, hb0.trans (hbel.mono hsz0)⟩
      rw [HPE.out, ← HF.out, hat]
      exact own_base hown hsz0
end Go.Proofs.YtcfijljagohmlaaGreatDoor

/- The walk of weirref2.Live. -/
namespace Go.Proofs.YtcfijljagohmlaaGreatDoor
open Go.RowKit

def liveE (l : List Ent) : List Ent := l.filter fun e => !e.dead
theorem live_next {l : List Ent} {i : Nat} {x : Ent} (hx : l[i]? = some x) (hd : x.dead = false) : liveE (l.take (i + 1)) = liveE (l.take i) ++ [x] := by
  rw [liveE, List.take_add_one, hx, List.filter_append]; simp [liveE, hd]
theorem live_stay {l : List Ent} {i : Nat} {x : Ent} (hx : l[i]? = some x) (hd : x.dead = true) : liveE (l.take (i + 1)) = liveE (l.take i) := by
  rw [liveE, List.take_add_one, hx, List.filter_append]; simp [liveE, hd]
theorem live_le (l : List Ent) (i : Nat) : (liveE (l.take i)).length ≤ i := Nat.le_trans (List.length_filter_le _ _) (by rw [List.length_take]; omega)
theorem live_app (acc : List Ent) (r : Ent) : entCells (acc ++ [r]) = entCells acc ++ r.cells := by simp [entCells]
set_option maxRecDepth 100000 in
set_option maxHeartbeats 2000000 in
theorem rlive_any (A : Option Addr) (c B n : Nat) (l : List Ent) (w : World) (hr : Rd w B 3 A n (entCells l)) (hln : l.length = n) (hB : B ≤ w.heap.size) (hn : n ≤ 1000000) :
    Calls Tryz.prog 31 #[.slice A n c] w fun r w' => ∃ v, r = .returned v ∧ w'.ownsRow w.heap.size 67 3 v (liveE l).length (entCells (liveE l)) ∧ Below w.heap.size w w' := by
  have HLN := Lib.hid hln
  clear hln
  obtain ⟨LE, hLE⟩ : ∃ x, x = liveE l := ⟨_, rfl⟩
  have HLE := Lib.hid hLE
  rw [← hLE]
  clear hLE
  go_enter Tryz.func31, Tryz.ntmps31
  go_wp2_with fail
  go_loopw [3, 4] (fun o x wr => ∃ i t : Nat, i ≤ n ∧ x = .int .i64 i ∧ Hid (t = (liveE (l.take i)).length) ∧ t ≤ i ∧ wr.ownsRow w.heap.size 67 3 o t (entCells (liveE (l.take i))) ∧ Below w.heap.size w wr) (fun _ x _ => n - (intOf x).toNat)
  case atStart => exact ⟨0, 0, Nat.zero_le _, rfl, Lib.hid rfl, Nat.le_refl _, World.ownsRow_nil _ _ _ _, Below.refl _ _⟩
  obtain ⟨i, t, hi, rfl, HT, hti, hown, hbel⟩ := hrel
  have hsz := hbel.size
  have hby : (t + 1) * 40 ≤ 140737488355328 := by omega
  by_cases hlt : i < n
  · obtain ⟨ad, x, rfl, _, hx, x0, x1, x2⟩ := hr.ent_ hlt HLN.out hbel hB
    have hi0 : (0 : Int) ≤ (i : Int) := by omega
    have hi1 : (i : Int) < (n : Int) := by omega
    rcases hd : x.dead
    · have HN := Lib.hid (live_next hx hd)
      have HC : Hid ([.string x.key, .string x.value, .bool false] = x.cells) := Lib.hid (by rw [Ent.cells, hd])
      rw [hd] at x2
      clear hx hd
      go_wp2_with (first
        | (with_reducible show wpList _ _ _ (⟨some 23, _, _, _, _, _⟩ :: _) _ _; go_must (refine wpList_newg (.tmp 17) (.tmp 22) el_ent rfl rfl hown rfl rfl rfl rfl rfl hby hsz ?_); intro v4 w4 hown4 hb4 hg4 ha4))
      have hown5 : w4.ownsRow w.heap.size 67 3 v4 (t + 1) (entCells (liveE (l.take (i + 1)))) := by rw [HN.out, live_app, ← HC.out]; exact hown4
      have hb5 := hbel.trans hb4
      clear hown4
      go_roundw
      case rel => exact ⟨i + 1, t + 1, by omega, by go_num, Lib.hid (by rw [HN.out, List.length_append, ← HT.out]; rfl), by omega, hown5, hb5⟩
      case measure => simp [intOf]; omega
    · have HN := Lib.hid (live_stay hx hd)
      rw [hd] at x2
      clear hx hd
      go_wp2_with fail
      go_roundw
      case rel => exact ⟨i + 1, t, by omega, by go_num, Lib.hid (by rw [HN.out]; exact HT.out), by omega, by rw [HN.out]; exact hown, hbel⟩
      case measure => simp [intOf]; omega
  · obtain rfl : i = n := by omega
    have hall : l.take i = l := List.take_of_length_le (by rw [HLN.out]; exact Nat.le_refl _)
    have HA := Lib.hid hall
    clear hall
    go_wp2_with fail
    go_ret
    exact ⟨_, rfl, by rw [HLE.out, ← HA.out, ← HT.out]; exact hown, hbel⟩
end Go.Proofs.YtcfijljagohmlaaGreatDoor
