/- WalkRSet WalkRM in one text. -/
import Derived.Test.YtcfijljagohmlaaGreatDoorRPutLive
import Derived.Test.YtcfijljagohmlaaGreatDoorLsmPlain
import Derived.Test.YtcfijljagohmlaaGreatDoorLsmCode
/- The walks of weirref2.Put (in place of the one with its key) and of weirref2.has. -/
namespace Go.Proofs.YtcfijljagohmlaaGreatDoor
open Go.RowKit

theorem set_at {e : Ent} : ∀ {l : List Ent} {i : Nat} {x : Ent}, (∀ (j : Nat) (y : Ent), j < i → l[j]? = some y → klt y.key e.key = true) → l[i]? = some x → klt x.key e.key = false → entSet e l = l.take i ++ (if x.key = e.key then [e] else [e, x]) ++ l.drop (i + 1) := by
  intro l
  induction l with
  | nil => intro i x _ h; simp at h
  | cons y ys ih =>
    intro i x h1 h2 h3
    rw [entSet]
    cases i with
    | zero =>
      simp at h2
      subst h2
      rw [if_neg (by rw [h3]; simp)]
      split <;> simp
    | succ i =>
      rw [if_pos (h1 0 y (by omega) rfl), ih (i := i) (x := x) (fun j z hj hz => h1 (j + 1) z (by omega) (by simpa using hz)) (by simpa using h2) h3]
      simp
theorem set_end {e : Ent} : ∀ {l : List Ent}, (∀ y ∈ l, klt y.key e.key = true) → entSet e l = l ++ [e] := by
  intro l
  induction l with
  | nil => intro _; rfl
  | cons y ys ih => intro h; rw [entSet, if_pos (h y List.mem_cons_self), ih fun z hz => h z (List.mem_cons_of_mem _ hz)]; rfl
/-- How far it has come. -/
def SetInv (l : List Ent) (e : Ent) (i : Nat) (dn : Bool) (acc : List Ent) : Prop := if dn then acc ++ l.drop i = entSet e l else (∀ (j : Nat) (y : Ent), j < i → l[j]? = some y → klt y.key e.key = true) ∧ acc = l.take i
theorem SetInv.start (l : List Ent) (e : Ent) : SetInv l e 0 false [] := ⟨(fun j _ hj => absurd hj (by omega)), rfl⟩
theorem SetInv.behind {l : List Ent} {e x : Ent} {i : Nat} {acc : List Ent} (h : SetInv l e i true acc) (hx : l[i]? = some x) : SetInv l e (i + 1) true (acc ++ [x]) := by
  show acc ++ [x] ++ l.drop (i + 1) = entSet e l
  rw [← h, drop_ent hx, List.append_assoc]; rfl
theorem SetInv.ahead {l : List Ent} {e x : Ent} {i : Nat} {acc : List Ent} (h : SetInv l e i false acc) (hx : l[i]? = some x) (hc : klt x.key e.key = true) : SetInv l e (i + 1) false (acc ++ [x]) := by
  obtain ⟨h1, h2⟩ := h
  refine ⟨fun j y hj hy => ?_, by rw [List.take_add_one, hx, h2]; rfl⟩
  by_cases hji : j < i
  · exact h1 j y hji hy
  · obtain rfl : j = i := by omega
    rw [hx] at hy
    injection hy with hy
    rw [← hy]; exact hc
theorem SetInv.same {l : List Ent} {e x : Ent} {i : Nat} {acc : List Ent} (h : SetInv l e i false acc) (hx : l[i]? = some x) (hc : klt x.key e.key = false) (he : x.key = e.key) : SetInv l e (i + 1) true (acc ++ [e]) := by
  obtain ⟨h1, h2⟩ := h
  show acc ++ [e] ++ l.drop (i + 1) = entSet e l
  rw [set_at h1 hx hc, if_pos he, h2]
theorem SetInv.new_ {l : List Ent} {e x : Ent} {i : Nat} {acc : List Ent} (h : SetInv l e i false acc) (hx : l[i]? = some x) (hc : klt x.key e.key = false) (he : x.key ≠ e.key) : SetInv l e (i + 1) true (acc ++ [e] ++ [x]) := by
  obtain ⟨h1, h2⟩ := h
  show acc ++ [e] ++ [x] ++ l.drop (i + 1) = entSet e l
  rw [set_at h1 hx hc, if_neg he, h2]
  simp
theorem SetInv.done {l : List Ent} {e : Ent} {i : Nat} {acc : List Ent} (h : SetInv l e i true acc) (hi : l.length ≤ i) : acc = entSet e l := by
  have : acc ++ l.drop i = entSet e l := h
  rwa [List.drop_of_length_le hi, List.append_nil] at this
theorem SetInv.none_ {l : List Ent} {e : Ent} {i : Nat} {acc : List Ent} (h : SetInv l e i false acc) (hi : l.length ≤ i) : acc ++ [e] = entSet e l := by
  obtain ⟨h1, h2⟩ := h
  rw [h2, List.take_of_length_le hi, set_end fun y hy => ?_]
  obtain ⟨j, hj⟩ := List.mem_iff_getElem?.1 hy
  exact h1 j y (by have := (List.getElem?_eq_some_iff.1 hj).1; omega) hj
set_option maxRecDepth 100000 in
set_option maxHeartbeats 4000000 in
theorem rset_any (A : Option Addr) (c B n : Nat) (l : List Ent) (e : Ent) (w : World) (hr : Rd w B 3 A n (entCells l)) (hln : l.length = n) (hB : B ≤ w.heap.size) (hn : n ≤ 1000000) :
    Calls Tryz.prog 61 #[.slice A n c, e.val, .bool true] w fun r w' => ∃ v, r = .returned v ∧ w'.ownsRow w.heap.size 67 3 v (entSet e l).length (entCells (entSet e l)) ∧ Below w.heap.size w w' := by
  have HLN := Lib.hid hln
  clear hln
  have hbx := Blk.new w 67 #[.string e.key, .string e.value, .bool e.dead]
  have hb0 := (Below.refl w.heap.size w).alloc (Nat.le_refl _) (.cells #[.string e.key, .string e.value, .bool e.dead] 67)
  obtain ⟨PE, hPE⟩ : ∃ x, x = entSet e l := ⟨_, rfl⟩
  have HPE := Lib.hid hPE
  rw [← hPE]
  clear hPE
  unfold Ent.val
  go_enter Tryz.func61, Tryz.ntmps61
  go_upto_region 4 with fail
  have hsz0 := hb0.size
  have hbxl := hbx.lt
  generalize w.alloc (.cells #[.string e.key, .string e.value, .bool e.dead] 67) = w1 at *
  go_loopw [7, 8, 9] (fun o d x wr => ∃ (i t : Nat) (dn : Bool) (acc : List Ent), i ≤ n ∧ x = .int .i64 i ∧ d = .bool dn ∧ acc.length = t ∧ t ≤ 2 * i + 1 ∧ Hid (SetInv l e i dn acc) ∧ wr.ownsRow w1.heap.size 67 3 o t (entCells acc) ∧ Below w1.heap.size w1 wr) (fun _ _ x _ => n - (intOf x).toNat)
  case atStart => exact ⟨0, 0, false, [], Nat.zero_le _, rfl, rfl, rfl, by omega, Lib.hid (SetInv.start _ _), World.ownsRow_nil _ _ _ _, Below.refl _ _⟩
  obtain ⟨i, t, dn, acc, hi, rfl, rfl, hat, hti, HI0, hown, hbel⟩ := hrel
  have hsz := hbel.size
  have ht8 : t ≤ 2000002 := Nat.le_trans hti (by omega)
  have hbz : Blk wr w.heap.size 67 #[.string e.key, .string e.value, .bool e.dead] := hbx.up hbel
  obtain ⟨k0, k1, k2⟩ := cells3 hbz
  clear hbz
  have hby : (t + 1) * 40 ≤ 140737488355328 := byt1 ht8
  have hby2 : (t + 1 + 1) * 40 ≤ 140737488355328 := byt2 ht8
  by_cases hlt : i < n
  · obtain ⟨ad, x, rfl, hpb, hx, x0, x1, x2⟩ := hr.ent_ hlt HLN.out (hb0.trans (hbel.mono hsz0)) hB
    have hpw : (ad.add (i * 3)).block < w1.heap.size := by omega
    have HX := Lib.hid hx
    clear hx hpb
    have hi0 : (0 : Int) ≤ (i : Int) := by omega
    have hi1 : (i : Int) < (n : Int) := by omega
    rcases dn with _ | _
    · rcases hc : klt x.key e.key
      · have tc : (Op.bytesLess x.key.toList e.key.toList) = false := hc
        by_cases he : x.key = e.key
        · have HI := Lib.hid (HI0.out.same HX.out hc he)
          have tc2 : (Op.bytesLess e.key.toList e.key.toList) = false := klt_irrefl _
          rw [he] at x0
          clear he hc tc
          go_wp2_with fail
          go_quiet (fail)
          have hbel := below_drewN hbel nq
          have hown := own_drewN hown nq
          have hsz := hbel.size
          have ec : wr.cell? = (wr.drewN nq).cell? := rfl
          rw [ec] at x0 x1 x2 k0 k1 k2
          clear ec
          generalize wr.drewN nq = wq at *
          go_wp2_with fail
          go_quiet (fail)
          have hbel := below_drewN hbel nq
          have hown := own_drewN hown nq
          have hsz := hbel.size
          have ec : wq.cell? = (wq.drewN nq).cell? := rfl
          rw [ec] at x0 x1 x2 k0 k1 k2
          clear ec
          generalize wq.drewN nq = wp at *
          go_wp2_with (first
            | (with_reducible show wpList _ _ _ (⟨some 44, _, _, _, _, _⟩ :: _) _ _; go_must (refine wpList_newg (.tmp 41) (.tmp 43) el_ent rfl rfl hown rfl rfl rfl rfl rfl hby hsz ?_); intro v5 w5 hown5 hb5 hg5 ha5)
            | (with_reducible show wpList _ _ _ (⟨some 51, _, _, _, _, _⟩ :: _) _ _; go_must (refine wpList_newg (.tmp 45) (.tmp 50) el_ent rfl rfl hown rfl rfl rfl rfl rfl hby hsz ?_); intro v5 w5 hown5 hb5 hg5 ha5)
            | (with_reducible show wpList _ _ _ (⟨some 58, _, _, _, _, _⟩ :: _) _ _; go_must (refine wpList_newg (.tmp 52) (.tmp 57) el_ent rfl rfl hown rfl rfl rfl rfl rfl hby hsz ?_); intro v5 w5 hown5 hb5 hg5 ha5))
          have hbel5 := hbel.trans hb5
          have hown6 : w5.ownsRow w1.heap.size 67 3 v5 (t + 1) (entCells (acc ++ [e])) := by rw [entCells_app2]; exact hown5
          clear hown5
          go_roundw
          case rel => exact ⟨i + 1, t + 1, true, acc ++ [e], Nat.succ_le_of_lt hlt, by go_num, rfl, by rw [List.length_append, hat]; rfl, one_le hti, HI, hown6, hbel5⟩
          case measure => simp [intOf]; omega
        · have HI := Lib.hid (HI0.out.new_ HX.out hc he)
          have tn : (x.key.toList == e.key.toList) = false := by
            rcases h : (x.key.toList == e.key.toList)
            · rfl
            · exact absurd (bytes_same (by simpa using h)) he
          clear he hc
          go_wp2_with fail
          go_quiet (fail)
          have hbel := below_drewN hbel nq
          have hown := own_drewN hown nq
          have hsz := hbel.size
          have ec : wr.cell? = (wr.drewN nq).cell? := rfl
          rw [ec] at x0 x1 x2 k0 k1 k2
          clear ec
          generalize wr.drewN nq = wq at *
          go_wp2_with fail
          go_quiet (fail)
          have hbel := below_drewN hbel nq
          have hown := own_drewN hown nq
          have hsz := hbel.size
          have ec : wq.cell? = (wq.drewN nq).cell? := rfl
          rw [ec] at x0 x1 x2 k0 k1 k2
          clear ec
          generalize wq.drewN nq = wp at *
          go_wp2_with (first
            | (with_reducible show wpList _ _ _ (⟨some 39, _, _, _, _, _⟩ :: _) _ _; go_must (refine wpList_newg (.tmp 36) (.tmp 38) el_ent rfl rfl hown rfl rfl rfl rfl rfl hby hsz ?_); intro v4 w4 hown4 hb4 hg4 ha4; have hsz4 := Nat.le_trans hsz hb4.size; have z0 := (hb4.cell hpw).trans x0; have z1 := (hb4.cell (p := ⟨(ad.add (i * 3)).block, (ad.add (i * 3)).off + 1, none⟩) hpw).trans x1; have z2 := (hb4.cell (p := ⟨(ad.add (i * 3)).block, (ad.add (i * 3)).off + 2, none⟩) hpw).trans x2)
            | (with_reducible show wpList _ _ _ (⟨some 58, _, _, _, _, _⟩ :: _) _ _; go_must (refine wpList_newg (.tmp 52) (.tmp 57) el_ent rfl rfl hown4 rfl rfl rfl rfl rfl hby2 hsz4 ?_); intro v5 w5 hown5 hb5 hg5 ha5))
          have hbel5 := (hbel.trans hb4).trans hb5
          have hown6 : w5.ownsRow w1.heap.size 67 3 v5 (t + 1 + 1) (entCells (acc ++ [e] ++ [x])) := by rw [entCells_app2, entCells_app2]; exact hown5
          clear hown5 hown4
          go_roundw
          case rel => exact ⟨i + 1, t + 1 + 1, true, acc ++ [e] ++ [x], Nat.succ_le_of_lt hlt, by go_num, rfl, by rw [List.length_append, List.length_append, hat]; rfl, two_le hti, HI, hown6, hbel5⟩
          case measure => simp [intOf]; omega
      · have tc : (Op.bytesLess x.key.toList e.key.toList) = true := hc
        have HI := Lib.hid (HI0.out.ahead HX.out hc)
        clear hc
        go_wp2_with fail
        go_quiet (fail)
        have hbel := below_drewN hbel nq
        have hown := own_drewN hown nq
        have hsz := hbel.size
        have ec : wr.cell? = (wr.drewN nq).cell? := rfl
        rw [ec] at x0 x1 x2 k0 k1 k2
        clear ec
        generalize wr.drewN nq = wq at *
        go_wp2_with (first
          | (with_reducible show wpList _ _ _ (⟨some 44, _, _, _, _, _⟩ :: _) _ _; go_must (refine wpList_newg (.tmp 41) (.tmp 43) el_ent rfl rfl hown rfl rfl rfl rfl rfl hby hsz ?_); intro v5 w5 hown5 hb5 hg5 ha5)
          | (with_reducible show wpList _ _ _ (⟨some 51, _, _, _, _, _⟩ :: _) _ _; go_must (refine wpList_newg (.tmp 45) (.tmp 50) el_ent rfl rfl hown rfl rfl rfl rfl rfl hby hsz ?_); intro v5 w5 hown5 hb5 hg5 ha5)
          | (with_reducible show wpList _ _ _ (⟨some 58, _, _, _, _, _⟩ :: _) _ _; go_must (refine wpList_newg (.tmp 52) (.tmp 57) el_ent rfl rfl hown rfl rfl rfl rfl rfl hby hsz ?_); intro v5 w5 hown5 hb5 hg5 ha5))
        have hbel5 := hbel.trans hb5
        have hown6 : w5.ownsRow w1.heap.size 67 3 v5 (t + 1) (entCells (acc ++ [x])) := by rw [entCells_app2]; exact hown5
        clear hown5
        go_roundw
        case rel => exact ⟨i + 1, t + 1, false, acc ++ [x], Nat.succ_le_of_lt hlt, by go_num, rfl, by rw [List.length_append, hat]; rfl, one_le hti, HI, hown6, hbel5⟩
        case measure => simp [intOf]; omega
    · have HI := Lib.hid (HI0.out.behind HX.out)
      go_wp2_with fail
      go_quiet (fail)
      have hbel := below_drewN hbel nq
      have hown := own_drewN hown nq
      have hsz := hbel.size
      have ec : wr.cell? = (wr.drewN nq).cell? := rfl
      rw [ec] at x0 x1 x2 k0 k1 k2
      clear ec
      generalize wr.drewN nq = wq at *
      go_wp2_with (first
        | (with_reducible show wpList _ _ _ (⟨some 44, _, _, _, _, _⟩ :: _) _ _; go_must (refine wpList_newg (.tmp 41) (.tmp 43) el_ent rfl rfl hown rfl rfl rfl rfl rfl hby hsz ?_); intro v5 w5 hown5 hb5 hg5 ha5)
        | (with_reducible show wpList _ _ _ (⟨some 51, _, _, _, _, _⟩ :: _) _ _; go_must (refine wpList_newg (.tmp 45) (.tmp 50) el_ent rfl rfl hown rfl rfl rfl rfl rfl hby hsz ?_); intro v5 w5 hown5 hb5 hg5 ha5)
        | (with_reducible show wpList _ _ _ (⟨some 58, _, _, _, _, _⟩ :: _) _ _; go_must (refine wpList_newg (.tmp 52) (.tmp 57) el_ent rfl rfl hown rfl rfl rfl rfl rfl hby hsz ?_); intro v5 w5 hown5 hb5 hg5 ha5))
      have hbel5 := hbel.trans hb5
      have hown6 : w5.ownsRow w1.heap.size 67 3 v5 (t + 1) (entCells (acc ++ [x])) := by rw [entCells_app2]; exact hown5
      clear hown5
      go_roundw
      case rel => exact ⟨i + 1, t + 1, true, acc ++ [x], Nat.succ_le_of_lt hlt, by go_num, rfl, by rw [List.length_append, hat]; rfl, one_le hti, HI, hown6, hbel5⟩
      case measure => simp [intOf]; omega
  · obtain rfl : i = n := Nat.le_antisymm hi (Nat.le_of_not_lt hlt)
    rcases dn with _ | _
    · have hF := HI0.out.none_ (Nat.le_of_eq HLN.out)
      have HF := Lib.hid hF
      clear hF
      go_wp2_with (first
        | (with_reducible show wpList _ _ _ (⟨some 64, _, _, _, _, _⟩ :: _) _ _; go_must (refine wpList_newg (.tmp 61) (.tmp 63) el_ent rfl rfl hown rfl rfl rfl rfl rfl hby hsz ?_); intro v4 w4 hown4 hb4 hg4 ha4))
      go_ret
      refine ⟨v4, rfl, ?_, hb0.trans ((hbel.trans hb4).mono hsz0)⟩
      rw [HPE.out, ← HF.out, entCells_app2, List.length_append, hat]
      exact own_base hown4 hsz0
    · have hF := HI0.out.done (Nat.le_of_eq HLN.out)
      have HF := Lib.hid hF
      clear hF
      go_wp2_with fail
      go_ret
      refine ⟨_, rfl, ?_, hb0.trans (hbel.mono hsz0)⟩
      rw [HPE.out, ← HF.out, hat]
      exact own_base hown hsz0
/-- Is a text among the first ones? -/
def strTo (k : ByteArray) (l : List ByteArray) (i : Nat) : Bool := (l.take i).any fun x => decide (x = k)
theorem strs_hit {k : ByteArray} {l : List ByteArray} {i : Nat} (h : l[i]? = some k) : (l.any fun x => decide (x = k)) = true := List.any_eq_true.2 ⟨k, List.mem_of_getElem? h, by simp⟩
theorem strs_miss {k : ByteArray} {l : List ByteArray} (h : ∀ (j : Nat) (x : ByteArray), j < l.length → l[j]? = some x → x ≠ k) : (l.any fun x => decide (x = k)) = false := by
  rw [List.any_eq_false]
  intro x hx
  obtain ⟨j, hj⟩ := List.mem_iff_getElem?.1 hx
  simpa using h j x (List.getElem?_eq_some_iff.1 hj).1 hj
set_option maxRecDepth 100000 in
set_option maxHeartbeats 1000000 in
theorem rhas_any (A : Option Addr) (c B n : Nat) (l : List ByteArray) (k : ByteArray) (w : World) (hr : Rd w B 1 A n (l.map Value.string)) (hln : l.length = n) (hn : n ≤ 1000000) :
    Calls Tryz.prog 62 #[.slice A n c, .string k] w fun r w' => r = .returned (.bool (l.any fun x => decide (x = k))) ∧ w' = w := by
  have HLN := Lib.hid hln
  clear hln
  have HHIT := Lib.hid (fun i (h : l[i]? = some k) => strs_hit h)
  have HMISS := Lib.hid (fun (h : ∀ (j : Nat) (x : ByteArray), j < l.length → l[j]? = some x → x ≠ k) => strs_miss h)
  generalize (l.any fun x => decide (x = k)) = RES at *
  go_enter Tryz.func62, Tryz.ntmps62
  go_wp2_with fail
  go_loopw [5] (fun x wr => ∃ i : Nat, i ≤ n ∧ x = .int .i64 i ∧ Hid (∀ (j : Nat) (x : ByteArray), j < i → l[j]? = some x → x ≠ k) ∧ wr = w) (fun x _ => n - (intOf x).toNat)
  case atStart => exact ⟨0, Nat.zero_le _, rfl, Lib.hid (fun j x hj => by omega), rfl⟩
  obtain ⟨i, hi, rfl, HJ, rfl⟩ := hrel
  by_cases hlt : i < n
  · obtain ⟨ad, u, rfl, hbk, hu, g0⟩ := hr.at_ hlt
    rw [List.getElem?_map] at hu
    obtain ⟨x, hx, rfl⟩ := Option.map_eq_some_iff.1 hu
    have HX := Lib.hid hx
    have hi0 : (0 : Int) ≤ (i : Int) := by omega
    have hi1 : (i : Int) < (n : Int) := by omega
    clear hx hu
    by_cases hk : x = k
    · have HT : Hid (RES = true) := Lib.hid (HHIT.out i (by rw [HX.out, hk]))
      rw [hk] at g0
      clear hk HHIT HMISS
      go_wp2_with fail
      go_ret
      exact ⟨by rw [HT.out]; rfl, rfl⟩
    · have HJ2 : Hid (∀ (j : Nat) (y : ByteArray), j < i + 1 → l[j]? = some y → y ≠ k) := Lib.hid (fun j y hj hy => by
        rcases Nat.lt_or_ge j i with h | h
        · exact HJ.out j y h hy
        · obtain rfl : j = i := by omega
          rw [HX.out] at hy
          injection hy with hy
          exact hy ▸ hk)
      have h3 : (x.toList == k.toList) = false := by rw [beq_eq_false_iff_ne]; exact fun e => hk (bytes_same e)
      clear hk HHIT HMISS
      go_wp2_with fail
      go_roundw
      case rel => exact ⟨i + 1, hlt, by go_num, HJ2, trivial⟩
      case measure => simp [intOf]; omega
  · obtain rfl : i = n := by omega
    have HF : Hid (RES = false) := Lib.hid (HMISS.out fun j x hj => HJ.out j x (by have := HLN.out; omega))
    clear HHIT HMISS
    go_wp2_with fail
    go_ret
    exact ⟨by rw [HF.out]; rfl, rfl⟩
end Go.Proofs.YtcfijljagohmlaaGreatDoor

/- The look-alike of a store, in memory; the walks of (*weirref2.M).Flush, Compact, Put. -/
namespace Go.Proofs.YtcfijljagohmlaaGreatDoor
open Go.RowKit

/-- What the look-alike's steps turn not. -/
def fixR : Obj → Bool
  | .cells _ t _ => !(t == 60) && !(t == 9)
  | _ => true
theorem offT_fixR {t : TypeId} (h : t = 60 ∨ t = 9) : ∀ o, fixR o = true → offT t o = true := by
  intro o ho
  cases o with
  | cells c t' fz =>
    simp only [fixR, Bool.and_eq_true, Bool.not_eq_true', beq_eq_false_iff_ne] at ho
    simp only [offT, Bool.not_eq_true', beq_eq_false_iff_ne]
    rcases h with rfl | rfl
    · exact ho.1
    · exact ho.2
  | _ => rfl
/-- The look-alike at block R, its entries and fresh keys at rows of its own. -/
structure LrIn (w : World) (base R : Nat) (lim : Int) (All : List Ent) (Fr : List ByteArray) (T : Nat) : Prop where
  rb : base ≤ R
  rows : ∃ va vf, Blk w R 60 #[va, vf, .int .i64 T, .int .i64 lim] ∧ w.ownsRow base 67 3 va All.length (entCells All) ∧ w.ownsRow base 9 1 vf Fr.length (Fr.map Value.string)
/-- The look-alike of a store. -/
def LrAt (w : World) (base R : Nat) (lim : Int) (S : Lsm) : Prop := ∃ All Fr T, LrIn w base R lim All Fr T ∧ LsmR S All Fr T
section
variable {w w' : World} {base R : Nat} {lim : Int} {All : List Ent} {Fr : List ByteArray} {T : Nat} {S : Lsm}
theorem LrIn.up (h : LrIn w base R lim All Fr T) (hb : Below w.heap.size w w') : LrIn w' base R lim All Fr T := by
  obtain ⟨va, vf, h1, h2, h3⟩ := h.rows
  exact ⟨h.rb, va, vf, h1.up hb, own_up h2 hb, own_up h3 hb⟩
theorem LrIn.keep {f : Obj → Bool} (h : LrIn w base R lim All Fr T) (hk : KeepF f w w') (h1 : ∀ cs, f (.cells cs 60 (0, 0)) = true) (h2 : ∀ cs, f (.cells cs 67 (0, 0)) = true) (h3 : ∀ cs, f (.cells cs 9 (0, 0)) = true) : LrIn w' base R lim All Fr T := by
  obtain ⟨va, vf, k1, k2, k3⟩ := h.rows
  exact ⟨h.rb, va, vf, hk.blk k1 (h1 _), hk.own k2 h2, hk.own k3 h3⟩
theorem LrAt.up (h : LrAt w base R lim S) (hb : Below w.heap.size w w') : LrAt w' base R lim S := by
  obtain ⟨All, Fr, T, h1, h2⟩ := h
  exact ⟨All, Fr, T, h1.up hb, h2⟩
theorem LrAt.fixL (h : LrAt w base R lim S) (hk : KeepF fixL w w') : LrAt w' base R lim S := by
  obtain ⟨All, Fr, T, h1, h2⟩ := h
  exact ⟨All, Fr, T, h1.keep hk (fun _ => rfl) (fun _ => rfl) (fun _ => rfl), h2⟩
theorem LsmIn.fixR {g M : Nat} (h : LsmIn w base g M lim S) (hk : KeepF fixR w w') : LsmIn w' base g M lim S :=
  h.keep hk (fun _ => rfl) (fun _ => rfl) (fun _ => rfl) (fun _ => rfl) (fun _ => rfl) (fun _ _ => rfl)
theorem LrIn.ltR (h : LrIn w base R lim All Fr T) : R < w.heap.size := by obtain ⟨va, vf, h1, _⟩ := h.rows; exact h1.lt
end
theorem blkM {w : World} {g : Nat} {t : TypeId} {a b c d : Value} (h : Blk w g t #[a, b, c, d]) : w.cell? ⟨g, 0, none⟩ = some a ∧ w.cell? ⟨g, 1, none⟩ = some b ∧ w.cell? ⟨g, 2, none⟩ = some c ∧ w.cell? ⟨g, 3, none⟩ = some d :=
  ⟨by have := h.cell 0; simpa using this, by have := h.cell 1; simpa using this, by have := h.cell 2; simpa using this, by have := h.cell 3; simpa using this⟩
set_option maxRecDepth 100000 in
set_option maxHeartbeats 1000000 in
theorem mflush_any (base R : Nat) (lim : Int) (S : Lsm) (w : World) (h : LrAt w base R lim S) (hT : S.LS.length ≤ 200000) :
    Calls Tryz.prog 28 #[.pointer (some ⟨R, 0, none⟩)] w fun e w' => e = .returned (.tuple #[]) ∧ LrAt w' base R lim (lsmFlush S) ∧ Below base w w' ∧ KeepF fixR w w' := by
  obtain ⟨All, Fr, T, hin, hlr⟩ := h
  obtain ⟨va, vf, hblk, ha, hf⟩ := hin.rows
  have hrb := hin.rb
  have HLR := Lib.hid hlr.flush
  have hT2 : T ≤ 200000 := by rw [hlr.tabs]; exact hT
  obtain ⟨fn, hfn⟩ : ∃ fn, fn = Fr.length := ⟨_, rfl⟩
  have HA := Lib.hid ha
  have HF := Lib.hid hf
  have HFN := Lib.hid hfn
  rw [← hfn] at hf HLR
  obtain ⟨Af, cf, rfl, _⟩ := own_form hf
  obtain ⟨c0, c1, c2, c3⟩ := blkM hblk
  have f1 := hblk.frozen 1
  have f2 := hblk.frozen 2
  have hlt := hblk.lt
  clear hfn ha hf hin hlr
  have hT0 : (0 : Int) ≤ (T : Int) := by omega
  have hTx : IntKind.i64.wrap ((T : Int) + 1) = (T : Int) + 1 := IntWalk.i64_in _ (by omega)
  go_enter Tryz.func28, Tryz.ntmps28
  have hend : ∀ (W : World) (t : Nat), Blk W R 60 #[va, .slice Af fn cf, .int .i64 t, .int .i64 lim] → KeepF (offT 60) w W → t = (if 0 < fn then T + 1 else T) → Below base w W → LrAt (W.setCell ⟨R, 1, none⟩ (.slice none 0 0)) base R lim (lsmFlush S) ∧ Below base w (W.setCell ⟨R, 1, none⟩ (.slice none 0 0)) ∧ KeepF fixR w (W.setCell ⟨R, 1, none⟩ (.slice none 0 0)) := by
    intro W t hW hk ht hb
    have hk2 := hk.trans (keepT_set hW 1 (.slice none 0 0))
    refine ⟨⟨All, [], t, ⟨hrb, va, .slice none 0 0, ?_, hk2.own HA.out (fun _ => rfl), World.ownsRow_nil _ _ _ _⟩, ?_⟩, hb.setCell hrb _, hk2.mono (offT_fixR (.inl rfl))⟩
    · have := hW.set_ 1 (.slice none 0 0)
      simpa using this
    · rw [ht]; exact HLR.out
  have HEND := Lib.hid hend
  clear hend
  by_cases h0 : 0 < fn
  · have h0i : (0 : Int) < (fn : Int) := by omega
    have hst := hblk.set_ 2 (.int .i64 ((T : Int) + 1))
    have HB2 : Hid (Blk (w.setCell ⟨R, 2, none⟩ (.int .i64 ((T : Int) + 1))) R 60 #[va, .slice Af fn cf, .int .i64 ((T : Int) + 1), .int .i64 lim]) := Lib.hid (by simpa using hst)
    have HK2 := Lib.hid (keepT_set hblk 2 (.int .i64 ((T : Int) + 1)))
    have HI : Hid (T + 1 = if 0 < fn then T + 1 else T) := Lib.hid (by rw [if_pos h0])
    have hbl2 := (Below.refl base w).setCell (p := ⟨R, 2, none⟩) hrb (.int .i64 ((T : Int) + 1))
    clear hst h0
    go_upto_region 2 with fail
    generalize w.setCell ⟨R, 2, none⟩ (.int .i64 ((T : Int) + 1)) = w2 at *
    have f1' := HB2.out.frozen 1
    obtain ⟨d0, d1, d2, d3⟩ := blkM HB2.out
    go_wp2_with fail
    go_end0
    exact ⟨rfl, HEND.out _ (T + 1) HB2.out HK2.out HI.out hbl2⟩
  · have h0i : ¬ (0 : Int) < (fn : Int) := by omega
    have HI : Hid (T = if 0 < fn then T + 1 else T) := Lib.hid (by rw [if_neg h0])
    have HB2 := Lib.hid hblk
    clear h0
    go_wp2_with fail
    go_end0
    exact ⟨rfl, HEND.out _ _ HB2.out (KeepF.refl _ _) HI.out (Below.refl _ _)⟩
set_option maxRecDepth 100000 in
set_option maxHeartbeats 1000000 in
theorem mcompact_any (base R : Nat) (lim : Int) (S : Lsm) (w : World) (h : LrAt w base R lim S) (hok : LsmOk S) (hbw : base ≤ w.heap.size) :
    Calls Tryz.prog 30 #[.pointer (some ⟨R, 0, none⟩)] w fun e w' => e = .returned (.tuple #[]) ∧ LrAt w' base R lim (lsmCompact S) ∧ Below base w w' ∧ KeepF fixR w w' := by
  obtain ⟨All, Fr, T, hin, hlr⟩ := h
  obtain ⟨va, vf, hblk, ha, hf⟩ := hin.rows
  have hrb := hin.rb
  have HLR : Hid (LsmR (lsmCompact S) (liveE All) [] (if 0 < (liveE All).length then 1 else 0)) := Lib.hid hlr.compact
  have hfew : All.length ≤ 400 := by rw [hlr.all_]; exact hok.few
  obtain ⟨n, hn⟩ : ∃ n, n = All.length := ⟨_, rfl⟩
  rw [← hn] at ha hfew
  obtain ⟨A, c, rfl, _, _, _, hr⟩ := own_form ha
  have hcl := rlive_any A c w.heap.size n All w hr hn.symm (Nat.le_refl _) (by omega)
  obtain ⟨m, hm⟩ : ∃ m, m = (liveE All).length := ⟨_, rfl⟩
  rw [← hm] at hcl HLR
  have HM := Lib.hid hm
  obtain ⟨x0, x1, x2, x3⟩ := blkM hblk
  have hlt := hblk.lt
  clear hn hm ha hf hin hlr hr
  go_enter Tryz.func30, Tryz.ntmps30
  go_upto_region 1 with (go_at_call 31; go_must (refine hcl.mono ?_); rintro e w1 ⟨v1, rfl, own1, hb1⟩; obtain ⟨A1, c1, rfl, _, _, _, _⟩ := own_form own1; have hbl1 := hblk.up hb1; have e0 := (blkM hbl1).1; have g0 := hbl1.frozen 0)
  obtain ⟨v1, hv1⟩ : ∃ v, v = Value.slice A1 m c1 := ⟨_, rfl⟩
  rw [← hv1] at own1 ⊢
  have hs1 := hbl1.set_ 0 v1
  have hB1 : Blk (w1.setCell ⟨R, 0, none⟩ v1) R 60 #[v1, vf, .int .i64 T, .int .i64 lim] := by simpa using hs1
  have hK1 := keepT_set hbl1 0 v1
  have hown := hK1.own (own_base own1 hbw) (fun _ => rfl)
  have hKF : KeepF fixR w (w1.setCell ⟨R, 0, none⟩ v1) := (keepF_below hb1).trans (hK1.mono (offT_fixR (.inl rfl)))
  have hbel := (hb1.mono hbw).setCell (p := ⟨R, 0, none⟩) hrb v1
  clear hs1 hbl1 e0 g0 own1 hb1 hK1 x0 x1 x2 x3 hlt hblk hcl hv1
  generalize w1.setCell ⟨R, 0, none⟩ v1 = w2 at *
  obtain ⟨d0, d1, d2, d3⟩ := blkM hB1
  have f1 := hB1.frozen 1
  have hs2 := hB1.set_ 1 (.slice none 0 0)
  have hB2 : Blk (w2.setCell ⟨R, 1, none⟩ (.slice none 0 0)) R 60 #[v1, .slice none 0 0, .int .i64 T, .int .i64 lim] := by simpa using hs2
  have hK2 := keepT_set hB1 1 (.slice none 0 0)
  have hown2 := hK2.own hown (fun _ => rfl)
  have hKF2 := hKF.trans (hK2.mono (offT_fixR (.inl rfl)))
  have hbel2 := hbel.setCell (p := ⟨R, 1, none⟩) hrb (.slice none 0 0)
  clear hs2 hB1 hown hK2 hKF hbel d0
  go_upto_region 2 with fail
  generalize w2.setCell ⟨R, 1, none⟩ (.slice none 0 0) = w3 at *
  clear d1 d2 d3 f1
  obtain ⟨A2, c2, rfl, _⟩ := own_form hown2
  obtain ⟨d0, d1, d2, d3⟩ := blkM hB2
  have f2 := hB2.frozen 2
  have hs3 := hB2.set_ 2 (.int .i64 0)
  have hB3 : Blk (w3.setCell ⟨R, 2, none⟩ (.int .i64 0)) R 60 #[.slice A2 m c2, .slice none 0 0, .int .i64 0, .int .i64 lim] := by simpa using hs3
  have hK3 := keepT_set hB2 2 (.int .i64 0)
  have hown3 := hK3.own hown2 (fun _ => rfl)
  have hKF3 := hKF2.trans (hK3.mono (offT_fixR (.inl rfl)))
  have hbel3 := hbel2.setCell (p := ⟨R, 2, none⟩) hrb (.int .i64 0)
  clear hs3 hB2 hown2 hK3 hKF2 hbel2
  go_upto_region 3 with fail
  generalize w3.setCell ⟨R, 2, none⟩ (.int .i64 0) = w4 at *
  clear d0 d1 d2 d3 f2
  obtain ⟨d0, d1, d2, d3⟩ := blkM hB3
  have f2 := hB3.frozen 2
  rw [HM.out] at hown3
  by_cases h0 : 0 < m
  · have h0i : (0 : Int) < (m : Int) := by omega
    have hs5 := hB3.set_ 2 (.int .i64 1)
    have HB5 : Hid (Blk (w4.setCell ⟨R, 2, none⟩ (.int .i64 1)) R 60 #[.slice A2 m c2, .slice none 0 0, .int .i64 1, .int .i64 lim]) := Lib.hid (by simpa using hs5)
    have hK5 := keepT_set hB3 2 (.int .i64 1)
    have HL := HLR.out
    rw [if_pos h0] at HL
    have HLL := Lib.hid HL
    have HOWN := Lib.hid hown3
    clear hs5 h0 HL hown3
    go_wp2_with fail
    go_end0
    refine ⟨rfl, ⟨liveE All, [], 1, ⟨hrb, _, _, HB5.out, ?_, World.ownsRow_nil _ _ _ _⟩, HLL.out⟩, hbel3.setCell hrb _, hKF3.trans (hK5.mono (offT_fixR (.inl rfl)))⟩
    have h6 := hK5.own HOWN.out (fun _ => rfl)
    rw [← HM.out] at h6 ⊢
    exact h6
  · have h0i : ¬ (0 : Int) < (m : Int) := by omega
    have HL := HLR.out
    rw [if_neg h0] at HL
    have HLL := Lib.hid HL
    have HOWN := Lib.hid hown3
    have HB5 := Lib.hid hB3
    clear h0 HL hown3 hB3
    go_wp2_with fail
    go_end0
    refine ⟨rfl, ⟨liveE All, [], 0, ⟨hrb, _, _, HB5.out, ?_, World.ownsRow_nil _ _ _ _⟩, HLL.out⟩, hbel3, hKF3⟩
    have h6 := HOWN.out
    rw [← HM.out] at h6 ⊢
    exact h6

theorem el_strR : Elt Tryz.prog 58 9 (.string ByteArray.empty) 1 16 := ⟨Tryz.underlying58, by kernel_rfl, rfl, by omega, by omega⟩
/-- A call of a Go function with three arguments, as one step of a region that draws its order. -/
theorem step_call3 {P : Program} {ops : Array Oper} {o : Oper} {a : Act} {w : World} {K : Act → World → Prop} {Q : Exit → Act → World → Prop} {E : Prop} (hg : o.guard = none) (f : FuncId) (x y z : Operand) (t1 t2 t3 : TypeId)
    (hop : o.op = .call { callee := .value (.func f), args := #[x, y, z], argTypes := #[t1, t2, t3] }) (u v s : Value) (hx : a.eval x = u) (hy : a.eval y = v) (hz : a.eval z = s) (eg : ∀ args w, (callFunc f args).run P w = .ok (.enter f args) w) {R : Value → World → Prop}
    (hc : Calls P f #[u, v, s] w fun e w' => ∃ v, e = .returned v ∧ R v w') (hK : ∀ v w', R v w' → K (a.put o.dst v) w') : if Region.wanted o (yielded ops a.tmps) = true then Oper.wp P o a w K Q else E := by
  have hw : Region.wanted o (yielded ops a.tmps) = true := by simp [Region.wanted, hg]
  rw [if_pos hw]
  have hrun : (execOp a.eval o).run P w = .ok (.enter f #[u, v, s]) w := by
    have hf : a.eval (.func f) = .func (.func f) #[] #[] := rfl
    simp [execOp, hop, resolve, invoke, hx, hy, hz, hf, Deferred.ofValue, eg]
  unfold Oper.wp
  rw [hrun, Oper.upon_enter]
  refine hc.mono ?_
  rintro e w' ⟨v, rfl, h⟩
  exact hK v w' h
theorem step_newD {P : Program} {ops : Array Oper} {o : Oper} {a : Act} {K : Act → World → Prop} {Q : Exit → Act → World → Prop} {F : Prop} {w : World} (s x : Operand) {t e : TypeId} {z : Value} {size bytes : Nat} (E : Elt P t e z size bytes)
    (hgd : o.guard = none) (ho : o.op = .call { callee := .builtin .append, args := #[s, x], argTypes := #[t, t] })
    {base : Nat} {v : Value} {n : Nat} {xs : List Value} (hown : w.drew.ownsRow base e size v n xs) (hs : a.eval s = v)
    {g m c : Nat} {cs : Array Value} (hx : a.eval x = .slice (some ⟨g, 0, none⟩) m c) (hg : w.drew.heap.size = g) (hl : cs.size = m * size) (h1 : cs.toList.all Value.oneCell' = true)
    (hbytes : (n + m) * bytes ≤ 140737488355328) (hbase : base ≤ w.drew.heap.size)
    (h : ∀ v' w', w'.ownsRow base e size v' (n + m) (xs ++ cs.toList) → Below base w.drew w' → w.drew.grownBy w' v.ownBlock → (v'.ownBlock = v.ownBlock ∨ v'.ownBlock = some (w.drew.heap.size + 1)) → K (a.put o.dst v') w') :
    if Region.wanted o (yielded ops a.tmps) = true then Oper.wp P o a (w.alloc (.cells cs e)).drew K Q else F := by
  have e1 : (w.alloc (.cells cs e)).drew = w.drew.alloc (.cells cs e) := rfl
  rw [e1]
  exact step_newg s x E hgd ho hown hs hx hg hl h1 hbytes hbase h
theorem lsmPut_flush {lim : Int} {S : Lsm} {e : Ent} {n : Nat} (h0 : lsmPutE S e = 0) (hn : n = (lsmSet S e).F.length) (hl : lim ≤ (n : Int)) : lsmPut lim S e = lsmFlush (lsmSet S e) := by
  rw [lsmPut, if_pos h0, if_pos (by rw [← hn]; exact hl)]
theorem lsmPut_set {lim : Int} {S : Lsm} {e : Ent} {n : Nat} (h0 : lsmPutE S e = 0) (hn : n = (lsmSet S e).F.length) (hl : ¬ lim ≤ (n : Int)) : lsmPut lim S e = lsmSet S e := by
  rw [lsmPut, if_pos h0, if_neg (by rw [← hn]; exact hl)]
set_option maxRecDepth 100000 in
set_option maxHeartbeats 4000000 in
theorem mput_any (base R : Nat) (lim : Int) (S : Lsm) (e : Ent) (w : World) (h : LrAt w base R lim S) (hok : LsmOk S) (hT : S.LS.length ≤ 199999) (hbw : base ≤ w.heap.size) :
    Calls Tryz.prog 25 #[.pointer (some ⟨R, 0, none⟩), e.val] w fun r w' => r = .returned (.int .i64 (lsmPutE S e)) ∧ LrAt w' base R lim (lsmPut lim S e) ∧ Below base w w' ∧ KeepF fixR w w' := by
  obtain ⟨All, Fr, T, hin, hlr⟩ := h
  have hfew : All.length ≤ 400 := by rw [hlr.all_]; exact hok.few
  have hffew : Fr.length ≤ 400 := by rw [hlr.len]; exact hok.few_fresh
  have HE : Hid (lsmPutE S e = if 120 < e.key.size ∨ 120 < e.value.size then 1 else if entOf All e.key = none ∧ 400 ≤ All.length then 4 else 0) := Lib.hid (by rw [hlr.all_]; rfl)
  have HPS : Hid (lsmPutE S e ≠ 0 → lsmPut lim S e = S) := Lib.hid (fun h => by rw [lsmPut, if_neg h])
  have HSET := Lib.hid (hlr.set hok e)
  have HLR := Lib.hid hlr
  have hrb := hin.rb
  have hbx := Blk.new w 67 #[.string e.key, .string e.value, .bool e.dead]
  have hb0 := (Below.refl w.heap.size w).alloc (Nat.le_refl _) (.cells #[.string e.key, .string e.value, .bool e.dead] 67)
  have HIN0 := Lib.hid (hin.up hb0)
  unfold Ent.val
  clear hlr
  go_enter Tryz.func25, Tryz.ntmps25
  by_cases hk : 120 < e.key.size ∨ 120 < e.value.size
  · have HE1 : Hid (lsmPutE S e = 1) := Lib.hid (by rw [HE.out, if_pos hk])
    have HP1 : Hid (lsmPut lim S e = S) := Lib.hid (HPS.out (by rw [HE1.out]; decide))
    clear hin
    by_cases h1 : 120 < e.key.size
    · have h1i : (120 : Int) < (e.key.size : Int) := by omega
      clear hk h1 hbx
      go_wp2_with fail
      go_ret
      rw [HE1.out, HP1.out]
      exact ⟨rfl, ⟨_, _, _, HIN0.out, HLR.out⟩, hb0.mono hbw, keepF_below hb0⟩
    · have h1i : ¬ (120 : Int) < (e.key.size : Int) := by omega
      have h2i : (120 : Int) < (e.value.size : Int) := by omega
      clear hk h1 hbx
      go_wp2_with fail
      go_ret
      rw [HE1.out, HP1.out]
      exact ⟨rfl, ⟨_, _, _, HIN0.out, HLR.out⟩, hb0.mono hbw, keepF_below hb0⟩
  · have h1i : ¬ (120 : Int) < (e.key.size : Int) := by omega
    have h2i : ¬ (120 : Int) < (e.value.size : Int) := by omega
    obtain ⟨va, vf, hblk, ha, hf⟩ := hin.rows
    obtain ⟨n, hn⟩ : ∃ n, n = All.length := ⟨_, rfl⟩
    rw [← hn] at ha hfew
    obtain ⟨A, c, rfl, _, _, hAb, hr⟩ := own_form ha
    have HN := Lib.hid hn
    obtain ⟨gx, hgx⟩ : ∃ gx, gx = w.heap.size := ⟨_, rfl⟩
    have hRl := hblk.lt
    have HE2 : Hid (lsmPutE S e = if entOf All e.key = none ∧ 400 ≤ n then 4 else 0) := Lib.hid (by rw [HE.out, if_neg hk, HN.out])
    have HK1 := Lib.hid (fun (i : Nat) (x : Ent) (h : All[i]? = some x) => keyTo_next (k := e.key) h)
    have HK0 : Hid (keyTo e.key All 0 = false) := Lib.hid (keyTo_zero _ _)
    have HKA : Hid (keyTo e.key All n = (entOf All e.key).isSome) := Lib.hid (by rw [HN.out]; exact keyTo_all)
    clear hk hn ha hin
    go_upto_region 5 with fail
    rw [← hgx] at hbx ⊢
    have HB0 := Lib.hid hb0
    have hsz0 := hb0.size
    have hbw0 := Nat.le_trans hbw hsz0
    have hbl0 := hblk.up hb0
    have hr0 := hr.below hb0 (Nat.le_refl _)
    have hgxl := hbx.lt
    have HGX := Lib.hid hgx
    clear hgx hblk hb0
    generalize w.alloc (.cells #[.string e.key, .string e.value, .bool e.dead] 67) = w1 at *
    have hRl1 := hbl0.lt
    go_loopw [5, 6] (fun d x wr => ∃ (i : Nat) (b : Bool), i ≤ n ∧ x = .int .i64 i ∧ d = .bool b ∧ Hid (b = keyTo e.key All i) ∧ Below w1.heap.size w1 wr) (fun _ x _ => n - (intOf x).toNat)
    case atStart => exact ⟨0, false, Nat.zero_le _, rfl, rfl, Lib.hid HK0.out.symm, Below.refl _ _⟩
    obtain ⟨i, b, hi, rfl, rfl, HB, hbel⟩ := hrel
    have hblr := hbl0.up hbel
    obtain ⟨d0, d1, d2, d3⟩ := blkM hblr
    obtain ⟨k0, k1, k2⟩ := cells3 (hbx.up hbel)
    by_cases hlt : i < n
    · obtain ⟨ad, x, rfl, hpb, hx, x0, x1, x2⟩ := hr0.ent_ hlt HN.out.symm hbel hsz0
      have hi0 : (0 : Int) ≤ (i : Int) := by omega
      have hi1 : (i : Int) < (n : Int) := by omega
      have HX := Lib.hid hx
      clear hx hpb hblr
      rcases b with _ | _
      · by_cases hke : x.key = e.key
        · have HB2 : Hid (true = keyTo e.key All (i + 1)) := Lib.hid (by rw [HK1.out i x HX.out, ← HB.out, hke]; simp)
          rw [hke] at x0
          clear hke
          go_wp2_with fail
          go_quiet (fail)
          go_wp2_with fail
          go_roundw
          case rel => exact ⟨i + 1, true, hlt, by go_num, rfl, HB2, below_drewN hbel _⟩
          case measure => simp [intOf]; omega
        · have HB2 : Hid (false = keyTo e.key All (i + 1)) := Lib.hid (by rw [HK1.out i x HX.out, ← HB.out]; simp [hke])
          have h3 : (x.key.toList == e.key.toList) = false := by rw [beq_eq_false_iff_ne]; exact fun e => hke (bytes_same e)
          clear hke
          go_wp2_with fail
          go_quiet (fail)
          go_wp2_with fail
          go_roundw
          case rel => exact ⟨i + 1, false, hlt, by go_num, rfl, HB2, below_drewN hbel _⟩
          case measure => simp [intOf]; omega
      · have HB2 : Hid (true = keyTo e.key All (i + 1)) := Lib.hid (by rw [HK1.out i x HX.out, ← HB.out]; rfl)
        go_wp2_with fail
        go_quiet (fail)
        go_wp2_with fail
        go_roundw
        case rel => exact ⟨i + 1, true, hlt, by go_num, rfl, HB2, below_drewN hbel _⟩
        case measure => simp [intOf]; omega
    · obtain rfl : i = n := by omega
      have HBT : Hid (b = (entOf All e.key).isSome) := Lib.hid (by rw [HB.out, HKA.out])
      by_cases hfull : b = false ∧ 400 ≤ i
      · obtain ⟨rfl, h400⟩ := hfull
        have hnone : entOf All e.key = none := by simpa using HBT.out.symm
        have HE4 : Hid (lsmPutE S e = 4) := Lib.hid (by rw [HE2.out, if_pos ⟨hnone, h400⟩])
        clear hnone
        have HP4 : Hid (lsmPut lim S e = S) := Lib.hid (HPS.out (by rw [HE4.out]; decide))
        have h4i : (400 : Int) ≤ (i : Int) := by omega
        clear hblr h400
        go_wp2_with fail
        go_ret
        rw [HE4.out, HP4.out]
        have hbb := below_up HB0.out hbel
        exact ⟨rfl, ⟨_, _, _, HIN0.out.up hbel, HLR.out⟩, hbb.mono hbw, keepF_below hbb⟩
      · have HE0 : Hid (lsmPutE S e = 0) := Lib.hid (by
          rw [HE2.out, if_neg]
          rintro ⟨h1, h2⟩
          refine hfull ⟨?_, h2⟩
          rw [HBT.out, h1]; rfl)
        go_upto_region 8 with fail
        go_cut [50] from 18 to 50 (fun s wx => s = .bool false ∧ wx = wr)
        case first =>
          rcases b with _ | _
          · have h4i : ¬ (400 : Int) ≤ (i : Int) := by
              have : ¬ 400 ≤ i := fun h => hfull ⟨rfl, h⟩
              omega
            clear hfull
            go_wp2_with fail
            go_meet
            exact ⟨rfl, rfl⟩
          · clear hfull
            go_wp2_with fail
            go_meet
            exact ⟨rfl, rfl⟩
        case rest =>
          obtain ⟨rfl, rfl⟩ := hcut
          clear hfull
          go_upto_region 10 with fail
          obtain ⟨mm, hmm⟩ : ∃ m, m = (entSet e All).length := ⟨_, rfl⟩
          have HMM := Lib.hid hmm
          have hbld : Blk wc.drew R 60 #[.slice A i c, vf, .int .i64 T, .int .i64 lim] := hblr
          have hcl := rset_any A c w.heap.size i All e wc.drew (hr0.below hbel.drew hsz0) HN.out.symm (Nat.le_trans hsz0 hbel.drew.size) (by omega)
          unfold Ent.val at hcl
          rw [← hmm] at hcl
          clear hmm
          go_cut [] from 51 to 59 (fun wx => LrIn wx base R lim (entSet e All) Fr T ∧ Blk wx gx 67 #[.string e.key, .string e.value, .bool e.dead] ∧ Below base w wx ∧ KeepF fixR w wx)
          case first =>
            go_region_law
              ((first
                | (with_reducible show (if Region.wanted (⟨some 57, _, _, _, _, _⟩ : Oper) _ = true then _ else _); go_must (refine step_call3 rfl 61 (.tmp 55) (.tmp 56) (.const (.bool true)) 57 67 4 rfl (.slice A i c) (.agg #[.string e.key, .string e.value, .bool e.dead]) (.bool true) rfl rfl rfl (fun _ _ => by kernel_rfl) hcl ?_; rintro v2 w2 ⟨own2, hb2⟩; obtain ⟨A2, c2, rfl, _, _, _, _⟩ := own_form own2; have hbl2 := hbld.up hb2; have e4 := (blkM hbl2).1; have f4 := hbl2.frozen 0))))
            all_goals
              go_wp2_with fail
              go_meet
              have hb12 : Below w1.heap.size w1 w2 := hbel.drew.trans (hb2.mono hbel.drew.size)
              have hbw2 : Below w.heap.size w w2 := below_up HB0.out hb12
              have hK := keepT_set hbl2 0 (.slice A2 mm c2)
              refine ⟨⟨hrb, .slice A2 mm c2, vf, ?_, ?_, ?_⟩, ?_, (hbw2.mono hbw).setCell hrb _, (keepF_below hbw2).trans (hK.mono (offT_fixR (.inl rfl)))⟩
              · have := hbl2.set_ 0 (.slice A2 mm c2)
                simpa using this
              · have := hK.own (own_base own2 (Nat.le_trans hbw0 hbel.drew.size)) (fun _ => rfl)
                rw [HMM.out] at this ⊢
                exact this
              · exact hK.own (own_up hf hbw2) (fun _ => rfl)
              · exact hK.blk (hbx.up hb12) rfl
          case rest =>
            obtain ⟨hl6, hbx6, hbb6, hkf6⟩ := hcut
            rename World => w6
            clear hcl hbld hblr d0 d1 d2 d3 k0 k1 k2 hbel hi hlt hr hr0 hbl0 hbx hf HIN0 HK0 HK1 HKA HE HE2 HB HBT HPS
            obtain ⟨va6, vf6, hbl6, ha6, hf6⟩ := hl6.rows
            obtain ⟨d0, d1, d2, d3⟩ := blkM hbl6
            obtain ⟨k0, k1, k2⟩ := cells3 hbx6
            obtain ⟨fn, hfn⟩ : ∃ n, n = Fr.length := ⟨_, rfl⟩
            rw [← hfn] at hf6 hffew
            have HFN := Lib.hid hfn
            obtain ⟨Af, cf, rfl, _, _, hAf, hrf⟩ := own_form hf6
            have hhas := fun W (hr : Rd W w6.heap.size 1 Af fn (Fr.map Value.string)) => rhas_any Af cf w6.heap.size fn Fr e.key W hr hfn.symm (by omega)
            obtain ⟨fb, hfb⟩ : ∃ b, b = Fr.any fun x => decide (x = e.key) := ⟨_, rfl⟩
            rw [← hfb] at hhas
            have HFB := Lib.hid hfb
            have HL6 := Lib.hid hl6
            generalize hfs : Fr.map Value.string = fs at hrf hhas
            clear hfn hfb hl6 hAf ha6 hf6 hfs
            go_upto_region 11 with fail
            go_quiet (first
              | (go_at_call 62; refine Calls.quiet_of_same (hhas _ ?_); exact hrf))
            have hbq := below_drewN (Below.refl w6.heap.size w6) nq
            have HL7 := Lib.hid (HL6.out.up hbq)
            have hbx7 := hbx6.up hbq
            have hbb7 := below_drewN hbb6 nq
            have hkf7 := hkf6.drewN nq
            clear hbq HL6 hbx6 hbb6 hkf6 hbl6 d0 d1 d2 d3 k0 k1 k2 hrf hhas
            generalize w6.drewN nq = w7 at *
            have hbw7 := hbb7.size
            obtain ⟨va7, vf7, hbl7, ha7, hf7⟩ := HL7.out.rows
            obtain ⟨d0, d1, d2, d3⟩ := blkM hbl7
            obtain ⟨k0, k1, k2⟩ := cells3 hbx7
            have HA7 := Lib.hid ha7
            have HF7 := Lib.hid hf7
            rw [← HFN.out] at hf7
            obtain ⟨A7, c7, rfl, _, _, _, _⟩ := own_form hf7
            go_upto_if 68 with fail
            go_cut [] from 69 to 79 (fun wx => LrIn wx base R lim (entSet e All) (frPut Fr e.key) T ∧ Below base w wx ∧ KeepF fixR w wx)
            case first =>
              rcases fb with _ | _
              · have HFP : Hid (frPut Fr e.key = Fr ++ [e.key]) := Lib.hid (by rw [frPut, if_neg (by rw [← HFB.out]; simp)])
                have hby : (fn + 1) * 16 ≤ 140737488355328 := by omega
                have hf7d := own_drew hf7
                have hbl7d : Blk w7.drew R 60 #[va7, .slice A7 fn c7, .int .i64 T, .int .i64 lim] := hbl7
                have hbw7d : base ≤ w7.drew.heap.size := Nat.le_trans hbw hbw7
                have d1a := (World.cell?_alloc_lt w7 (.cells #[.string e.key] 9) ⟨R, 1, none⟩ hbl7.lt).trans d1
                go_upto_region 13 with fail
                go_region_law
                  ((first
                    | (with_reducible show (if Region.wanted (⟨some 77, _, _, _, _, _⟩ : Oper) _ = true then _ else _); go_must (first | refine step_newD (.tmp 73) (.tmp 76) el_strR rfl rfl hf7d rfl rfl rfl rfl rfl hby hbw7d ?_ | refine step_newg (.tmp 73) (.tmp 76) el_strR rfl rfl hf7d rfl rfl rfl rfl rfl hby hbw7d ?_); intro v8 w8 hown8 hb8 hg8 ha8; obtain ⟨A8, c8, rfl, _, _, _, _⟩ := own_form hown8; have hK8 := keepT_grown hf7d hg8; have hbl8 := hK8.blk hbl7d rfl; have e4 := (blkM hbl8).2.1; have f4 := hbl8.frozen 1)))
                all_goals
                  go_wp2_with fail
                  go_meet
                  have hb78 : Below base w7 w8 := Below.drew (Below.refl _ _) |>.trans hb8
                  have hK9 := keepT_set hbl8 1 (.slice A8 (fn + 1) c8)
                  refine ⟨⟨hrb, va7, .slice A8 (fn + 1) c8, ?_, ?_, ?_⟩, ((hbb7.trans hb78)).setCell hrb _, (hkf7.trans ((KeepF.refl _ w7).drew.trans (hK8.mono (offT_fixR (.inr rfl))))).trans (hK9.mono (offT_fixR (.inl rfl)))⟩
                  · have := hbl8.set_ 1 (.slice A8 (fn + 1) c8)
                    simpa using this
                  · exact hK9.own (hK8.own (own_drew HA7.out) (fun _ => rfl)) (fun _ => rfl)
                  · have h9 := hK9.own hown8 (fun _ => rfl)
                    rw [HFP.out, List.length_append, List.map_append]
                    rw [HFN.out] at h9 ⊢
                    exact h9
              · have HFP : Hid (frPut Fr e.key = Fr) := Lib.hid (by rw [frPut, if_pos HFB.out.symm])
                go_wp2_with fail
                go_meet
                rw [HFP.out]
                exact ⟨HL7.out, hbb7, hkf7⟩
            case rest =>
              obtain ⟨hl8, hbb8, hkf8⟩ := hcut
              rename World => w8
              clear hbl7 ha7 hf7 d0 d1 d2 d3 k0 k1 k2 hbx7 hbb7 hkf7 hbw7 HL7 HA7 HF7
              obtain ⟨fm, hfm⟩ : ∃ n, n = (frPut Fr e.key).length := ⟨_, rfl⟩
              obtain ⟨va8, vf8, hbl8, ha8, hf8⟩ := hl8.rows
              rw [← hfm] at hf8
              have HL8 := Lib.hid hl8
              obtain ⟨d0, d1, d2, d3⟩ := blkM hbl8
              obtain ⟨A8, c8, rfl, _, _, _, _⟩ := own_form hf8
              have HFL : Hid (fm = (lsmSet S e).F.length) := Lib.hid (hfm.trans HSET.out.len)
              have hT9 : (lsmSet S e).LS.length ≤ 200000 := by show S.LS.length ≤ 200000; omega
              have HMF := Lib.hid (fun W (h : LrAt W base R lim (lsmSet S e)) => mflush_any base R lim (lsmSet S e) W h hT9)
              clear hT9 hfm hf8 ha8 hl8 hbl8
              by_cases hlf : lim ≤ (fm : Int)
              · have HPU := Lib.hid (lsmPut_flush HE0.out HFL.out hlf)
                go_wp2_with fail
                go_quiet (fail)
                have hLA := LrAt.up (w' := w8.drewN nq) ⟨_, _, _, HL8.out, HSET.out⟩ (below_drewN (Below.refl _ _) _)
                have hmf := HMF.out _ hLA
                have hbb9 := below_drewN hbb8 nq
                have hkf9 := hkf8.drewN nq
                clear hLA d0 d1 d2 d3
                generalize w8.drewN nq = w9 at *
                go_wp2_with (go_at_call 28; go_must (refine hmf.mono ?_); rintro r w10 ⟨rfl, hLA9, hb9, hk9⟩)
                go_ret
                rw [HPU.out, HE0.out]
                exact ⟨rfl, hLA9, hbb9.trans hb9, hkf9.trans hk9⟩
              · have HPU := Lib.hid (lsmPut_set HE0.out HFL.out hlf)
                go_wp2_with fail
                go_quiet (fail)
                go_wp2_with fail
                have hLA := LrAt.up (w' := w8.drewN nq) ⟨_, _, _, HL8.out, HSET.out⟩ (below_drewN (Below.refl _ _) _)
                go_ret
                rw [HPU.out, HE0.out]
                exact ⟨rfl, hLA, below_drewN hbb8 _, hkf8.drewN _⟩
end Go.Proofs.YtcfijljagohmlaaGreatDoor
