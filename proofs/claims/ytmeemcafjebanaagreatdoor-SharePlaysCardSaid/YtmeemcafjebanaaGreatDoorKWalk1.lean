/- The walks of the reference's find, with and named. -/
import Derived.Test.YtmeemcafjebanaaGreatDoorKMem
import Derived.BigQuiet
import Derived.Deep.QuietTactic
namespace Go.Proofs.YtmeemcafjebanaaGreatDoor
open Go.RowKit Go.Maps Go.WideMaps

/-- Where a name stands. -/
def idxN (n : ByteArray) : List RFl → Option Nat
  | [] => none
  | x :: xs => if x.name = n then some 0 else (idxN n xs).map (· + 1)
def idxI (n : ByteArray) (l : List RFl) : Int := match idxN n l with | some i => i | none => -1
theorem idxN_some {n : ByteArray} : ∀ {l : List RFl} {i : Nat}, idxN n l = some i → ∃ x, l[i]? = some x ∧ atR n l = some x := by
  intro l
  induction l with
  | nil => intro i h; cases h
  | cons y ys ih =>
    intro i h
    rw [idxN] at h
    by_cases hn : y.name = n
    · rw [if_pos hn] at h
      injection h with h
      subst h
      exact ⟨y, rfl, by simp [atR, hn]⟩
    · rw [if_neg hn] at h
      obtain ⟨j, hj, rfl⟩ := Option.map_eq_some_iff.1 h
      obtain ⟨x, h1, h2⟩ := ih hj
      refine ⟨x, by simpa using h1, ?_⟩
      rw [atR, List.find?_cons_of_neg (by simpa using hn)]
      exact h2
theorem idxN_none {n : ByteArray} : ∀ {l : List RFl}, idxN n l = none → atR n l = none := by
  intro l
  induction l with
  | nil => intro _; rfl
  | cons y ys ih =>
    intro h
    rw [idxN] at h
    by_cases hn : y.name = n
    · rw [if_pos hn] at h; cases h
    · rw [if_neg hn] at h
      rw [atR, List.find?_cons_of_neg (by simpa using hn)]
      exact ih (Option.map_eq_none_iff.1 h)
theorem idxN_at {n : ByteArray} : ∀ {l : List RFl} {i : Nat} {x : RFl}, (∀ (j : Nat) (y : RFl), j < i → l[j]? = some y → y.name ≠ n) → l[i]? = some x → x.name = n → idxN n l = some i := by
  intro l
  induction l with
  | nil => intro i x _ h; simp at h
  | cons y ys ih =>
    intro i x h1 h2 h3
    cases i with
    | zero =>
      simp at h2
      subst h2
      rw [idxN, if_pos h3]
    | succ i =>
      rw [idxN, if_neg (h1 0 y (by omega) rfl), ih (fun j z hj hz => h1 (j + 1) z (Nat.succ_lt_succ hj) (by simpa using hz)) (by simpa using h2) h3]
      rfl
theorem idxN_no {n : ByteArray} : ∀ {l : List RFl}, (∀ y ∈ l, y.name ≠ n) → idxN n l = none := by
  intro l
  induction l with
  | nil => intro _; rfl
  | cons y ys ih => intro h; rw [idxN, if_neg (h y List.mem_cons_self), ih fun z hz => h z (List.mem_cons_of_mem _ hz)]; rfl
theorem bytes_ne {a b : ByteArray} (h : a ≠ b) : (a.toList == b.toList) = false := by
  rcases hb : (a.toList == b.toList)
  · rfl
  · exact absurd (bytes_same (by simpa using hb)) h
set_option maxRecDepth 100000 in
set_option maxHeartbeats 2000000 in
theorem kfind_any (A : Option Addr) (c n B : Nat) (l : List RFl) (name : ByteArray) (w : World) (hr : Rd w B 2 A n (fCells l)) (hl : l.length = n) (hn : n ≤ 100000) :
    Calls Tryz.prog 48 #[.slice A n c, .string name] w fun e w' => e = .returned (.int .i64 (idxI name l)) ∧ w' = w := by
  have HL := Lib.hid hl
  clear hl
  go_enter Tryz.func48, Tryz.ntmps48
  go_wp2_with fail
  go_loopw [5] (fun x wr => ∃ i : Nat, i ≤ n ∧ x = .int .i64 i ∧ Hid (∀ (j : Nat) (y : RFl), j < i → l[j]? = some y → y.name ≠ name) ∧ wr = w) (fun x _ => n - (intOf x).toNat)
  case atStart => exact ⟨0, Nat.zero_le _, rfl, Lib.hid (fun j _ hj => absurd hj (by omega)), rfl⟩
  obtain ⟨i, hi, rfl, HJ, rfl⟩ := hrel
  by_cases hlt : i < n
  · obtain ⟨ad, x, rfl, _, hx, x0, x1⟩ := hr.fl_ hlt HL.out
    have HX := Lib.hid hx
    clear hx
    have hi0 : (0 : Int) ≤ (i : Int) := by omega
    have hi1 : (i : Int) < (n : Int) := by omega
    by_cases hx : x.name = name
    · have HI : Hid (idxI name l = (i : Int)) := Lib.hid (by rw [idxI, idxN_at HJ.out HX.out hx])
      rw [hx] at x0
      clear hx
      go_wp2_with fail
      go_ret
      exact ⟨by rw [HI.out]; rfl, rfl⟩
    · have hbe := bytes_ne hx
      have HJ2 : Hid (∀ (j : Nat) (y : RFl), j < i + 1 → l[j]? = some y → y.name ≠ name) := Lib.hid (fun j y hj hy => by
        by_cases hji : j < i
        · exact HJ.out j y hji hy
        · obtain rfl : j = i := by omega
          rw [HX.out] at hy
          injection hy with hy
          rw [← hy]; exact hx)
      clear hx
      go_wp2_with fail
      go_roundw
      case rel => exact ⟨i + 1, hlt, by go_num, HJ2, trivial⟩
      case measure => simp [intOf]; omega
  · obtain rfl : i = n := by omega
    have HI : Hid (idxI name l = -1) := Lib.hid (by
      rw [idxI, idxN_no fun y hy => ?_]
      obtain ⟨j, hj⟩ := List.mem_iff_getElem?.1 hy
      have := HL.out
      exact HJ.out j y (by have := (List.getElem?_eq_some_iff.1 hj).1; omega) hj)
    go_wp2_with fail
    go_ret
    exact ⟨by rw [HI.out]; rfl, rfl⟩
/-- How far 'with' has come. -/
def WithInv (e : RFl) (l : List RFl) (gone : Bool) (i : Nat) (dn : Bool) (acc : List RFl) : Prop := acc ++ withR e (l.drop i) dn = withR e l gone
theorem drop_fl {l : List RFl} {i : Nat} {x : RFl} (h : l[i]? = some x) : l.drop i = x :: l.drop (i + 1) := by
  have hlt := (List.getElem?_eq_some_iff.1 h).1
  rw [List.drop_eq_getElem_cons hlt]
  rw [List.getElem?_eq_getElem hlt] at h
  injection h with h
  rw [h]
section
variable {e x : RFl} {l : List RFl} {gone dn : Bool} {i : Nat} {acc : List RFl}
theorem WithInv.same (h : WithInv e l gone i dn acc) (hx : l[i]? = some x) (hn : x.name = e.name) : WithInv e l gone (i + 1) dn acc := by
  unfold WithInv at h ⊢
  rw [drop_fl hx, withR, if_pos hn] at h
  exact h
theorem WithInv.on (h : WithInv e l gone i dn acc) (hx : l[i]? = some x) (hn : x.name ≠ e.name) (hd : dn = true ∨ klt e.name x.name = false) : WithInv e l gone (i + 1) dn (acc ++ [x]) := by
  unfold WithInv at h ⊢
  have hc : ¬ ((!dn && klt e.name x.name) = true) := by rcases hd with rfl | h <;> simp [*]
  rw [drop_fl hx, withR, if_neg hn, if_neg hc] at h
  rw [List.append_assoc]; exact h
theorem WithInv.put (h : WithInv e l gone i false acc) (hx : l[i]? = some x) (hn : x.name ≠ e.name) (hd : klt e.name x.name = true) : WithInv e l gone (i + 1) true (acc ++ [e] ++ [x]) := by
  unfold WithInv at h ⊢
  rw [drop_fl hx, withR, if_neg hn, if_pos (by simp [hd])] at h
  rw [List.append_assoc, List.append_assoc]; exact h
theorem WithInv.done (h : WithInv e l gone i true acc) (hi : l.length ≤ i) : acc = withR e l gone := by
  unfold WithInv at h
  rw [List.drop_of_length_le hi] at h
  simpa [withR] using h
theorem WithInv.last (h : WithInv e l gone i false acc) (hi : l.length ≤ i) : acc ++ [e] = withR e l gone := by
  unfold WithInv at h
  rw [List.drop_of_length_le hi] at h
  simpa [withR] using h
end
theorem byf {t : Nat} (h : t ≤ 200002) : (t + 1) * 40 ≤ 140737488355328 := by omega
theorem byf2 {t : Nat} (h : t ≤ 200002) : (t + 1 + 1) * 40 ≤ 140737488355328 := by omega
set_option maxRecDepth 100000 in
set_option maxHeartbeats 4000000 in
theorem kwith_any (A : Option Addr) (c n B : Nat) (l : List RFl) (e : RFl) (gone : Bool) (w : World) (hr : Rd w B 2 A n (fCells l)) (hl : l.length = n) (hB : B ≤ w.heap.size) (hn : n ≤ 100000) :
    Calls Tryz.prog 61 #[.slice A n c, .string e.name, .slice e.A e.b.length e.c, .bool gone] w fun r w' => ∃ v, r = .returned v ∧ w'.ownsRow w.heap.size 61 2 v (withR e l gone).length (fCells (withR e l gone)) ∧ Below w.heap.size w w' := by
  have HL := Lib.hid hl
  clear hl
  obtain ⟨PE, hPE⟩ : ∃ x, x = withR e l gone := ⟨_, rfl⟩
  have HPE := Lib.hid hPE
  rw [← hPE]
  clear hPE
  go_enter Tryz.func61, Tryz.ntmps61
  go_wp2_with fail
  go_loopw [9, 10, 11] (fun o d x wr => ∃ (i t : Nat) (dn : Bool) (acc : List RFl), i ≤ n ∧ x = .int .i64 i ∧ d = .bool dn ∧ acc.length = t ∧ t ≤ 2 * i ∧ Hid (WithInv e l gone i dn acc) ∧ wr.ownsRow w.heap.size 61 2 o t (fCells acc) ∧ Below w.heap.size w wr) (fun _ _ x _ => n - (intOf x).toNat)
  case atStart => exact ⟨0, 0, gone, [], Nat.zero_le _, rfl, rfl, rfl, by omega, Lib.hid rfl, World.ownsRow_nil _ _ _ _, Below.refl _ _⟩
  obtain ⟨i, t, dn, acc, hi, rfl, rfl, hat, hti, HI0, hown, hbel⟩ := hrel
  have hsz := hbel.size
  have ht8 : t ≤ 200002 := Nat.le_trans hti (by omega)
  have hby := byf ht8
  have hby2 := byf2 ht8
  by_cases hlt : i < n
  · obtain ⟨ad, x, rfl, hpb, hx, x0, x1⟩ := (hr.below hbel hB).fl_ hlt HL.out
    have hpw : (ad.add (i * 2)).block < w.heap.size := by omega
    have HX := Lib.hid hx
    clear hx hpb
    have hi0 : (0 : Int) ≤ (i : Int) := by omega
    have hi1 : (i : Int) < (n : Int) := by omega
    by_cases hx : x.name = e.name
    · have HI := Lib.hid (HI0.out.same HX.out hx)
      rw [hx] at x0
      clear hx
      go_wp2_with fail
      go_roundw
      case rel => exact ⟨i + 1, t, dn, acc, Nat.succ_le_of_lt hlt, by go_num, rfl, hat, by omega, HI, hown, hbel⟩
      case measure => simp [intOf]; omega
    · have hbe := bytes_ne hx
      rcases dn with _ | _
      · rcases hc : klt e.name x.name
        · have HI := Lib.hid (HI0.out.on HX.out hx (.inr hc))
          have tc : (Op.bytesLess x.name.toList e.name.toList) = true := by
            rcases klt_tri x.name e.name with h | h | h
            · exact h
            · exact absurd h hx
            · rw [hc] at h; cases h
          clear hx hc
          go_wp2_with (first
            | (with_reducible show wpList _ _ _ (⟨some 49, _, _, _, _, _⟩ :: _) _ _; go_must (refine wpList_newg (.tmp 43) (.tmp 48) el_fl rfl rfl hown rfl rfl rfl rfl rfl hby hsz ?_); intro v5 w5 hown5 hb5 hg5 ha5))
          have hbel5 := hbel.trans hb5
          have hown6 : w5.ownsRow w.heap.size 61 2 v5 (t + 1) (fCells (acc ++ [x])) := by rw [fCells_snoc]; exact hown5
          clear hown5
          go_roundw
          case rel => exact ⟨i + 1, t + 1, false, acc ++ [x], Nat.succ_le_of_lt hlt, by go_num, rfl, by rw [List.length_append, hat]; rfl, by omega, HI, hown6, hbel5⟩
          case measure => simp [intOf]; omega
        · have HI := Lib.hid (HI0.out.put HX.out hx hc)
          have tc : (Op.bytesLess x.name.toList e.name.toList) = false := klt_asymm hc
          clear hx hc
          go_wp2_with (first
            | (with_reducible show wpList _ _ _ (⟨some 42, _, _, _, _, _⟩ :: _) _ _; go_must (refine wpList_newg (.tmp 37) (.tmp 41) el_fl rfl rfl hown rfl rfl rfl rfl rfl hby hsz ?_); intro v4 w4 hown4 hb4 hg4 ha4; have hsz4 := Nat.le_trans hsz hb4.size; have z0 := (hb4.cell hpw).trans x0; have z1 := (hb4.cell (p := ⟨(ad.add (i * 2)).block, (ad.add (i * 2)).off + 1, none⟩) hpw).trans x1)
            | (with_reducible show wpList _ _ _ (⟨some 49, _, _, _, _, _⟩ :: _) _ _; go_must (refine wpList_newg (.tmp 43) (.tmp 48) el_fl rfl rfl hown4 rfl rfl rfl rfl rfl hby2 hsz4 ?_); intro v5 w5 hown5 hb5 hg5 ha5))
          have hbel5 := (hbel.trans hb4).trans hb5
          have hown6 : w5.ownsRow w.heap.size 61 2 v5 (t + 1 + 1) (fCells (acc ++ [e] ++ [x])) := by rw [fCells_snoc, fCells_snoc]; exact hown5
          clear hown5 hown4
          go_roundw
          case rel => exact ⟨i + 1, t + 1 + 1, true, acc ++ [e] ++ [x], Nat.succ_le_of_lt hlt, by go_num, rfl, by rw [List.length_append, List.length_append, hat]; rfl, by omega, HI, hown6, hbel5⟩
          case measure => simp [intOf]; omega
      · have HI := Lib.hid (HI0.out.on HX.out hx (.inl rfl))
        clear hx
        go_wp2_with (first
          | (with_reducible show wpList _ _ _ (⟨some 49, _, _, _, _, _⟩ :: _) _ _; go_must (refine wpList_newg (.tmp 43) (.tmp 48) el_fl rfl rfl hown rfl rfl rfl rfl rfl hby hsz ?_); intro v5 w5 hown5 hb5 hg5 ha5))
        have hbel5 := hbel.trans hb5
        have hown6 : w5.ownsRow w.heap.size 61 2 v5 (t + 1) (fCells (acc ++ [x])) := by rw [fCells_snoc]; exact hown5
        clear hown5
        go_roundw
        case rel => exact ⟨i + 1, t + 1, true, acc ++ [x], Nat.succ_le_of_lt hlt, by go_num, rfl, by rw [List.length_append, hat]; rfl, by omega, HI, hown6, hbel5⟩
        case measure => simp [intOf]; omega
  · obtain rfl : i = n := by omega
    rcases dn with _ | _
    · have HQ := Lib.hid ((HI0.out.last (Nat.le_of_eq HL.out)).trans HPE.out.symm)
      go_wp2_with (first
        | (with_reducible show wpList _ _ _ (⟨some 57, _, _, _, _, _⟩ :: _) _ _; go_must (refine wpList_newg (.tmp 52) (.tmp 56) el_fl rfl rfl hown rfl rfl rfl rfl rfl hby hsz ?_); intro v5 w5 hown5 hb5 hg5 ha5))
      go_ret
      refine ⟨v5, rfl, ?_, hbel.trans hb5⟩
      have hown6 : w5.ownsRow w.heap.size 61 2 v5 (t + 1) (fCells (acc ++ [e])) := by rw [fCells_snoc]; exact hown5
      rw [HQ.out] at hown6
      rw [show PE.length = t + 1 from by rw [← HQ.out, List.length_append, hat]; rfl]
      exact hown6
    · have HQ := Lib.hid ((HI0.out.done (Nat.le_of_eq HL.out)).trans HPE.out.symm)
      go_wp2_with fail
      go_ret
      refine ⟨_, rfl, ?_, hbel⟩
      rw [HQ.out] at hown
      rw [show PE.length = t from by rw [← HQ.out, hat]]
      exact hown
end Go.Proofs.YtmeemcafjebanaaGreatDoor
