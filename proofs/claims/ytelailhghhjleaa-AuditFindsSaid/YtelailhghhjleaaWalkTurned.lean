/- The walk of the closure of weirlaw4.AuditFinds: lines, one of them with other numbers. -/
import Derived.Test.YtelailhghhjleaaWalkLConcat
import Derived.Test.YtelailhghhjleaaPlainFinds
namespace Go.Proofs.Ytelailhghhjleaa
open Go.RowKit

def turnP (ps : List Pl) (i : Nat) (q : Pl) : Nat → List Pl
  | 0 => []
  | k + 1 => turnP ps i q k ++ (if k = i then (if q.ln.nums.length = 0 then [] else [q]) else [ps.getD k default])
theorem turnP_lns {ps : List Pl} {i : Nat} {q p : Pl} (hp : ps[i]? = some p) (hk : p.ln.key = q.ln.key) : ∀ {k : Nat}, k ≤ ps.length → lnsOf (turnP ps i q k) = turnTo (lnsOf ps) i q.ln.nums k := by
  intro k
  induction k with
  | zero => intro _; rfl
  | succ k ih =>
    intro hkl
    have hx : ps[k]? = some (ps.getD k default) := by rw [List.getD_eq_getElem?_getD, List.getElem?_eq_getElem (by omega)]; rfl
    have hl : (lnsOf ps).getD k default = (ps.getD k default).ln := by rw [List.getD_eq_getElem?_getD, lnsOf_at hx]; rfl
    rw [turnP, turnTo, hl, lnsOf, List.map_append, ← lnsOf, ih (by omega)]
    congr 1
    by_cases hki : k = i
    · subst hki
      rw [if_pos rfl, if_pos rfl]
      rw [hp] at hx
      injection hx with hx
      split
      · rfl
      · rw [← hx, hk]; rfl
    · rw [if_neg hki, if_neg hki]; rfl
theorem turnP_len (ps : List Pl) (i : Nat) (q : Pl) (k : Nat) : (turnP ps i q k).length ≤ k := by
  induction k with
  | zero => exact Nat.le_refl _
  | succ k ih =>
    rw [turnP, List.length_append]
    split
    · split
      · simp; omega
      · simp; omega
    · simp; omega
theorem turnP_mem {ps : List Pl} {i : Nat} {q x : Pl} {k : Nat} (hk : k ≤ ps.length) (h : x ∈ turnP ps i q k) : x ∈ ps ∨ x = q := by
  induction k with
  | zero => cases h
  | succ k ih =>
    have hx : ps[k]? = some (ps.getD k default) := by rw [List.getD_eq_getElem?_getD, List.getElem?_eq_getElem (by omega)]; rfl
    rw [turnP] at h
    rcases List.mem_append.1 h with h | h
    · exact ih (by omega) h
    · split at h
      · split at h
        · cases h
        · exact .inr (List.mem_singleton.1 h)
      · rw [List.mem_singleton.1 h]; exact .inl (List.mem_of_getElem? hx)
theorem Blk.below_ {w w' : World} {g : Nat} {t : TypeId} {cs : Array Value} (h : Blk w g t cs) (hb : Below w.heap.size w w') : Blk w' g t cs := Blk.up h hb

set_option maxRecDepth 100000 in
set_option maxHeartbeats 4000000 in
theorem turned_any (Gl Gi : Nat) (A : Option Addr) (c n i : Nat) (ps : List Pl) (q p : Pl) (w : World) (hbl : Blk w Gl 47 #[.slice A n c]) (hbi : Blk w Gi 3 #[.int .i64 i]) (hr : RdPs w w.heap.size A n ps) (hq : q.Ok w w.heap.size) (hn : n ≤ 400) (hp : ps[i]? = some p) (hk : p.ln.key = q.ln.key) :
    Calls Try.prog 18 #[q.val, .pointer (some ⟨Gl, 0, none⟩), .pointer (some ⟨Gi, 0, none⟩)] w fun e w' => ∃ A' c' m, e = .returned (.slice A' m c') ∧ m ≤ c' ∧ c' ≤ maxLen ∧ RdPs w' w'.heap.size A' m (turnP ps i q n) ∧ Below w.heap.size w w' := by
  have HQ := Lib.hid hq
  have HP := Lib.hid hp
  have HK := Lib.hid hk
  have HN := Lib.hid hr.len
  have hql := hq.len
  clear hq hp hk
  unfold Pl.val
  obtain ⟨mq, hmq⟩ : ∃ m, m = q.ln.nums.length := ⟨_, rfl⟩
  have HMQ := Lib.hid hmq
  rw [← hmq] at hql ⊢
  clear hmq
  go_enter Try.func18, Try.ntmps18
  go_wp2_with fail
  go_loopw [5, 6] (fun o k wr => ∃ j m : Nat, j ≤ n ∧ k = .int .i64 j ∧ m ≤ j ∧ wr.ownsRow w.heap.size 51 2 o m (plCells (turnP ps i q j)) ∧ Below w.heap.size w wr) (fun _ k _ => n - (intOf k).toNat)
  case atStart => exact ⟨0, 0, Nat.zero_le _, rfl, Nat.le_refl _, World.ownsRow_nil _ _ _ _, Below.refl _ _⟩
  obtain ⟨j, m, hj, rfl, hm, hown, hbel⟩ := hrel
  have hws := hbel.size
  have l0 := (hbl.up hbel).cell 0
  have i0 := (hbi.up hbel).cell 0
  simp at l0 i0
  by_cases hlt : j < n
  · obtain ⟨ad, x, rfl, hab, hx, g0, g1, _⟩ := (hr.below hbel (Nat.le_refl _)).at_ hlt
    unfold Pl.val at g1
    have hgd : ps.getD j default = x := by rw [List.getD_eq_getElem?_getD, hx]; rfl
    have hk0 : (0 : Int) ≤ (j : Int) := by omega
    have hk1 : (j : Int) < (n : Int) := by omega
    by_cases hji : j = i
    · have HX := Lib.hid hx
      by_cases hz : mq = 0
      · have HST : Hid (turnP ps i q (j + 1) = turnP ps i q j) := Lib.hid (by rw [turnP, if_pos hji, if_pos (by rw [← HMQ.out]; exact hz), List.append_nil])
        clear hx hgd
        subst hji hz
        go_wp2_with fail
        go_roundw
        case rel => exact ⟨j + 1, m, by omega, by go_num, by omega, by rw [HST.out]; exact hown, hbel⟩
        case measure => simp [intOf]; omega
      · have HST : Hid (turnP ps i q (j + 1) = turnP ps i q j ++ [q]) := Lib.hid (by rw [turnP, if_pos hji, if_neg (by rw [← HMQ.out]; exact hz)])
        have hz0 : (0 : Int) < (mq : Int) := by omega
        have HE : Hid (x.ln.key = q.ln.key) := Lib.hid (by
          have h := HP.out
          rw [← hji, hx] at h
          injection h with h
          rw [h]; exact HK.out)
        rw [HE.out] at g0
        clear hx hgd hz
        subst hji
        go_wp2_with (first
          | (with_reducible show wpList _ _ _ (⟨some 28, _, _, _, _, _⟩ :: _) _ _; go_must (refine wpList_newg (.tmp 19) (.tmp 27) el_line rfl rfl hown rfl rfl (by simp) rfl rfl (by omega) hws ?_); intro v4 w4 hown4 hb4 hg4 ha4))
        rw [HMQ.out] at hown4
        go_roundw
        case rel =>
          refine ⟨j + 1, m + 1, by omega, by go_num, by omega, ?_, hbel.trans hb4⟩
          rw [HST.out, plCells_append]
          simpa [plCells, Pl.cells, Pl.val] using hown4
        case measure => simp [intOf]; omega
    · have HST : Hid (turnP ps i q (j + 1) = turnP ps i q j ++ [x]) := Lib.hid (by rw [turnP, if_neg hji, hgd])
      have hji0 : ¬ ((j : Int) = (i : Int)) := by omega
      clear hx hgd
      go_wp2_with (first
        | (with_reducible show wpList _ _ _ (⟨some 35, _, _, _, _, _⟩ :: _) _ _; go_must (refine wpList_newg (.tmp 29) (.tmp 34) el_line rfl rfl hown rfl rfl (by simp) rfl rfl (by omega) hws ?_); intro v4 w4 hown4 hb4 hg4 ha4))
      go_roundw
      case rel =>
        refine ⟨j + 1, m + 1, by omega, by go_num, by omega, ?_, hbel.trans hb4⟩
        rw [HST.out, plCells_append]
        simpa [plCells, Pl.cells, Pl.val] using hown4
      case measure => simp [intOf]; omega
  · have e : j = n := by omega
    subst e
    have hl : (turnP ps i q j).length = m := by have := hown.1; rw [plCells_len] at this; omega
    obtain ⟨A', c', rfl, h1, h2, _, h3⟩ := own_form hown
    have HL := Lib.hid hl
    clear hown hl
    go_wp2_with fail
    go_ret
    refine ⟨A', c', m, rfl, h1, h2, ⟨HL.out, h3, fun x hx => ?_⟩, hbel⟩
    rcases turnP_mem (by have := HN.out; omega) hx with h | h
    · exact ((hr.ok x h).below hbel (Nat.le_refl _)).more hws
    · rw [h]; exact (HQ.out.below hbel (Nat.le_refl _)).more hws
end Go.Proofs.Ytelailhghhjleaa
