/- The walks of weirref2.Entries and weirref2.Part. -/
import Derived.Test.YtcfijljagohmlaaGreatDoorWalkTabs
import Derived.Test.YtcfijljagohmlaaGreatDoorWalkSearch
namespace Go.Proofs.YtcfijljagohmlaaGreatDoor
open Go.RowKit

theorem flat3_len (l : List Ent) : (l.flatMap Ent.cells).length = l.length * 3 := by
  induction l with
  | nil => rfl
  | cons x l ih => rw [List.flatMap_cons, List.length_append, ih, List.length_cons, show x.cells.length = 3 from rfl]; omega
/-- The entries from a key on, below another one. -/
def inPart (low high : ByteArray) (e : Ent) : Bool := !klt e.key low && (high.toList.isEmpty || klt e.key high)
def partE (low high : ByteArray) (l : List Ent) : List Ent := l.filter (inPart low high)

set_option maxRecDepth 100000 in
set_option maxHeartbeats 4000000 in
theorem rpart_any (A : Option Addr) (c B : Nat) (l : List Ent) (low high : ByteArray) (w : World) (hr : Rd w B 3 A l.length (entCells l)) (hB : B ≤ w.heap.size) (hl : l.length ≤ 400) :
    Calls Tryz.prog 35 #[.slice A l.length c, .string low, .string high] w fun e w' => ∃ v, e = .returned v ∧ w'.ownsRow w.heap.size 67 3 v (partE low high l).length (entCells (partE low high l)) ∧ Below w.heap.size w w' := by
  obtain ⟨n, hn⟩ : ∃ n, n = l.length := ⟨_, rfl⟩
  have Hn := Lib.hid hn
  rw [← hn] at hr hl ⊢
  clear hn
  go_enter Tryz.func35, Tryz.ntmps35
  go_wp2_with fail
  go_loopw [7, 8] (fun o i wr => ∃ k m : Nat, k ≤ n ∧ m ≤ k ∧ i = .int .i64 k ∧ wr.ownsRow w.heap.size 67 3 o m (entCells (partE low high (l.take k))) ∧ Below w.heap.size w wr) (fun _ i _ => n - (intOf i).toNat)
  case atStart => exact ⟨0, 0, Nat.zero_le _, Nat.le_refl _, rfl, World.ownsRow_nil _ _ _ _, Below.refl _ _⟩
  obtain ⟨k, m, hk, hm, rfl, hown, hbel⟩ := hrel
  have hws := hbel.size
  by_cases hlt : k < n
  · obtain ⟨ad, r, rfl, _, hx, g0, g1, g2⟩ := hr.ent_ hlt (Hn.out).symm hbel hB
    have hstep : partE low high (l.take (k + 1)) = partE low high (l.take k) ++ (if inPart low high r = true then [r] else []) := by
      rw [List.take_add_one, hx, partE, partE, List.filter_append]
      simp [List.filter_cons]
    have HST := Lib.hid hstep
    clear hstep hx
    have hk0 : (0 : Int) ≤ (k : Int) := by omega
    have hk1 : (k : Int) < (n : Int) := by omega
    rcases h1 : klt r.key low
    · have t1 : Op.bytesLess r.key.toList low.toList = false := h1
      rcases h2 : high.toList.isEmpty
      · have t2 := h2
        rcases h3 : klt r.key high
        · have t3 : Op.bytesLess r.key.toList high.toList = false := h3
          have HI : Hid (inPart low high r = false) := Lib.hid (by rw [inPart, h1, h2, h3]; rfl)
          clear h1 h2 h3
          go_wp2_with fail
          go_roundw
          case rel => exact ⟨k + 1, m, by omega, by omega, by go_num, by rw [HST.out, HI.out]; simpa using hown, hbel⟩
          case measure => simp [intOf]; omega
        · have t3 : Op.bytesLess r.key.toList high.toList = true := h3
          have HI : Hid (inPart low high r = true) := Lib.hid (by rw [inPart, h1, h2, h3]; rfl)
          clear h1 h2 h3
          go_wp2_with (first
            | (with_reducible show wpList _ _ _ (⟨some 41, _, _, _, _, _⟩ :: _) _ _; go_must (refine wpList_newg (.tmp 35) (.tmp 40) el_ent rfl rfl hown rfl rfl (by simp) rfl rfl (by omega) hws ?_); intro v4 w4 hown4 hb4 hg4 ha4))
          go_roundw
          case rel =>
            refine ⟨k + 1, m + 1, by omega, by omega, by go_num, ?_, hbel.trans hb4⟩
            rw [HST.out, HI.out]
            simpa [entCells, Ent.cells] using hown4
          case measure => simp [intOf]; omega
      · have t2 := h2
        have h3 := h2
        have HI : Hid (inPart low high r = true) := Lib.hid (by rw [inPart, h1, h2]; rfl)
        clear h1 h2 h3
        go_wp2_with (first
          | (with_reducible show wpList _ _ _ (⟨some 41, _, _, _, _, _⟩ :: _) _ _; go_must (refine wpList_newg (.tmp 35) (.tmp 40) el_ent rfl rfl hown rfl rfl (by simp) rfl rfl (by omega) hws ?_); intro v4 w4 hown4 hb4 hg4 ha4))
        go_roundw
        case rel =>
          refine ⟨k + 1, m + 1, by omega, by omega, by go_num, ?_, hbel.trans hb4⟩
          rw [HST.out, HI.out]
          simpa [entCells, Ent.cells] using hown4
        case measure => simp [intOf]; omega
    · have t1 : Op.bytesLess r.key.toList low.toList = true := h1
      have h2 := h1
      have h3 := h1
      have HI : Hid (inPart low high r = false) := Lib.hid (by rw [inPart, h1]; rfl)
      clear h1 h2 h3
      go_wp2_with fail
      go_roundw
      case rel => exact ⟨k + 1, m, by omega, by omega, by go_num, by rw [HST.out, HI.out]; simpa using hown, hbel⟩
      case measure => simp [intOf]; omega
  · go_wp2_with fail
    go_ret
    have hkn : l.take k = l := List.take_of_length_le (by have := Hn.out; omega)
    rw [hkn] at hown
    have hml : m = (partE low high l).length := by
      have := hown.1
      rw [entCells, flat3_len] at this
      omega
    rw [← hml]
    exact ⟨_, rfl, hown, hbel⟩
end Go.Proofs.YtcfijljagohmlaaGreatDoor
