/- The walks of group.Of, Range, Owner. -/
import Derived.Test.YtcfijljagohmlaaGreatDoorProg
import Derived.Test.YtcfijljagohmlaaGreatDoorPlainKeyed
import Derived.Test.YtcfijljagohmlaaGreatDoorWalkNum
import Derived.Test.YtcfijljagohmlaaGreatDoorErr
import Derived.Deep.CutBlock
import Derived.Deep.CutRange
namespace Go.Proofs.YtcfijljagohmlaaGreatDoor
open Go.RowKit

theorem add0 (g j : Nat) : (⟨g, 0, none⟩ : Addr).add j = ⟨g, j, none⟩ := by
  unfold Addr.add
  split
  · rename_i e; rw [e]
  · simp
theorem bytesRow_rd {w : World} {g c : Nat} {t : TypeId} {k : ByteArray} {fr : Nat × Nat} (h : w.heap[g]? = some (.cells (bytesRow k c) t fr)) : Rd w (g + 1) 1 (some ⟨g, 0, none⟩) k.size (k.data.toList.map bv) := by
  have hs : k.data.toList.length = k.size := by rw [Array.length_toList]; rfl
  refine ⟨by rw [List.length_map, hs, Nat.mul_one], fun _ => ⟨_, rfl, by simp, fun j u hu => ?_⟩⟩
  rw [List.getElem?_map, Option.map_eq_some_iff] at hu
  obtain ⟨b, hb, rfl⟩ := hu
  obtain ⟨hj, hb2⟩ := List.getElem?_eq_some_iff.1 hb
  have hj2 : j < k.data.size := by simpa using hj
  have h1 := bytesRow_at k c j hj2
  have h2 := cell_of_row w g j _ t fr h
  rw [add0, h2, h1, ← hb2]
  simp [bv]
def fnvTo (l : List UInt8) (k : Nat) : Nat := fnvB (l.take k)
theorem fnvTo_zero (l : List UInt8) : fnvTo l 0 = 2166136261 := by simp only [fnvTo, fnvB, List.take_zero, List.foldl_nil]
theorem fnv_step {y b : Nat} (hy : y < 4294967296) (hb : b < 256) : Value.int IntKind.u32 (bits BinOp.xor IntKind.u32 (y : Int) (b : Int) * 16777619 % 4294967296) = Value.int .u32 (((y ^^^ b) * 16777619 % 4294967296 : Nat) : Int) := by
  rw [u32_xor_nat y b hy (by omega)]
  congr 1
theorem fnvTo_next {l : List UInt8} {k : Nat} {b : UInt8} (h : l[k]? = some b) : fnvTo l (k + 1) = ((fnvTo l k ^^^ b.toNat) * 16777619) % 4294967296 := by
  unfold fnvTo fnvB
  rw [List.take_add_one, h, Option.toList_some, List.foldl_append, List.foldl_cons, List.foldl_nil]
  unfold fnvS
  exact Eq.refl _
theorem fnv_end {x : Nat} (hx : x < 4294967296) : Value.int IntKind.i64 (wrap64 ((bits BinOp.xor IntKind.u32 ((x : Int) / 65536) (x : Int)).tmod 16)) = Value.int .i64 ((((x / 65536) ^^^ x) % 16 : Nat) : Int) := by
  have e : ((x : Int) / 65536) = ((x / 65536 : Nat) : Int) := by omega
  rw [e, u32_xor_nat (x / 65536) x (by omega) hx]
  have h : (((x / 65536 ^^^ x : Nat) : Int).tmod 16) = (((x / 65536 ^^^ x) % 16 : Nat) : Int) := by
    rw [Int.tmod_eq_emod_of_nonneg (by omega)]; omega
  rw [h]
  have := IntWalk.wrap64_in (((x / 65536 ^^^ x) % 16 : Nat) : Int) (by omega)
  exact congrArg (Value.int .i64) this
set_option maxRecDepth 100000 in
set_option maxHeartbeats 1000000 in
theorem of_any (k : ByteArray) (w : World) (hk : k.size ≤ 140737488355328) :
    Calls Tryz.prog 93 #[.string k] w fun e w' => e = .returned (.int .i64 (gOf k)) ∧ Below w.heap.size w w' := by
  have hcv := fun w s => run_bytes_of_string (P := Tryz.prog) w 9 23 5 s Tryz.underlying9 Tryz.underlying23 Tryz.underlying5
  have HS : Hid (k.data.toList.length = k.size) := Lib.hid (by rw [Array.length_toList]; rfl)
  have HG : Hid (gOf k = ((fnvTo k.data.toList k.size / 65536) ^^^ fnvTo k.data.toList k.size) % 16) := Lib.hid (by
    rw [fnvTo, List.take_of_length_le (by rw [HS.out]; exact Nat.le_refl _)]; rfl)
  obtain ⟨gk, hgk⟩ : ∃ gk, gk = gOf k := ⟨_, rfl⟩
  rw [← hgk] at HG ⊢
  clear hgk
  go_enter Tryz.func93, Tryz.ntmps93
  go_wp2_with fail
  generalize grownCap w k.size 0 5 = cap
  have hrow := bytesRow_rd (g := w.heap.size) (c := cap) (heap_alloc_new w (.cells (bytesRow k cap) 5 ((bytesRow k cap).size, (bytesRow k cap).size + 1)))
  have hbel := (Below.refl w.heap.size w).alloc (Nat.le_refl _) (.cells (bytesRow k cap) 5 ((bytesRow k cap).size, (bytesRow k cap).size + 1))
  generalize w.alloc (.cells (bytesRow k cap) 5 ((bytesRow k cap).size, (bytesRow k cap).size + 1)) = w1 at *
  have hrow1 := hrow.drew
  have hbel1 := below_drewN hbel 1
  have hd1 : w1.drewN 1 = w1.drew := rfl
  rw [hd1] at hbel1
  generalize w1.drew = w2 at *
  obtain ⟨l, hl⟩ : ∃ l, l = k.data.toList := ⟨_, rfl⟩
  rw [← hl] at hrow1 HS HG
  obtain ⟨n, hn⟩ : ∃ n, n = k.size := ⟨_, rfl⟩
  rw [← hn] at hrow1 HS HG hk ⊢
  clear hl hn hcv hrow hbel hd1
  go_loop [3, 9] (fun x i => ∃ j : Nat, j ≤ n ∧ i = .int .i64 j ∧ x = .int .u32 (fnvTo l j)) (fun _ i => n - (intOf i).toNat)
  case atStart => exact ⟨0, Nat.zero_le _, rfl, by rw [fnvTo_zero]; rfl⟩
  case round =>
    obtain ⟨j, hj, rfl, rfl⟩ := hrel
    have hx := fnvB_lt (l.take j)
    rw [← fnvTo] at hx
    by_cases hlt : j < n
    · obtain ⟨ad, had, hc⟩ := hrow1.byte hlt
      injection had with had
      obtain ⟨b, hb⟩ : ∃ b, l[j]? = some b := ⟨_, List.getElem?_eq_getElem (by rw [HS.out]; exact hlt)⟩
      have HN := Lib.hid (fnvTo_next hb)
      rw [List.getD_eq_getElem?_getD, hb, Option.getD_some, ← had, add0] at hc
      have hb1 := b.toNat_lt
      clear hb had
      generalize fnvTo l j = y at *
      go_wp2_with fail
      refine ⟨⟨j + 1, by omega, by go_num, ?_⟩, by simp [intOf]; omega⟩
      rw [HN.out]
      exact fnv_step hx hb1
    · obtain rfl : j = n := by omega
      go_wp2_with fail
      go_ret
      exact ⟨by rw [HG.out]; exact congrArg Ending.returned (fnv_end hx), hbel1⟩

end Go.Proofs.YtcfijljagohmlaaGreatDoor
