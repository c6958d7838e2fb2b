/- WalkKDel PlainKPlays in one text. -/
import Derived.Test.YtcfijljagohmlaaGreatDoorKeyedCalls
import Derived.Test.YtcfijljagohmlaaGreatDoorPlainWholes
/- The walk of keyed.Del. -/
namespace Go.Proofs.YtcfijljagohmlaaGreatDoor
open Go.RowKit Go.Maps Go.WideMaps Go.Sort

/-- What Del leaves. -/
theorem offH_hasnt {n : Int} {k : ByteArray} {S : List Hld} (h : hasH n k S = false) : offH n k S = S := offH_none (hasH_no h)
set_option maxRecDepth 100000 in
set_option maxHeartbeats 1000000 in
theorem kdel_any (g M : Nat) (S : List Hld) (n : Int) (k : ByteArray) (w : World) (hk : KIn w g M S) (hn : i64ok n) (hkk : k.size ≤ maxLen) :
    Calls Tryz.prog 19 #[.pointer (some ⟨g, 0, none⟩), .int .i64 n, .string k] w fun e w' => e = .returned (errV (getHE n k S)) ∧ KIn w' g M (offH n k S) ∧ w.grownBy w' (some M) := by
  have hkey := keyOf_at hn hkk
  have hbW := (Below.refl w.heap.size w).alloc (Nat.le_refl _) (.cells #[.int .i64 n, .string k] 97)
  have hkW := hk.up hbW
  have hbaW := Blk.new w 97 #[.int .i64 n, .string k]
  go_enter Tryz.func19, Tryz.ntmps19
  go_upto_region 2 with fail
  obtain ⟨ga, hga⟩ : ∃ ga, ga = w.heap.size := ⟨_, rfl⟩
  rw [← hga] at hbaW
  rw [← hga]
  clear hga
  generalize w.alloc (.cells #[.int .i64 n, .string k] 97) = w2 at *
  obtain ⟨D, hown, hD⟩ := hkW.own
  have hhas := mapL_has hD (fun x hx => (hk.fine x hx).2) hn hkk
  have c0 := hkW.blk.cell 0
  have a0 := hbaW.cell 0
  have a1 := hbaW.cell 1
  simp at c0 a0 a1
  have hlg := hkW.ltg
  have hla := hbaW.lt
  obtain ⟨y, hy, hrun⟩ := runs_lookup_hld w2 kat Tryz.underlying93 zhld hown hkey
  have hr1 := hrun w2.drew rfl
  have hr2 := fun o => hrun (w2.alloc o).drew (Below.heap_alloc w2 o M hown.lt)
  rw [hhas] at hr1 hr2
  obtain ⟨bh, hbh⟩ : ∃ bh, bh = hasH n k S := ⟨_, rfl⟩
  rw [← hbh] at hr1 hr2
  have HBH := Lib.hid hbh
  clear hrun hhas hy hbh
  go_region
  have hbW3 := below_drewN (hbW.alloc hbW.size (.cells #[.int .i64 y.node, .string y.key, .int .i64 y.a, .int .i64 y.b] 29)) 1
  have hk3 : KIn (w2.alloc (.cells #[.int .i64 y.node, .string y.key, .int .i64 y.a, .int .i64 y.b] 29)).drew g M S := hk.up hbW3
  have hown3 : (w2.alloc (.cells #[.int .i64 y.node, .string y.key, .int .i64 y.a, .int .i64 y.b] 29)).drew.ownsMap Tryz.prog 97 hldR M S.length D := (hown.alloc _).drew
  have ha3 := (hbaW.alloc (.cells #[.int .i64 y.node, .string y.key, .int .i64 y.a, .int .i64 y.b] 29)).drew
  rw [show (w2.alloc (.cells #[.int .i64 y.node, .string y.key, .int .i64 y.a, .int .i64 y.b] 29)).drewN 1 = (w2.alloc (.cells #[.int .i64 y.node, .string y.key, .int .i64 y.a, .int .i64 y.b] 29)).drew from rfl] at hbW3
  generalize (w2.alloc (.cells #[.int .i64 y.node, .string y.key, .int .i64 y.a, .int .i64 y.b] 29)).drew = w3 at *
  clear hr1 hr2 c0 a0 a1 hlg hla hbaW hown hkW hbW
  have c0 := hk3.blk.cell 0
  have a0 := ha3.cell 0
  have a1 := ha3.cell 1
  simp at c0 a0 a1
  have hgr3 : w.grownBy w3 (some M) := World.grownBy.but ⟨hbW3.os, hbW3.tape, hbW3.output, hbW3.size, fun i hi _ => hbW3.block i hi⟩ _
  rcases bh
  · have HP : Hid (getHE n k S = 6) := Lib.hid (by rw [getHE, ← HBH.out]; rfl)
    have HS := Lib.hid (offH_hasnt HBH.out.symm)
    go_wp2_with fail
    go_ret
    exact ⟨by rw [HP.out]; rfl, by rw [HS.out]; exact hk3, hgr3⟩
  · have HP : Hid (getHE n k S = 0) := Lib.hid (by rw [getHE, ← HBH.out]; rfl)
    go_upto_region 5 with fail
    go_still_tail 5, (by kernel_rfl)
    change wpList _ _ _ _ _ w3.drew
    go_wp2_with (first
      | (at_delete; go_must (refine wpList_delete_own _ rfl _ _ 93 97 rfl 29 kat Tryz.underlying93 hldR M S.length D rfl hown3.drew _ (klA n k) rfl hkey ?_); intro w9 hown9 hgr9))
    go_ret
    exact ⟨by rw [HP.out]; rfl, hk3.del hD hn hkk hown9 (grown_undrew hgr9.grown), only_trans hgr3 (grown_undrew hgr9.grown)⟩
end Go.Proofs.YtcfijljagohmlaaGreatDoor

/- What KeyedPlays looks at, as plain data. -/
namespace Go.Proofs.YtcfijljagohmlaaGreatDoor
open Go.RowKit Go.Maps

/-- What is left of an own row and a map apart. -/
theorem own_map_ne {w : World} {g M base size n : Nat} {S : List Hld} {e : TypeId} {v : Value} {xs : List Value} (hk : KIn w g M S) (ho : w.ownsRow base e size v n xs) : ∀ j, v.ownBlock = some j → some M ≠ some j := by
  intro j hj e1
  injection e1 with e1
  subst e1
  obtain ⟨D, ⟨es, cl, h1, _⟩, _⟩ := hk.own
  rcases ho.2 with ⟨rfl, _⟩ | ⟨g1, c1, u1, rfl, _, k1, _⟩
  · cases hj
  · simp [Value.ownBlock] at hj
    subst hj
    rw [k1] at h1
    cases h1
theorem putHE_few {S : List Hld} {h : Hld} (hS : S.length ≤ 100) : putHE S h = if hldOk h = true then 0 else 1 := by
  rcases hk : hldOk h
  · rw [putHE_bad hk]; rfl
  · rw [putHE_good hk fun e => by omega]; rfl
theorem putH_few {S : List Hld} {h : Hld} (hS : S.length ≤ 100) : putH S h = if hldOk h = true then hldPut h S else S := by
  rw [putH, putHE_few hS]
  rcases hldOk h <;> rfl
/-- The fault that the look for one ends with. -/
def goneE (r : Hld) (L : List Hld) (j : Nat) : Nat := if hasH r.node r.key (L.take j) = true then 0 else 6
theorem goneE_zero (r : Hld) (L : List Hld) : goneE r L 0 = 6 := rfl
theorem hasH_last {n : Int} {k : ByteArray} {L : List Hld} {y : Hld} : hasH n k (L ++ [y]) = (hasH n k L || decide (y.node = n ∧ y.key = k)) := by
  rw [hasH, List.any_append]; simp [hasH]
theorem goneE_same {r y : Hld} {L : List Hld} {j : Nat} (h : L[j]? = some y) (hs : y.node = r.node ∧ y.key = r.key) : goneE r L (j + 1) = 0 := by
  have e : hasH r.node r.key (L.take (j + 1)) = true := by
    rw [List.take_add_one, h, Option.toList_some, hasH_last, decide_eq_true hs, Bool.or_true]
  rw [goneE, e]; rfl
theorem goneE_other {r y : Hld} {L : List Hld} {j : Nat} (h : L[j]? = some y) (hs : ¬ (y.node = r.node ∧ y.key = r.key)) : goneE r L (j + 1) = goneE r L j := by
  have e : hasH r.node r.key (L.take (j + 1)) = hasH r.node r.key (L.take j) := by
    rw [List.take_add_one, h, Option.toList_some, hasH_last, decide_eq_false hs, Bool.or_false]
  rw [goneE, e, goneE]
theorem goneE_all (r : Hld) (L : List Hld) : goneE r L L.length = getHE r.node r.key L := by
  rw [goneE, List.take_length, getHE]
theorem offH_len {n : Int} {k : ByteArray} (S : List Hld) : (offH n k S).length ≤ S.length := List.length_filter_le _ _
/-- What an export gives, and what it gives to one that has nothing. -/
theorem exp_few {lo hi : Int} {S : List Hld} (hr : riseH S) (hf : ∀ x ∈ S, hldOk x = true ∧ x.Ok) (hl : S.length ≤ 100) (hs : spanB lo hi = true) :
    heldsE (S.filter (inG lo hi)) = 0 ∧ expE lo hi S = 0 ∧ expB lo hi S = heldsB (S.filter (inG lo hi)) ∧ impE [] (heldsB (S.filter (inG lo hi))) 0 16 = 0 ∧ impS [] (heldsB (S.filter (inG lo hi))) 0 16 = S.filter (inG lo hi) := by
  have hr2 : riseH (S.filter (inG lo hi)) := hr.filter _
  have hf2 : ∀ x ∈ S.filter (inG lo hi), hldOk x = true ∧ x.Ok := fun x hx => hf x (List.mem_filter.1 hx).1
  have hl2 : (S.filter (inG lo hi)).length ≤ 100 := Nat.le_trans (List.length_filter_le _ _) hl
  generalize hF : S.filter (inG lo hi) = F at *
  have hE : heldsE F = 0 := by rw [riseH_E hr2 fun x hx => (hf2 x hx).1, if_neg (by omega)]
  have hrd := read_part hE hf2
  have h0 : impE [] (heldsB F) 0 16 = 0 := by
    rw [impE, if_pos (by decide), hrd]
    have := moreH_le [] F 0 16
    simp only [List.length_nil, Nat.zero_add]
    rw [if_neg (by omega)]
  refine ⟨hE, by rw [expE, if_pos hs, hF, hE], by rw [expB, if_pos hs, hF], h0, ?_⟩
  rw [impS, if_pos h0, hrd, Option.getD_some, putAll_is, List.filter_eq_self.2 fun x _ => inG_all x]
  exact sortH_of (.refl _) hr2
theorem imp_no {lo hi : Int} {S : List Hld} {b : List UInt8} (hs : spanB lo hi = false) : impE S b lo hi = 1 := by rw [impE, hs]; rfl
theorem filter_next {f : Hld → Bool} {S : List Hld} {i : Nat} {x : Hld} (h : S[i]? = some x) : (S.take (i + 1)).filter f = (S.take i).filter f ++ if f x = true then [x] else [] := by
  rw [List.take_add_one, h, List.filter_append, Option.toList_some, List.filter_cons, List.filter_nil]
end Go.Proofs.YtcfijljagohmlaaGreatDoor
