/- What the law DiskPlays' walk leans on: four numbers of a step; Do, told with what the disk did. -/
import Derived.Test.YtmeemcafjebanaaGreatDoorPlainSim
import Derived.Test.YtmeemcafjebanaaGreatDoorKDo2
import Derived.Test.YtmeemcafjebanaaGreatDoorWalkAs
import Derived.Test.YtmeemcafjebanaaGreatDoorOpenII
namespace Go.Proofs.YtmeemcafjebanaaGreatDoor
open Go.RowKit Go.Maps Go.WideMaps

theorem Rd.intc4 {w : World} {B n k : Nat} {A : Option Addr} {l : List Int} (h : Rd w B 1 A n (l.map iv)) (hk : k < n) : ∃ ad, A = some ad ∧ ad.block < B ∧ w.cell? (ad.add k) = some (.int .i64 (l.getD k 0)) := by
  obtain ⟨ad, u, rfl, hb, hu, hc⟩ := h.at_ hk
  refine ⟨ad, rfl, hb, hc.trans ?_⟩
  have hl : k < l.length := by have := h.1; simp at this; omega
  rw [← hu, List.getElem?_map, List.getD_eq_getElem?_getD, List.getElem?_eq_getElem hl]
  rfl
/-- What the first j of a step's numbers are, four in all. -/
def cell4 (l : List Int) (j k : Nat) : Value := .int .i64 (if k < j then l.getD k 0 else 0)
def cells4_ (l : List Int) (j : Nat) : Array Value := #[cell4 l j 0, cell4 l j 1, cell4 l j 2, cell4 l j 3]
theorem cells4_zero (l : List Int) : cells4_ l 0 = #[.int .i64 0, .int .i64 0, .int .i64 0, .int .i64 0] := rfl
theorem cells4_step (l : List Int) {j : Nat} (h : j < 4) : (cells4_ l j).setIfInBounds j (.int .i64 (l.getD j 0)) = cells4_ l (j + 1) := by
  rcases j with _ | _ | _ | _ | j
  · simp [cells4_, cell4]
  · simp [cells4_, cell4]
  · simp [cells4_, cell4]
  · simp [cells4_, cell4]
  · omega
theorem cells4_end (l : List Int) {j : Nat} (h : 4 ≤ j ∨ l.length ≤ j) : cells4_ l j = #[.int .i64 (l.getD 0 0), .int .i64 (l.getD 1 0), .int .i64 (l.getD 2 0), .int .i64 (l.getD 3 0)] := by
  have e : ∀ k, k < 4 → cell4 l j k = .int .i64 (l.getD k 0) := by
    intro k hk
    unfold cell4
    split
    · rfl
    · have : l.getD k 0 = 0 := by rw [List.getD_eq_getElem?_getD, List.getElem?_eq_none (by omega)]; rfl
      rw [this]
  rw [cells4_, e 0 (by omega), e 1 (by omega), e 2 (by omega), e 3 (by omega)]
theorem getD_in4 {l : List Int} (hb : ∀ z ∈ l, -9223372036854775808 ≤ z ∧ z ≤ 9223372036854775807) (k : Nat) : -9223372036854775808 ≤ l.getD k 0 ∧ l.getD k 0 ≤ 9223372036854775807 := by
  rw [List.getD_eq_getElem?_getD]
  rcases h : l[k]? with _ | z
  · exact ⟨by decide, by decide⟩
  · exact hb z (List.mem_of_getElem? h)
/-- What Do answers, and what it leaves beside the disk s. -/
def DoGood (base R : Nat) (k : KS) (s : DS) (E : Nat) (x : RW) : Prop := ∀ W : World, KAt W base R k → BOk W base x.b x.A x.c → base ≤ W.heap.size →
  Calls Tryz.prog 23 #[.pointer (some ⟨R, 0, none⟩), x.val] W fun r w' => ∃ k', r = .returned (.int .i64 E) ∧ KAt w' base R k' ∧ Sim s k' ∧ Below base W w' ∧ KeepF (offT 48) W w'
theorem do_op {base R n : Nat} {s : DS} {k : KS} {x : RW} {o : DOp} (h : Sim s k) (hx : RelOp x o) (hf : s.Few n) (hn : n ≤ 1000) : DoGood base R k (stepS s (opE s o) (some o)) (stepE s (opE s o)) x := by
  intro W hK hB hbw
  have hsim := h.op hx
  have hE := h.opE_ hx
  have hkf := h.few hf
  have hlen := hkf.now
  rw [← h.stopE, ← hE]
  by_cases hst : k.stop < 0 ∨ (k.steps : Int) < k.stop
  · rw [kStop_free hst]
    by_cases h0 : kOpE k x = 0
    · rw [h0]
      have hk' : kDoS k x = ⟨doingR k.now x, k.safe, k.since ++ [x], k.steps + 1, k.stop⟩ := by rw [kDoS, kStop_free hst, if_pos h0]
      rw [hk', ← hE, h0] at hsim
      cases o with
      | put y => exact (kdo_op1 base R n k x W hK hB hbw hkf hn hx.1 h0 hst).mono fun r w' ⟨e, h1, h2, h3⟩ => ⟨_, e, h1, hsim, h2, h3⟩
      | ren a b => exact (kdo_op2 base R n k x W hK hB hbw hkf hn hx.1 h0 hst).mono fun r w' ⟨e, h1, h2, h3⟩ => ⟨_, e, h1, hsim, h2, h3⟩
      | del a => exact (kdo_op3 base R n k x W hK hB hbw hkf hn hx.1 h0 hst).mono fun r w' ⟨e, h1, h2, h3⟩ => ⟨_, e, h1, hsim, h2, h3⟩
    · have hk' : kDoS k x = k := by rw [kDoS, kStop_free hst, if_neg h0]
      rw [hk', ← hE] at hsim
      have fin : ∀ (r : Ending) (w' : World), (r = .returned (.int .i64 (kOpE k x)) ∧ Below W.heap.size W w') → ∃ k', r = .returned (.int .i64 (kOpE k x)) ∧ KAt w' base R k' ∧ Sim (stepS s (kOpE k x) (some o)) k' ∧ Below base W w' ∧ KeepF (offT 48) W w' :=
        fun r w' ⟨e, hb⟩ => ⟨k, e, hK.up hb, hsim, hb.mono hbw, keepF_below hb⟩
      cases o with
      | put y => exact (kdo_no1 base R k x W hK hx.1 h0 hst).mono fin
      | ren a b => exact (kdo_no2 base R k x W hK hx.1 h0 hst (by omega)).mono fin
      | del a => exact (kdo_no3 base R k x W hK hx.1 h0 hst (by omega)).mono fin
  · rw [kStop_full hst]
    have hk' : kDoS k x = k := by rw [kDoS, kStop_full hst, if_neg (by decide)]
    rw [hk', ← hE] at hsim
    have hkind : x.kind = 1 ∨ x.kind = 2 ∨ x.kind = 3 ∨ x.kind = 4 := by
      cases o with
      | put y => exact .inl hx.1
      | ren a b => exact .inr (.inl hx.1)
      | del a => exact .inr (.inr (.inl hx.1))
    exact (kdo_full base R k x W hK hkind hst).mono fun r w' ⟨e, hb⟩ => ⟨k, e, hK.up hb, hsim, hb.mono hbw, keepF_below hb⟩
theorem do_sync {base R n : Nat} {s : DS} {k : KS} {x : RW} (h : Sim s k) (hx : x.kind = 4) (hf : s.Few n) (hn : n ≤ 1000) : DoGood base R k (syncS s) (stepE s 0) x := by
  intro W hK hB hbw
  have hsim := h.sync
  have hkf := h.few hf
  rw [← h.stopE]
  by_cases hst : k.stop < 0 ∨ (k.steps : Int) < k.stop
  · have hk' : kSyncS k = ⟨k.now, k.now, [], k.steps + 1, k.stop⟩ := by rw [kSyncS, kStop_free hst, if_pos rfl]
    rw [hk'] at hsim
    rw [kStop_free hst]
    exact (kdo_sync base R n k x W hK hbw hkf hn hx hst).mono fun r w' ⟨e, h1, h2, h3⟩ => ⟨_, e, h1, hsim, h2, h3⟩
  · have hk' : kSyncS k = k := by rw [kSyncS, kStop_full hst, if_neg (by decide)]
    rw [hk'] at hsim
    rw [kStop_full hst]
    exact (kdo_full base R k x W hK (.inr (.inr (.inr hx))) hst).mono fun r w' ⟨e, hb⟩ => ⟨k, e, hK.up hb, hsim, hb.mono hbw, keepF_below hb⟩
theorem do_crash {base R n : Nat} {s : DS} {k : KS} {x : RW} (h : Sim s k) (hx : x.kind = 5) (hf : s.Few n) (hn : n ≤ 1000) : DoGood base R k (crashS s x.n) 0 x := by
  intro W hK hB hbw
  exact (kdo_crash base R n k x W hK hbw (h.few hf) hn hx h.since.kinds).mono fun r w' ⟨e, h1, h2, h3⟩ => ⟨_, e, h1, h.crash x.n, h2, h3⟩
theorem do_fail {base R : Nat} {s : DS} {k : KS} {x : RW} (h : Sim s k) (hx : x.kind = 6) : DoGood base R k (failS s x.n) 0 x := by
  intro W hK hB hbw
  exact (kdo_fail base R k x W hK hbw hx).mono fun r w' ⟨e, h1, h2, h3⟩ => ⟨_, e, h1, h.fail x.n, h2, h3⟩
theorem same_errD (n : Nat) (W : World) (hg : HasErr W) : Calls Tryz.prog 7 #[errV n, .int .i64 n] W fun e w' => e = .returned (.bool true) ∧ Below W.heap.size W w' :=
  (same_err n n W hg).mono fun e w' ⟨he, hb⟩ => ⟨by rw [he]; simp, hb⟩
theorem names_at {base g n : Nat} {s : DS} {k : KS} (hs : Sim s k) (w : World) (h : DiskAt w base g s) (hf : s.Few n) (hn : n ≤ 1000) :
    Calls Tryz.prog 24 #[.pointer (some ⟨g, 0, none⟩)] w fun e w' => ∃ A c, e = .returned (.slice A k.now.length c) ∧ Rd w' w'.heap.size 1 A k.now.length (k.now.map fun x => .string x.name) ∧ Below w.heap.size w w' := by
  refine (names_any base g n s w h hf hn).mono fun e w' ⟨v, he, ho, hb⟩ => ?_
  have e1 : (namesL s.now).map encStr = k.now.map fun x => .string x.name := by
    rw [hs.names, List.map_map]
    refine List.map_congr_left fun x _ => ?_
    show Value.string ⟨x.name.data.toList.toArray⟩ = .string x.name
    rw [Array.toArray_toList]
  rw [e1, ← hs.now.len] at ho
  obtain ⟨A, c, rfl, _, _, _, hr⟩ := own_form ho
  exact ⟨A, c, he, hr, hb⟩
theorem dread_at {base g : Nat} {s : DS} {k : KS} (hs : Sim s k) (name : ByteArray) (w : World) (h : DiskAt w base g s) (hn : name.size ≤ 9223372036854775807) :
    Calls Tryz.prog 26 #[.pointer (some ⟨g, 0, none⟩), .string name] w fun r w' => ∃ A c, r = .returned (.tuple #[.slice A (kReadB k.now name).length c, errV (kHasE k.now name)]) ∧ Rd w' w'.heap.size 1 A (kReadB k.now name).length ((kReadB k.now name).map bv) ∧ Below w.heap.size w w' := by
  refine (read_any base g s name w h hn).mono fun r w' ⟨v, he, ho, hb⟩ => ?_
  rw [← hs.read] at ho
  rw [← hs.has] at he
  obtain ⟨A, c, rfl, _, _, _, hr⟩ := own_form ho
  exact ⟨A, c, he, hr, hb⟩
theorem kread_at {base R : Nat} {k : KS} (name : ByteArray) (w : World) (h : KAt w base R k) (hn : k.now.length ≤ 10000) :
    Calls Tryz.prog 27 #[.pointer (some ⟨R, 0, none⟩), .string name] w fun r w' => ∃ A c, r = .returned (.tuple #[.slice A (kReadB k.now name).length c, .int .i64 (kHasE k.now name)]) ∧ Rd w w.heap.size 1 A (kReadB k.now name).length ((kReadB k.now name).map bv) ∧ w' = w := by
  refine (kread_any base R k name w h hn).mono fun r w' ⟨v, he, ho, hw⟩ => ?_
  subst hw
  obtain ⟨A, c, rfl, _, _, _, hr⟩ := own_form ho
  exact ⟨A, c, he, hr, rfl⟩
theorem Rd.nm_ {w : World} {B n k : Nat} {A : Option Addr} {l : List RFl} (h : Rd w B 1 A n (l.map fun x => .string x.name)) (hk : k < n) {r : RFl} (hr : l[k]? = some r) : ∃ ad, A = some ad ∧ w.cell? (ad.add k) = some (.string r.name) := by
  obtain ⟨ad, u, rfl, _, hu, hc⟩ := h.at_ hk
  refine ⟨ad, rfl, hc.trans ?_⟩
  rw [← hu, List.getElem?_map, hr]; rfl
end Go.Proofs.YtmeemcafjebanaaGreatDoor
