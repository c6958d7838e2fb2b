/- Err WalkAs in one text. -/
import Derived.Test.YtmeemcafjebanaaGreatDoorProg
import Derived.Test.YtmeemcafjebanaaGreatDoorBase
import Derived.LaidEql
import Derived.Stop.Asserts
import Derived.RowKitTokens
/- Errors as values: nil, or an Errno in an interface. -/
namespace Go.Proofs.YtmeemcafjebanaaGreatDoor
open Go.RowKit

/-- The error of a number: 0 is none. -/
def errV (e : Nat) : Value := if e = 0 then .nilIface else .iface 71 (.int .i64 e)
theorem errV_zero : errV 0 = .nilIface := rfl
end Go.Proofs.YtmeemcafjebanaaGreatDoor

/- errors.As at a target of type *api.Errno, and what asks it: plain.Told, weirsame.Error. After the guide's worked toy 'toyas'. -/
namespace Go.Proofs.YtmeemcafjebanaaGreatDoor
open Go.RowKit Go.Extern.Stop Go.Stop Go.Extern

/-- The variable errors.errorType: the type of errors. -/
def HasErr (w : World) : Prop := w.cell? ⟨0, 0, none⟩ = some (.iface 146 (.agg #[.pointer (some ⟨4, 32, none⟩)])) ∧ 0 < w.heap.size
theorem HasErr.below {B : Nat} {w w' : World} (h : HasErr w) (hb : Below B w w') (hB : 0 < B) : HasErr w' := ⟨(hb.cell (p := ⟨0, 0, none⟩) hB).trans h.1, Nat.lt_of_lt_of_le h.2 hb.size⟩
theorem HasErr.up {w w' : World} (h : HasErr w) (hb : Below w.heap.size w w') : HasErr w' := h.below hb h.2

theorem below_al {D : Nat} {a w : World} (h : Below D a w) (hD : D ≤ a.heap.size) (o : Obj) : Below D a (w.alloc o) := h.alloc (Nat.le_trans hD h.size) o

theorem told_as_nil (t : Value) (w : World) :
    Calls Tryz.prog 50 #[.nilIface, t] w fun e w' => e = .returned (.bool false) ∧ w = w' := by
  go_enter Tryz.func50, Tryz.ntmps50
  go_wp2
  go_ret
  exact ⟨rfl, rfl⟩

theorem re_valueOfP (t : Addr) (w : World) : (ReflectliteValue.unpack (.iface 98 (.pointer (some t)))).run Tryz.prog w
    = .ok (.agg #[.pointer (some ⟨4, 98, none⟩), .pointer (some ⟨w.heap.size, 0, none⟩), .int .u64 150]) (w.alloc (.cells #[.pointer (some t)] 98)) := by kernel_rfl
theorem re_typeP (a : Addr) (w : World) : (ReflectliteValue.methodAny (ReflectliteValue.valueError "reflectlite.Value.Type" 0) (fun t _ _ _ => ReflectliteType.toType t) #[.agg #[.pointer (some ⟨4, 98, none⟩), .pointer (some a), .int .u64 150]]).run Tryz.prog w
    = .ok (.iface 146 (.agg #[.pointer (some ⟨4, 98, none⟩)])) w := by kernel_rfl
theorem re_methodKind (h : Value) (w : World) : (Go.method 317 146 (.agg #[h]) "Kind").run Tryz.prog w = .ok (139, h) w := by kernel_rfl
theorem re_kindP (w : World) : ((ReflectliteType.abiMethod fun t => (fun a : Nat => Value.int IntKind.u8 (a : Int)) <$> Rtype.kind t) #[.pointer (some ⟨4, 98, none⟩)]).run Tryz.prog w = .ok (.int .u8 22) w := by kernel_rfl
theorem re_kindE (w : World) : ((ReflectliteType.abiMethod fun t => (fun a : Nat => Value.int IntKind.u8 (a : Int)) <$> Rtype.kind t) #[.pointer (some ⟨4, 71, none⟩)]).run Tryz.prog w = .ok (.int .u8 2) w := by kernel_rfl
theorem re_rlm (z : Sem Value) (f : TypeId → Addr → Nat → Nat → Sem Value) (v : Value) :
    ReflectliteValue.method z f #[v] = (do match ← ReflectliteValue.parts v with | none => z | some (t, a, fl) => f t a fl (fl % 32)) := rfl
theorem re_partsP (a : Addr) (w : World) : (ReflectliteValue.parts (.agg #[.pointer (some ⟨4, 98, none⟩), .pointer (some a), .int .u64 150])).run Tryz.prog w = .ok (some (98, a, 150)) w := by kernel_rfl
theorem re_isNilP (a p : Addr) (W : World) (ha : W.cell? a = some (.pointer (some p))) :
    (ReflectliteValue.method (ReflectliteValue.valueError "reflectlite.Value.IsNil" 0) ReflectliteValue.isNil #[.agg #[.pointer (some ⟨4, 98, none⟩), .pointer (some a), .int .u64 150]]).run Tryz.prog W = .ok (.bool false) W := by
  rw [re_rlm]
  simp only [Sem.run_bind, re_partsP, Result.andThen]
  simp [ReflectliteValue.isNil, loadVar, isAgg, underlying, Tryz.underlying98, ha, Result.andThen]
theorem re_methodElem (h : Value) (w : World) : (Go.method 317 146 (.agg #[h]) "Elem").run Tryz.prog w = .ok (149, .agg #[h]) w := by kernel_rfl
theorem re_methodImplements (h : Value) (w : World) : (Go.method 317 146 (.agg #[h]) "Implements").run Tryz.prog w = .ok (150, .agg #[h]) w := by kernel_rfl
theorem re_methodAssignableTo (h : Value) (w : World) : (Go.method 317 146 (.agg #[h]) "AssignableTo").run Tryz.prog w = .ok (147, .agg #[h]) w := by kernel_rfl
theorem re_elemP (w : World) : (ReflectliteType.method ReflectliteType.elem #[.agg #[.pointer (some ⟨4, 98, none⟩)]]).run Tryz.prog w = .ok (.iface 146 (.agg #[.pointer (some ⟨4, 71, none⟩)])) w := by kernel_rfl
theorem re_implementsE (w : World) : (ReflectliteType.relation "Implements" ReflectliteType.implements_ #[.agg #[.pointer (some ⟨4, 71, none⟩)], .iface 146 (.agg #[.pointer (some ⟨4, 32, none⟩)])]).run Tryz.prog w = .ok (.bool true) w := by kernel_rfl
theorem re_typeOfE (v : Value) (w : World) : (ReflectliteType.typeOf #[.iface 71 v]).run Tryz.prog w = .ok (.iface 146 (.agg #[.pointer (some ⟨4, 71, none⟩)])) w := by kernel_rfl
theorem re_assignableE (w : World) : (ReflectliteType.relation "AssignableTo" ReflectliteType.assignableTo #[.agg #[.pointer (some ⟨4, 71, none⟩)], .iface 146 (.agg #[.pointer (some ⟨4, 71, none⟩)])]).run Tryz.prog w = .ok (.bool true) w := by kernel_rfl
theorem re_valueOfE (n : Int) (w : World) : (ReflectliteValue.unpack (.iface 71 (.int .i64 n))).run Tryz.prog w
    = .ok (.agg #[.pointer (some ⟨4, 71, none⟩), .pointer (some ⟨w.heap.size, 0, none⟩), .int .u64 130]) (w.alloc (.cells #[.int .i64 n] 71)) := by kernel_rfl
theorem re_elemOfP (w : World) : (Rtype.elem? 98).run Tryz.prog w = .ok (some 71) w := by kernel_rfl
theorem re_mkE (p : Addr) (w : World) : (ReflectliteValue.mk 71 p ReflectliteValue.flagAddr).run Tryz.prog w = .ok (.agg #[.pointer (some ⟨4, 71, none⟩), .pointer (some p), .int .u64 386]) w := by kernel_rfl
theorem re_elemVP (a p : Addr) (W : World) (ha : W.cell? a = some (.pointer (some p))) :
    (ReflectliteValue.method (ReflectliteValue.valueError "reflectlite.Value.Elem" 0) ReflectliteValue.elem #[.agg #[.pointer (some ⟨4, 98, none⟩), .pointer (some a), .int .u64 150]]).run Tryz.prog W
      = .ok (.agg #[.pointer (some ⟨4, 71, none⟩), .pointer (some p), .int .u64 386]) W := by
  rw [re_rlm]
  simp only [Sem.run_bind, re_partsP, Result.andThen]
  simp [ReflectliteValue.elem, loadVar, isAgg, underlying, Tryz.underlying98, ha, Result.andThen, re_elemOfP, re_mkE]
theorem re_rls (v x : Value) : ReflectliteValue.set #[v, x] = (do
    let (some (dst, a, fl), some (src, b, _)) := (← ReflectliteValue.parts v, ← ReflectliteValue.parts x)
      | unsupported (.noEntry "extern/(internal/reflectlite.Value).Set.zeroValue")
    if fl / ReflectliteValue.flagAddr % 2 == 0 then unsupported (.noEntry "extern/(internal/reflectlite.Value).Set.unaddressable")
    let val ← loadVar src b
    if ← Rtype.directlyAssignable dst src then storeVar dst a val
    else if ← Rtype.implements dst src then
      if (← Rtype.kind src) == 20 then
        match val with
        | .nilIface => unsupported (.noEntry "extern/reflectlite: a nil value of one interface type handed on as a value of another")
        | _ => storeVar dst a val
      else storeVar dst a (.iface src val)
    else panicString ("reflectlite.Set: value of type " ++ (← Rtype.spelt src) ++ " is not assignable to type " ++ (← Rtype.spelt dst))
    pure (.tuple #[])) := rfl
theorem re_partsEa (a : Addr) (w : World) : (ReflectliteValue.parts (.agg #[.pointer (some ⟨4, 71, none⟩), .pointer (some a), .int .u64 386])).run Tryz.prog w = .ok (some (71, a, 386)) w := by kernel_rfl
theorem re_partsE (a : Addr) (w : World) : (ReflectliteValue.parts (.agg #[.pointer (some ⟨4, 71, none⟩), .pointer (some a), .int .u64 130])).run Tryz.prog w = .ok (some (71, a, 130)) w := by kernel_rfl
theorem re_directE (w : World) : (Rtype.directlyAssignable 71 71).run Tryz.prog w = .ok true w := by kernel_rfl
theorem re_setE (ta b : Addr) (n : Int) (old : Value) (W : World) (hb : W.cell? b = some (.int .i64 n)) (ht : W.cell? ta = some old) (hf : W.frozen? ta = false) :
    (ReflectliteValue.set #[.agg #[.pointer (some ⟨4, 71, none⟩), .pointer (some ta), .int .u64 386], .agg #[.pointer (some ⟨4, 71, none⟩), .pointer (some b), .int .u64 130]]).run Tryz.prog W
      = .ok (.tuple #[]) (W.setCell ta (.int .i64 n)) := by
  rw [re_rls]
  simp only [Sem.run_bind, re_partsEa, re_partsE, Result.andThen]
  simp [ReflectliteValue.flagAddr, loadVar, isAgg, underlying, Tryz.underlying71, hb, Result.andThen, re_directE, storeVar, Value.cells, storeCells, Addr.add]
  rw [run_store Tryz.prog W ta _ _ (by rfl)]
  simp [ht, hf]

set_option maxRecDepth 100000 in
set_option maxHeartbeats 4000000 in
theorem told_as_hit (n : Int) (t : Addr) (old : Value) (w : World) (hg : HasErr w) (ht0 : w.cell? t = some old) (hf0 : w.frozen? t = false) :
    Calls Tryz.prog 50 #[.iface 71 (.int .i64 n), .iface 98 (.pointer (some t))] w fun ev w' => ev = .returned (.bool true) ∧
      ((((w.alloc (.cells #[.pointer (some t)] 98)).alloc (.cells #[.pointer (some ⟨4, 98, none⟩), .pointer (some ⟨w.heap.size, 0, none⟩), .int .u64 150] 112)).alloc (.cells #[.pointer (some ⟨4, 98, none⟩), .pointer (some ⟨w.heap.size, 0, none⟩), .int .u64 150] 112)).alloc (.cells #[.int .i64 n] 71)).setCell t (.int .i64 n) = w' := by
  obtain ⟨hg, hlt⟩ := hg
  have h6 := @run_callFunc_extern Tryz.prog 63 _ (fun args => ReflectliteValue.unpack (args.getD 0 (.tuple #[]))) Tryz.func63 (by kernel_rfl) (by kernel_rfl) (by kernel_rfl) (by kernel_rfl)
  have h7 := @run_callFunc_extern Tryz.prog 64 _ (ReflectliteValue.methodAny (ReflectliteValue.valueError "reflectlite.Value.Type" 0) (fun t _ _ _ => ReflectliteType.toType t)) Tryz.func64 (by kernel_rfl) (by kernel_rfl) (by kernel_rfl) (by kernel_rfl)
  have h8 := @run_callFunc_extern Tryz.prog 65 _ (ReflectliteValue.method (ReflectliteValue.valueError "reflectlite.Value.IsNil" 0) ReflectliteValue.isNil) Tryz.func65 (by kernel_rfl) (by kernel_rfl) (by kernel_rfl) (by kernel_rfl)
  have h27 := @run_callFunc_extern Tryz.prog 139 _ (ReflectliteType.abiMethod fun t => do pure (.int .u8 (← Rtype.kind t))) Tryz.func139 (by kernel_rfl) (by kernel_rfl) (by kernel_rfl) (by kernel_rfl)
  have h37 := @run_callFunc_extern Tryz.prog 149 _ (ReflectliteType.method ReflectliteType.elem) Tryz.func149 (by kernel_rfl) (by kernel_rfl) (by kernel_rfl) (by kernel_rfl)
  have h38 := @run_callFunc_extern Tryz.prog 150 _ (ReflectliteType.relation "Implements" ReflectliteType.implements_) Tryz.func150 (by kernel_rfl) (by kernel_rfl) (by kernel_rfl) (by kernel_rfl)
  have h10 := @run_callFunc_extern Tryz.prog 88 _ ReflectliteType.typeOf Tryz.func88 (by kernel_rfl) (by kernel_rfl) (by kernel_rfl) (by kernel_rfl)
  have h35 := @run_callFunc_extern Tryz.prog 147 _ (ReflectliteType.relation "AssignableTo" ReflectliteType.assignableTo) Tryz.func147 (by kernel_rfl) (by kernel_rfl) (by kernel_rfl) (by kernel_rfl)
  have h11 := @run_callFunc_extern Tryz.prog 89 _ (ReflectliteValue.method (ReflectliteValue.valueError "reflectlite.Value.Elem" 0) ReflectliteValue.elem) Tryz.func89 (by kernel_rfl) (by kernel_rfl) (by kernel_rfl) (by kernel_rfl)
  have h12 := @run_callFunc_extern Tryz.prog 90 _ ReflectliteValue.set Tryz.func90 (by kernel_rfl) (by kernel_rfl) (by kernel_rfl) (by kernel_rfl)
  have tO := re_typeOfE
  have mA := re_methodAssignableTo
  have aE := re_assignableE
  have vE := re_valueOfE
  have f6 := re_valueOfP
  have f7 := re_typeP
  have mK := re_methodKind
  have mE := re_methodElem
  have mI := re_methodImplements
  have kP := re_kindP
  have kE := re_kindE
  have eP := re_elemP
  have iE := re_implementsE
  have n8 := re_isNilP ⟨w.heap.size, 0, none⟩ t ((w.alloc (.cells #[.pointer (some t)] 98)).alloc (.cells #[.pointer (some ⟨4, 98, none⟩), .pointer (some ⟨w.heap.size, 0, none⟩), .int .u64 150] 112)) (by simp)
  have hg2 : ((w.alloc (.cells #[.pointer (some t)] 98)).alloc (.cells #[.pointer (some ⟨4, 98, none⟩), .pointer (some ⟨w.heap.size, 0, none⟩), .int .u64 150] 112)).cell? ⟨0, 0, none⟩ = some (.iface 146 (.agg #[.pointer (some ⟨4, 32, none⟩)])) := by
    rw [World.cell?_alloc_lt _ _ ⟨0, 0, none⟩ (by simp), World.cell?_alloc_lt _ _ ⟨0, 0, none⟩ hlt]; exact hg
  have htl : t.block < w.heap.size := by
    rcases Nat.lt_or_ge t.block w.heap.size with h | h
    · exact h
    · simp [World.cell?, Array.getElem?_eq_none h] at ht0
  have el := re_elemVP ⟨w.heap.size, 0, none⟩ t (((w.alloc (.cells #[.pointer (some t)] 98)).alloc (.cells #[.pointer (some ⟨4, 98, none⟩), .pointer (some ⟨w.heap.size, 0, none⟩), .int .u64 150] 112)).alloc (.cells #[.pointer (some ⟨4, 98, none⟩), .pointer (some ⟨w.heap.size, 0, none⟩), .int .u64 150] 112)) (by rw [World.cell?_alloc_lt _ _ ⟨w.heap.size, 0, none⟩ (by simp; omega)]; simp)
  have st := re_setE t ⟨w.heap.size + 1 + 1 + 1, 0, none⟩ n old ((((w.alloc (.cells #[.pointer (some t)] 98)).alloc (.cells #[.pointer (some ⟨4, 98, none⟩), .pointer (some ⟨w.heap.size, 0, none⟩), .int .u64 150] 112)).alloc (.cells #[.pointer (some ⟨4, 98, none⟩), .pointer (some ⟨w.heap.size, 0, none⟩), .int .u64 150] 112)).alloc (.cells #[.int .i64 n] 71))
    (by rw [World.cell?_alloc_at _ _ _ _ (by simp)]; rfl)
    (by rw [World.cell?_alloc_lt _ _ t (by simp; omega), World.cell?_alloc_lt _ _ t (by simp; omega), World.cell?_alloc_lt _ _ t (by simp; omega), World.cell?_alloc_lt _ _ t htl]; exact ht0)
    (by rw [World.frozen?_alloc_old _ _ t (by simp; omega), World.frozen?_alloc_old _ _ t (by simp; omega), World.frozen?_alloc_old _ _ t (by simp; omega), World.frozen?_alloc_old _ _ t (Nat.ne_of_lt htl)]; exact hf0)
  go_enter Tryz.func50, Tryz.ntmps50
  go_wp2
  refine wp_loop_rounds 1 ?_
  rw [rounds_succ]
  go_wp2
  go_ret
  exact ⟨rfl, rfl⟩

/-- plain.Told: the number of an error. -/
theorem told_any (n : Nat) (w : World) (hg : HasErr w) :
    Calls Tryz.prog 29 #[errV n] w fun e w' => e = .returned (.int .i64 n) ∧ Below w.heap.size w w' := by
  by_cases h0 : n = 0
  · subst h0
    rw [errV_zero]
    go_enter Tryz.func29, Tryz.ntmps29
    go_wp2
    go_ret
    exact ⟨rfl, Below.refl _ _⟩
  · rw [errV, if_neg h0]
    clear h0
    have hA := told_as_hit n ⟨w.heap.size, 0, none⟩ (.int .i64 0) (w.alloc (.cells #[.int .i64 0] 71)) (hg.up ((Below.refl _ _).alloc (Nat.le_refl _) _)) (by simp) (by simp)
    go_enter Tryz.func29, Tryz.ntmps29
    go_wp2_with (first | (go_at_call 50; go_must (refine hA.mono ?_); rintro e w' ⟨rfl, rfl⟩))
    go_ret
    refine ⟨by simp, ?_⟩
    have b0 := below_al (below_al (below_al (below_al (below_al (Below.refl w.heap.size w) (Nat.le_refl _) (.cells #[.int .i64 n] 71)) (Nat.le_refl _) (.cells #[.pointer (some ⟨w.heap.size, 0, none⟩)] 98)) (Nat.le_refl _) (.cells #[.pointer (some ⟨4, 98, none⟩), .pointer (some ⟨w.heap.size + 1, 0, none⟩), .int .u64 150] 112)) (Nat.le_refl _) (.cells #[.pointer (some ⟨4, 98, none⟩), .pointer (some ⟨w.heap.size + 1, 0, none⟩), .int .u64 150] 112)) (Nat.le_refl _) (.cells #[.int .i64 n] 71)
    exact b0

/-- weirsame.Error: is an error the one told? -/
theorem same_err (n : Nat) (k : Int) (w : World) (hg : HasErr w) :
    Calls Tryz.prog 7 #[errV n, .int .i64 k] w fun e w' => e = .returned (.bool (decide ((n : Int) = k))) ∧ Below w.heap.size w w' := by
  go_enter Tryz.func7, Tryz.ntmps7
  go_wp2_with (first | (go_at_call 29; go_must (refine (told_any n _ hg).mono ?_); rintro e w1 ⟨rfl, hb1⟩))
  go_ret
  exact ⟨rfl, hb1⟩
end Go.Proofs.YtmeemcafjebanaaGreatDoor
