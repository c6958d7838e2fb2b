/- The law AuditPrefix, for every input: what is a beginning is fine or lacks something; how much, is what Less says; the rest, put behind, makes it whole. No condition. -/
import Derived.Test.YtelailhghhjleaaRows
import Derived.Test.YtelailhghhjleaaWalkLawPrefix
import Derived.Test.YtelailhghhjleaaOpenLn
namespace Go.Proofs.Ytelailhghhjleaa.auditPrefix
open Go.ChangeShapes Go.WideShapes Go.ChangeAt Go.RowKit

theorem own : ownKnob Try.prog.godebug = none := by kernel_rfl
theorem laidOut : laidOutB Try.prog = true := by kernel_rfl

set_option maxRecDepth 100000 in
theorem lifted (os : Os) (started : os.Started) (H : Type) (enc : TypeId × Value → H) :
    ReturnsInHanded {} Try.checked os 7 .any (Rows.auditPrefixSpec.pre6 enc Try.prog Try.f7 Rows.auditPrefixRow.domain false) (Rows.auditPrefixSpec.post enc Try.prog Try.f7 false true false false) := by
  refine returnsInHanded_of_change_sized (C := Try.checked) own started (by kernel_rfl) Try.func7
    (ChangeSpec.witness6 (enc := enc) (C := Try.checked) false ⟨#[], #[.slice none 0 0, .int .i64 0], []⟩ 8 (by kernel_rfl) (by kernel_rfl) (by kernel_rfl) (by kernel_rfl)) ?_
  intro W base args ds gs before hval0 hW hcnd hsz0 _
  have hval : ∀ (j : Nat) t v, Try.f7.params[j]? = some t → args[j]? = some v → Value.okWide Try.prog W .any base t v := hval0
  have hsz : (DataW.weightsEach Try.prog (Try.f7.params.toList ++ Rows.auditPrefixSpec.plain.varTypes Try.prog) (ds ++ gs)).all (· ≤ reachBytes) = true := hsz0
  have hW' := hW
  obtain ⟨p, q, hA0, hV, rfl, hfz, hnd⟩ := hW
  have hA : DataW.TrodAll enc Try.prog W 0 (fun _ => true) true Try.f7.params.toList args.toList ds p := hA0
  rw [Try.params7] at hA hval hsz
  obtain ⟨v0, vs0, d0, ds0, p0, q0, hargs, rfl, rfl, h0, r0⟩ := trodAll_cons hA
  obtain ⟨v1, vs1, d1, ds1, p1, q1, rfl, rfl, rfl, h1, r1⟩ := trodAll_cons r0
  obtain ⟨rfl, rfl, rfl⟩ := trodAll_nil r1
  obtain rfl : args = #[v0, v1] := by cases args; simp_all
  obtain ⟨rfl, rfl⟩ := trodVars_none hV
  obtain ⟨A, c, ps, rfl, hlc, hcm, hr, hks, l, hl, hd⟩ := open_lines Try.underlying47 Try.underlying51 (by kernel_rfl) (by kernel_rfl) Try.underlying9 Try.underlying34 Try.underlying3 (by kernel_rfl) rfl rfl (hval 0 47 v0 rfl rfl) h0
  obtain ⟨a1, rfl, rfl, rfl, w1⟩ := open_int Try.underlying3 (hval 1 3 v1 rfl rfl) h1
  have b1 := bounds_i64 w1
  have b0 := sized_rows hsz (j := 0) (t := 47) rfl rfl Try.underlying47 (by rw [show Try.prog.bytesOf 51 = 40 from by kernel_rfl]; omega) hd
  refine (lawprefix_any A c ps a1 W hr hlc hcm hks (by omega) b1.1 b1.2).mono fun e W' ⟨he, bel⟩ => ?_
  subst he
  exact ⟨_, rfl, law_post laidOut (by kernel_rfl) rfl rfl Try.underlying4 rfl hW' bel⟩

theorem over : Rows.auditPrefixRow.holds Try.pinned (OpenSpec.ofChange Rows.auditPrefixSpec) :=
  OpenClaim.holds_of_wide 7 Try.f7 rfl rfl rfl rfl rfl rfl rfl ⟨rfl, rfl, rfl, rfl, rfl⟩ rfl rfl rfl rfl rfl (by kernel_rfl) Try.func7 (by kernel_rfl)
    (of_decide_eq_true (by kernel_rfl)) (by unfold Func.isWrapper; first | (rw [if_pos (by decide +kernel)]; kernel_rfl) | (rw [if_neg (by decide +kernel)]; exact ⟨rfl, rfl⟩))
    (fun os started H enc _ => lifted os started H enc)

/-- AuditPrefix, for every input: it answers true, and its arguments read behind the call as before it. -/
theorem proved : Rows.AuditPrefixSaid := over
end Go.Proofs.Ytelailhghhjleaa.auditPrefix
