/- The law AuditMerges, for every input: any lines put behind any others are as the reference has it; and how much is still to come. Condition: the variable errors.errorType holds what the program's text lays (tied by the card). -/
import Derived.Test.YtelailhghhjleaaDoorCards
import Derived.Test.YtelailhghhjleaaDoorTie
import Derived.Test.YtelailhghhjleaaDoorDoor
import Derived.Test.YtelailhghhjleaaDoorWalkLawMerges
import Derived.Test.YtelailhghhjleaaDoorOpenLn
namespace Go.Proofs.YtelailhghhjleaaDoor.auditMerges
open Go.ChangeShapes Go.WideShapes Go.ChangeAt Go.RowKit

set_option maxRecDepth 100000 in
theorem lifted (os : Os) (started : os.Started) (H : Type) (enc : TypeId × Value → H) :
    ReturnsInHanded {} Tryd.checked os 8 .any (fun w args => (Rows.auditMergesSpec.pre enc Tryd.prog Tryd.f8 [] false w args ∧ laidMetH Tryd.prog door.list w) ∧ sizedMet enc Tryd.prog Tryd.f8 (OpenSpec.ofChange Rows.auditMergesSpec) false w args)
      (Rows.auditMergesSpec.post enc Tryd.prog Tryd.f8 false true false false) := by
  refine returnsInHanded_of_change_and (C := Tryd.checked) (X := fun w _ => laidMetH Tryd.prog door.list w) (fun _ _ _ hh h => h.of_heap hh) door.own started (by kernel_rfl) Tryd.func8
    (ChangeSpec.witness_at (enc := enc) (C := Tryd.checked) (os := os) (X := fun w _ => laidMetH Tryd.prog door.list w) false (door.laidWorld os) #[.slice none 0 0, .slice none 0 0] 8 rfl (by kernel_rfl) (by kernel_rfl) (by kernel_rfl) (by kernel_rfl) (by kernel_rfl) (door.laidWorld_met os _)) ?_
  intro W base args ds gs before hval0 hW _ hsz0 hL _
  have hval : ∀ (j : Nat) t v, Tryd.f8.params[j]? = some t → args[j]? = some v → Value.okWide Tryd.prog W .any base t v := hval0
  have hsz : (DataW.weightsEach Tryd.prog (Tryd.f8.params.toList ++ Rows.auditMergesSpec.plain.varTypes Tryd.prog) (ds ++ gs)).all (· ≤ reachBytes) = true := hsz0
  have hW' := hW
  obtain ⟨p, q, hA0, hV, rfl, hfz, hnd⟩ := hW
  have hA : DataW.TrodAll enc Tryd.prog W 0 (fun _ => true) true Tryd.f8.params.toList args.toList ds p := hA0
  rw [Tryd.params8] at hA hval hsz
  obtain ⟨v0, vs0, d0, ds0, p0, q0, hargs, rfl, rfl, h0, r0⟩ := trodAll_cons hA
  obtain ⟨v1, vs1, d1, ds1, p1, q1, rfl, rfl, rfl, h1, r1⟩ := trodAll_cons r0
  obtain ⟨rfl, rfl, rfl⟩ := trodAll_nil r1
  obtain rfl : args = #[v0, v1] := by cases args; simp_all
  obtain ⟨rfl, rfl⟩ := trodVars_none hV
  obtain ⟨A0, c0, ps0, rfl, hlc0, hcm0, hr0, hks0, l0, hl0, hd0⟩ := open_lines Tryd.underlying56 Tryd.underlying64 (by kernel_rfl) (by kernel_rfl) Tryd.underlying9 Tryd.underlying23 Tryd.underlying3 (by kernel_rfl) rfl rfl (hval 0 56 v0 rfl rfl) h0
  obtain ⟨A1, c1, ps1, rfl, hlc1, hcm1, hr1, hks1, l1, hl1, hd1⟩ := open_lines Tryd.underlying56 Tryd.underlying64 (by kernel_rfl) (by kernel_rfl) Tryd.underlying9 Tryd.underlying23 Tryd.underlying3 (by kernel_rfl) rfl rfl (hval 1 56 v1 rfl rfl) h1
  have b0 := sized_rows hsz (j := 0) (t := 56) rfl rfl Tryd.underlying56 (by rw [show Tryd.prog.bytesOf 64 = 40 from by kernel_rfl]; omega) hd0
  have b1 := sized_rows hsz (j := 1) (t := 56) rfl rfl Tryd.underlying56 (by rw [show Tryd.prog.bytesOf 64 = 40 from by kernel_rfl]; omega) hd1
  refine (lawmerges_any A0 A1 c0 c1 ps0.length ps1.length ps0 ps1 W (door.has_err hL) hr0 hr1 hlc0 hlc1 hcm0 hcm1 (by omega) (by omega) (fun p hp => (List.mem_append.1 hp).elim (hks0 p) (hks1 p))).mono fun e W' ⟨he, bel⟩ => ?_
  subst he
  exact ⟨_, rfl, law_post door.laidOut (by kernel_rfl) rfl rfl Tryd.underlying4 rfl hW' bel⟩

theorem said : Rows.AuditMergesSaid :=
  OpenClaim.holds_of_wide 8 Tryd.f8 rfl rfl rfl rfl rfl rfl rfl ⟨rfl, rfl, rfl, rfl, rfl⟩ rfl rfl rfl rfl rfl (by kernel_rfl) Tryd.func8 (by kernel_rfl)
    (of_decide_eq_true (by kernel_rfl)) (by unfold Func.isWrapper; first | (rw [if_pos (by decide +kernel)]; kernel_rfl) | (rw [if_neg (by decide +kernel)]; exact ⟨rfl, rfl⟩))
    (fun os started H enc _ => lifted os started H enc)

/-- AuditMerges, for every input: it answers true, and its arguments read behind the call as before it. -/
theorem proved : Rows.AuditMergesCardSaid :=
  Claim7.holds_tied_plain_at .later [] [.handle] true _ true
    said (fun _ h => by cases h) (by kernel_rfl) (fun _ h => by cases h) auditMerges_row_tie rfl ⟨rfl, rfl⟩ (by kernel_rfl) rfl
    (fun f fn hf hfn => by
      obtain rfl : f = 8 := Option.some.inj ((show Tryd.prog.funcNamed "weirgate/weirlaw4.AuditMerges" = some 8 by kernel_rfl).symm.trans hf) |>.symm
      obtain rfl : fn = Tryd.f8 := (Option.some.inj (Tryd.func8.symm.trans hfn)).symm
      exact ⟨by kernel_rfl, fun j t ht => by
        rw [Tryd.params8] at ht
        rcases j with _ | _ | j
        · obtain rfl : t = 56 := by simpa using ht.symm
          exact (show Tryd.prog.wantsStandIn 56 = false by kernel_rfl)
        · obtain rfl : t = 56 := by simpa using ht.symm
          exact (show Tryd.prog.wantsStandIn 56 = false by kernel_rfl)
        · simp at ht⟩)
    (by kernel_rfl)
end Go.Proofs.YtelailhghhjleaaDoor.auditMerges
