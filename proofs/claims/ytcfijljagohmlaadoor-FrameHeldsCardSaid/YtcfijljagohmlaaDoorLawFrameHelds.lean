/- The law FrameHelds, for every input: any states as bytes, any bytes as states, and the first piece of any bytes, as the reference has them. Condition: the variable errors.errorType holds what the program's text lays (tied by the card). -/
import Derived.Test.YtcfijljagohmlaaDoorCards
import Derived.Test.YtcfijljagohmlaaDoorTie
import Derived.Test.YtcfijljagohmlaaDoorDoor
import Derived.Test.YtcfijljagohmlaaDoorOpenR
import Derived.Test.YtcfijljagohmlaaDoorWalkLawHelds
namespace Go.Proofs.YtcfijljagohmlaaDoor.frameHelds
open Go.ChangeShapes Go.WideShapes Go.ChangeAt Go.RowKit
open Go.ChangeMaps (open_string shut_string)

set_option maxRecDepth 100000 in
theorem lifted (os : Os) (started : os.Started) (H : Type) (enc : TypeId × Value → H) :
    ReturnsInHanded {} Tryd.checked os 4 .any (fun w args => (Rows.frameHeldsSpec.pre enc Tryd.prog Tryd.f4 [] false w args ∧ laidMetH Tryd.prog door.list w) ∧ sizedMet enc Tryd.prog Tryd.f4 (OpenSpec.ofChange Rows.frameHeldsSpec) false w args)
      (Rows.frameHeldsSpec.post enc Tryd.prog Tryd.f4 false true false false) := by
  refine returnsInHanded_of_change_and (C := Tryd.checked) (X := fun w _ => laidMetH Tryd.prog door.list w) (fun _ _ _ hh h => h.of_heap hh) door.own started (by kernel_rfl) Tryd.func4
    (ChangeSpec.witness_at (enc := enc) (C := Tryd.checked) (os := os) (X := fun w _ => laidMetH Tryd.prog door.list w) false (door.laidWorld os) #[.slice none 0 0, .slice none 0 0] 8 rfl (by kernel_rfl) (by kernel_rfl) (by kernel_rfl) (by kernel_rfl) (by kernel_rfl) (door.laidWorld_met os _)) ?_
  intro W base args ds gs before hval0 hW _ hsz0 hL _
  have hval : ∀ (j : Nat) t v, Tryd.f4.params[j]? = some t → args[j]? = some v → Value.okWide Tryd.prog W .any base t v := hval0
  have hsz : (DataW.weightsEach Tryd.prog (Tryd.f4.params.toList ++ Rows.frameHeldsSpec.plain.varTypes Tryd.prog) (ds ++ gs)).all (· ≤ reachBytes) = true := hsz0
  have hW' := hW
  obtain ⟨p, q, hA0, hV, rfl, hfz, hnd⟩ := hW
  have hA : DataW.TrodAll enc Tryd.prog W 0 (fun _ => true) true Tryd.f4.params.toList args.toList ds p := hA0
  rw [Tryd.params4] at hA hval hsz
  obtain ⟨v0, vs0, d0, ds0, p0, q0, hargs, rfl, rfl, h0, r0⟩ := trodAll_cons hA
  obtain ⟨v1, vs1, d1, ds1, p1, q1, rfl, rfl, rfl, h1, r1⟩ := trodAll_cons r0
  obtain ⟨rfl, rfl, rfl⟩ := trodAll_nil r1
  obtain rfl : args = #[v0, v1] := by cases args; simp_all
  obtain ⟨rfl, rfl⟩ := trodVars_none hV
  obtain ⟨A, c, l, rfl, hlc, hcm, hr, hok, hd⟩ := open_helds Tryd.underlying37 Tryd.underlying88 (by kernel_rfl) (by kernel_rfl) Tryd.underlying9 Tryd.underlying3 rfl rfl rfl rfl (hval 0 37 v0 rfl rfl) h0
  obtain ⟨Ab, cb, b, rfl, hlc2, hcm2, hr2, hd2⟩ := open_bytes Tryd.underlying23 Tryd.underlying5 (by kernel_rfl) (hval 1 23 v1 rfl rfl) h1
  have b0 := sized_rows hsz (j := 0) (t := 37) rfl rfl Tryd.underlying37 (by rw [show Tryd.prog.bytesOf 88 = 40 from by kernel_rfl]; omega) hd
  have b1 := sized_bytes hsz (j := 1) (t := 23) rfl rfl Tryd.underlying23 (by rw [show Tryd.prog.bytesOf 5 = 1 from by kernel_rfl]; omega) hlc2 hd2
  refine (lawhelds_walk A Ab c cb l b W (door.has_err hL) hr hr2 (by omega) (by omega) hlc2 (fun x hx => ⟨(hok x hx).1, (hok x hx).2.1, (hok x hx).2.2.1, (hok x hx).2.2.2⟩)).mono fun e W' ⟨he, bel⟩ => ?_
  subst he
  exact ⟨_, rfl, law_post door.laidOut (by kernel_rfl) rfl rfl Tryd.underlying4 rfl hW' bel⟩

theorem said : Rows.FrameHeldsSaid :=
  OpenClaim.holds_of_wide 4 Tryd.f4 rfl rfl rfl rfl rfl rfl rfl ⟨rfl, rfl, rfl, rfl, rfl⟩ rfl rfl rfl rfl rfl (by kernel_rfl) Tryd.func4 (by kernel_rfl)
    (of_decide_eq_true (by kernel_rfl)) (by unfold Func.isWrapper; first | (rw [if_pos (by decide +kernel)]; kernel_rfl) | (rw [if_neg (by decide +kernel)]; exact ⟨rfl, rfl⟩))
    (fun os started H enc _ => lifted os started H enc)

/-- FrameHelds, for every input: it answers true, and its arguments read behind the call as before it. -/
theorem proved : Rows.FrameHeldsCardSaid :=
  Claim7.holds_tied_plain_at .later [] [.handle] true _ true
    said (fun _ h => by cases h) (by kernel_rfl) (fun _ h => by cases h) frameHelds_row_tie rfl ⟨rfl, rfl⟩ (by kernel_rfl) rfl
    (fun f fn hf hfn => by
      obtain rfl : f = 4 := Option.some.inj ((show Tryd.prog.funcNamed "weirgate/weirlaw2.FrameHelds" = some 4 by kernel_rfl).symm.trans hf) |>.symm
      obtain rfl : fn = Tryd.f4 := (Option.some.inj (Tryd.func4.symm.trans hfn)).symm
      exact ⟨by kernel_rfl, fun j t ht => by
        rw [Tryd.params4] at ht
        rcases j with _ | _ | j
        · obtain rfl : t = 37 := by simpa using ht.symm
          exact (show Tryd.prog.wantsStandIn 37 = false by kernel_rfl)
        · obtain rfl : t = 23 := by simpa using ht.symm
          exact (show Tryd.prog.wantsStandIn 23 = false by kernel_rfl)
        · simp at ht⟩)
    (by kernel_rfl)
end Go.Proofs.YtcfijljagohmlaaDoor.frameHelds
