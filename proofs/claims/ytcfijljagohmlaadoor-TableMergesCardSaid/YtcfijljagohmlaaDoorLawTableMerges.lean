/- The law TableMerges, for every input: any tables put together: of each key the entry of the first, as the reference has it. Condition: the variable errors.errorType holds what the program's text lays (tied by the card). -/
import Derived.Test.YtcfijljagohmlaaDoorCards
import Derived.Test.YtcfijljagohmlaaDoorTie
import Derived.Test.YtcfijljagohmlaaDoorDoor
import Derived.Test.YtcfijljagohmlaaDoorWalkLawTMerges
import Derived.Test.YtcfijljagohmlaaDoorOpenEE
namespace Go.Proofs.YtcfijljagohmlaaDoor.tableMerges
open Go.ChangeShapes Go.WideShapes Go.ChangeAt Go.RowKit
open Go.ChangeMaps (open_string)

set_option maxRecDepth 100000 in
theorem lifted (os : Os) (started : os.Started) (H : Type) (enc : TypeId × Value → H) :
    ReturnsInHanded {} Tryd.checked os 6 .any (fun w args => (Rows.tableMergesSpec.pre enc Tryd.prog Tryd.f6 [] false w args ∧ laidMetH Tryd.prog door.list w) ∧ sizedMet enc Tryd.prog Tryd.f6 (OpenSpec.ofChange Rows.tableMergesSpec) false w args)
      (Rows.tableMergesSpec.post enc Tryd.prog Tryd.f6 false true false false) := by
  refine returnsInHanded_of_change_and (C := Tryd.checked) (X := fun w _ => laidMetH Tryd.prog door.list w) (fun _ _ _ hh h => h.of_heap hh) door.own started (by kernel_rfl) Tryd.func6
    (ChangeSpec.witness_at (enc := enc) (C := Tryd.checked) (os := os) (X := fun w _ => laidMetH Tryd.prog door.list w) false (door.laidWorld os) #[.slice none 0 0, .bool false] 8 rfl (by kernel_rfl) (by kernel_rfl) (by kernel_rfl) (by kernel_rfl) (by kernel_rfl) (door.laidWorld_met os _)) ?_
  intro W base args ds gs before hval0 hW _ hsz0 hL _
  have hval : ∀ (j : Nat) t v, Tryd.f6.params[j]? = some t → args[j]? = some v → Value.okWide Tryd.prog W .any base t v := hval0
  have hsz : (DataW.weightsEach Tryd.prog (Tryd.f6.params.toList ++ Rows.tableMergesSpec.plain.varTypes Tryd.prog) (ds ++ gs)).all (· ≤ reachBytes) = true := hsz0
  have hW' := hW
  obtain ⟨p, q, hA0, hV, rfl, hfz, hnd⟩ := hW
  have hA : DataW.TrodAll enc Tryd.prog W 0 (fun _ => true) true Tryd.f6.params.toList args.toList ds p := hA0
  rw [Tryd.params6] at hA hval hsz
  obtain ⟨v0, vs0, d0, ds0, p0, q0, hargs, rfl, rfl, h0, r0⟩ := trodAll_cons hA
  obtain ⟨v1, vs1, d1, ds1, p1, q1, rfl, rfl, rfl, h1, r1⟩ := trodAll_cons r0
  obtain ⟨rfl, rfl, rfl⟩ := trodAll_nil r1
  obtain rfl : args = #[v0, v1] := by cases args; simp_all
  obtain ⟨rfl, rfl⟩ := trodVars_none hV
  obtain ⟨A, c, ls, rfl, hlc, hcm, hr, hok, hd⟩ := open_entll Tryd.underlying63 Tryd.underlying50 (by kernel_rfl) Tryd.underlying57 (by kernel_rfl) (by kernel_rfl) Tryd.underlying9 Tryd.underlying4 rfl rfl rfl (hval 0 63 v0 rfl rfl) h0
  obtain ⟨dead, rfl, rfl, rfl⟩ := open_bool Tryd.underlying4 (hval 1 4 v1 rfl rfl) h1
  have b0 := sized_entll hsz (j := 0) (t := 63) (u := 50) (e := 57) rfl rfl Tryd.underlying63 Tryd.underlying50 (by rw [show Tryd.prog.bytesOf 50 = 24 from by kernel_rfl]; omega) (by rw [show Tryd.prog.bytesOf 57 = 40 from by kernel_rfl]; omega) hd
  refine (lawtmerges_any A c ls.length ls dead W (door.has_err hL) hr rfl (by omega) (fun l hl => ⟨by have := b0.2 l hl; omega, fun r hr => ⟨(hok l hl r hr).1, (hok l hl r hr).2⟩⟩)).mono fun e W' ⟨he, bel⟩ => ?_
  subst he
  exact ⟨_, rfl, law_post door.laidOut (by kernel_rfl) rfl rfl Tryd.underlying4 rfl hW' bel⟩

theorem said : Rows.TableMergesSaid :=
  OpenClaim.holds_of_wide 6 Tryd.f6 rfl rfl rfl rfl rfl rfl rfl ⟨rfl, rfl, rfl, rfl, rfl⟩ rfl rfl rfl rfl rfl (by kernel_rfl) Tryd.func6 (by kernel_rfl)
    (of_decide_eq_true (by kernel_rfl)) (by unfold Func.isWrapper; first | (rw [if_pos (by decide +kernel)]; kernel_rfl) | (rw [if_neg (by decide +kernel)]; exact ⟨rfl, rfl⟩))
    (fun os started H enc _ => lifted os started H enc)

/-- TableMerges, for every input: it answers true, and its arguments read behind the call as before it. -/
theorem proved : Rows.TableMergesCardSaid :=
  Claim7.holds_tied_plain_at .later [] [.handle] true _ true
    said (fun _ h => by cases h) (by kernel_rfl) (fun _ h => by cases h) tableMerges_row_tie rfl ⟨rfl, rfl⟩ (by kernel_rfl) rfl
    (fun f fn hf hfn => by
      obtain rfl : f = 6 := Option.some.inj ((show Tryd.prog.funcNamed "weirgate/weirlaw2.TableMerges" = some 6 by kernel_rfl).symm.trans hf) |>.symm
      obtain rfl : fn = Tryd.f6 := (Option.some.inj (Tryd.func6.symm.trans hfn)).symm
      exact ⟨by kernel_rfl, fun j t ht => by
        rw [Tryd.params6] at ht
        rcases j with _ | _ | j
        · obtain rfl : t = 63 := by simpa using ht.symm
          exact (show Tryd.prog.wantsStandIn 63 = false by kernel_rfl)
        · obtain rfl : t = 4 := by simpa using ht.symm
          exact (show Tryd.prog.wantsStandIn 4 = false by kernel_rfl)
        · simp at ht⟩)
    (by kernel_rfl)
end Go.Proofs.YtcfijljagohmlaaDoor.tableMerges
