/- The law WindowMarks, for every input: the marks of any inputs side by side are as the reference has them. Condition: the variable errors.errorType holds what the program's text lays (tied by the card). -/
import Derived.Test.YtelailhghhjleaaDoorCards
import Derived.Test.YtelailhghhjleaaDoorTie
import Derived.Test.YtelailhghhjleaaDoorDoor
import Derived.Test.YtelailhghhjleaaDoorWalkLawMarks
import Derived.Test.YtelailhghhjleaaDoorOpenLL
namespace Go.Proofs.YtelailhghhjleaaDoor.windowMarks
open Go.ChangeShapes Go.WideShapes Go.ChangeAt Go.RowKit

set_option maxRecDepth 100000 in
theorem lifted (os : Os) (started : os.Started) (H : Type) (enc : TypeId × Value → H) :
    ReturnsInHanded {} Tryd.checked os 3 .any (fun w args => (Rows.windowMarksSpec.pre enc Tryd.prog Tryd.f3 [] false w args ∧ laidMetH Tryd.prog door.list w) ∧ sizedMet enc Tryd.prog Tryd.f3 (OpenSpec.ofChange Rows.windowMarksSpec) false w args)
      (Rows.windowMarksSpec.post enc Tryd.prog Tryd.f3 false true false false) := by
  refine returnsInHanded_of_change_and (C := Tryd.checked) (X := fun w _ => laidMetH Tryd.prog door.list w) (fun _ _ _ hh h => h.of_heap hh) door.own started (by kernel_rfl) Tryd.func3
    (ChangeSpec.witness_at (enc := enc) (C := Tryd.checked) (os := os) (X := fun w _ => laidMetH Tryd.prog door.list w) false (door.laidWorld os) #[.slice none 0 0, .int .i64 0] 8 rfl (by kernel_rfl) (by kernel_rfl) (by kernel_rfl) (by kernel_rfl) (by kernel_rfl) (door.laidWorld_met os _)) ?_
  intro W base args ds gs before hval0 hW _ hsz0 hL _
  have hval : ∀ (j : Nat) t v, Tryd.f3.params[j]? = some t → args[j]? = some v → Value.okWide Tryd.prog W .any base t v := hval0
  have hsz : (DataW.weightsEach Tryd.prog (Tryd.f3.params.toList ++ Rows.windowMarksSpec.plain.varTypes Tryd.prog) (ds ++ gs)).all (· ≤ reachBytes) = true := hsz0
  have hW' := hW
  obtain ⟨p, q, hA0, hV, rfl, hfz, hnd⟩ := hW
  have hA : DataW.TrodAll enc Tryd.prog W 0 (fun _ => true) true Tryd.f3.params.toList args.toList ds p := hA0
  rw [Tryd.params3] at hA hval hsz
  obtain ⟨v0, vs0, d0, ds0, p0, q0, hargs, rfl, rfl, h0, r0⟩ := trodAll_cons hA
  obtain ⟨v1, vs1, d1, ds1, p1, q1, rfl, rfl, rfl, h1, r1⟩ := trodAll_cons r0
  obtain ⟨rfl, rfl, rfl⟩ := trodAll_nil r1
  obtain rfl : args = #[v0, v1] := by cases args; simp_all
  obtain ⟨rfl, rfl⟩ := trodVars_none hV
  obtain ⟨A, c, ls, rfl, hlc, hcm, hr, hbd, hd⟩ := open_recll Tryd.underlying22 Tryd.underlying44 (by kernel_rfl) Tryd.underlying74 (by kernel_rfl) (by kernel_rfl) Tryd.underlying9 Tryd.underlying3 rfl rfl rfl (hval 0 22 v0 rfl rfl) h0
  obtain ⟨a1, rfl, rfl, rfl, w1⟩ := open_int Tryd.underlying3 (hval 1 3 v1 rfl rfl) h1
  have b1 := bounds_i64 w1
  have b0 := sized_recll hsz (j := 0) (t := 22) (u := 44) (e := 74) rfl rfl Tryd.underlying22 Tryd.underlying44 (by rw [show Tryd.prog.bytesOf 44 = 24 from by kernel_rfl]; omega) (by rw [show Tryd.prog.bytesOf 74 = 32 from by kernel_rfl]; omega) hd
  refine (lawmarks_walk A c ls a1 W (door.has_err hL) hr (fun l hl => ⟨fun r hr => ⟨(hbd l hl r hr).1, (hbd l hl r hr).2.1, (hbd l hl r hr).2.2⟩, by have := b0.2 l hl; omega⟩) (by have := b0.1; omega) b1.1 b1.2).mono fun e W' ⟨he, bel⟩ => ?_
  subst he
  exact ⟨_, rfl, law_post door.laidOut (by kernel_rfl) rfl rfl Tryd.underlying4 rfl hW' bel⟩

theorem said : Rows.WindowMarksSaid :=
  OpenClaim.holds_of_wide 3 Tryd.f3 rfl rfl rfl rfl rfl rfl rfl ⟨rfl, rfl, rfl, rfl, rfl⟩ rfl rfl rfl rfl rfl (by kernel_rfl) Tryd.func3 (by kernel_rfl)
    (of_decide_eq_true (by kernel_rfl)) (by unfold Func.isWrapper; first | (rw [if_pos (by decide +kernel)]; kernel_rfl) | (rw [if_neg (by decide +kernel)]; exact ⟨rfl, rfl⟩))
    (fun os started H enc _ => lifted os started H enc)

/-- WindowMarks, for every input: it answers true, and its arguments read behind the call as before it. -/
theorem proved : Rows.WindowMarksCardSaid :=
  Claim7.holds_tied_plain_at .later [] [.handle] true _ true
    said (fun _ h => by cases h) (by kernel_rfl) (fun _ h => by cases h) windowMarks_row_tie rfl ⟨rfl, rfl⟩ (by kernel_rfl) rfl
    (fun f fn hf hfn => by
      obtain rfl : f = 3 := Option.some.inj ((show Tryd.prog.funcNamed "weirgate/weirlaw4.WindowMarks" = some 3 by kernel_rfl).symm.trans hf) |>.symm
      obtain rfl : fn = Tryd.f3 := (Option.some.inj (Tryd.func3.symm.trans hfn)).symm
      exact ⟨by kernel_rfl, fun j t ht => by
        rw [Tryd.params3] at ht
        rcases j with _ | _ | j
        · obtain rfl : t = 22 := by simpa using ht.symm
          exact (show Tryd.prog.wantsStandIn 22 = false by kernel_rfl)
        · obtain rfl : t = 3 := by simpa using ht.symm
          exact (show Tryd.prog.wantsStandIn 3 = false by kernel_rfl)
        · simp at ht⟩)
    (by kernel_rfl)
end Go.Proofs.YtelailhghhjleaaDoor.windowMarks
