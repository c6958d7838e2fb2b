/- The law SharePlays, for every input: any steps on a sharing of files: what is given, kept, dropped and told, as the plain lists of pictures have it. Condition: the variable errors.errorType and the listed tables of unicode/utf8 hold what their texts lay (tied by the card). -/
import Derived.Test.YtmeemcafjebanaaGreatDoorCards
import Derived.Test.YtmeemcafjebanaaGreatDoorTie
import Derived.Test.YtmeemcafjebanaaGreatDoorDoorZ
import Derived.ProofKit
import Derived.OpenShut
import Derived.Test.YtmeemcafjebanaaGreatDoorWalkLawSPlays
import Derived.Test.YtmeemcafjebanaaGreatDoorOpenII
import Derived.Test.YtmeemcafjebanaaGreatDoorOpenR
namespace Go.Proofs.YtmeemcafjebanaaGreatDoor.sharePlays
open Go.ChangeShapes Go.WideShapes Go.ChangeAt Go.RowKit
open Go.ChangeMaps (open_string)

set_option maxRecDepth 100000 in
theorem lifted (os : Os) (started : os.Started) (H : Type) (enc : TypeId × Value → H) :
    ReturnsInHanded {} Tryz.checked os 3 .any (fun w args => (Rows.sharePlaysSpec.pre enc Tryz.prog Tryz.f3 [] false w args ∧ laidMetH Tryz.prog doorz.list w) ∧ sizedMet enc Tryz.prog Tryz.f3 (OpenSpec.ofChange Rows.sharePlaysSpec) false w args)
      (Rows.sharePlaysSpec.post enc Tryz.prog Tryz.f3 false true false false) := by
  refine returnsInHanded_of_change_and (C := Tryz.checked) (X := fun w _ => laidMetH Tryz.prog doorz.list w) (fun _ _ _ hh h => h.of_heap hh) doorz.own started (by kernel_rfl) Tryz.func3
    (ChangeSpec.witness_shaped (enc := enc) (C := Tryz.checked) (os := os) (X := fun w _ => laidMetH Tryz.prog doorz.list w) false (doorz.laidWorld os) #[.slice none 0 0, .slice none 0 0] 8 (doorz.laidWorld_os _)
      (World.shaped_of_ZipB (by kernel_rfl) (by kernel_rfl)) (by kernel_rfl) (by kernel_rfl) (by kernel_rfl) (doorz.laidWorld_met os _)) ?_
  intro W base args ds gs before hval0 hW _ hsz0 hL _
  have hval : ∀ (j : Nat) t v, Tryz.f3.params[j]? = some t → args[j]? = some v → Value.okWide Tryz.prog W .any base t v := hval0
  have hsz : (DataW.weightsEach Tryz.prog (Tryz.f3.params.toList ++ Rows.sharePlaysSpec.plain.varTypes Tryz.prog) (ds ++ gs)).all (· ≤ reachBytes) = true := hsz0
  have hW' := hW
  obtain ⟨p, q, hA0, hV, rfl, hfz, hnd⟩ := hW
  have hA : DataW.TrodAll enc Tryz.prog W 0 (fun _ => true) true Tryz.f3.params.toList args.toList ds p := hA0
  rw [Tryz.params3] at hA hval hsz
  obtain ⟨v0, vs0, d0, ds0, p0, q0, hargs, rfl, rfl, h0, r0⟩ := trodAll_cons hA
  obtain ⟨v1, vs1, d1, ds1, p1, q1, rfl, rfl, rfl, h1, r1⟩ := trodAll_cons r0
  obtain ⟨rfl, rfl, rfl⟩ := trodAll_nil r1
  obtain rfl : args = #[v0, v1] := by cases args; simp_all
  obtain ⟨rfl, rfl⟩ := trodVars_none hV
  obtain ⟨A0, c0, l0, rfl, hlc0, hcm0, hr0, hok0, hd0⟩ := open_intll Tryz.underlying22 Tryz.underlying26 Tryz.underlying3 (by kernel_rfl) (by kernel_rfl) (hval 0 22 v0 rfl rfl) h0
  obtain ⟨A1, c1, l1, rfl, hlc1, hcm1, hr1, hsz1, hd1⟩ := open_textS Tryz.underlying23 Tryz.underlying9 (by kernel_rfl) (hval 1 23 v1 rfl rfl) h1
  have b1 := sized_rows hsz (j := 1) (t := 23) rfl rfl Tryz.underlying23 (by rw [show Tryz.prog.bytesOf 9 = 16 from by kernel_rfl]; omega) hd1
  refine (lawsplays_any A0 c0 l0.length l0 A1 c1 l1.length l1 W (doorz.has_err hL) hr0 rfl hok0 hr1 rfl hlc1 hcm1 (by omega) hsz1).mono fun e W' ⟨he, bel⟩ => ?_
  subst he
  exact ⟨_, rfl, law_post doorz.laidOut (by kernel_rfl) rfl rfl Tryz.underlying4 rfl hW' bel⟩

theorem said : Rows.SharePlaysSaid :=
  OpenClaim.holds_of_wide 3 Tryz.f3 rfl rfl rfl rfl rfl rfl rfl ⟨rfl, rfl, rfl, rfl, rfl⟩ rfl rfl rfl rfl rfl (by kernel_rfl) Tryz.func3 (by kernel_rfl)
    (of_decide_eq_true (by kernel_rfl)) (by unfold Func.isWrapper; first | (rw [if_pos (by decide +kernel)]; kernel_rfl) | (rw [if_neg (by decide +kernel)]; exact ⟨rfl, rfl⟩))
    (fun os started H enc _ => lifted os started H enc)

/-- SharePlays, for every input: it answers true, and its arguments read behind the call as before it. -/
theorem proved : Rows.SharePlaysCardSaid :=
  Claim7.holds_tied_plain_at .later [] [.data, .handle, .pinned] true _ true
    said (fun _ h => by cases h) (by kernel_rfl) (fun _ h => by cases h) sharePlays_row_tie rfl ⟨rfl, rfl⟩ (by kernel_rfl) rfl
    (fun f fn hf hfn => by
      obtain rfl : f = 3 := Option.some.inj ((show Tryz.prog.funcNamed "weirgate/weirlaw2.SharePlays" = some 3 by kernel_rfl).symm.trans hf) |>.symm
      obtain rfl : fn = Tryz.f3 := (Option.some.inj (Tryz.func3.symm.trans hfn)).symm
      exact ⟨by kernel_rfl, fun j t ht => by
        rw [Tryz.params3] at ht
        rcases j with _ | _ | j
        · obtain rfl : t = 22 := by simpa using ht.symm
          exact (show Tryz.prog.wantsStandIn 22 = false by kernel_rfl)
        · obtain rfl : t = 23 := by simpa using ht.symm
          exact (show Tryz.prog.wantsStandIn 23 = false by kernel_rfl)
        · simp at ht⟩)
    (by kernel_rfl)
end Go.Proofs.YtmeemcafjebanaaGreatDoor.sharePlays
