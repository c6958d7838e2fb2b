/- The law FrameBack, for every input of bulk at most 1048576: what is written is read as it was, and what any bytes are read as is written as these bytes. -/
import Derived.Test.YtcfijljagohmlaaRows
import Derived.Test.YtcfijljagohmlaaWalkBack
import Derived.Test.YtcfijljagohmlaaOpen2
namespace Go.Proofs.Ytcfijljagohmlaa.frameBackUpto
open Go.ChangeShapes Go.WideShapes Go.ChangeAt Go.RowKit
open Go.ChangeMaps (open_string shut_string)

theorem own : ownKnob Try.prog.godebug = none := by kernel_rfl
theorem laidOut : laidOutB Try.prog = true := by kernel_rfl

set_option maxRecDepth 100000 in
theorem lifted (os : Os) (started : os.Started) (H : Type) (enc : TypeId × Value → H) (F : Stop.Interp) :
    ReturnsInHanded {} Try.checked os 4 .any ((Rows.OpenSpec.upto Rows.frameBackSpec).pre6 enc Try.prog Try.f4 Rows.frameBackUptoRow.domain false) (((Rows.OpenSpec.upto Rows.frameBackSpec).at F).post enc Try.prog Try.f4 false true false false) := by
  refine returnsInHanded_of_cond (C := Try.checked) (s := Rows.OpenSpec.upto Rows.frameBackSpec) (k := Rows.uptoSmall) rfl own started (by kernel_rfl) Try.func4
    (OpenSpec.witness (enc := enc) (C := Try.checked) (s := Rows.OpenSpec.upto Rows.frameBackSpec) (k := Rows.uptoSmall) rfl false ⟨#[], #[.slice none 0 0, .slice none 0 0, .slice none 0 0, .slice none 0 0], []⟩ 8 (by kernel_rfl) (by kernel_rfl) (by kernel_rfl)
      (x := ([.nil, .nil, .nil, .nil], [], [])) (by kernel_rfl) rfl (by kernel_rfl)) ?_
  intro W base args ds gs before hval0 hW _ hk _
  have hval : ∀ (j : Nat) t v, Try.f4.params[j]? = some t → args[j]? = some v → Value.okWide Try.prog W .any base t v := hval0
  have hW' := hW
  obtain ⟨p, q, hA0, hV, rfl, hfz, hnd⟩ := hW
  have hA : DataW.TrodAll enc Try.prog W 0 (fun _ => true) true Try.f4.params.toList args.toList ds p := hA0
  rw [Try.params4] at hA hval
  obtain ⟨v0, vs0, d0, ds0, p0, q0, hargs, rfl, rfl, h0, r0⟩ := trodAll_cons hA
  obtain ⟨v1, vs1, d1, ds1, p1, q1, rfl, rfl, rfl, h1, r1⟩ := trodAll_cons r0
  obtain ⟨v2, vs2, d2, ds2, p2, q2, rfl, rfl, rfl, h2, r2⟩ := trodAll_cons r1
  obtain ⟨v3, vs3, d3, ds3, p3, q3, rfl, rfl, rfl, h3, r3⟩ := trodAll_cons r2
  obtain ⟨rfl, rfl, rfl⟩ := trodAll_nil r3
  obtain rfl : args = #[v0, v1, v2, v3] := by cases args; simp_all
  obtain ⟨rfl, rfl⟩ := trodVars_none hV
  obtain ⟨A, c, l, rfl, hlc, hcm, hr, hok, hd⟩ := open_recs Try.underlying27 Try.underlying86 (by kernel_rfl) (by kernel_rfl) Try.underlying9 Try.underlying3 rfl rfl rfl (hval 0 27 v0 rfl rfl) h0
  obtain ⟨Ah, ch, h, rfl, hlc1, hcm1, hr1, hok1, hd1⟩ := open_helds Try.underlying28 Try.underlying47 (by kernel_rfl) (by kernel_rfl) Try.underlying9 Try.underlying3 rfl rfl rfl rfl (hval 1 28 v1 rfl rfl) h1
  obtain ⟨Ab, cb, b, rfl, hlc2, hcm2, hr2, hd2⟩ := open_bytes Try.underlying22 Try.underlying5 (by kernel_rfl) (hval 2 22 v2 rfl rfl) h2
  obtain ⟨Am, cm, more, rfl, hlc3, hcm3, hr3, hd3⟩ := open_bytes Try.underlying22 Try.underlying5 (by kernel_rfl) (hval 3 22 v3 rfl rfl) h3
  have hbulk := bulk_bound hk
  simp only [List.cons_append, List.nil_append, Rows.uptoBulkAll] at hbulk
  obtain ⟨b0, k0⟩ := bulk_rows (B := 1048576) hd (by omega)
  obtain ⟨b1, k1⟩ := bulk_rows (B := 1048576) hd1 (by omega)
  have b2 := bulk_bytes (B := 1048576) hd2 hlc2 (by omega)
  have b3 := bulk_bytes (B := 1048576) hd3 hlc3 (by omega)
  refine (back_walk A Ah Ab Am c ch cb cm l h b more W hr hr1 hr2 hr3 b0 b1 b2 b3 hlc3 (fun x hx => ⟨by have := bulk_rec (k0 x hx); omega, (hok x hx).2.1, (hok x hx).2.2⟩) (fun x hx => ⟨by have := bulk_hld (k1 x hx); omega, (hok1 x hx).2.1, (hok1 x hx).2.2.1, (hok1 x hx).2.2.2⟩)).mono fun e W' ⟨he, bel⟩ => ?_
  subst he
  exact ⟨_, rfl, law_post laidOut (by kernel_rfl) rfl rfl Try.underlying4 rfl hW' bel⟩

theorem over : Rows.frameBackUptoRow.holds Try.pinned (Rows.OpenSpec.upto Rows.frameBackSpec) :=
  OpenClaim.holds_of_cond 4 Try.f4 rfl rfl rfl rfl rfl rfl rfl ⟨rfl, rfl, rfl, rfl, rfl⟩ rfl rfl rfl rfl rfl (by kernel_rfl) Try.func4 (by kernel_rfl)
    (of_decide_eq_true (by kernel_rfl)) (by unfold Func.isWrapper; first | (rw [if_pos (by decide +kernel)]; kernel_rfl) | (rw [if_neg (by decide +kernel)]; exact ⟨rfl, rfl⟩))
    (fun os started H enc _ F => lifted os started H enc F)

/-- FrameBack, for every input of bulk at most 1048576: it answers true, and its arguments read behind the call as before it. -/
theorem proved : Rows.FrameBackUptoSaid := over
end Go.Proofs.Ytcfijljagohmlaa.frameBackUpto
