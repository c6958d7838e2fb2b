/- The law FrameNums, for every input: frame.Num, frame.Text and frame.Seal write what the reference writes. -/
import Derived.Test.YtcfijljagohmlaaRows
import Derived.Test.YtcfijljagohmlaaWalkSeal
import Derived.Test.YtcfijljagohmlaaOpen
namespace Go.Proofs.Ytcfijljagohmlaa.frameNums
open Go.ChangeShapes Go.WideShapes Go.ChangeAt Go.RowKit
open Go.ChangeMaps (open_string shut_string)

set_option maxRecDepth 100000 in
set_option maxHeartbeats 1000000 in
theorem walk (n : Int) (s : ByteArray) (A : Option Addr) (c : Nat) (l : List UInt8) (w : World) (h0 : -9223372036854775808 ≤ n) (h1 : n ≤ 9223372036854775807)
    (hs : s.size ≤ 140737488351232) (hr : Rd w w.heap.size 1 A l.length (l.map bv)) (hl : l.length ≤ 140737488351232) :
    Calls Try.prog 3 #[.int .i64 n, .string s, .slice A l.length c] w fun e w' => e = .returned (.bool true) ∧ Below w.heap.size w w' := by
  go_enter Try.func3, Try.ntmps3
  go_wp2_with (first
    | (go_at_call 7; refine (num_any _ _ (by omega) (by omega)).mono ?_; rintro e w1 ⟨v1, rfl, ho1, hb1⟩)
    | (go_at_call 8; refine (rnum_any _ _ (by omega) (by omega)).mono ?_; rintro e w2 ⟨v2, rfl, ho2, hb2⟩; have hbb2 := below_up hb1 hb2)
    | (go_at_call 9; refine (text_any _ _ (by omega)).mono ?_; rintro e w3 ⟨v3, rfl, ho3, hb3⟩; have hbb3 := below_up hbb2 hb3)
    | (go_at_call 10; refine (rtext_any _ _ (by omega)).mono ?_; rintro e w4 ⟨v4, rfl, ho4, hb4⟩; have hbb4 := below_up hbb3 hb4)
    | (go_at_call 11; refine (seal_any _ _ _ l _ (hr.below hbb4 (Nat.le_refl _)) hbb4.size (by omega)).mono ?_; rintro e w5 ⟨v5, rfl, ho5, hb5⟩; have hbb5 := below_up hbb4 hb5)
    | (go_at_call 12; refine (rseal_any _ _ _ l _ (hr.below hbb5 (Nat.le_refl _)) hbb5.size (by omega)).mono ?_; rintro e w6 ⟨v6, rfl, ho6, hb6⟩; have hbb6 := below_up hbb5 hb6
       have ho5' := own_up ho5 hb6; have ho4' := own_up (own_up ho4 hb5) hb6; have ho3' := own_up (own_up (own_up ho3 hb4) hb5) hb6; have ho2' := own_up (own_up (own_up (own_up ho2 hb3) hb4) hb5) hb6; have ho1' := own_up (own_up (own_up (own_up (own_up ho1 hb2) hb3) hb4) hb5) hb6
       clear ho1 ho2 ho3 ho4 ho5
       obtain ⟨A1, c1, rfl, _, _, _, r1⟩ := own_form ho1'
       obtain ⟨A2, c2, rfl, _, _, _, r2⟩ := own_form ho2'
       obtain ⟨A3, c3, rfl, _, _, _, r3⟩ := own_form ho3'
       obtain ⟨A4, c4, rfl, _, _, _, r4⟩ := own_form ho4'
       obtain ⟨A5, c5, rfl, _, _, _, r5⟩ := own_form ho5'
       obtain ⟨A6, c6, rfl, _, _, _, r6⟩ := own_form ho6
       have q1 := run_string_rd (c := c1) Try.underlying22 Try.underlying5 Try.underlying9 r1
       have q2 := run_string_rd (c := c2) Try.underlying22 Try.underlying5 Try.underlying9 r2
       have q3 := run_string_rd (c := c3) Try.underlying22 Try.underlying5 Try.underlying9 r3
       have q4 := run_string_rd (c := c4) Try.underlying22 Try.underlying5 Try.underlying9 r4
       have q5 := run_string_rd (c := c5) Try.underlying22 Try.underlying5 Try.underlying9 r5
       have q6 := run_string_rd (c := c6) Try.underlying22 Try.underlying5 Try.underlying9 r6))
  go_ret
  exact ⟨rfl, hbb6⟩

theorem own : ownKnob Try.prog.godebug = none := by kernel_rfl
theorem laidOut : laidOutB Try.prog = true := by kernel_rfl

set_option maxRecDepth 100000 in
theorem lifted (os : Os) (started : os.Started) (H : Type) (enc : TypeId × Value → H) :
    ReturnsInHanded {} Try.checked os 3 .any (Rows.frameNumsSpec.pre6 enc Try.prog Try.f3 Rows.frameNumsRow.domain false) (Rows.frameNumsSpec.post enc Try.prog Try.f3 false true false false) := by
  refine returnsInHanded_of_change_sized (C := Try.checked) own started (by kernel_rfl) Try.func3
    (ChangeSpec.witness6 (enc := enc) (C := Try.checked) false ⟨#[], #[.int .i64 0, .string ByteArray.empty, .slice none 0 0], []⟩ 8 (by kernel_rfl) (by kernel_rfl) (by kernel_rfl) (by kernel_rfl)) ?_
  intro W base args ds gs before hval0 hW hcnd hsz0 _
  have hval : ∀ (j : Nat) t v, Try.f3.params[j]? = some t → args[j]? = some v → Value.okWide Try.prog W .any base t v := hval0
  have hsz : (DataW.weightsEach Try.prog (Try.f3.params.toList ++ Rows.frameNumsSpec.plain.varTypes Try.prog) (ds ++ gs)).all (· ≤ reachBytes) = true := hsz0
  have hW' := hW
  obtain ⟨p, q, hA0, hV, rfl, hfz, hnd⟩ := hW
  have hA : DataW.TrodAll enc Try.prog W 0 (fun _ => true) true Try.f3.params.toList args.toList ds p := hA0
  rw [Try.params3] at hA hval hsz
  obtain ⟨v0, vs0, d0, ds0, p0, q0, hargs, rfl, rfl, h0, r0⟩ := trodAll_cons hA
  obtain ⟨v1, vs1, d1, ds1, p1, q1, rfl, rfl, rfl, h1, r1⟩ := trodAll_cons r0
  obtain ⟨v2, vs2, d2, ds2, p2, q2, rfl, rfl, rfl, h2, r2⟩ := trodAll_cons r1
  obtain ⟨rfl, rfl, rfl⟩ := trodAll_nil r2
  obtain rfl : args = #[v0, v1, v2] := by cases args; simp_all
  obtain ⟨rfl, rfl⟩ := trodVars_none hV
  obtain ⟨a0, rfl, rfl, rfl, w0⟩ := open_int Try.underlying3 (hval 0 3 v0 rfl rfl) h0
  obtain ⟨a1, rfl, rfl, rfl, w1⟩ := open_string Try.underlying9 (hval 1 9 v1 rfl rfl) h1
  obtain ⟨A, c, l, rfl, hlc, hcm, hr, hd⟩ := open_bytes Try.underlying22 Try.underlying5 (by kernel_rfl) (hval 2 22 v2 rfl rfl) h2
  have b0 := bounds_i64 w0
  have b1 := sized_string hsz (j := 1) (t := 9) rfl rfl
  have b2 : l.length ≤ 140737488351232 := by
    rcases hd with ⟨_, rfl⟩ | ⟨elems, spare, rfl, e1, e2⟩
    · omega
    · have := sized_slice hsz (j := 2) (t := 22) (e := 5) rfl rfl Try.underlying22
      have e3 : Try.prog.bytesOf 5 = 1 := by kernel_rfl
      rw [e3] at this
      simp only [reachBytes] at this
      omega
  simp only [reachBytes] at b1
  refine (walk a0 a1 A c l W b0.1 b0.2 (by simpa using b1) hr b2).mono fun e W' ⟨he, bel⟩ => ?_
  subst he
  exact ⟨_, rfl, law_post laidOut (by kernel_rfl) rfl rfl Try.underlying4 rfl hW' bel⟩

theorem over : Rows.frameNumsRow.holds Try.pinned (OpenSpec.ofChange Rows.frameNumsSpec) :=
  OpenClaim.holds_of_wide 3 Try.f3 rfl rfl rfl rfl rfl rfl rfl ⟨rfl, rfl, rfl, rfl, rfl⟩ rfl rfl rfl rfl rfl (by kernel_rfl) Try.func3 (by kernel_rfl)
    (of_decide_eq_true (by kernel_rfl)) (by unfold Func.isWrapper; first | (rw [if_pos (by decide +kernel)]; kernel_rfl) | (rw [if_neg (by decide +kernel)]; exact ⟨rfl, rfl⟩))
    (fun os started H enc _ => lifted os started H enc)

/-- FrameNums, for every input: it answers true, and its arguments read behind the call as before it. -/
theorem proved : Rows.FrameNumsSaid := over
end Go.Proofs.Ytcfijljagohmlaa.frameNums
