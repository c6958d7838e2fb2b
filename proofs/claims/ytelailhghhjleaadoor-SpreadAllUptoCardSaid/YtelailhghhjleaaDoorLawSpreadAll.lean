/- The law SpreadAll, for every input of bulk at most 1048576: any things are spread in turn; any lists are spread again, or given to each. Condition: the variable errors.errorType holds what the program's text lays (tied by the card). -/
import Derived.Test.YtelailhghhjleaaDoorCards
import Derived.Test.YtelailhghhjleaaDoorTie
import Derived.Test.YtelailhghhjleaaDoorDoor
import Derived.Test.YtelailhghhjleaaDoorWalkLawSpread
import Derived.Test.YtelailhghhjleaaDoorOpenT
import Derived.Deep.DeepHandedRow
namespace Go.Proofs.YtelailhghhjleaaDoor.spreadAll
open Go.ChangeShapes Go.WideShapes Go.ChangeAt Go.RowKit

theorem any (A A2 : Option Addr) (c c2 : Nat) (l : List ByteArray) (ls : List (List ByteArray)) (p : Int) (w : World) (hg : HasErr w) (hr : Rd w w.heap.size 1 A l.length (l.map sv)) (hrr : RdTT w w.heap.size A2 ls)
    (hl : l.length ≤ 4398046511104) (hn2 : ls.length ≤ 4398046511104) (hl2 : (flatTo ls ls.length).length ≤ 4398046511104)
    (hp0 : -9223372036854775808 ≤ p) (hp1 : p ≤ 9223372036854775807) :
    Calls Tryd.prog 4 #[.slice A l.length c, .slice A2 ls.length c2, .int .i64 p] w fun e w' => e = .returned (.bool true) ∧ Below w.heap.size w w' := by
  by_cases h1 : p < 1
  · exact lawspread_low A A2 c c2 l ls p w hg hr hrr hl hn2 hl2 hp0 hp1 h1
  by_cases h2 : 16 < p
  · exact lawspread_high A A2 c c2 l ls p w hg hr hrr hl hn2 hl2 hp0 hp1 h2
  obtain ⟨q, rfl⟩ : ∃ q : Nat, p = q := ⟨p.toNat, by omega⟩
  by_cases h4 : 400 < l.length
  · exact lawspread_many A A2 c c2 l ls q w hg hr hrr hl hn2 hl2 (by omega) (by omega) h4
  · exact lawspread_good A A2 c c2 l ls q w hg hr hrr hl hn2 hl2 (by omega) (by omega) (by omega)

theorem witness_row (os : Os) {H : Type} (enc : TypeId × Value → H) :
    (Rows.OpenSpec.upto Rows.spreadAllSpec).preRow enc Tryd.prog Tryd.f4 Rows.spreadAllUptoRow.domain false Rows.spreadAllUptoRow.laid ((door.laidWorld os).forCall (fun _ _ => 0) ⟨#[], #[.slice none 0 0, .slice none 0 0, .int .i64 0], []⟩).memory #[.slice none 0 0, .slice none 0 0, .int .i64 0] := by
  have hw : (DataW.whole enc Tryd.prog ((door.laidWorld os).forCall (fun _ _ => 0) ⟨#[], #[.slice none 0 0, .slice none 0 0, .int .i64 0], []⟩).memory Tryd.f4.params.toList Rows.spreadAllSpec.vars false #[Value.slice none 0 0, .slice none 0 0, .int .i64 0].toList 8).map (fun x => (x.1, x.2.1)) =
      some ([.nil, .nil, .lit (.int .i64 0)], []) := by kernel_rfl
  obtain ⟨⟨x1, x2, x3⟩, hx, hx1⟩ := Option.map_eq_some_iff.1 hw
  simp only [Prod.mk.injEq] at hx1
  obtain ⟨rfl, rfl⟩ := hx1
  exact OpenSpec.preRow_of_cond 8 hx (by kernel_rfl) (fun k hk => by cases hk; rfl) (by kernel_rfl) (door.laidWorld_met os _)

set_option maxRecDepth 100000 in
theorem lifted (os : Os) (started : os.Started) (H : Type) (enc : TypeId × Value → H) (F : Stop.Interp) :
    ReturnsInHanded {} Tryd.checked os 4 .any ((Rows.OpenSpec.upto Rows.spreadAllSpec).preRow enc Tryd.prog Tryd.f4 Rows.spreadAllUptoRow.domain false Rows.spreadAllUptoRow.laid)
      (((Rows.OpenSpec.upto Rows.spreadAllSpec).at F).post enc Tryd.prog Tryd.f4 false true false false) := by
  refine returnsInHanded_of_row (C := Tryd.checked) (s := Rows.OpenSpec.upto Rows.spreadAllSpec) door.own started (by kernel_rfl) Tryd.func4
    (witness_row_at (enc := enc) (C := Tryd.checked) false (door.laidWorld os) #[.slice none 0 0, .slice none 0 0, .int .i64 0] rfl (by kernel_rfl) (by kernel_rfl) (by kernel_rfl) (witness_row os enc)) ?_
  intro W base args ds gs before hval0 hW _ hk0 _ hL _ _
  have hval : ∀ (j : Nat) t v, Tryd.f4.params[j]? = some t → args[j]? = some v → Value.okWide Tryd.prog W .any base t v := hval0
  have hk : Rows.uptoSmall H (ds ++ gs) = true := hk0 _ rfl
  have hL' : laidMetH Tryd.prog door.list W := hL
  have hW' := hW
  obtain ⟨p, q, hA0, hV, rfl, hfz, hnd⟩ := hW
  have hA : DataW.TrodAll enc Tryd.prog W 0 (fun _ => true) true Tryd.f4.params.toList args.toList ds p := hA0
  rw [Tryd.params4] at hA hval
  obtain ⟨v0, vs0, d0, ds0, p0, q0, hargs, rfl, rfl, h0, r0⟩ := trodAll_cons hA
  obtain ⟨v1, vs1, d1, ds1, p1, q1, rfl, rfl, rfl, h1, r1⟩ := trodAll_cons r0
  obtain ⟨v2, vs2, d2, ds2, p2, q2, rfl, rfl, rfl, h2, r2⟩ := trodAll_cons r1
  obtain ⟨rfl, rfl, rfl⟩ := trodAll_nil r2
  obtain rfl : args = #[v0, v1, v2] := by cases args; simp_all
  obtain ⟨rfl, rfl⟩ := trodVars_none hV
  obtain ⟨A, c, l, rfl, hlc, hcm, hr, hd⟩ := open_textl Tryd.underlying33 Tryd.underlying9 (by kernel_rfl) (hval 0 33 v0 rfl rfl) h0
  obtain ⟨A2, c2, ls, rfl, hlc2, hcm2, hrr, hdd⟩ := open_textll Tryd.underlying34 Tryd.underlying33 (by kernel_rfl) Tryd.underlying9 (by kernel_rfl) (hval 1 34 v1 rfl rfl) h1
  obtain ⟨a1, rfl, rfl, rfl, w1⟩ := open_int Tryd.underlying3 (hval 2 3 v2 rfl rfl) h2
  have b1 := bounds_i64 w1
  have hbulk := bulk_bound hk
  simp only [List.cons_append, List.nil_append, Rows.uptoBulkAll] at hbulk
  have k0 := bulk_texts (B := 1048576) hd (by omega)
  obtain ⟨k1, k2⟩ := bulk_textll (B := 1048576) hdd (by omega)
  refine (any A A2 c c2 l ls a1 W (door.has_err hL') hr hrr (by omega) (by omega) (by omega) b1.1 b1.2).mono fun e W' ⟨he, bel⟩ => ?_
  subst he
  exact ⟨_, rfl, law_post door.laidOut (by kernel_rfl) rfl rfl Tryd.underlying4 rfl hW' bel⟩

theorem said : Rows.SpreadAllUptoSaid :=
  OpenClaim.holds_of_cond 4 Tryd.f4 rfl rfl rfl rfl rfl rfl rfl ⟨rfl, rfl, rfl, rfl, rfl⟩ rfl rfl rfl rfl rfl (by kernel_rfl) Tryd.func4 (by kernel_rfl)
    (of_decide_eq_true (by kernel_rfl)) (by unfold Func.isWrapper; first | (rw [if_pos (by decide +kernel)]; kernel_rfl) | (rw [if_neg (by decide +kernel)]; exact ⟨rfl, rfl⟩))
    (fun os started H enc _ F => by rw [OpenClaim.pre_eq_preRow]; exact lifted os started H enc F)

/-- SpreadAll, for every input of bulk at most 1048576: it answers true, and its arguments read behind the call as before it. -/
theorem proved : Rows.SpreadAllUptoCardSaid :=
  Claim7.holds_tied_plain_at .later [] [.handle] true _ true
    said (fun _ h => by cases h) (by kernel_rfl) (fun _ h => by cases h) spreadAllUpto_row_tie rfl ⟨rfl, rfl⟩ (by kernel_rfl) rfl
    (fun f fn hf hfn => by
      obtain rfl : f = 4 := Option.some.inj ((show Tryd.prog.funcNamed "weirgate/weirlaw4.SpreadAll" = some 4 by kernel_rfl).symm.trans hf) |>.symm
      obtain rfl : fn = Tryd.f4 := (Option.some.inj (Tryd.func4.symm.trans hfn)).symm
      exact ⟨by kernel_rfl, fun j t ht => by
        rw [Tryd.params4] at ht
        rcases j with _ | _ | _ | j
        · obtain rfl : t = 33 := by simpa using ht.symm
          exact (show Tryd.prog.wantsStandIn 33 = false by kernel_rfl)
        · obtain rfl : t = 34 := by simpa using ht.symm
          exact (show Tryd.prog.wantsStandIn 34 = false by kernel_rfl)
        · obtain rfl : t = 3 := by simpa using ht.symm
          exact (show Tryd.prog.wantsStandIn 3 = false by kernel_rfl)
        · simp at ht⟩)
    (by kernel_rfl)
end Go.Proofs.YtelailhghhjleaaDoor.spreadAll
