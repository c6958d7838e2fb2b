/- The walk of table.Merge. -/
import Derived.Test.YtcfijljagohmlaaDoorWalkMix
import Derived.Test.YtcfijljagohmlaaDoorWalkTab2
import Derived.Test.YtcfijljagohmlaaDoorPlainTabOk
import Derived.Test.YtcfijljagohmlaaDoorMemBB
namespace Go.Proofs.YtcfijljagohmlaaDoor
open Go.RowKit

theorem el_slE : Elt Tryd.prog 63 50 (.slice none 0 0) 1 24 := ⟨Tryd.underlying63, by kernel_rfl, rfl, by omega, by omega⟩
/-- A list of entries as it lies in memory. -/
structure El where
  l : List Ent
  A : Option Addr
  c : Nat
def El.val (e : El) : Value := .slice e.A e.l.length e.c
structure OwnEE (w : World) (base : Nat) (v : Value) (es : List El) : Prop where
  row : w.ownsRow base 50 1 v es.length (es.map El.val)
  ok : ∀ e ∈ es, w.ownsRow base 57 3 e.val e.l.length (entCells e.l)
theorem OwnEE.up {w w' : World} {base : Nat} {v : Value} {es : List El} (h : OwnEE w base v es) (hb : Below w.heap.size w w') : OwnEE w' base v es :=
  ⟨own_up h.row hb, fun e he => own_up (h.ok e he) hb⟩
theorem OwnEE.push {w w' : World} {base : Nat} {v v' : Value} {es : List El} {x : El} (h : OwnEE w base v es) (hx : w.ownsRow base 57 3 x.val x.l.length (entCells x.l)) (hrow : w'.ownsRow base 50 1 v' (es.length + 1) (es.map El.val ++ [x.val])) (hg : w.grownBy w' v.ownBlock) : OwnEE w' base v' (es ++ [x]) := by
  refine ⟨by rw [List.length_append, List.map_append]; exact hrow, fun e he => ?_⟩
  rcases List.mem_append.1 he with he | he
  · exact own_far (h.ok e he) hg (own_ne (h.ok e he) h.row (by decide))
  · rw [List.mem_singleton.1 he]
    exact own_far hx hg (own_ne hx h.row (by decide))
theorem OwnEE.rd {w : World} {base : Nat} {v : Value} {es : List El} (h : OwnEE w base v es) : ∃ A c, v = .slice A es.length c ∧ es.length ≤ c ∧ c ≤ maxLen ∧ RdEE w w.heap.size A (es.map El.l) := by
  obtain ⟨A, c, e, h1, h2, _, h3⟩ := own_form h.row
  refine ⟨A, c, e, h1, h2, fun hn => ?_⟩
  obtain ⟨ad, e2, hb, hc⟩ := h3.2 (by simpa using hn)
  refine ⟨ad, e2, hb, fun i l hl => ?_⟩
  rw [List.getElem?_map, Option.map_eq_some_iff] at hl
  obtain ⟨x, hx, rfl⟩ := hl
  obtain ⟨A', c', e', k1, k2, _, k3⟩ := own_form (h.ok x (List.mem_of_getElem? hx))
  unfold El.val at e'
  injection e' with e3 _ e5
  rw [← e3] at k3
  rw [← e5] at k1 k2
  exact ⟨x.A, x.c, hc i x.val (by rw [List.getElem?_map, hx]; rfl), k1, k2, k3⟩
def readsL (bs : List (List UInt8)) : List (List Ent) := bs.map fun b => (readTab b).getD []
def tmE (bs : List (List UInt8)) (dead : Bool) : Nat := if bs.all (fun b => (readTab b).isSome) = true then entsE (mixO dead (readsL bs)) else 9
def tmB (bs : List (List UInt8)) (dead : Bool) : List UInt8 := if bs.all (fun b => (readTab b).isSome) = true then tabB (mixO dead (readsL bs)) else []
theorem mixO_mem {dead : Bool} {ls : List (List Ent)} {e : Ent} (h : e ∈ mixO dead ls) : ∃ l ∈ ls, e ∈ l := by
  have := mix_mem (List.mem_filter.1 h).1
  exact List.mem_flatten.1 this
theorem mixO_len {dead : Bool} {ls : List (List Ent)} : (mixO dead ls).length ≤ ls.flatten.length := Nat.le_trans (List.length_filter_le _ _) (mix_len _)
set_option maxRecDepth 100000 in
set_option maxHeartbeats 4000000 in
theorem tmerge_any (A : Option Addr) (c B n : Nat) (bs : List (List UInt8)) (dead : Bool) (w : World) (hr : RdBB w B A bs) (hln : bs.length = n) (hB : B ≤ w.heap.size) (hn : n ≤ 200000) (hb : ∀ b ∈ bs, b.length ≤ 140737488355328) :
    Calls Tryd.prog 30 #[.slice A n c, .bool dead] w fun e w' => ∃ v, e = .returned (.tuple #[v, errV (tmE bs dead)]) ∧ w'.ownsRow w.heap.size 5 1 v (tmB bs dead).length ((tmB bs dead).map bv) ∧ Below w.heap.size w w' := by
  have HLN := Lib.hid hln
  have HBL := Lib.hid hb
  obtain ⟨TE, hTE⟩ : ∃ x, x = tmE bs dead := ⟨_, rfl⟩
  obtain ⟨TB, hTB⟩ : ∃ x, x = tmB bs dead := ⟨_, rfl⟩
  have HTE := Lib.hid hTE
  have HTB := Lib.hid hTB
  rw [← hTE, ← hTB]
  clear hln hb hTE hTB
  go_enter Tryd.func30, Tryd.ntmps30
  go_wp2_with fail
  go_loopw [6, 13] (fun o x wr => ∃ (i : Nat) (es : List El), i ≤ n ∧ x = .int .i64 i ∧ es.length = i ∧ OwnEE wr w.heap.size o es ∧ Hid (es.map El.l = readsL (bs.take i)) ∧ Hid (∀ (j : Nat) (b : List UInt8), j < i → bs[j]? = some b → (readTab b).isSome = true) ∧ Below w.heap.size w wr) (fun _ x _ => n - (intOf x).toNat)
  case atStart => exact ⟨0, [], Nat.zero_le _, rfl, rfl, ⟨World.ownsRow_nil _ _ _ _, (fun _ h => (List.not_mem_nil h).elim)⟩, Lib.hid rfl, Lib.hid (fun j _ hj => absurd hj (by omega)), Below.refl _ _⟩
  obtain ⟨i, es, hi, rfl, hes, hO, HR, HS, hbel⟩ := hrel
  have hws := hbel.size
  by_cases hlt : i < n
  · obtain ⟨ad, rfl, hab, hcell⟩ := hr (by rw [HLN.out]; omega)
    obtain ⟨b, hbi⟩ : ∃ b, bs[i]? = some b := ⟨_, List.getElem?_eq_getElem (by rw [HLN.out]; exact hlt)⟩
    obtain ⟨A1, c1, g0w, hlc, hcm, hrd⟩ := hcell i b hbi
    have hbw : (ad.add i).block < w.heap.size := by rw [block_add]; omega
    have g0 := (hbel.cell hbw).trans g0w
    have HBI := Lib.hid hbi
    have hrt := Lib.hid (readtab_any A1 c1 B b wr (hrd.below hbel hB) (Nat.le_trans hB hws) (HBL.out b (List.mem_of_getElem? hbi)) hlc)
    obtain ⟨m, hm⟩ : ∃ m, m = b.length := ⟨_, rfl⟩
    rw [← hm] at g0 hlc hrd hrt
    clear hbi hcell g0w hm hrd
    have hi0 : (0 : Int) ≤ (i : Int) := by omega
    have hi1 : (i : Int) < (n : Int) := by omega
    have HO := Lib.hid hO
    rcases hrb : readTab b with _ | l
    · have hrt2 := hrt.out
      rw [rtE_none hrb, hrb, show errV 9 = .iface 75 (.int .i64 9) from rfl] at hrt2
      have HX : Hid (bs.all (fun b => (readTab b).isSome) = false) := Lib.hid (by
        rw [List.all_eq_false]
        exact ⟨b, List.mem_of_getElem? HBI.out, by rw [hrb]; simp⟩)
      have HT1 : Hid (TE = 9) := Lib.hid (by rw [HTE.out, tmE, HX.out]; rfl)
      have HT2 : Hid (TB = []) := Lib.hid (by rw [HTB.out, tmB, HX.out]; rfl)
      clear hrb hO
      go_wp2_with (first
        | (go_at_call 23; go_must (refine hrt2.mono ?_); rintro e w2 ⟨v2, rfl, _, hb2⟩))
      go_ret2
      exact ⟨.slice none 0 0, by rw [HT1.out]; rfl, by rw [HT2.out]; exact World.ownsRow_nil _ _ _ _, hbel.trans (hb2.mono hws)⟩
    · have hrt2 := hrt.out
      rw [rtE_some hrb, hrb, Option.getD_some, errV_zero] at hrt2
      have hrd1 : readsL (bs.take (i + 1)) = readsL (bs.take i) ++ [l] := by rw [readsL, List.take_add_one, HBI.out, List.map_append]; simp [readsL, hrb]
      have HRD := Lib.hid hrd1
      have HS2 : Hid (∀ (j : Nat) (b : List UInt8), j < i + 1 → bs[j]? = some b → (readTab b).isSome = true) := Lib.hid fun j b' hj hb' => by
        by_cases hji : j < i
        · exact HS.out j b' hji hb'
        · obtain rfl : j = i := by omega
          rw [HBI.out] at hb'
          injection hb' with hb'
          rw [← hb', hrb]; rfl
      have hrow := hO.row
      have hby : (es.length + 1) * 24 ≤ 140737488355328 := by omega
      clear hrb hO hrd1
      go_wp2_with (first
        | (go_at_call 23; go_must (refine hrt2.mono ?_); rintro e w2 ⟨v2, rfl, ho2, hb2⟩; obtain ⟨A2, c2, rfl, k1, k2, _, k3⟩ := own_form ho2; have hro2 := own_up hrow hb2; have hbel2 := hbel.trans (hb2.mono hws); have hs2 := hbel2.size)
        | (with_reducible show wpList _ _ _ (⟨some 28, _, _, _, _, _⟩ :: _) _ _; go_must (refine wpList_newg (.tmp 25) (.tmp 27) el_slE rfl rfl hro2 rfl rfl rfl rfl rfl hby hs2 ?_); intro v4 w4 hown4 hb4 hg4 ha4))
      have hpush := (HO.out.up hb2).push (x := ⟨l, A2, c2⟩) (own_base ho2 hws) hown4 hg4
      have HPU := Lib.hid hpush
      have hbel4 := hbel2.trans hb4
      clear hown4 hpush ho2 k3 hro2 hrt2
      go_roundw
      case rel => exact ⟨i + 1, es ++ [⟨l, A2, c2⟩], by omega, by go_num, by rw [List.length_append, hes]; rfl, HPU.out, Lib.hid (by rw [HRD.out, List.map_append, HR.out]; rfl), HS2, hbel4⟩
      case measure => simp [intOf]; omega
  · obtain rfl : i = n := by omega
    have htk : bs.take i = bs := List.take_of_length_le (by rw [HLN.out]; exact Nat.le_refl _)
    have hall : bs.all (fun b => (readTab b).isSome) = true := by
      rw [List.all_eq_true]
      intro b hb
      obtain ⟨j, hj⟩ := List.mem_iff_getElem?.1 hb
      exact HS.out j b (by have := (List.getElem?_eq_some_iff.1 hj).1; rw [HLN.out] at this; exact this) hj
    have HT1 : Hid (TE = entsE (mixO dead (readsL bs))) := Lib.hid (by rw [HTE.out, tmE, hall]; rfl)
    have HT2 : Hid (TB = tabB (mixO dead (readsL bs))) := Lib.hid (by rw [HTB.out, tmB, hall]; rfl)
    have hee : es.map El.l = readsL bs := by rw [HR.out, htk]
    have hok : ∀ l ∈ readsL bs, entsE l = 0 := fun l hl => by
      obtain ⟨b, hb, rfl⟩ := List.mem_map.1 hl
      have h1 := List.all_eq_true.1 hall b hb
      obtain ⟨x, hx⟩ := Option.isSome_iff_exists.1 h1
      rw [hx]; exact readTab_ok hx
    have hkey : ∀ l ∈ readsL bs, ∀ e ∈ l, e.key.size ≤ 120 ∧ e.value.size ≤ 120 := fun l hl e he => by
      have := entE_good ((entsE_all (hok l hl)).2 e he)
      exact ⟨this.1, this.2.1⟩
    have hlen : (readsL bs).length = i := by rw [readsL, List.length_map, HLN.out]
    have htot : (readsL bs).flatten.length ≤ 100000000 := by
      have : ∀ ls : List (List Ent), (∀ l ∈ ls, l.length ≤ 400) → ls.flatten.length ≤ 400 * ls.length := by
        intro ls
        induction ls with
        | nil => intro _; exact Nat.zero_le _
        | cons x xs ih =>
          intro h
          have := ih fun l hl => h l (List.mem_cons_of_mem _ hl)
          have := h x List.mem_cons_self
          rw [List.flatten_cons, List.length_append, List.length_cons]; omega
      have := this (readsL bs) fun l hl => (entsE_all (hok l hl)).1
      omega
    obtain ⟨Ae, ce, rfl, _, _, hre⟩ := hO.rd
    rw [hes, hee] at *
    have hmx := mix_any Ae ce wr.heap.size i (readsL bs) dead wr hre hlen (Nat.le_refl _) (by omega) htot (fun l hl e he => by have := (hkey l hl e he).1; unfold maxLen; omega)
    have hMOk : ∀ r ∈ mixO dead (readsL bs), r.Ok := fun r hr => by
      obtain ⟨l, hl, he⟩ := mixO_mem hr
      have := hkey l hl r he
      exact ⟨by omega, by omega⟩
    have hMOl : (mixO dead (readsL bs)).length ≤ 100000000 := Nat.le_trans mixO_len htot
    have HBU := Lib.hid (fun W A c (h : Rd W W.heap.size 3 A (mixO dead (readsL bs)).length (entCells (mixO dead (readsL bs)))) => build_any A c W.heap.size (mixO dead (readsL bs)) W h (Nat.le_refl _) hMOk (by omega))
    clear hMOk hkey hok hee htk hall htot hre
    generalize mixO dead (readsL bs) = MO at *
    have hlt2 : ¬ i < i := by omega
    go_wp2_with (first
      | (go_at_call 56; go_must (refine hmx.mono ?_); rintro e w2 ⟨A2, c2, rfl, q1, q2, q3, hb2⟩)
      | (go_at_call 22; go_must (refine (HBU.out w2 A2 c2 q3).mono ?_); rintro e w3 ⟨v3, rfl, ho3, hb3⟩))
    go_ret2
    have hb23 := hb2.trans (hb3.mono hb2.size)
    exact ⟨v3, by rw [HT1.out]; rfl, by rw [HT2.out]; exact own_base ho3 (Nat.le_trans hws hb2.size), hbel.trans (hb23.mono hws)⟩
end Go.Proofs.YtcfijljagohmlaaDoor
