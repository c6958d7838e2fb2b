/- The walk of weirref1.Lines. -/
import Derived.Test.YtelailhghhjleaaDoorMemLines
import Derived.Test.YtelailhghhjleaaDoorPlainAdd
import Derived.Test.YtelailhghhjleaaDoorWalkMarks2
import Derived.Test.YtelailhghhjleaaDoorKeeps
import Derived.Deep.RegionLaw
import Derived.Deep.CutBlock
import Derived.Deep.CutRange
namespace Go.Proofs.YtelailhghhjleaaDoor
open Go.RowKit

theorem own_mono {w : World} {base base' : Nat} {e : TypeId} {size : Nat} {v : Value} {n : Nat} {xs : List Value} (h : w.ownsRow base e size v n xs) (hb : base' ≤ base) : w.ownsRow base' e size v n xs :=
  ⟨h.1, h.2.imp id fun ⟨g, cap, cur, e, h1, rest⟩ => ⟨g, cap, cur, e, Nat.le_trans hb h1, rest⟩⟩
theorem own_frozen {w : World} {base : Nat} {e : TypeId} {size : Nat} {v : Value} {n g : Nat} {xs : List Value} (h : w.ownsRow base e size v n xs) (hv : v.ownBlock = some g) (j : Nat) : w.frozen? ⟨g, j, none⟩ = false := by
  rcases h.2 with ⟨e1, _⟩ | ⟨g', cap, cur, e1, _⟩
  · rw [e1] at hv; cases hv
  · rw [e1] at hv h
    simp [Value.ownBlock] at hv
    subst hv
    exact h.frozenAt j
theorem plCells_take (ps : List Pl) (k : Nat) : (plCells ps).take (k * 2) = plCells (ps.take k) := by
  induction ps generalizing k with
  | nil => simp [plCells]
  | cons x xs ih =>
    cases k with
    | zero => simp [plCells]
    | succ k =>
      have e : (k + 1) * 2 = k * 2 + 2 := by omega
      rw [e, List.take_succ_cons, plCells, plCells, List.flatMap_cons, List.flatMap_cons]
      have := ih k
      rw [plCells, plCells] at this
      simp [Pl.cells, this]
theorem plCells_drop (ps : List Pl) (k : Nat) : (plCells ps).drop (k * 2) = plCells (ps.drop k) := by
  induction ps generalizing k with
  | nil => simp [plCells]
  | cons x xs ih =>
    cases k with
    | zero => simp [plCells]
    | succ k =>
      have e : (k + 1) * 2 = k * 2 + 2 := by omega
      rw [e, List.drop_succ_cons, plCells, plCells, List.flatMap_cons]
      have := ih k
      rw [plCells, plCells] at this
      simp [Pl.cells, this]
theorem rd_zero {w : World} {B size : Nat} (A : Option Addr) : Rd w B size A 0 [] := ⟨by simp, fun h => absurd h (by omega)⟩
theorem addr0 (g j : Nat) : (⟨g, 0, none⟩ : Addr).add j = ⟨g, j, none⟩ := by
  unfold Addr.add
  split
  · rename_i h; rw [h]
  · simp
theorem rd_zero' {w : World} {B size n : Nat} {A : Option Addr} (h : n = 0) : Rd w B size A n [] := by rw [h]; exact rd_zero A
theorem plCells_onev (ps : List Pl) : ∀ u ∈ plCells ps, u.oneCell' = true := plCells_one ps
theorem OwnL.at_ {w : World} {base : Nat} {A : Option Addr} {m c : Nat} {ps : List Pl} (h : OwnL w base (.slice A m c) ps) {k : Nat} (hk : k < ps.length) :
    ∃ g p, A = some ⟨g, 0, none⟩ ∧ ps[k]? = some p ∧ w.cell? ⟨g, k * 2, none⟩ = some (.string p.ln.key) ∧ w.cell? ⟨g, k * 2 + 1, none⟩ = some p.val ∧ w.frozen? ⟨g, k * 2 + 1, none⟩ = false ∧ (Value.slice A m c).ownBlock = some g := by
  rcases h.row.2 with ⟨e, e0⟩ | ⟨g, cap, cur, e, _⟩
  · omega
  · have hr := h.row
    injection e with e1 e2 e3
    subst e1 e2 e3
    obtain ⟨h0, h1⟩ := plCells_at (List.getElem?_eq_getElem hk)
    refine ⟨g, ps[k], rfl, List.getElem?_eq_getElem hk, ?_, ?_, hr.frozenAt _, rfl⟩
    · rw [hr.cellAt _ (by omega)]; exact h0
    · rw [hr.cellAt _ (by omega)]; exact h1
theorem lnsOf_set {ps : List Pl} {k : Nat} {q : Pl} : lnsOf (ps.set k q) = (lnsOf ps).set k q.ln := by rw [lnsOf, List.map_set]; rfl
theorem lnsOf_append (a b : List Pl) : lnsOf (a ++ b) = lnsOf a ++ lnsOf b := by simp [lnsOf]
theorem lnsOf_take (ps : List Pl) (k : Nat) : lnsOf (ps.take k) = (lnsOf ps).take k := by simp [lnsOf, List.map_take]
theorem lnsOf_drop (ps : List Pl) (k : Nat) : lnsOf (ps.drop k) = (lnsOf ps).drop k := by simp [lnsOf, List.map_drop]
/-- Behind the place's line is made: one number is to be put to it. -/
structure Stand (w wr : World) (v : Value) (ps : List Pl) (k : Nat) (key : ByteArray) (num : Int) (L : List Ln) : Prop where
  own : OwnL wr w.heap.size v ps
  at_ : ∃ p, ps[k]? = some p ∧ p.ln.key = key ∧ ∀ q : Pl, q.ln = ⟨key, p.ln.nums ++ [num]⟩ → lnsOf (ps.set k q) = L
  bel : Below w.heap.size w wr
theorem Stand.there {w wr : World} {v : Value} {ps : List Pl} {k : Nat} {key : ByteArray} {num : Int} {p : Pl} (h : OwnL wr w.heap.size v ps) (hb : Below w.heap.size w wr) (h1 : ∀ (j : Nat) (y : Ln), j < k → (lnsOf ps)[j]? = some y → klt y.key key = true) (hp : ps[k]? = some p) (hk : p.ln.key = key) : Stand w wr v ps k key num (lnAdd key [num] (lnsOf ps)) :=
  ⟨h, ⟨p, hp, hk, fun q hq => by rw [lnsOf_set, hq, lnAdd_at h1 (lnsOf_at hp) hk]⟩, hb⟩
theorem Stand.new_ {w wr w' : World} {v v' : Value} {ps : List Pl} {k : Nat} {key : ByteArray} {num : Int} (h : OwnL wr w.heap.size v ps) (hbel : Below w.heap.size w wr) (hk : k ≤ ps.length) (h1 : ∀ (j : Nat) (y : Ln), j < k → (lnsOf ps)[j]? = some y → klt y.key key = true)
    (h2 : ∀ y, (lnsOf ps)[k]? = some y → klt y.key key = false ∧ y.key ≠ key) (hb : Below wr.heap.size wr w') (hrow : w'.ownsRow wr.heap.size 64 2 v' (ps.length + 1) (plCells (ps.take k ++ [⟨⟨key, []⟩, none, 0⟩] ++ ps.drop k))) :
    Stand w w' v' (ps.take k ++ [⟨⟨key, []⟩, none, 0⟩] ++ ps.drop k) k key num (lnAdd key [num] (lnsOf ps)) := by
  have hlk : (ps.take k).length = k := by rw [List.length_take]; omega
  refine ⟨h.insert hb (own_mono hrow hbel.size) (fun g hg => (hrow.lt g hg).1), ⟨⟨⟨key, []⟩, none, 0⟩, ?_, rfl, fun q hq => ?_⟩, hbel.trans (hb.mono hbel.size)⟩
  · rw [List.append_assoc, List.getElem?_append_right (by omega), hlk, Nat.sub_self]; rfl
  · rw [set_mid hlk, lnsOf_append, lnsOf_append, lnsOf_take, lnsOf_drop, lnAdd_ins (by rw [lnsOf_len]; exact hk) h1 h2]
    have : lnsOf [q] = [(⟨key, [num]⟩ : Ln)] := by simp [lnsOf, hq]
    rw [this]
set_option maxRecDepth 100000 in
set_option maxHeartbeats 4000000 in
theorem rlines1_any (A : Option Addr) (c B n : Nat) (l : List Rec) (w : World) (hr : Rd w B 3 A n (recCells l)) (hln : l.length = n) (hB : B ≤ w.heap.size) (hn : n ≤ 1000000) (hwf : ∀ r ∈ l, (Lit.int .i64 r.num).wf = true) :
    Calls Tryd.prog 53 #[.slice A n c] w fun e w' => ∃ v ps, e = .returned v ∧ OwnL w' w.heap.size v ps ∧ lnsOf ps = linesOf l ∧ Below w.heap.size w w' := by
  have HLN := Lib.hid hln
  have HWF := Lib.hid hwf
  clear hln hwf
  go_enter Tryd.func53, Tryd.ntmps53
  go_wp2_with fail
  go_loopw [3, 4] (fun o x wr => ∃ (i : Nat) (ps : List Pl), i ≤ n ∧ x = .int .i64 i ∧ OwnL wr w.heap.size o ps ∧ ps.length ≤ i ∧ Hid (lnsOf ps = linesOf (l.take i)) ∧ Hid (∀ p ∈ ps, p.ln.nums.length ≤ i) ∧ Below w.heap.size w wr) (fun _ x _ => n - (intOf x).toNat)
  case atStart => exact ⟨0, [], Nat.zero_le _, rfl, OwnL.start _ _, Nat.le_refl _, Lib.hid rfl, Lib.hid (fun p hp => by cases hp), Below.refl _ _⟩
  obtain ⟨i, ps, hi, rfl, hO, hpi, HL, HNB, hbel⟩ := hrel
  have hws := hbel.size
  obtain ⟨A', c', rfl, hmc, hcm, hab, hrd⟩ := own_form hO.row
  obtain ⟨m, hm⟩ : ∃ m, m = ps.length := ⟨_, rfl⟩
  have Hm := Lib.hid hm
  rw [← hm] at hmc hrd hpi hO ⊢
  clear hm
  by_cases hlt : i < n
  · obtain ⟨ad, r, rfl, hx, g0, g1, g2⟩ := hr.rec_ hlt HLN.out hbel hB
    have hadB : ad.block < B := by obtain ⟨_, e, h, _⟩ := hr.2 (by omega); injection e with e; subst e; exact h
    have HX := Lib.hid (linesOf_next hx)
    have HWR := Lib.hid (HWF.out r (List.mem_of_getElem? hx))
    clear hx g2
    have hi0 : (0 : Int) ≤ (i : Int) := by omega
    have hi1 : (i : Int) < (n : Int) := by omega
    go_upto_region 6 with fail
    rename World => wo
    go_loopw [5] (fun x wz => ∃ k q : Nat, k ≤ m ∧ x = .int .i64 k ∧ Hid (∀ (j : Nat) (y : Ln), j < k → (lnsOf ps)[j]? = some y → klt y.key r.key = true) ∧ Hid (wz = wo.drewN q)) (fun x _ => m - (intOf x).toNat)
    case atStart => exact ⟨0, 0, Nat.zero_le _, rfl, Lib.hid (fun j _ hj => absurd hj (by omega)), Lib.hid rfl⟩
    obtain ⟨k, q, hk, rfl, HS, hw⟩ := hrel
    have hOr : OwnL wr w.heap.size (.slice A' m c') ps := by rw [hw.out]; exact hO.up (below_drewN (Below.refl _ _) q)
    have hbr : Below w.heap.size w wr := by rw [hw.out]; exact below_drewN hbel q
    have x0 : wr.cell? (ad.add (i * 3)) = some (.string r.key) := by rw [hw.out]; exact g0
    have x1 : wr.cell? ⟨(ad.add (i * 3)).block, (ad.add (i * 3)).off + 1, none⟩ = some (.int .i64 r.num) := by rw [hw.out]; exact g1
    by_cases hcont : ∃ p, ps[k]? = some p ∧ klt p.ln.key r.key = true
    · obtain ⟨p', hp', hc⟩ := hcont
      have hkm : k < m := by have := (List.getElem?_eq_some_iff.1 hp').1; have := Hm.out; omega
      obtain ⟨go, p, rfl, hp, k0, k1, kf, hgo⟩ := hOr.at_ (k := k) (by rw [← Hm.out]; exact hkm)
      obtain rfl : p = p' := by rw [hp] at hp'; injection hp'
      have HP := Lib.hid hp
      clear hp hp'
      have hk0 : (0 : Int) ≤ (k : Int) := by omega
      have hk1 : (k : Int) < (m : Int) := by omega
      have tc : (Op.bytesLess p.ln.key.toList r.key.toList) = true := hc
      have HS2 : Hid (∀ (j : Nat) (y : Ln), j < k + 1 → (lnsOf ps)[j]? = some y → klt y.key r.key = true) := Lib.hid fun j y hj hy => by
        by_cases hjk : j < k
        · exact HS.out j y hjk hy
        · obtain rfl : j = k := by omega
          rw [lnsOf_at HP.out] at hy
          injection hy with hy
          rw [← hy]; exact hc
      clear hc hOr
      go_wp2_with fail
      go_quiet (fail)
      go_wp2_with fail
      go_roundw
      case rel => exact ⟨k + 1, q + nq, by omega, by go_num, HS2, Lib.hid (by rw [hw.out, World.drewN_drewN])⟩
      case measure => simp [intOf]; omega
    · have HNO : Hid (∀ y, (lnsOf ps)[k]? = some y → klt y.key r.key = false) := Lib.hid fun y hy => by
        rw [lnsOf, List.getElem?_map, Option.map_eq_some_iff] at hy
        obtain ⟨p, hp, rfl⟩ := hy
        rcases h : klt p.ln.key r.key
        · rfl
        · exact absurd ⟨p, hp, h⟩ hcont
      clear hcont
      have hk0 : (0 : Int) ≤ (k : Int) := by omega
      go_upto_region 6 with fail
      go_cut [29] from 13 to 29 (fun s wx => s = .bool false ∧ ∃ q', Hid (wx = wo.drewN q'))
      case first =>
        by_cases hkm : k < m
        · obtain ⟨go, p, rfl, hp, k0, k1, kf, hgo⟩ := hOr.at_ (k := k) (by rw [← Hm.out]; exact hkm)
          have tc : (Op.bytesLess p.ln.key.toList r.key.toList) = false := HNO.out p.ln (lnsOf_at hp)
          have hk1 : (k : Int) < (m : Int) := by omega
          clear hp hOr
          go_quiet (fail)
          go_wp2_with fail
          go_meet
          exact ⟨rfl, q + nq, Lib.hid (by rw [hw.out, World.drewN_drewN])⟩
        · have hk1 : ¬ ((k : Int) < (m : Int)) := by omega
          have hk2 : decide ((k : Int) < (m : Int)) = false := by simpa using hk1
          have hk3 : decide (k < m) = false := by simpa using hkm
          go_quiet (fail)
          go_wp2_with fail
          go_meet
          exact ⟨rfl, q + nq, Lib.hid (by rw [hw.out, World.drewN_drewN])⟩
      case rest =>
        obtain ⟨rfl, q2, hw2⟩ := hcut
        clear hOr hbr x0 x1 hw
        have hOr : OwnL wc w.heap.size (.slice A' m c') ps := by rw [hw2.out]; exact hO.up (below_drewN (Below.refl _ _) q2)
        have hbr : Below w.heap.size w wc := by rw [hw2.out]; exact below_drewN hbel q2
        have x0 : wc.cell? (ad.add (i * 3)) = some (.string r.key) := by rw [hw2.out]; exact g0
        have x1 : wc.cell? ⟨(ad.add (i * 3)).block, (ad.add (i * 3)).off + 1, none⟩ = some (.int .i64 r.num) := by rw [hw2.out]; exact g1
        clear hw2 g0 g1
        go_wp2_with fail
        by_cases hth : ∃ p, ps[k]? = some p ∧ p.ln.key = r.key
        · obtain ⟨p, hp, he⟩ := hth
          have hkm : k < m := by have := (List.getElem?_eq_some_iff.1 hp).1; have := Hm.out; omega
          have hST := Stand.there (num := r.num) hOr hbr HS.out hp he
          have HPL : Hid (ps.length ≤ i + 1) := Lib.hid (by have := Hm.out; omega)
          obtain ⟨go, p', rfl, hp', k0, _, _, _⟩ := hOr.at_ (k := k) (by rw [← Hm.out]; exact hkm)
          obtain rfl : p' = p := by rw [hp] at hp'; injection hp' with hp'; exact hp'.symm
          rw [he] at k0
          have hk1 : (k : Int) < (m : Int) := by omega
          have t1 : ((k : Int) == (m : Int)) = false := by simp; omega
          have t2 : decide ((k : Int) = (m : Int)) = false := by simp; omega
          clear hp hp' he hOr
          go_quiet (fail)
          have x1q : (wc.drewN nq).cell? ⟨(ad.add (i * 3)).block, (ad.add (i * 3)).off + 1, none⟩ = some (.int .i64 r.num) := x1
          replace hST : Stand w (wc.drewN nq) (.slice (some ⟨go, 0, none⟩) m c') ps k r.key r.num (lnAdd r.key [r.num] (lnsOf ps)) := ⟨hST.own.up (below_drewN (Below.refl _ _) nq), hST.at_, below_drewN hST.bel nq⟩
          clear x0 x1 k0 hbr t1 t2
          generalize wc.drewN nq = wq at *
          go_wp2_with fail
          have HLB : Hid (∀ p ∈ ps, p.ln.nums.length ≤ i) := HNB
          obtain ⟨hO2, ⟨p2, hp2, hke, hfin⟩, hb2⟩ := hST
          obtain ⟨gq, p3, hA3, hp3, _, k1, kf, hgo⟩ := hO2.at_ (k := k) (List.getElem?_eq_some_iff.1 hp2).1
          obtain rfl : p3 = p2 := by rw [hp2] at hp3; injection hp3 with hp3; exact hp3.symm
          have HP2 := Lib.hid hp2
          have HKE := Lib.hid hke
          have HFIN := Lib.hid hfin
          have hoi := hO2.ints p3 (List.mem_of_getElem? hp2)
          have hglt := hO2.row.lt gq hgo
          obtain rfl : go = gq := by injection hA3 with h; injection h with h
          have hoff := hO2.off p3 (List.mem_of_getElem? hp2)
          have hne : some go ≠ p3.val.ownBlock := fun e => by
            rcases hoff with h | h
            · rw [h] at e; cases e
            · exact h (e.symm.trans hgo.symm)
          clear hp2 hp3 hke hfin hoff
          unfold Pl.val at k1 hoi hne
          obtain ⟨mm, hmm⟩ : ∃ mm, mm = p3.ln.nums.length := ⟨_, rfl⟩
          have HMM := Lib.hid hmm
          have hoi1 := hoi.1
          rw [← hmm] at k1 hne hoi1
          clear hmm
          have hkn := (World.cell?_alloc_lt wq (.cells #[.int .i64 r.num] 3) ⟨go, (k*2+1), none⟩ hglt.2).trans k1
          have hownD := own_drew (hoi1.alloc (.cells #[.int .i64 r.num] 3))
          have hrnD := (rd_new wq #[.int .i64 r.num] 3 (size := 1) (m := 1) rfl).drew
          have hone : ∀ u ∈ (#[.int .i64 r.num] : Array Value).toList, u.oneCell' = true := by simp [Value.oneCell']
          have hrowA := hO2.row.alloc (.cells #[.int .i64 r.num] 3)
          have hby : (mm + 1) * 8 ≤ 140737488355328 := by
            have := HLB.out p3 (List.mem_of_getElem? HP2.out)
            have := HMM.out
            omega
          have hbs : w.heap.size ≤ (wq.alloc (.cells #[.int .i64 r.num] 3)).drew.heap.size := by
            have := hb2.size
            show _ ≤ (wq.alloc (.cells #[.int .i64 r.num] 3)).heap.size
            simp; omega
          have hon : ∀ g, (Value.slice p3.A mm p3.c).ownBlock = some g → w.heap.size ≤ g := fun g e => (hoi1.lt g e).1
          have hfar : ∀ g, (Value.slice (some ⟨go, 0, none⟩) m c').ownBlock = some g → (Value.slice p3.A mm p3.c).ownBlock ≠ some g := fun g h1 h2 => hne (by rw [← hgo, h1, h2])
          clear hA3
          go_region_law
            ((first
              | (with_reducible show (if Region.wanted (⟨some 81, _, _, _, _, _⟩ : Oper) _ = true then _ else _); go_must (refine step_rd (.tmp 74) (.tmp 80) el_int rfl rfl hownD rfl hrnD rfl hone hby hbs ?_); intro v4 w4 hown4 hb4 hg4d ha4; have hg4 := grown_undrew hg4d; have hc4 := hg4.cell hkn hne; have hrow4 := own_far hrowA hg4 hfar; have hf4 := own_frozen hrow4 hgo (k*2+1); obtain ⟨A4, c4, rfl, hn4, hc5, _, r4⟩ := own_form hown4)))
          all_goals go_wp2_with fail
          all_goals
            have hg5 : wq.grownBy w4 (Value.slice p3.A mm p3.c).ownBlock := only_trans (only_alloc (only_refl _ _) _) hg4
            have hl4 : (p3.ln.nums ++ [r.num]).length = mm + 1 := by rw [List.length_append, ← HMM.out]; rfl
            have hi4 : w4.ownsInts w.heap.size 3 .i64 (Pl.val ⟨⟨r.key, p3.ln.nums ++ [r.num]⟩, A4, c4⟩) (p3.ln.nums ++ [r.num]) := by
              refine ⟨?_, fun z hz => ?_⟩
              · unfold Pl.val
                simp only [hl4]
                simpa using hown4
              · rcases List.mem_append.1 hz with hz | hz
                · exact hoi.2 z hz
                · rw [List.mem_singleton.1 hz]; exact HWR.out
            obtain ⟨hset, _⟩ := hO2.set HP2.out (q := ⟨⟨r.key, p3.ln.nums ++ [r.num]⟩, A4, c4⟩) HKE.out.symm (by unfold Pl.val; rw [← HMM.out]; exact hg5) hi4 (by
              unfold Pl.val
              simp only [hl4, ← HMM.out]
              rcases ha4 with h | h
              · exact .inl h
              · exact .inr ⟨_, h, by simp⟩) hgo
            have hF := HFIN.out (⟨⟨r.key, p3.ln.nums ++ [r.num]⟩, A4, c4⟩ : Pl) rfl
            have hbF : Below w.heap.size w (w4.setCell ⟨go, (k*2+1), none⟩ (.slice A4 (mm + 1) c4)) := (hb2.grown hg5 hb2.size hon).setCell hglt.1 _
            have hsE : Pl.val ⟨⟨r.key, p3.ln.nums ++ [r.num]⟩, A4, c4⟩ = .slice A4 (mm + 1) c4 := by unfold Pl.val; simp only [hl4]
            rw [hsE] at hset
            go_roundw
            case rel =>
              refine ⟨i + 1, _, by omega, by go_num, hset, by rw [List.length_set]; exact HPL.out, Lib.hid (by rw [hF, HX.out, HL.out]), Lib.hid (fun p hp => ?_), hbF⟩
              rcases List.mem_or_eq_of_mem_set hp with h | h
              · have := HLB.out p h; omega
              · rw [h]
                have := HLB.out p3 (List.mem_of_getElem? HP2.out)
                have := HMM.out
                show (p3.ln.nums ++ [r.num]).length ≤ i + 1
                omega
            case measure => simp [intOf]; omega
        · have HNE : Hid (∀ y, (lnsOf ps)[k]? = some y → klt y.key r.key = false ∧ y.key ≠ r.key) := Lib.hid fun y hy => by
            refine ⟨HNO.out y hy, fun e => hth ?_⟩
            rw [lnsOf, List.getElem?_map, Option.map_eq_some_iff] at hy
            obtain ⟨p, hp, rfl⟩ := hy
            exact ⟨p, hp, e⟩
          clear hth
          rename World => w8
          go_cut [48] from 32 to 48 (fun s wx => s = .bool true ∧ ∃ q', Hid (wx = w8.drewN q'))
          case first =>
            by_cases hkm : k < m
            · obtain ⟨go, p, rfl, hp, k0, _, _, _⟩ := hOr.at_ (k := k) (by rw [← Hm.out]; exact hkm)
              have hne := (HNE.out p.ln (lnsOf_at hp)).2
              have tn : (p.ln.key.toList == r.key.toList) = false := by
                rcases h : (p.ln.key.toList == r.key.toList)
                · rfl
                · exact absurd (bytes_same (by simpa using h)) hne
              have hk1 : (k : Int) < (m : Int) := by omega
              have t1 : ((k : Int) == (m : Int)) = false := by simp; omega
              have t2 : decide ((k : Int) = (m : Int)) = false := by simp; omega
              clear hp hOr hne
              go_quiet (fail)
              go_wp2_with fail
              go_meet
              exact ⟨rfl, nq, Lib.hid rfl⟩
            · obtain rfl : k = m := by omega
              go_quiet (fail)
              go_wp2_with fail
              go_meet
              exact ⟨rfl, nq, Lib.hid rfl⟩
          case rest =>
            obtain ⟨rfl, q8, hw8⟩ := hcut
            have hOc : OwnL wc w.heap.size (.slice A' m c') ps := by rw [hw8.out]; exact hOr.up (below_drewN (Below.refl _ _) q8)
            have hbc : Below w.heap.size w wc := by rw [hw8.out]; exact below_drewN hbr q8
            have y0 : wc.cell? (ad.add (i * 3)) = some (.string r.key) := by rw [hw8.out]; exact x0
            have y1 : wc.cell? ⟨(ad.add (i * 3)).block, (ad.add (i * 3)).off + 1, none⟩ = some (.int .i64 r.num) := by rw [hw8.out]; exact x1
            clear hw8 x0 x1 hOr hbr
            have hrowc : wc.ownsRow w.heap.size 64 2 (.slice A' m c') m (plCells ps) := by have h := hOc.row; rwa [← Hm.out] at h
            have hrdc := own_rd hrowc
            have hr1 := hrdc.take (k := k) hk
            have hr3 := hrdc.cut (k := k) (cap := c') hk hmc
            rw [plCells_drop] at hr3
            rw [plCells_take] at hr1
            have hsz0 := hbc.size
            have hadl : (ad.add (i * 3)).block < wc.heap.size := by rw [block_add]; omega
            have HNEW : Hid (∀ v3 w3, w3.ownsRow wc.heap.size 64 2 v3 (0 + k + 1 + (m - k)) ([] ++ plCells (ps.take k) ++ (#[.string r.key, .slice none 0 0] : Array Value).toList ++ plCells (ps.drop k)) → Below wc.heap.size wc w3 →
                ∃ go c3, v3 = .slice (some ⟨go, 0, none⟩) (m + 1) c3 ∧ Stand w w3 v3 (ps.take k ++ [⟨⟨r.key, []⟩, none, 0⟩] ++ ps.drop k) k r.key r.num (lnAdd r.key [r.num] (lnsOf ps))) := Lib.hid (fun v3 w3 ho hb => by
              have e1 : 0 + k + 1 + (m - k) = ps.length + 1 := by have := Hm.out; omega
              have e2 : [] ++ plCells (ps.take k) ++ (#[.string r.key, .slice none 0 0] : Array Value).toList ++ plCells (ps.drop k) = plCells (ps.take k ++ [⟨⟨r.key, []⟩, none, 0⟩] ++ ps.drop k) := by
                rw [plCells_append, plCells_append]; rfl
              rw [e1, e2] at ho
              have hst := Stand.new_ (num := r.num) hOc hbc (by rw [← Hm.out]; exact hk) HS.out HNE.out hb ho
              rcases ho.2 with ⟨_, e0⟩ | ⟨g, cap, cur, e0, _⟩
              · omega
              · rw [← Hm.out] at e0
                exact ⟨g, cap, e0, hst⟩)
            have HLB2 : Hid (∀ p ∈ ps.take k ++ [(⟨⟨r.key, []⟩, none, 0⟩ : Pl)] ++ ps.drop k, p.ln.nums.length ≤ i) := Lib.hid (fun p hp => by
              rcases List.mem_append.1 hp with hp | hp
              · rcases List.mem_append.1 hp with hp | hp
                · exact HNB.out p (List.mem_of_mem_take hp)
                · rw [List.mem_singleton.1 hp]; exact Nat.zero_le _
              · exact HNB.out p (List.mem_of_mem_drop hp))
            have HPL : Hid ((ps.take k ++ [(⟨⟨r.key, []⟩, none, 0⟩ : Pl)] ++ ps.drop k).length ≤ i + 1) := Lib.hid (by have := Hm.out; simp; omega)
            have hm8 : m ≤ 1000000 := by omega
            by_cases hkm : k < m
            · obtain ⟨go, _, rfl, _, _, _, _, _⟩ := hOc.at_ (k := k) (by rw [← Hm.out]; exact hkm)
              have hck : ¬ (c' = k) := by omega
              rw [if_neg hck] at hr3
              simp only [Option.map_some, addr0] at hr3
              have hck2 : k ≤ c' := by omega
              have hby3 : (0 + k + 1 + (m - k)) * 40 ≤ 140737488355328 := by omega
              go_wp2_with (first
                | (with_reducible show wpList _ _ _ (⟨some 53, _, _, _, _, _⟩ :: _) _ _; go_must (refine wpList_rd (.tmp 49) (.tmp 52) el_line rfl rfl (World.ownsRow_nil wc wc.heap.size _ 2) rfl hr1 rfl (plCells_one _) (by omega) (Nat.le_refl _) ?_); intro v1 w1 ho1 hb1 hg1 ha1; have z0 := (hb1.cell hadl).trans y0; have hs1 := hb1.size)
                | (with_reducible show wpList _ _ _ (⟨some 62, _, _, _, _, _⟩ :: _) _ _; go_must (refine wpList_newg (.tmp 54) (.tmp 61) el_line rfl rfl ho1 rfl rfl rfl rfl rfl (by omega) hs1 ?_); intro v2 w2 ho2 hb2 hg2 ha2; have hr4 := hr3.below (hb1.trans hb2) (Nat.le_refl _); have hs2 := Nat.le_trans hs1 hb2.size)
                | (with_reducible show wpList _ _ _ (⟨some 67, _, _, _, _, _⟩ :: _) _ _; go_must (refine wpList_rd (.tmp 63) (.tmp 66) el_line rfl rfl ho2 rfl hr4 rfl (plCells_one _) hby3 hs2 ?_); intro v3 w3 ho3 hb3 hg3 ha3; obtain ⟨gn, c3, rfl, hST⟩ := HNEW.out v3 w3 ho3 ((hb1.trans hb2).trans hb3); have hb4 := (hb1.trans hb2).trans hb3))
              have x1q := (hb4.cell (p := ⟨(ad.add (i * 3)).block, (ad.add (i * 3)).off + 1, none⟩) hadl).trans y1
              have HLB := HLB2
              clear y0 y1 hr1 hr3 hb1 hb2 hb3 hb4 hg1 hg2 hg3 ha1 ha2 ha3 ho1 ho2 ho3 hs1 hs2 z0 hOc hbc hrowc hrdc
              obtain ⟨go, hgoe⟩ : ∃ go, go = gn := ⟨_, rfl⟩
              subst hgoe
              generalize w3 = wq at *
              have hkq : (k : Int) < (m : Int) + 1 := by omega
              obtain ⟨hO2, ⟨p2, hp2, hke, hfin⟩, hb2⟩ := hST
              obtain ⟨gq, p3, hA3, hp3, _, k1, kf, hgo⟩ := hO2.at_ (k := k) (List.getElem?_eq_some_iff.1 hp2).1
              obtain rfl : p3 = p2 := by rw [hp2] at hp3; injection hp3 with hp3; exact hp3.symm
              have HP2 := Lib.hid hp2
              have HKE := Lib.hid hke
              have HFIN := Lib.hid hfin
              have hoi := hO2.ints p3 (List.mem_of_getElem? hp2)
              have hglt := hO2.row.lt gq hgo
              obtain rfl : go = gq := by injection hA3 with h; injection h with h
              have hoff := hO2.off p3 (List.mem_of_getElem? hp2)
              have hne : some go ≠ p3.val.ownBlock := fun e => by
                rcases hoff with h | h
                · rw [h] at e; cases e
                · exact h (e.symm.trans hgo.symm)
              clear hp2 hp3 hke hfin hoff
              unfold Pl.val at k1 hoi hne
              obtain ⟨mm, hmm⟩ : ∃ mm, mm = p3.ln.nums.length := ⟨_, rfl⟩
              have HMM := Lib.hid hmm
              have hoi1 := hoi.1
              rw [← hmm] at k1 hne hoi1
              clear hmm
              have hkn := (World.cell?_alloc_lt wq (.cells #[.int .i64 r.num] 3) ⟨go, (k*2+1), none⟩ hglt.2).trans k1
              have hownD := own_drew (hoi1.alloc (.cells #[.int .i64 r.num] 3))
              have hrnD := (rd_new wq #[.int .i64 r.num] 3 (size := 1) (m := 1) rfl).drew
              have hone : ∀ u ∈ (#[.int .i64 r.num] : Array Value).toList, u.oneCell' = true := by simp [Value.oneCell']
              have hrowA := hO2.row.alloc (.cells #[.int .i64 r.num] 3)
              have hby : (mm + 1) * 8 ≤ 140737488355328 := by
                have := HLB.out p3 (List.mem_of_getElem? HP2.out)
                have := HMM.out
                omega
              have hbs : w.heap.size ≤ (wq.alloc (.cells #[.int .i64 r.num] 3)).drew.heap.size := by
                have := hb2.size
                show _ ≤ (wq.alloc (.cells #[.int .i64 r.num] 3)).heap.size
                simp; omega
              have hon : ∀ g, (Value.slice p3.A mm p3.c).ownBlock = some g → w.heap.size ≤ g := fun g e => (hoi1.lt g e).1
              have hfar : ∀ g, (Value.slice (some ⟨go, 0, none⟩) (m+1) c3).ownBlock = some g → (Value.slice p3.A mm p3.c).ownBlock ≠ some g := fun g h1 h2 => hne (by rw [← hgo, h1, h2])
              clear hA3
              go_region_law
                ((first
                  | (with_reducible show (if Region.wanted (⟨some 81, _, _, _, _, _⟩ : Oper) _ = true then _ else _); go_must (refine step_rd (.tmp 74) (.tmp 80) el_int rfl rfl hownD rfl hrnD rfl hone hby hbs ?_); intro v4 w4 hown4 hb4 hg4d ha4; have hg4 := grown_undrew hg4d; have hc4 := hg4.cell hkn hne; have hrow4 := own_far hrowA hg4 hfar; have hf4 := own_frozen hrow4 hgo (k*2+1); obtain ⟨A4, c4, rfl, hn4, hc5, _, r4⟩ := own_form hown4)))
              all_goals go_wp2_with fail
              all_goals
                have hg5 : wq.grownBy w4 (Value.slice p3.A mm p3.c).ownBlock := only_trans (only_alloc (only_refl _ _) _) hg4
                have hl4 : (p3.ln.nums ++ [r.num]).length = mm + 1 := by rw [List.length_append, ← HMM.out]; rfl
                have hi4 : w4.ownsInts w.heap.size 3 .i64 (Pl.val ⟨⟨r.key, p3.ln.nums ++ [r.num]⟩, A4, c4⟩) (p3.ln.nums ++ [r.num]) := by
                  refine ⟨?_, fun z hz => ?_⟩
                  · unfold Pl.val
                    simp only [hl4]
                    simpa using hown4
                  · rcases List.mem_append.1 hz with hz | hz
                    · exact hoi.2 z hz
                    · rw [List.mem_singleton.1 hz]; exact HWR.out
                obtain ⟨hset, _⟩ := hO2.set HP2.out (q := ⟨⟨r.key, p3.ln.nums ++ [r.num]⟩, A4, c4⟩) HKE.out.symm (by unfold Pl.val; rw [← HMM.out]; exact hg5) hi4 (by
                  unfold Pl.val
                  simp only [hl4, ← HMM.out]
                  rcases ha4 with h | h
                  · exact .inl h
                  · exact .inr ⟨_, h, by simp⟩) hgo
                have hF := HFIN.out (⟨⟨r.key, p3.ln.nums ++ [r.num]⟩, A4, c4⟩ : Pl) rfl
                have hbF : Below w.heap.size w (w4.setCell ⟨go, (k*2+1), none⟩ (.slice A4 (mm + 1) c4)) := (hb2.grown hg5 hb2.size hon).setCell hglt.1 _
                have hsE : Pl.val ⟨⟨r.key, p3.ln.nums ++ [r.num]⟩, A4, c4⟩ = .slice A4 (mm + 1) c4 := by unfold Pl.val; simp only [hl4]
                rw [hsE] at hset
                go_roundw
                case rel =>
                  refine ⟨i + 1, _, by omega, by go_num, hset, by rw [List.length_set]; exact HPL.out, Lib.hid (by rw [hF, HX.out, HL.out]), Lib.hid (fun p hp => ?_), hbF⟩
                  rcases List.mem_or_eq_of_mem_set hp with h | h
                  · have := HLB.out p h; omega
                  · rw [h]
                    have := HLB.out p3 (List.mem_of_getElem? HP2.out)
                    have := HMM.out
                    show (p3.ln.nums ++ [r.num]).length ≤ i + 1
                    omega
                case measure => simp [intOf]; omega
            · have hmk : m - k = 0 := by omega
              have HMK := Lib.hid hmk
              have hdr : plCells (ps.drop k) = [] := by rw [List.drop_of_length_le (by rw [← Hm.out]; omega)]; rfl
              rw [hdr] at HNEW
              have hby3 : (0 + k + 1 + (m - k)) * 40 ≤ 140737488355328 := by omega
              have hkz : (k : Int) ≤ (m : Int) := by omega
              have hkc : k ≤ c' := by omega
              clear hmk hkm
              have hcc : ∀ u ∈ ([] : List Value), u.oneCell' = true := fun _ h => (List.not_mem_nil h).elim
              rcases hrowc.2 with ⟨e0, e1⟩ | ⟨g0, cap0, cur0, e0, _⟩
              · injection e0 with e2 e3 e4
                subst e2 e4
                subst e1
                obtain rfl : k = 0 := by omega
                go_wp2_with (first
                  | (with_reducible show wpList _ _ _ (⟨some 53, _, _, _, _, _⟩ :: _) _ _; go_must (refine wpList_rd (.tmp 49) (.tmp 52) el_line rfl rfl (World.ownsRow_nil wc wc.heap.size _ 2) rfl hr1 rfl (plCells_one _) (by omega) (Nat.le_refl _) ?_); intro v1 w1 ho1 hb1 hg1 ha1; have z0 := (hb1.cell hadl).trans y0; have hs1 := hb1.size)
                  | (with_reducible show wpList _ _ _ (⟨some 62, _, _, _, _, _⟩ :: _) _ _; go_must (refine wpList_newg (.tmp 54) (.tmp 61) el_line rfl rfl ho1 rfl rfl rfl rfl rfl (by omega) hs1 ?_); intro v2 w2 ho2 hb2 hg2 ha2; have hs2 := Nat.le_trans hs1 hb2.size)
                  | (with_reducible show wpList _ _ _ (⟨some 67, _, _, _, _, _⟩ :: _) _ _; go_must (refine wpList_rd (.tmp 63) (.tmp 66) el_line rfl rfl ho2 rfl (rd_zero' (B := 0) HMK.out) rfl hcc hby3 hs2 ?_); intro v3 w3 ho3 hb3 hg3 ha3; obtain ⟨gn, c3, rfl, hST⟩ := HNEW.out v3 w3 ho3 ((hb1.trans hb2).trans hb3); have hb4 := (hb1.trans hb2).trans hb3))
                have x1q := (hb4.cell (p := ⟨(ad.add (i * 3)).block, (ad.add (i * 3)).off + 1, none⟩) hadl).trans y1
                have HLB := HLB2
                clear y0 y1 hr1 hr3 hb1 hb2 hb3 hb4 hg1 hg2 hg3 ha1 ha2 ha3 ho1 ho2 ho3 hs1 hs2 z0 hOc hbc hrowc hrdc
                obtain ⟨go, hgoe⟩ : ∃ go, go = gn := ⟨_, rfl⟩
                subst hgoe
                generalize w3 = wq at *
                have hkq : (True) := by first | trivial | omega
                clear hkz hkc hby3 hcc hdr
                obtain ⟨hO2, ⟨p2, hp2, hke, hfin⟩, hb2⟩ := hST
                obtain ⟨gq, p3, hA3, hp3, _, k1, kf, hgo⟩ := hO2.at_ (k := 0) (List.getElem?_eq_some_iff.1 hp2).1
                obtain rfl : p3 = p2 := by rw [hp2] at hp3; injection hp3 with hp3; exact hp3.symm
                have HP2 := Lib.hid hp2
                have HKE := Lib.hid hke
                have HFIN := Lib.hid hfin
                have hoi := hO2.ints p3 (List.mem_of_getElem? hp2)
                have hglt := hO2.row.lt gq hgo
                obtain rfl : go = gq := by injection hA3 with h; injection h with h
                have hoff := hO2.off p3 (List.mem_of_getElem? hp2)
                have hne : some go ≠ p3.val.ownBlock := fun e => by
                  rcases hoff with h | h
                  · rw [h] at e; cases e
                  · exact h (e.symm.trans hgo.symm)
                clear hp2 hp3 hke hfin hoff
                unfold Pl.val at k1 hoi hne
                obtain ⟨mm, hmm⟩ : ∃ mm, mm = p3.ln.nums.length := ⟨_, rfl⟩
                have HMM := Lib.hid hmm
                have hoi1 := hoi.1
                rw [← hmm] at k1 hne hoi1
                clear hmm
                have hkn := (World.cell?_alloc_lt wq (.cells #[.int .i64 r.num] 3) ⟨go, 1, none⟩ hglt.2).trans k1
                have hownD := own_drew (hoi1.alloc (.cells #[.int .i64 r.num] 3))
                have hrnD := (rd_new wq #[.int .i64 r.num] 3 (size := 1) (m := 1) rfl).drew
                have hone : ∀ u ∈ (#[.int .i64 r.num] : Array Value).toList, u.oneCell' = true := by simp [Value.oneCell']
                have hrowA := hO2.row.alloc (.cells #[.int .i64 r.num] 3)
                have hby : (mm + 1) * 8 ≤ 140737488355328 := by
                  have := HLB.out p3 (List.mem_of_getElem? HP2.out)
                  have := HMM.out
                  omega
                have hbs : w.heap.size ≤ (wq.alloc (.cells #[.int .i64 r.num] 3)).drew.heap.size := by
                  have := hb2.size
                  show _ ≤ (wq.alloc (.cells #[.int .i64 r.num] 3)).heap.size
                  simp; omega
                have hon : ∀ g, (Value.slice p3.A mm p3.c).ownBlock = some g → w.heap.size ≤ g := fun g e => (hoi1.lt g e).1
                have hfar : ∀ g, (Value.slice (some ⟨go, 0, none⟩) 1 c3).ownBlock = some g → (Value.slice p3.A mm p3.c).ownBlock ≠ some g := fun g h1 h2 => hne (by rw [← hgo, h1, h2])
                clear hA3
                go_region_law
                  ((first
                    | (with_reducible show (if Region.wanted (⟨some 81, _, _, _, _, _⟩ : Oper) _ = true then _ else _); go_must (refine step_rd (.tmp 74) (.tmp 80) el_int rfl rfl hownD rfl hrnD rfl hone hby hbs ?_); intro v4 w4 hown4 hb4 hg4d ha4; have hg4 := grown_undrew hg4d; have hc4 := hg4.cell hkn hne; have hrow4 := own_far hrowA hg4 hfar; have hf4 := own_frozen hrow4 hgo 1; obtain ⟨A4, c4, rfl, hn4, hc5, _, r4⟩ := own_form hown4)))
                all_goals go_wp2_with fail
                all_goals
                  have hg5 : wq.grownBy w4 (Value.slice p3.A mm p3.c).ownBlock := only_trans (only_alloc (only_refl _ _) _) hg4
                  have hl4 : (p3.ln.nums ++ [r.num]).length = mm + 1 := by rw [List.length_append, ← HMM.out]; rfl
                  have hi4 : w4.ownsInts w.heap.size 3 .i64 (Pl.val ⟨⟨r.key, p3.ln.nums ++ [r.num]⟩, A4, c4⟩) (p3.ln.nums ++ [r.num]) := by
                    refine ⟨?_, fun z hz => ?_⟩
                    · unfold Pl.val
                      simp only [hl4]
                      simpa using hown4
                    · rcases List.mem_append.1 hz with hz | hz
                      · exact hoi.2 z hz
                      · rw [List.mem_singleton.1 hz]; exact HWR.out
                  obtain ⟨hset, _⟩ := hO2.set HP2.out (q := ⟨⟨r.key, p3.ln.nums ++ [r.num]⟩, A4, c4⟩) HKE.out.symm (by unfold Pl.val; rw [← HMM.out]; exact hg5) hi4 (by
                    unfold Pl.val
                    simp only [hl4, ← HMM.out]
                    rcases ha4 with h | h
                    · exact .inl h
                    · exact .inr ⟨_, h, by simp⟩) hgo
                  have hF := HFIN.out (⟨⟨r.key, p3.ln.nums ++ [r.num]⟩, A4, c4⟩ : Pl) rfl
                  have hbF : Below w.heap.size w (w4.setCell ⟨go, 1, none⟩ (.slice A4 (mm + 1) c4)) := (hb2.grown hg5 hb2.size hon).setCell hglt.1 _
                  have hsE : Pl.val ⟨⟨r.key, p3.ln.nums ++ [r.num]⟩, A4, c4⟩ = .slice A4 (mm + 1) c4 := by unfold Pl.val; simp only [hl4]
                  rw [hsE] at hset
                  go_roundw
                  case rel =>
                    refine ⟨i + 1, _, by omega, by go_num, hset, by rw [List.length_set]; exact HPL.out, Lib.hid (by rw [hF, HX.out, HL.out]), Lib.hid (fun p hp => ?_), hbF⟩
                    rcases List.mem_or_eq_of_mem_set hp with h | h
                    · have := HLB.out p h; omega
                    · rw [h]
                      have := HLB.out p3 (List.mem_of_getElem? HP2.out)
                      have := HMM.out
                      show (p3.ln.nums ++ [r.num]).length ≤ i + 1
                      omega
                  case measure => simp [intOf]; omega
              · injection e0 with e2 e3 e4
                subst e2 e4
                by_cases hck : c' = k
                · 
                  go_wp2_with (first
                    | (with_reducible show wpList _ _ _ (⟨some 53, _, _, _, _, _⟩ :: _) _ _; go_must (refine wpList_rd (.tmp 49) (.tmp 52) el_line rfl rfl (World.ownsRow_nil wc wc.heap.size _ 2) rfl hr1 rfl (plCells_one _) (by omega) (Nat.le_refl _) ?_); intro v1 w1 ho1 hb1 hg1 ha1; have z0 := (hb1.cell hadl).trans y0; have hs1 := hb1.size)
                    | (with_reducible show wpList _ _ _ (⟨some 62, _, _, _, _, _⟩ :: _) _ _; go_must (refine wpList_newg (.tmp 54) (.tmp 61) el_line rfl rfl ho1 rfl rfl rfl rfl rfl (by omega) hs1 ?_); intro v2 w2 ho2 hb2 hg2 ha2; have hs2 := Nat.le_trans hs1 hb2.size)
                    | (with_reducible show wpList _ _ _ (⟨some 67, _, _, _, _, _⟩ :: _) _ _; go_must (refine wpList_rd (.tmp 63) (.tmp 66) el_line rfl rfl ho2 rfl (rd_zero' (B := 0) HMK.out) rfl hcc hby3 hs2 ?_); intro v3 w3 ho3 hb3 hg3 ha3; obtain ⟨gn, c3, rfl, hST⟩ := HNEW.out v3 w3 ho3 ((hb1.trans hb2).trans hb3); have hb4 := (hb1.trans hb2).trans hb3))
                  have x1q := (hb4.cell (p := ⟨(ad.add (i * 3)).block, (ad.add (i * 3)).off + 1, none⟩) hadl).trans y1
                  have HLB := HLB2
                  clear y0 y1 hr1 hr3 hb1 hb2 hb3 hb4 hg1 hg2 hg3 ha1 ha2 ha3 ho1 ho2 ho3 hs1 hs2 z0 hOc hbc hrowc hrdc
                  obtain ⟨go, hgoe⟩ : ∃ go, go = gn := ⟨_, rfl⟩
                  subst hgoe
                  generalize w3 = wq at *
                  have hkq : ((k:Int)<(m:Int)+1) := by first | trivial | omega
                  clear hkz hkc hby3 hcc hdr
                  obtain ⟨hO2, ⟨p2, hp2, hke, hfin⟩, hb2⟩ := hST
                  obtain ⟨gq, p3, hA3, hp3, _, k1, kf, hgo⟩ := hO2.at_ (k := k) (List.getElem?_eq_some_iff.1 hp2).1
                  obtain rfl : p3 = p2 := by rw [hp2] at hp3; injection hp3 with hp3; exact hp3.symm
                  have HP2 := Lib.hid hp2
                  have HKE := Lib.hid hke
                  have HFIN := Lib.hid hfin
                  have hoi := hO2.ints p3 (List.mem_of_getElem? hp2)
                  have hglt := hO2.row.lt gq hgo
                  obtain rfl : go = gq := by injection hA3 with h; injection h with h
                  have hoff := hO2.off p3 (List.mem_of_getElem? hp2)
                  have hne : some go ≠ p3.val.ownBlock := fun e => by
                    rcases hoff with h | h
                    · rw [h] at e; cases e
                    · exact h (e.symm.trans hgo.symm)
                  clear hp2 hp3 hke hfin hoff
                  unfold Pl.val at k1 hoi hne
                  obtain ⟨mm, hmm⟩ : ∃ mm, mm = p3.ln.nums.length := ⟨_, rfl⟩
                  have HMM := Lib.hid hmm
                  have hoi1 := hoi.1
                  rw [← hmm] at k1 hne hoi1
                  clear hmm
                  have hkn := (World.cell?_alloc_lt wq (.cells #[.int .i64 r.num] 3) ⟨go, (k*2+1), none⟩ hglt.2).trans k1
                  have hownD := own_drew (hoi1.alloc (.cells #[.int .i64 r.num] 3))
                  have hrnD := (rd_new wq #[.int .i64 r.num] 3 (size := 1) (m := 1) rfl).drew
                  have hone : ∀ u ∈ (#[.int .i64 r.num] : Array Value).toList, u.oneCell' = true := by simp [Value.oneCell']
                  have hrowA := hO2.row.alloc (.cells #[.int .i64 r.num] 3)
                  have hby : (mm + 1) * 8 ≤ 140737488355328 := by
                    have := HLB.out p3 (List.mem_of_getElem? HP2.out)
                    have := HMM.out
                    omega
                  have hbs : w.heap.size ≤ (wq.alloc (.cells #[.int .i64 r.num] 3)).drew.heap.size := by
                    have := hb2.size
                    show _ ≤ (wq.alloc (.cells #[.int .i64 r.num] 3)).heap.size
                    simp; omega
                  have hon : ∀ g, (Value.slice p3.A mm p3.c).ownBlock = some g → w.heap.size ≤ g := fun g e => (hoi1.lt g e).1
                  have hfar : ∀ g, (Value.slice (some ⟨go, 0, none⟩) (m+1) c3).ownBlock = some g → (Value.slice p3.A mm p3.c).ownBlock ≠ some g := fun g h1 h2 => hne (by rw [← hgo, h1, h2])
                  clear hA3
                  go_region_law
                    ((first
                      | (with_reducible show (if Region.wanted (⟨some 81, _, _, _, _, _⟩ : Oper) _ = true then _ else _); go_must (refine step_rd (.tmp 74) (.tmp 80) el_int rfl rfl hownD rfl hrnD rfl hone hby hbs ?_); intro v4 w4 hown4 hb4 hg4d ha4; have hg4 := grown_undrew hg4d; have hc4 := hg4.cell hkn hne; have hrow4 := own_far hrowA hg4 hfar; have hf4 := own_frozen hrow4 hgo (k*2+1); obtain ⟨A4, c4, rfl, hn4, hc5, _, r4⟩ := own_form hown4)))
                  all_goals go_wp2_with fail
                  all_goals
                    have hg5 : wq.grownBy w4 (Value.slice p3.A mm p3.c).ownBlock := only_trans (only_alloc (only_refl _ _) _) hg4
                    have hl4 : (p3.ln.nums ++ [r.num]).length = mm + 1 := by rw [List.length_append, ← HMM.out]; rfl
                    have hi4 : w4.ownsInts w.heap.size 3 .i64 (Pl.val ⟨⟨r.key, p3.ln.nums ++ [r.num]⟩, A4, c4⟩) (p3.ln.nums ++ [r.num]) := by
                      refine ⟨?_, fun z hz => ?_⟩
                      · unfold Pl.val
                        simp only [hl4]
                        simpa using hown4
                      · rcases List.mem_append.1 hz with hz | hz
                        · exact hoi.2 z hz
                        · rw [List.mem_singleton.1 hz]; exact HWR.out
                    obtain ⟨hset, _⟩ := hO2.set HP2.out (q := ⟨⟨r.key, p3.ln.nums ++ [r.num]⟩, A4, c4⟩) HKE.out.symm (by unfold Pl.val; rw [← HMM.out]; exact hg5) hi4 (by
                      unfold Pl.val
                      simp only [hl4, ← HMM.out]
                      rcases ha4 with h | h
                      · exact .inl h
                      · exact .inr ⟨_, h, by simp⟩) hgo
                    have hF := HFIN.out (⟨⟨r.key, p3.ln.nums ++ [r.num]⟩, A4, c4⟩ : Pl) rfl
                    have hbF : Below w.heap.size w (w4.setCell ⟨go, (k*2+1), none⟩ (.slice A4 (mm + 1) c4)) := (hb2.grown hg5 hb2.size hon).setCell hglt.1 _
                    have hsE : Pl.val ⟨⟨r.key, p3.ln.nums ++ [r.num]⟩, A4, c4⟩ = .slice A4 (mm + 1) c4 := by unfold Pl.val; simp only [hl4]
                    rw [hsE] at hset
                    go_roundw
                    case rel =>
                      refine ⟨i + 1, _, by omega, by go_num, hset, by rw [List.length_set]; exact HPL.out, Lib.hid (by rw [hF, HX.out, HL.out]), Lib.hid (fun p hp => ?_), hbF⟩
                      rcases List.mem_or_eq_of_mem_set hp with h | h
                      · have := HLB.out p h; omega
                      · rw [h]
                        have := HLB.out p3 (List.mem_of_getElem? HP2.out)
                        have := HMM.out
                        show (p3.ln.nums ++ [r.num]).length ≤ i + 1
                        omega
                    case measure => simp [intOf]; omega
                · have hck2 : ¬ (k = c') := fun e => hck e.symm
                  go_wp2_with (first
                    | (with_reducible show wpList _ _ _ (⟨some 53, _, _, _, _, _⟩ :: _) _ _; go_must (refine wpList_rd (.tmp 49) (.tmp 52) el_line rfl rfl (World.ownsRow_nil wc wc.heap.size _ 2) rfl hr1 rfl (plCells_one _) (by omega) (Nat.le_refl _) ?_); intro v1 w1 ho1 hb1 hg1 ha1; have z0 := (hb1.cell hadl).trans y0; have hs1 := hb1.size)
                    | (with_reducible show wpList _ _ _ (⟨some 62, _, _, _, _, _⟩ :: _) _ _; go_must (refine wpList_newg (.tmp 54) (.tmp 61) el_line rfl rfl ho1 rfl rfl rfl rfl rfl (by omega) hs1 ?_); intro v2 w2 ho2 hb2 hg2 ha2; have hs2 := Nat.le_trans hs1 hb2.size)
                    | (with_reducible show wpList _ _ _ (⟨some 67, _, _, _, _, _⟩ :: _) _ _; go_must (refine wpList_rd (.tmp 63) (.tmp 66) el_line rfl rfl ho2 rfl (rd_zero' (B := 0) HMK.out) rfl hcc hby3 hs2 ?_); intro v3 w3 ho3 hb3 hg3 ha3; obtain ⟨gn, c3, rfl, hST⟩ := HNEW.out v3 w3 ho3 ((hb1.trans hb2).trans hb3); have hb4 := (hb1.trans hb2).trans hb3))
                  have x1q := (hb4.cell (p := ⟨(ad.add (i * 3)).block, (ad.add (i * 3)).off + 1, none⟩) hadl).trans y1
                  have HLB := HLB2
                  clear y0 y1 hr1 hr3 hb1 hb2 hb3 hb4 hg1 hg2 hg3 ha1 ha2 ha3 ho1 ho2 ho3 hs1 hs2 z0 hOc hbc hrowc hrdc
                  obtain ⟨go, hgoe⟩ : ∃ go, go = gn := ⟨_, rfl⟩
                  subst hgoe
                  generalize w3 = wq at *
                  have hkq : ((k:Int)<(m:Int)+1) := by first | trivial | omega
                  clear hkz hkc hby3 hcc hdr
                  obtain ⟨hO2, ⟨p2, hp2, hke, hfin⟩, hb2⟩ := hST
                  obtain ⟨gq, p3, hA3, hp3, _, k1, kf, hgo⟩ := hO2.at_ (k := k) (List.getElem?_eq_some_iff.1 hp2).1
                  obtain rfl : p3 = p2 := by rw [hp2] at hp3; injection hp3 with hp3; exact hp3.symm
                  have HP2 := Lib.hid hp2
                  have HKE := Lib.hid hke
                  have HFIN := Lib.hid hfin
                  have hoi := hO2.ints p3 (List.mem_of_getElem? hp2)
                  have hglt := hO2.row.lt gq hgo
                  obtain rfl : go = gq := by injection hA3 with h; injection h with h
                  have hoff := hO2.off p3 (List.mem_of_getElem? hp2)
                  have hne : some go ≠ p3.val.ownBlock := fun e => by
                    rcases hoff with h | h
                    · rw [h] at e; cases e
                    · exact h (e.symm.trans hgo.symm)
                  clear hp2 hp3 hke hfin hoff
                  unfold Pl.val at k1 hoi hne
                  obtain ⟨mm, hmm⟩ : ∃ mm, mm = p3.ln.nums.length := ⟨_, rfl⟩
                  have HMM := Lib.hid hmm
                  have hoi1 := hoi.1
                  rw [← hmm] at k1 hne hoi1
                  clear hmm
                  have hkn := (World.cell?_alloc_lt wq (.cells #[.int .i64 r.num] 3) ⟨go, (k*2+1), none⟩ hglt.2).trans k1
                  have hownD := own_drew (hoi1.alloc (.cells #[.int .i64 r.num] 3))
                  have hrnD := (rd_new wq #[.int .i64 r.num] 3 (size := 1) (m := 1) rfl).drew
                  have hone : ∀ u ∈ (#[.int .i64 r.num] : Array Value).toList, u.oneCell' = true := by simp [Value.oneCell']
                  have hrowA := hO2.row.alloc (.cells #[.int .i64 r.num] 3)
                  have hby : (mm + 1) * 8 ≤ 140737488355328 := by
                    have := HLB.out p3 (List.mem_of_getElem? HP2.out)
                    have := HMM.out
                    omega
                  have hbs : w.heap.size ≤ (wq.alloc (.cells #[.int .i64 r.num] 3)).drew.heap.size := by
                    have := hb2.size
                    show _ ≤ (wq.alloc (.cells #[.int .i64 r.num] 3)).heap.size
                    simp; omega
                  have hon : ∀ g, (Value.slice p3.A mm p3.c).ownBlock = some g → w.heap.size ≤ g := fun g e => (hoi1.lt g e).1
                  have hfar : ∀ g, (Value.slice (some ⟨go, 0, none⟩) (m+1) c3).ownBlock = some g → (Value.slice p3.A mm p3.c).ownBlock ≠ some g := fun g h1 h2 => hne (by rw [← hgo, h1, h2])
                  clear hA3
                  go_region_law
                    ((first
                      | (with_reducible show (if Region.wanted (⟨some 81, _, _, _, _, _⟩ : Oper) _ = true then _ else _); go_must (refine step_rd (.tmp 74) (.tmp 80) el_int rfl rfl hownD rfl hrnD rfl hone hby hbs ?_); intro v4 w4 hown4 hb4 hg4d ha4; have hg4 := grown_undrew hg4d; have hc4 := hg4.cell hkn hne; have hrow4 := own_far hrowA hg4 hfar; have hf4 := own_frozen hrow4 hgo (k*2+1); obtain ⟨A4, c4, rfl, hn4, hc5, _, r4⟩ := own_form hown4)))
                  all_goals go_wp2_with fail
                  all_goals
                    have hg5 : wq.grownBy w4 (Value.slice p3.A mm p3.c).ownBlock := only_trans (only_alloc (only_refl _ _) _) hg4
                    have hl4 : (p3.ln.nums ++ [r.num]).length = mm + 1 := by rw [List.length_append, ← HMM.out]; rfl
                    have hi4 : w4.ownsInts w.heap.size 3 .i64 (Pl.val ⟨⟨r.key, p3.ln.nums ++ [r.num]⟩, A4, c4⟩) (p3.ln.nums ++ [r.num]) := by
                      refine ⟨?_, fun z hz => ?_⟩
                      · unfold Pl.val
                        simp only [hl4]
                        simpa using hown4
                      · rcases List.mem_append.1 hz with hz | hz
                        · exact hoi.2 z hz
                        · rw [List.mem_singleton.1 hz]; exact HWR.out
                    obtain ⟨hset, _⟩ := hO2.set HP2.out (q := ⟨⟨r.key, p3.ln.nums ++ [r.num]⟩, A4, c4⟩) HKE.out.symm (by unfold Pl.val; rw [← HMM.out]; exact hg5) hi4 (by
                      unfold Pl.val
                      simp only [hl4, ← HMM.out]
                      rcases ha4 with h | h
                      · exact .inl h
                      · exact .inr ⟨_, h, by simp⟩) hgo
                    have hF := HFIN.out (⟨⟨r.key, p3.ln.nums ++ [r.num]⟩, A4, c4⟩ : Pl) rfl
                    have hbF : Below w.heap.size w (w4.setCell ⟨go, (k*2+1), none⟩ (.slice A4 (mm + 1) c4)) := (hb2.grown hg5 hb2.size hon).setCell hglt.1 _
                    have hsE : Pl.val ⟨⟨r.key, p3.ln.nums ++ [r.num]⟩, A4, c4⟩ = .slice A4 (mm + 1) c4 := by unfold Pl.val; simp only [hl4]
                    rw [hsE] at hset
                    go_roundw
                    case rel =>
                      refine ⟨i + 1, _, by omega, by go_num, hset, by rw [List.length_set]; exact HPL.out, Lib.hid (by rw [hF, HX.out, HL.out]), Lib.hid (fun p hp => ?_), hbF⟩
                      rcases List.mem_or_eq_of_mem_set hp with h | h
                      · have := HLB.out p h; omega
                      · rw [h]
                        have := HLB.out p3 (List.mem_of_getElem? HP2.out)
                        have := HMM.out
                        show (p3.ln.nums ++ [r.num]).length ≤ i + 1
                        omega
                    case measure => simp [intOf]; omega
  · obtain rfl : i = n := by omega
    have HT : Hid (linesOf (l.take i) = linesOf l) := Lib.hid (by rw [List.take_of_length_le (by rw [HLN.out]; exact Nat.le_refl _)])
    go_wp2_with fail
    go_ret
    exact ⟨_, ps, rfl, hO, by rw [HL.out, HT.out], hbel⟩
end Go.Proofs.YtelailhghhjleaaDoor
