/- The walk of weirref2.Session. -/
import Derived.Test.YtelailhghhjleaaDoorWalkMarks
import Derived.Test.YtelailhghhjleaaDoorWalkPanes
import Derived.Test.YtelailhghhjleaaDoorWalkSess2
import Derived.Test.YtelailhghhjleaaDoorPlainSess3
import Derived.Deep.RegionLaw
namespace Go.Proofs.YtelailhghhjleaaDoor
open Go.RowKit Go.Sort Go.Shelf Go.Lib

/-- What weirref2.Session hands back. -/
def SSessPost (w : World) (l : List Rec) (gap : Int) (v : Value) (w' : World) : Prop :=
  ∃ P, (if sessE l gap = 0 then P = refSess gap l else P = []) ∧ w'.ownsRow w.heap.size 86 6 v P.length (paneCells P) ∧ Below w.heap.size w w'
theorem ssess_none {w w' : World} {l : List Rec} {gap : Int} (h : sessE l gap ≠ 0) (hb : Below w.heap.size w w') : SSessPost w l gap (.slice none 0 0) w' :=
  ⟨[], by rw [if_neg h], World.ownsRow_nil _ _ _ _, hb⟩
theorem sessE_recs {l : List Rec} {gap : Int} (h : recsE l ≠ 0) : sessE l gap = recsE l := by rw [sessE, if_pos h]
theorem sessE_good {l : List Rec} {gap : Int} (h : recsE l = 0) (g1 : 1 ≤ gap) (g2 : gap ≤ 1000000) : sessE l gap = 0 := by rw [sessE, if_neg (by simp [h]), if_pos ⟨g1, g2⟩]
theorem sessE_gap {l : List Rec} {gap : Int} (h : recsE l = 0) (g : gap < 1 ∨ 1000000 < gap) : sessE l gap = 1 := by rw [sessE, if_neg (by simp [h]), if_neg (by omega)]

/-- A pane with a new lo, hi, many and sum, where it lies. -/
theorem alone_arr (gap : Int) (r : Rec) : (alone gap r).arr = #[.string r.key, .int .i64 r.time, .int .i64 (r.time + gap), .int .i64 1, .int .i64 r.num, .int .i64 0] := rfl
theorem absorb_yes {p q : Pane} {N : List Pane} (h : overl p q = true) : absorb (p, N) q = (absorb1 p q, N) := by unfold absorb; rw [if_pos h]
theorem absorb_no {p q : Pane} {N : List Pane} (h : overl p q = false) : absorb (p, N) q = (p, N ++ [q]) := by unfold absorb; rw [if_neg (by simp [h])]

/-- Stores into a block of the call's own. -/
def storesIn (W : World) (g : Nat) (SS : List (Nat × Value)) : World := SS.foldl (fun w s => w.setCell ⟨g, s.1, none⟩ s.2) W
theorem stored_ {wa : World} {g base n size : Nat} {t e : TypeId} {v : Value} {xs : List Value} (hgb : g < base) : ∀ (SS : List (Nat × Value)) (W : World) (cs : Array Value), Blk W g t cs → W.ownsRow base e size v n xs → Below g wa W → g ≤ W.heap.size →
    Blk (storesIn W g SS) g t (SS.foldl (fun a s => a.setIfInBounds s.1 s.2) cs) ∧ (storesIn W g SS).ownsRow base e size v n xs ∧ Below g wa (storesIn W g SS) := by
  intro SS
  induction SS with
  | nil => intro W cs h1 h2 h3 _; exact ⟨h1, h2, h3⟩
  | cons s SS ih =>
    intro W cs h1 h2 h3 h4
    have k : W.grownBy (W.setCell ⟨g, s.1, none⟩ s.2) (some g) := only_set (only_refl W _) _ _
    exact ih (W.setCell ⟨g, s.1, none⟩ s.2) _ (h1.set_ _ _) (own_only h2 k hgb) (below_only h3 k (Nat.le_refl _) h4) (Nat.le_trans h4 k.size)

theorem Rd.cut_lt {w : World} {B size n k cap : Nat} {A : Option Addr} {xs : List Value} (h : Rd w B size A n xs) (hk : k < n) (hc : n ≤ cap) : Rd w B size (A.map (fun x => x.add (k * size))) (n - k) (xs.drop (k * size)) := by
  have := h.cut (Nat.le_of_lt hk) hc; rwa [if_neg (by omega)] at this
theorem none_row (g : Nat) : some g ≠ (Value.slice none 0 0).ownBlock := by simp [Value.ownBlock]
theorem none_ge (B : Nat) : ∀ g, (Value.slice none 0 0).ownBlock = some g → B ≤ g := by intro g h; simp [Value.ownBlock] at h
theorem row_ge {v : Value} {B h : Nat} (ha : v.ownBlock = (Value.slice none 0 0).ownBlock ∨ v.ownBlock = some h) (hB : B ≤ h) : ∀ g, v.ownBlock = some g → B ≤ g := by
  intro g hg
  rcases ha with e | e
  · rw [e] at hg; simp [Value.ownBlock] at hg
  · rw [e] at hg; injection hg with hg; omega
theorem paneCells_mid (N : List Pane) (p : Pane) (t : Nat) : [] ++ (paneCells N).take (t * 6) ++ p.arr.toList ++ (paneCells N).drop (t * 6) = paneCells (N.take t ++ p :: N.drop t) := by
  rw [paneCells_append, paneCells_take, paneCells_drop]; simp [paneCells, Pane.arr, Pane.cells]
theorem before_not {p q : Pane} (h1 : ¬ q.key.toList < p.key.toList) (h2 : ¬ (q.key.toList = p.key.toList ∧ q.lo < p.lo)) : before p q = false := by
  rw [← Bool.not_eq_true, before_iff]; rintro (h | h)
  · exact h1 h
  · exact h2 h
theorem spot_more {p q : Pane} {N : List Pane} {t : Nat} (hq : N[t]? = some q) (hb : before p q = true) (h : ∀ (u : Nat) (x : Pane), u < t → N[u]? = some x → before p x = true) : ∀ (u : Nat) (x : Pane), u < t + 1 → N[u]? = some x → before p x = true := by
  intro u x hu hx
  by_cases e : u = t
  · subst e; rw [hq] at hx; injection hx with hx; subst hx; exact hb
  · exact h u x (by omega) hx
theorem spot_stop {p q : Pane} {N : List Pane} {t : Nat} (hq : N[t]? = some q) (hb : before p q = false) (h : ∀ (u : Nat) (x : Pane), u < t → N[u]? = some x → before p x = true) : spot p N = t :=
  spot_is (by have := (List.getElem?_eq_some_iff.1 hq).1; omega) h fun x hx => by rw [hq] at hx; injection hx with hx; subst hx; exact hb
theorem spot_end {p : Pane} {N : List Pane} (h : ∀ (u : Nat) (x : Pane), u < N.length → N[u]? = some x → before p x = true) : spot p N = N.length :=
  spot_is (Nat.le_refl _) h fun x hx => by simp at hx

set_option maxRecDepth 100000 in
set_option maxHeartbeats 8000000 in
theorem ssession_any (A : Option Addr) (c B : Nat) (l : List Rec) (gap : Int) (w : World) (hr : Rd w B 3 A l.length (recCells l)) (hB : B ≤ w.heap.size) (hok : ∀ r ∈ l, r.Ok) (hl : l.length ≤ 140737488355328) (hg0 : -9223372036854775808 ≤ gap) (hg1 : gap ≤ 9223372036854775807) :
    Calls Tryd.prog 20 #[.slice A l.length c, .int .i64 gap] w fun e w' => ∃ v, e = .returned (.tuple #[v, .int .i64 (sessE l gap)]) ∧ SSessPost w l gap v w' := by
  obtain ⟨n, hn⟩ : ∃ n, n = l.length := ⟨_, rfl⟩
  have Hn := Lib.hid hn
  rw [← hn] at hr hl ⊢
  clear hn
  by_cases hbig : 400 < n
  · have HE : Hid (sessE l gap = 4) := Lib.hid (by
      have e : recsE l = 4 := by rw [recsE, if_pos (by have := Hn.out; omega)]
      rw [sessE_recs (by omega), e])
    go_enter Tryd.func20, Tryd.ntmps20
    go_wp2_with fail
    go_ret2
    exact ⟨_, by rw [HE.out]; rfl, ssess_none (by have := HE.out; omega) (Below.refl _ _)⟩
  go_enter Tryd.func20, Tryd.ntmps20
  go_wp2_with fail
  go_loopw [6] (fun i wr => ∃ k : Nat, k ≤ n ∧ i = .int .i64 k ∧ Hid (∀ (j : Nat) (r : Rec), j < k → l[j]? = some r → recOk r = true) ∧ Below w.heap.size w wr) (fun i _ => n - (intOf i).toNat)
  case atStart => exact ⟨0, Nat.zero_le _, rfl, Lib.hid (fun j r hj _ => by omega), Below.refl _ _⟩
  case round =>
    obtain ⟨k, hk, rfl, HA, hbel⟩ := hrel
    by_cases hlt : k < n
    · obtain ⟨ad, r, rfl, hx, d0, d1, d2⟩ := hr.rec_ hlt (Hn.out).symm hbel hB
      have hro := hok r (List.mem_of_getElem? hx)
      have Hx := Lib.hid hx
      have hk0 : (0 : Int) ≤ (k : Int) := by omega
      have hk1 : (k : Int) < (n : Int) := by omega
      clear hx
      rcases hrk : recOk r
      · have HC := Lib.hid (fun W => srecord_is r W hro.1 hrk)
        have HE : Hid (sessE l gap = 1) := Lib.hid (by
          have e := recsE_bad (by have := Hn.out; omega) Hx.out hrk
          rw [sessE_recs (by omega), e])
        clear hrk hro
        go_wp2_with (first | (go_at_call 35; refine (HC.out _).mono ?_; rintro e w2 ⟨rfl, hb2⟩))
        go_ret2
        exact ⟨_, by rw [HE.out]; rfl, ssess_none (by have := HE.out; omega) (below_up hbel hb2)⟩
      · have HR := Lib.hid hrk
        have HC := Lib.hid (fun W => srecord_is r W hro.1 HR.out)
        clear hrk hro
        go_wp2_with (first | (go_at_call 35; refine (HC.out _).mono ?_; rintro e w2 ⟨rfl, hb2⟩))
        go_roundw
        case rel => exact ⟨k + 1, by omega, by go_num, Lib.hid (fun u x hu hx => by
          by_cases huq : u = k
          · subst huq; rw [Hx.out] at hx; injection hx with hx; subst hx; exact HR.out
          · exact HA.out u x (by omega) hx), below_up hbel hb2⟩
        case measure => simp [intOf]; omega
    · have hall := recsE_good (l := l) (by have := Hn.out; omega) (fun j r hj hx => HA.out j r (by have := Hn.out; omega) hx)
      have HR0 := Lib.hid hall
      have HOK := Lib.hid (fun (j : Nat) (r : Rec) (hj : j < n) (hx : l[j]? = some r) => HA.out j r (by omega) hx)
      clear HA hall
      by_cases gg1 : gap < 1
      · have HE : Hid (sessE l gap = 1) := Lib.hid (sessE_gap HR0.out (.inl gg1))
        go_wp2_with fail
        go_ret2
        exact ⟨_, by rw [HE.out]; rfl, ssess_none (by have := HE.out; omega) hbel⟩
      by_cases gg2 : 1000000 < gap
      · have HE : Hid (sessE l gap = 1) := Lib.hid (sessE_gap HR0.out (.inr gg2))
        go_wp2_with fail
        go_ret2
        exact ⟨_, by rw [HE.out]; rfl, ssess_none (by have := HE.out; omega) hbel⟩
      have HE : Hid (sessE l gap = 0) := Lib.hid (sessE_good HR0.out (by omega) (by omega))
      go_wp2_with fail
      go_loopw [8, 9] (fun o i wr => ∃ (k : Nat) (P : List Pane), k ≤ n ∧ i = .int .i64 k ∧ P.length ≤ k ∧ Hid (P = refSess gap (l.take k)) ∧ Hid ((∀ q ∈ P, 1 ≤ q.many) ∧ manyOf P = k) ∧ wr.ownsRow w.heap.size 86 6 o P.length (paneCells P) ∧ Below w.heap.size w wr) (fun _ i _ => n - (intOf i).toNat)
      case atStart => exact ⟨0, [], Nat.zero_le _, rfl, Nat.le_refl _, Lib.hid rfl, Lib.hid ⟨(fun q hq => by cases hq), rfl⟩, World.ownsRow_nil _ _ _ _, hbel⟩
      case round =>
        clear hbel
        obtain ⟨k, P, hk, rfl, hPk, HP, HML, hown, hbel⟩ := hrel
        by_cases hlt : k < n
        · obtain ⟨ad, r, rfl, hx, d0, d1, d2⟩ := hr.rec_ hlt (Hn.out).symm hbel hB
          obtain ⟨_, q1, q2⟩ := recOk_parts (HOK.out k r hlt hx)
          have HX := Lib.hid (refSess_take (gap := gap) hx)
          rw [← HP.out] at HX
          obtain ⟨m, hm⟩ : ∃ m, m = P.length := ⟨_, rfl⟩
          have HM := Lib.hid hm
          rw [← hm] at hown hPk
          clear hm hx
          obtain ⟨Ao, co, rfl, hmc, hcm, hAb, hrP⟩ := own_form hown
          have hwt : IntKind.i64.wrap (r.time + gap) = r.time + gap := IntWalk.i64_in _ (by omega)
          have hk0 : (0 : Int) ≤ (k : Int) := by omega
          have hk1 : (k : Int) < (n : Int) := by omega
          have hbp : Blk ((wr.alloc (.cells (alone gap r).arr 86)).drew) wr.heap.size 86 (alone gap r).arr := Blk.new wr _ _
          have hbelA : Below w.heap.size w ((wr.alloc (.cells (alone gap r).arr 86)).drew) := (hbel.alloc hbel.size _).drew
          have hrPA : Rd ((wr.alloc (.cells (alone gap r).arr 86)).drew) wr.heap.size 6 Ao m (paneCells P) := hrP.alloc (Nat.le_refl _) _
          have hsA : ((wr.alloc (.cells (alone gap r).arr 86)).drew).heap.size = wr.heap.size + 1 := by simp [World.drew]
          have hwz : w.heap.size ≤ wr.heap.size := hbel.size
          have kp : ∀ o, (wr.alloc o).cell? (ad.add (k * 3)) = some (.string r.key) ∧ (wr.alloc o).cell? ⟨(ad.add (k * 3)).block, (ad.add (k * 3)).off + 1, none⟩ = some (.int .i64 r.num) ∧ (wr.alloc o).cell? ⟨(ad.add (k * 3)).block, (ad.add (k * 3)).off + 2, none⟩ = some (.int .i64 r.time) := by
            intro o
            have hb : (ad.add (k * 3)).block < wr.heap.size := by
              rw [block_add]
              obtain ⟨ad', h1, h2, _⟩ := hr.2 (by omega)
              injection h1 with h1
              subst h1
              omega
            exact ⟨(World.cell?_alloc_lt wr o _ hb).trans d0, (World.cell?_alloc_lt wr o ⟨(ad.add (k * 3)).block, (ad.add (k * 3)).off + 1, none⟩ hb).trans d1, (World.cell?_alloc_lt wr o ⟨(ad.add (k * 3)).block, (ad.add (k * 3)).off + 2, none⟩ hb).trans d2⟩
          simp only [alone_arr] at hbp hbelA hrPA hsA
          go_wp2_with fail
          go_region_held3 (fun w' => w'.cell? (ad.add (k * 3)) = some (.string r.key) ∧ w'.cell? ⟨(ad.add (k * 3)).block, (ad.add (k * 3)).off + 1, none⟩ = some (.int .i64 r.num) ∧ w'.cell? ⟨(ad.add (k * 3)).block, (ad.add (k * 3)).off + 2, none⟩ = some (.int .i64 r.time)) (first | exact ⟨d0, d1, d2⟩ | exact kp _)
          (fail)
          go_wp2_with fail
          clear kp d0 d1 d2 hwt
          generalize World.drew _ = wa at *
          obtain ⟨gp, hgp⟩ : ∃ g, g = wr.heap.size := ⟨_, rfl⟩
          rw [← hgp] at hbp hrPA hsA hwz ⊢
          clear hgp
          have HC0 : Hid (Cnt k 0 P (alone gap r) []) := Lib.hid (.start HML.out.1 HML.out.2 rfl)
          have hbp0 : Blk wa gp 86 (alone gap r).arr := hbp
          clear hbp hown hrP hAb hbel
          go_loopw [11, 12] (fun o i wr => ∃ (j : Nat) (p : Pane) (N : List Pane), j ≤ m ∧ i = .int .i64 j ∧ Hid ((P.take j).foldl absorb (alone gap r, []) = (p, N)) ∧ Hid (Cnt k j P p N) ∧ N.length ≤ j ∧ Blk wr gp 86 p.arr ∧ wr.ownsRow (gp + 1) 86 6 o N.length (paneCells N) ∧ Below gp wa wr) (fun _ i _ => m - (intOf i).toNat)
          case atStart => exact ⟨0, alone gap r, [], Nat.zero_le _, rfl, Lib.hid rfl, HC0, Nat.le_refl _, hbp0, World.ownsRow_nil _ _ _ _, Below.refl _ _⟩
          case round =>
            clear hbp0 HC0
            obtain ⟨j, p, N, hj, rfl, HF, HC, hNj, hbp, hown, hbel⟩ := hrel
            have hwz2 : gp + 1 ≤ wr.heap.size := by have := hbel.size; have := hbp.lt; omega
            by_cases hjm : j < m
            · obtain ⟨ad2, q, rfl, _, hq, e0, e1, e2, e3, e4, e5⟩ := (hrPA.below hbel (Nat.le_refl _)).pane_ hjm HM.out.symm
              have Hq := Lib.hid hq
              obtain ⟨c1, c2, c3, c4⟩ := HC.out.bd hq
              clear hq
              have hj0 : (0 : Int) ≤ (j : Int) := by omega
              have hj1 : (j : Int) < (m : Int) := by omega
              have hmw : IntKind.i64.wrap (p.many + q.many) = p.many + q.many := IntWalk.i64_in _ (by omega)
              have hne : gp ≠ wr.heap.size := by omega
              have hne2 : wr.heap.size ≠ gp := by omega
              have bp := hbp.alloc (.cells #[.string q.key, .int .i64 q.lo, .int .i64 q.hi, .int .i64 q.many, .int .i64 q.sum, .int .i64 q.late] 86)
              have hownQ := hown.alloc (.cells #[.string q.key, .int .i64 q.lo, .int .i64 q.hi, .int .i64 q.many, .int .i64 q.sum, .int .i64 q.late] 86)
              have hbelQ := hbel.alloc (show gp ≤ wr.heap.size by omega) (.cells #[.string q.key, .int .i64 q.lo, .int .i64 q.hi, .int .i64 q.many, .int .i64 q.sum, .int .i64 q.late] 86)
              have x0 := bp.cell 0
              have x1 := bp.cell 1
              have x2 := bp.cell 2
              have x3 := bp.cell 3
              have x4 := bp.cell 4
              have y1 := bp.frozen 1
              have y2 := bp.frozen 2
              have y3 := bp.frozen 3
              have y4 := bp.frozen 4
              simp [Pane.arr] at x0 x1 x2 x3 x4
              clear hbp hown hbel
              by_cases hkk : q.key.toList = p.key.toList
              · have hkk' : (q.key.toList == p.key.toList) = true := by simpa using hkk
                by_cases h1 : q.lo < p.hi
                · by_cases h2 : p.lo < q.hi
                  · have hov : overl p q = true := overl_iff.2 ⟨hkk, h1, h2⟩
                    by_cases h3 : q.lo < p.lo
                    · by_cases h4 : p.hi < q.hi
                      · skip
                        have HC2 : Hid (Cnt k (j + 1) P (absorb1 p q) N) := Lib.hid (HC.out.yes Hq.out)
                        have HF2 : Hid ((P.take (j + 1)).foldl absorb (alone gap r, []) = (absorb1 p q, N)) := Lib.hid (by rw [absorb_take _ Hq.out, HF.out, absorb_yes hov])
                        clear hov
                        go_wp2_with fail
                        obtain ⟨t1, t2, t3⟩ := stored_ (Nat.lt_succ_self gp) [(1, .int .i64 q.lo), (2, .int .i64 q.hi), (3, .int .i64 (p.many + q.many)), (4, .int .i64 (IntKind.i64.wrap (p.sum + q.sum)))] _ _ bp hownQ hbelQ (by simp; omega)
                        simp only [storesIn, List.foldl_cons, List.foldl_nil, IntWalk.i64_left] at t1 t2 t3
                        go_roundw
                        case rel => exact ⟨j + 1, absorb1 p q, N, by omega, by go_num, HF2, HC2, by omega, by simpa [absorb1, Pane.arr, h3, h4, IntWalk.i64_left] using t1, t2, t3⟩
                        case measure => simp [intOf]; omega
                      · skip
                        have HC2 : Hid (Cnt k (j + 1) P (absorb1 p q) N) := Lib.hid (HC.out.yes Hq.out)
                        have HF2 : Hid ((P.take (j + 1)).foldl absorb (alone gap r, []) = (absorb1 p q, N)) := Lib.hid (by rw [absorb_take _ Hq.out, HF.out, absorb_yes hov])
                        clear hov
                        go_wp2_with fail
                        obtain ⟨t1, t2, t3⟩ := stored_ (Nat.lt_succ_self gp) [(1, .int .i64 q.lo), (3, .int .i64 (p.many + q.many)), (4, .int .i64 (IntKind.i64.wrap (p.sum + q.sum)))] _ _ bp hownQ hbelQ (by simp; omega)
                        simp only [storesIn, List.foldl_cons, List.foldl_nil, IntWalk.i64_left] at t1 t2 t3
                        go_roundw
                        case rel => exact ⟨j + 1, absorb1 p q, N, by omega, by go_num, HF2, HC2, by omega, by simpa [absorb1, Pane.arr, h3, h4, IntWalk.i64_left] using t1, t2, t3⟩
                        case measure => simp [intOf]; omega
                    · by_cases h4 : p.hi < q.hi
                      · skip
                        have HC2 : Hid (Cnt k (j + 1) P (absorb1 p q) N) := Lib.hid (HC.out.yes Hq.out)
                        have HF2 : Hid ((P.take (j + 1)).foldl absorb (alone gap r, []) = (absorb1 p q, N)) := Lib.hid (by rw [absorb_take _ Hq.out, HF.out, absorb_yes hov])
                        clear hov
                        go_wp2_with fail
                        obtain ⟨t1, t2, t3⟩ := stored_ (Nat.lt_succ_self gp) [(2, .int .i64 q.hi), (3, .int .i64 (p.many + q.many)), (4, .int .i64 (IntKind.i64.wrap (p.sum + q.sum)))] _ _ bp hownQ hbelQ (by simp; omega)
                        simp only [storesIn, List.foldl_cons, List.foldl_nil, IntWalk.i64_left] at t1 t2 t3
                        go_roundw
                        case rel => exact ⟨j + 1, absorb1 p q, N, by omega, by go_num, HF2, HC2, by omega, by simpa [absorb1, Pane.arr, h3, h4, IntWalk.i64_left] using t1, t2, t3⟩
                        case measure => simp [intOf]; omega
                      · skip
                        have HC2 : Hid (Cnt k (j + 1) P (absorb1 p q) N) := Lib.hid (HC.out.yes Hq.out)
                        have HF2 : Hid ((P.take (j + 1)).foldl absorb (alone gap r, []) = (absorb1 p q, N)) := Lib.hid (by rw [absorb_take _ Hq.out, HF.out, absorb_yes hov])
                        clear hov
                        go_wp2_with fail
                        obtain ⟨t1, t2, t3⟩ := stored_ (Nat.lt_succ_self gp) [(3, .int .i64 (p.many + q.many)), (4, .int .i64 (IntKind.i64.wrap (p.sum + q.sum)))] _ _ bp hownQ hbelQ (by simp; omega)
                        simp only [storesIn, List.foldl_cons, List.foldl_nil, IntWalk.i64_left] at t1 t2 t3
                        go_roundw
                        case rel => exact ⟨j + 1, absorb1 p q, N, by omega, by go_num, HF2, HC2, by omega, by simpa [absorb1, Pane.arr, h3, h4, IntWalk.i64_left] using t1, t2, t3⟩
                        case measure => simp [intOf]; omega
                  · have hov : overl p q = false := by rw [← Bool.not_eq_true, overl_iff]; exact fun h => h2 h.2.2
                    have HC2 : Hid (Cnt k (j + 1) P p (N ++ [q])) := Lib.hid (HC.out.no Hq.out)
                    have HF2 : Hid ((P.take (j + 1)).foldl absorb (alone gap r, []) = (p, N ++ [q])) := Lib.hid (by rw [absorb_take _ Hq.out, HF.out, absorb_no hov])
                    clear hov
                    go_wp2_with (first | (with_reducible show wpList _ _ _ (⟨some 127, _, _, _, _, _⟩ :: _) _ _; go_must (refine wpList_newg (.tmp 124) (.tmp 126) el_pane rfl rfl hownQ rfl rfl (by simp) rfl rfl (by first | omega | (simp; omega)) (by first | omega | (simp; omega)) ?_); intro v4 w4 ho4 hb4 hg4 ha4))
                    go_roundw
                    case rel => exact ⟨j + 1, p, N ++ [q], by omega, by go_num, HF2, HC2, by simp; omega, bp.below hb4 (by omega), by rw [paneCells_snoc, List.length_append]; exact ho4, hbelQ.trans (hb4.mono (by omega))⟩
                    case measure => simp [intOf]; omega
                · have hov : overl p q = false := by rw [← Bool.not_eq_true, overl_iff]; exact fun h => h1 h.2.1
                  have HC2 : Hid (Cnt k (j + 1) P p (N ++ [q])) := Lib.hid (HC.out.no Hq.out)
                  have HF2 : Hid ((P.take (j + 1)).foldl absorb (alone gap r, []) = (p, N ++ [q])) := Lib.hid (by rw [absorb_take _ Hq.out, HF.out, absorb_no hov])
                  clear hov
                  go_wp2_with (first | (with_reducible show wpList _ _ _ (⟨some 127, _, _, _, _, _⟩ :: _) _ _; go_must (refine wpList_newg (.tmp 124) (.tmp 126) el_pane rfl rfl hownQ rfl rfl (by simp) rfl rfl (by first | omega | (simp; omega)) (by first | omega | (simp; omega)) ?_); intro v4 w4 ho4 hb4 hg4 ha4))
                  go_roundw
                  case rel => exact ⟨j + 1, p, N ++ [q], by omega, by go_num, HF2, HC2, by simp; omega, bp.below hb4 (by omega), by rw [paneCells_snoc, List.length_append]; exact ho4, hbelQ.trans (hb4.mono (by omega))⟩
                  case measure => simp [intOf]; omega
              · have hkk' : (q.key.toList == p.key.toList) = false := by simpa using hkk
                have hov : overl p q = false := by rw [← Bool.not_eq_true, overl_iff]; exact fun h => hkk h.1
                have HC2 : Hid (Cnt k (j + 1) P p (N ++ [q])) := Lib.hid (HC.out.no Hq.out)
                have HF2 : Hid ((P.take (j + 1)).foldl absorb (alone gap r, []) = (p, N ++ [q])) := Lib.hid (by rw [absorb_take _ Hq.out, HF.out, absorb_no hov])
                clear hov
                go_wp2_with (first | (with_reducible show wpList _ _ _ (⟨some 127, _, _, _, _, _⟩ :: _) _ _; go_must (refine wpList_newg (.tmp 124) (.tmp 126) el_pane rfl rfl hownQ rfl rfl (by simp) rfl rfl (by first | omega | (simp; omega)) (by first | omega | (simp; omega)) ?_); intro v4 w4 ho4 hb4 hg4 ha4))
                go_roundw
                case rel => exact ⟨j + 1, p, N ++ [q], by omega, by go_num, HF2, HC2, by simp; omega, bp.below hb4 (by omega), by rw [paneCells_snoc, List.length_append]; exact ho4, hbelQ.trans (hb4.mono (by omega))⟩
                case measure => simp [intOf]; omega
            · have hjm' : j = P.length := by have := HM.out; omega
              have hf := HF.out
              have hd := HC.out
              rw [hjm', List.take_length] at hf
              rw [hjm'] at hd
              have HDN := Lib.hid hd.done
              have HFN := Lib.hid hf
              clear hf hd HF HC hjm'
              obtain ⟨nn, hnn⟩ : ∃ nn, nn = N.length := ⟨_, rfl⟩
              have HN := Lib.hid hnn
              rw [← hnn] at hNj hown
              clear hnn
              obtain ⟨AN, cN, rfl, hnc, hcN, hAN, hrN⟩ := own_form hown
              obtain ⟨B4, hB4⟩ : ∃ b, b = wr.heap.size := ⟨_, rfl⟩
              have hB5 : B4 ≤ wr.heap.size := by omega
              rw [← hB4] at hrN hAN hwz2
              clear hB4 hown
              go_wp2_with fail
              go_loopw [14] (fun i wr => ∃ t : Nat, t ≤ nn ∧ i = .int .i64 t ∧ Hid (∀ (u : Nat) (q : Pane), u < t → N[u]? = some q → before p q = true) ∧ Blk wr gp 86 p.arr ∧ Rd wr B4 6 AN nn (paneCells N) ∧ B4 ≤ wr.heap.size ∧ Below gp wa wr) (fun i _ => nn - (intOf i).toNat)
              case atStart => exact ⟨0, Nat.zero_le _, rfl, Lib.hid (fun u q hu _ => by omega), hbp, hrN, hB5, hbel⟩
              case round =>
                clear hbp hrN hB5 hbel
                obtain ⟨t, ht, rfl, HB, hbp, hrN, hB5, hbel⟩ := hrel
                have x0 := hbp.cell 0
                have x1 := hbp.cell 1
                simp [Pane.arr] at x0 x1
                have ht0 : (0 : Int) ≤ (t : Int) := by omega
                by_cases htn : t < nn
                · obtain ⟨ad2, q, rfl, _, hq, e0, e1, e2, e3, e4, e5⟩ := hrN.pane_ htn HN.out.symm
                  have Hq := Lib.hid hq
                  clear hq e2 e3 e4 e5
                  have ht1 : (t : Int) < (nn : Int) := by omega
                  by_cases hk1 : q.key.toList < p.key.toList
                  · have hb1 : Op.bytesLess q.key.toList p.key.toList = true := by rw [bytesLess_is]; simpa using hk1
                    have HB2 := Lib.hid (spot_more Hq.out (before_iff.2 (.inl hk1)) HB.out)
                    clear hk1
                    go_wp2_with fail
                    go_quiet (fail)
                    go_wp2_with fail
                    go_roundw
                    case rel => exact ⟨t + 1, by omega, by go_num, HB2, hbp.drewN _, hrN.drewN _, hB5, below_drewN hbel _⟩
                    case measure => simp [intOf]; omega
                  · have hb1 : Op.bytesLess q.key.toList p.key.toList = false := by rw [bytesLess_is]; simpa using hk1
                    by_cases hk2 : q.key.toList = p.key.toList
                    · have hb2 : (q.key.toList == p.key.toList) = true := by simpa using hk2
                      by_cases hk3 : q.lo < p.lo
                      · have HB2 := Lib.hid (spot_more Hq.out (before_iff.2 (.inr ⟨hk2, hk3⟩)) HB.out)
                        clear hk1 hk2
                        go_wp2_with fail
                        go_quiet (fail)
                        go_wp2_with fail
                        go_roundw
                        case rel => exact ⟨t + 1, by omega, by go_num, HB2, hbp.drewN _, hrN.drewN _, hB5, below_drewN hbel _⟩
                        case measure => simp [intOf]; omega
                      · have HSP := Lib.hid (spot_stop Hq.out (before_not hk1 (fun h => hk3 h.2)) HB.out)
                        clear hk1 hk2
                        clear HB
                        go_wp2_with fail
                        go_quiet (fail)
                        have hbp4 := hbp.drewN nq
                        have hrN4 := hrN.drewN nq
                        have hB4 : B4 ≤ (wr.drewN nq).heap.size := hB5
                        have hbel4 := hbelA.trans ((below_drewN hbel nq).mono hwz)
                        obtain ⟨wq, hwq⟩ : ∃ wq, wq = wr.drewN nq := ⟨_, rfl⟩
                        rw [← hwq] at hbp4 hrN4 hB4 hbel4 ⊢
                        clear hwq hbp hrN hB5 hbel
                        generalize some ad2 = AN at hrN4 ⊢
                        have hs1 : (t : Int) ≤ (cN : Int) := by omega
                        have hs2 : (t : Int) ≤ (nn : Int) := by omega
                        go_wp2_with (first
                          | (with_reducible show wpList _ _ _ (⟨some 168, _, _, _, _, _⟩ :: _) _ _; go_must (refine wpList_rd (.tmp 164) (.tmp 167) el_pane rfl rfl (World.ownsRow_nil _ w.heap.size _ _) rfl (hrN4.take ht) rfl (fun u hu => paneCells_one N u (List.mem_of_mem_take hu)) (by omega) hbel4.size ?_); intro v5 w5 ho5 hb5 hg5 ha5; go_must (have hbp5 := hbp4.grown hg5 (none_row _); have hrN5 := hrN4.grown hg5 hB4 (none_ge _); have p0 := hbp5.cell 0; have p1 := hbp5.cell 1; have p2 := hbp5.cell 2; have p3 := hbp5.cell 3; have p4 := hbp5.cell 4; have p5 := hbp5.cell 5; simp [Pane.arr] at p0 p1 p2 p3 p4 p5; have hB6 : B4 ≤ w5.heap.size := Nat.le_trans hB4 hg5.size; have hz5 : w.heap.size ≤ w5.heap.size := Nat.le_trans hbel4.size hb5.size; have hge5 := row_ge ha5 hB4))
                          | (with_reducible show wpList _ _ _ (⟨some 172, _, _, _, _, _⟩ :: _) _ _; go_must (refine wpList_newg (.tmp 169) (.tmp 171) el_pane rfl rfl ho5 rfl rfl (by simp) rfl rfl (by omega) hz5 ?_); intro v6 w6 ho6 hb6 hg6 ha6; go_must (have hrN6 := hrN5.grown hg6 hB6 hge5; have hz6 : w.heap.size ≤ w6.heap.size := Nat.le_trans hz5 hb6.size))
                          | (with_reducible show wpList _ _ _ (⟨some 177, _, _, _, _, _⟩ :: _) _ _; go_must (refine wpList_rd (.tmp 173) (.tmp 176) el_pane rfl rfl ho6 rfl (hrN6.cut_lt htn hnc) rfl (fun u hu => paneCells_one N u (List.mem_of_mem_drop hu)) (by omega) hz6 ?_); intro v7 w7 ho7 hb7 hg7 ha7))
                        have hpl : place p N = N.take t ++ p :: N.drop t := by rw [place, ← (spot_take p N).1, ← (spot_take p N).2, HSP.out]
                        have hpn : (place p N).length = 0 + t + 1 + (nn - t) := by rw [place_len]; have := HN.out; omega
                        have ho8 : w7.ownsRow w.heap.size 86 6 v7 (place p N).length (paneCells (place p N)) := by rw [hpn, hpl, ← paneCells_mid]; exact ho7
                        go_roundw
                        case rel => exact ⟨k + 1, place p N, by omega, by go_num, by omega, Lib.hid (by rw [HX.out, refStep, HFN.out]), Lib.hid ⟨HDN.out.1, HDN.out.2.1⟩, ho8, hbel4.trans (hb5.trans (hb6.trans hb7))⟩
                        case measure => simp [intOf]; omega
                    · have hb2 : (q.key.toList == p.key.toList) = false := by simpa using hk2
                      have HSP := Lib.hid (spot_stop Hq.out (before_not hk1 (fun h => hk2 h.1)) HB.out)
                      clear hk1 hk2
                      clear HB
                      go_wp2_with fail
                      go_quiet (fail)
                      have hbp4 := hbp.drewN nq
                      have hrN4 := hrN.drewN nq
                      have hB4 : B4 ≤ (wr.drewN nq).heap.size := hB5
                      have hbel4 := hbelA.trans ((below_drewN hbel nq).mono hwz)
                      obtain ⟨wq, hwq⟩ : ∃ wq, wq = wr.drewN nq := ⟨_, rfl⟩
                      rw [← hwq] at hbp4 hrN4 hB4 hbel4 ⊢
                      clear hwq hbp hrN hB5 hbel
                      generalize some ad2 = AN at hrN4 ⊢
                      have hs1 : (t : Int) ≤ (cN : Int) := by omega
                      have hs2 : (t : Int) ≤ (nn : Int) := by omega
                      go_wp2_with (first
                        | (with_reducible show wpList _ _ _ (⟨some 168, _, _, _, _, _⟩ :: _) _ _; go_must (refine wpList_rd (.tmp 164) (.tmp 167) el_pane rfl rfl (World.ownsRow_nil _ w.heap.size _ _) rfl (hrN4.take ht) rfl (fun u hu => paneCells_one N u (List.mem_of_mem_take hu)) (by omega) hbel4.size ?_); intro v5 w5 ho5 hb5 hg5 ha5; go_must (have hbp5 := hbp4.grown hg5 (none_row _); have hrN5 := hrN4.grown hg5 hB4 (none_ge _); have p0 := hbp5.cell 0; have p1 := hbp5.cell 1; have p2 := hbp5.cell 2; have p3 := hbp5.cell 3; have p4 := hbp5.cell 4; have p5 := hbp5.cell 5; simp [Pane.arr] at p0 p1 p2 p3 p4 p5; have hB6 : B4 ≤ w5.heap.size := Nat.le_trans hB4 hg5.size; have hz5 : w.heap.size ≤ w5.heap.size := Nat.le_trans hbel4.size hb5.size; have hge5 := row_ge ha5 hB4))
                        | (with_reducible show wpList _ _ _ (⟨some 172, _, _, _, _, _⟩ :: _) _ _; go_must (refine wpList_newg (.tmp 169) (.tmp 171) el_pane rfl rfl ho5 rfl rfl (by simp) rfl rfl (by omega) hz5 ?_); intro v6 w6 ho6 hb6 hg6 ha6; go_must (have hrN6 := hrN5.grown hg6 hB6 hge5; have hz6 : w.heap.size ≤ w6.heap.size := Nat.le_trans hz5 hb6.size))
                        | (with_reducible show wpList _ _ _ (⟨some 177, _, _, _, _, _⟩ :: _) _ _; go_must (refine wpList_rd (.tmp 173) (.tmp 176) el_pane rfl rfl ho6 rfl (hrN6.cut_lt htn hnc) rfl (fun u hu => paneCells_one N u (List.mem_of_mem_drop hu)) (by omega) hz6 ?_); intro v7 w7 ho7 hb7 hg7 ha7))
                      have hpl : place p N = N.take t ++ p :: N.drop t := by rw [place, ← (spot_take p N).1, ← (spot_take p N).2, HSP.out]
                      have hpn : (place p N).length = 0 + t + 1 + (nn - t) := by rw [place_len]; have := HN.out; omega
                      have ho8 : w7.ownsRow w.heap.size 86 6 v7 (place p N).length (paneCells (place p N)) := by rw [hpn, hpl, ← paneCells_mid]; exact ho7
                      go_roundw
                      case rel => exact ⟨k + 1, place p N, by omega, by go_num, by omega, Lib.hid (by rw [HX.out, refStep, HFN.out]), Lib.hid ⟨HDN.out.1, HDN.out.2.1⟩, ho8, hbel4.trans (hb5.trans (hb6.trans hb7))⟩
                      case measure => simp [intOf]; omega
                · have HSP : Hid (spot p N = t) := Lib.hid (by
                    have := HN.out
                    rw [show t = N.length from by omega]
                    exact spot_end fun u x hu hx => HB.out u x (by omega) hx)
                  clear HB
                  go_wp2_with fail
                  go_quiet (fail)
                  have hbp4 := hbp.drewN nq
                  have hrN4 := hrN.drewN nq
                  have hB4 : B4 ≤ (wr.drewN nq).heap.size := hB5
                  have hbel4 := hbelA.trans ((below_drewN hbel nq).mono hwz)
                  obtain ⟨wq, hwq⟩ : ∃ wq, wq = wr.drewN nq := ⟨_, rfl⟩
                  rw [← hwq] at hbp4 hrN4 hB4 hbel4 ⊢
                  clear hwq hbp hrN hB5 hbel
                  skip
                  have hs1 : (t : Int) ≤ (cN : Int) := by omega
                  have hs2 : (t : Int) ≤ (nn : Int) := by omega
                  go_wp2_with (first
                    | (with_reducible show wpList _ _ _ (⟨some 168, _, _, _, _, _⟩ :: _) _ _; go_must (refine wpList_rd (.tmp 164) (.tmp 167) el_pane rfl rfl (World.ownsRow_nil _ w.heap.size _ _) rfl (hrN4.take ht) rfl (fun u hu => paneCells_one N u (List.mem_of_mem_take hu)) (by omega) hbel4.size ?_); intro v5 w5 ho5 hb5 hg5 ha5; go_must (have hbp5 := hbp4.grown hg5 (none_row _); have hrN5 := hrN4.grown hg5 hB4 (none_ge _); have p0 := hbp5.cell 0; have p1 := hbp5.cell 1; have p2 := hbp5.cell 2; have p3 := hbp5.cell 3; have p4 := hbp5.cell 4; have p5 := hbp5.cell 5; simp [Pane.arr] at p0 p1 p2 p3 p4 p5; have hB6 : B4 ≤ w5.heap.size := Nat.le_trans hB4 hg5.size; have hz5 : w.heap.size ≤ w5.heap.size := Nat.le_trans hbel4.size hb5.size; have hge5 := row_ge ha5 hB4))
                    | (with_reducible show wpList _ _ _ (⟨some 172, _, _, _, _, _⟩ :: _) _ _; go_must (refine wpList_newg (.tmp 169) (.tmp 171) el_pane rfl rfl ho5 rfl rfl (by simp) rfl rfl (by omega) hz5 ?_); intro v6 w6 ho6 hb6 hg6 ha6; go_must (have hrN6 := hrN5.grown hg6 hB6 hge5; have hz6 : w.heap.size ≤ w6.heap.size := Nat.le_trans hz5 hb6.size))
                    | (with_reducible show wpList _ _ _ (⟨some 177, _, _, _, _, _⟩ :: _) _ _; go_must (refine wpList_rd (.tmp 173) (.tmp 176) el_pane rfl rfl ho6 rfl (hrN6.cut ht hnc) rfl (fun u hu => paneCells_one N u (List.mem_of_mem_drop hu)) (by omega) hz6 ?_); intro v7 w7 ho7 hb7 hg7 ha7))
                  have hpl : place p N = N.take t ++ p :: N.drop t := by rw [place, ← (spot_take p N).1, ← (spot_take p N).2, HSP.out]
                  have hpn : (place p N).length = 0 + t + 1 + (nn - t) := by rw [place_len]; have := HN.out; omega
                  have ho8 : w7.ownsRow w.heap.size 86 6 v7 (place p N).length (paneCells (place p N)) := by rw [hpn, hpl, ← paneCells_mid]; exact ho7
                  go_roundw
                  case rel => exact ⟨k + 1, place p N, by omega, by go_num, by omega, Lib.hid (by rw [HX.out, refStep, HFN.out]), Lib.hid ⟨HDN.out.1, HDN.out.2.1⟩, ho8, hbel4.trans (hb5.trans (hb6.trans hb7))⟩
                  case measure => simp [intOf]; omega
        · go_wp2_with fail
          go_ret2
          refine ⟨_, by rw [HE.out]; rfl, P, by rw [if_pos HE.out, HP.out, List.take_of_length_le (by have := Hn.out; omega)], hown, hbel⟩
end Go.Proofs.YtelailhghhjleaaDoor
