/- The walk of weirref2.Merge. -/
import Derived.Test.YtelailhghhjleaaDoorWalkRLines1
import Derived.Test.YtelailhghhjleaaDoorWalkRLines
import Derived.Test.YtelailhghhjleaaDoorWalkMerge
import Derived.Deep.RegionHeld3
namespace Go.Proofs.YtelailhghhjleaaDoor
open Go.RowKit

theorem el_recM : Elt Tryd.prog 44 74 (.agg #[.string ByteArray.empty, .int .i64 0, .int .i64 0]) 3 32 := ⟨Tryd.underlying44, by kernel_rfl, rfl, by omega, by omega⟩
theorem step_newm {P : Program} {ops : Array Oper} {o : Oper} {a : Act} {K : Act → World → Prop} {Q : Exit → Act → World → Prop} {F : Prop} {w : World} (s x : Operand) {t e : TypeId} {z : Value} {size bytes : Nat} (E : Elt P t e z size bytes)
    (hgd : o.guard = none) (ho : o.op = .call { callee := .builtin .append, args := #[s, x], argTypes := #[t, t] })
    {base : Nat} {v : Value} {n : Nat} {xs : List Value} (hown : w.drew.ownsRow base e size v n xs) (hs : a.eval s = v)
    {g m c : Nat} {cs : Array Value} (hx : a.eval x = .slice (some ⟨g, 0, none⟩) m c) (hg : w.drew.heap.size = g) (hl : cs.size = m * size) (h1 : cs.toList.all Value.oneCell' = true)
    (hbytes : (n + m) * bytes ≤ 140737488355328) (hbase : base ≤ w.drew.heap.size)
    (h : ∀ v' w', w'.ownsRow base e size v' (n + m) (xs ++ cs.toList) → Below base w.drew w' → w.drew.grownBy w' v.ownBlock → (v'.ownBlock = v.ownBlock ∨ v'.ownBlock = some (w.drew.heap.size + 1)) → K (a.put o.dst v') w') :
    if Region.wanted o (yielded ops a.tmps) = true then Oper.wp P o a (w.alloc (.cells cs e)).drew K Q else F := by
  have e1 : (w.alloc (.cells cs e)).drew = w.drew.alloc (.cells cs e) := rfl
  rw [e1]
  exact step_newg s x E hgd ho hown hs hx hg hl h1 hbytes hbase h
/-- The records of the first lines, and of a line's first numbers. -/
def recsTo (l : List Ln) (i k : Nat) : List Rec := (l.take i).flatMap recsOf ++ (match l[i]? with | none => [] | some x => (recsOf x).take k)
theorem recsTo_zero (l : List Ln) : recsTo l 0 0 = [] := by rw [recsTo]; cases l[0]? <;> simp
theorem recsTo_next {l : List Ln} {i k : Nat} {x : Ln} (h : l[i]? = some x) {z : Int} (hz : x.nums[k]? = some z) : recsTo l i (k + 1) = recsTo l i k ++ [⟨x.key, z, 0⟩] := by
  have : (recsOf x)[k]? = some ⟨x.key, z, 0⟩ := by rw [recsOf, List.getElem?_map, hz]; rfl
  rw [recsTo, recsTo, h]
  simp only
  rw [List.take_add_one, this, List.append_assoc]; rfl
theorem recsTo_line {l : List Ln} {i : Nat} {x : Ln} (h : l[i]? = some x) : recsTo l i x.nums.length = recsTo l (i + 1) 0 := by
  have e : (recsOf x).length = x.nums.length := by simp [recsOf]
  rw [recsTo, recsTo, h]
  simp only
  rw [← e, List.take_length, List.take_add_one, h, List.flatMap_append]
  cases l[i + 1]? <;> simp
theorem recsTo_all {l : List Ln} {i : Nat} (h : l.length ≤ i) : recsTo l i 0 = l.flatMap recsOf := by
  rw [recsTo, List.take_of_length_le h, List.getElem?_eq_none h]; simp
theorem recsTo_len {l : List Ln} {i k : Nat} : (recsTo l i k).length ≤ sumL l := by
  have h1 : ∀ l : List Ln, (l.flatMap recsOf).length = sumL l := by
    intro l
    induction l with
    | nil => rfl
    | cons x xs ih => rw [List.flatMap_cons, List.length_append, ih]; simp [recsOf, sumL]
  rw [recsTo, List.length_append, h1]
  cases hx : l[i]? with
  | none => simp only [List.length_nil, Nat.add_zero]; exact sumL_take_le _ _
  | some x =>
    have := sumL_next hx
    have := sumL_take_le l (i + 1)
    have : ((recsOf x).take k).length ≤ x.nums.length := by simp [recsOf]; omega
    simp only
    omega
theorem recCells_lenM (l : List Rec) : (recCells l).length = l.length * 3 := by
  induction l with
  | nil => rfl
  | cons x xs ih => rw [recCells] at ih ⊢; rw [List.flatMap_cons, List.length_append, ih, List.length_cons, show x.cells.length = 3 from rfl]; omega
theorem recsOf_len (l : List Ln) : (l.flatMap recsOf).length = sumL l := by
  induction l with
  | nil => rfl
  | cons x xs ih => rw [List.flatMap_cons, List.length_append, ih]; simp [recsOf, sumL]
theorem recsOf_wf {w : World} {B n : Nat} {A : Option Addr} {ps : List Pl} (h : RdPs w B A n ps) : ∀ r ∈ (lnsOf ps).flatMap recsOf, (Lit.int .i64 r.num).wf = true := fun r hr => by
  obtain ⟨x, hx, hr⟩ := List.mem_flatMap.1 hr
  obtain ⟨p, hp, rfl⟩ := List.mem_map.1 hx
  obtain ⟨z, hz, rfl⟩ := List.mem_map.1 hr
  exact (h.ok p hp).wf z hz
theorem recCells_app (a b : List Rec) : recCells (a ++ b) = recCells a ++ recCells b := by simp [recCells]

set_option maxRecDepth 100000 in
set_option maxHeartbeats 4000000 in
theorem rmerge_any (A1 A2 : Option Addr) (c1 c2 B n1 n2 : Nat) (p1 p2 : List Pl) (w : World) (hr1 : RdPs w B A1 n1 p1) (hr2 : RdPs w B A2 n2 p2) (hB : B ≤ w.heap.size) (h1 : linesE (lnsOf p1) = 0) (h2 : linesE (lnsOf p2) = 0) :
    Calls Tryd.prog 27 #[.slice A1 n1 c1, .slice A2 n2 c2] w fun e w' => ∃ v, e = .returned (.tuple #[v, .int .i64 (mergeE (lnsOf p1) (lnsOf p2))]) ∧ LnsAt w' (mergeO (lnsOf p1) (lnsOf p2)) v ∧ Below w.heap.size w w' := by
  have hk1 := linesE_ok h1
  have hk2 := linesE_ok h2
  have HK1 := Lib.hid hk1
  have HK2 := Lib.hid hk2
  have hn1 : n1 ≤ 400 := by have := hk1.len; rwa [lnsOf_len, hr1.len] at this
  have hn2 : n2 ≤ 400 := by have := hk2.len; rwa [lnsOf_len, hr2.len] at this
  clear hk1 hk2
  go_enter Tryd.func27, Tryd.ntmps27
  go_wp2_with fail
  have HOK := HK1
  have HPRE : Hid (([] : List Rec).length ≤ 160000) := Lib.hid (Nat.zero_le _)
  have hst1 : w.ownsRow w.heap.size 74 3 (.slice none 0 0) 0 (recCells ([] ++ recsTo (lnsOf p1) 0 0)) := by rw [recsTo_zero]; exact World.ownsRow_nil _ _ _ _
  go_loopw [6, 7] (fun o x wr => ∃ i t : Nat, i ≤ n1 ∧ x = .int .i64 i ∧ wr.ownsRow w.heap.size 74 3 o t (recCells ([] ++ recsTo (lnsOf p1) i 0)) ∧ Below w.heap.size w wr) (fun _ x _ => n1 - (intOf x).toNat)
  case atStart => exact ⟨0, _, Nat.zero_le _, rfl, hst1, (Below.refl _ _)⟩
  case round =>
    obtain ⟨i, t0, hi, rfl, hown, hbel⟩ := hrel
    by_cases hlt : i < n1
    · obtain ⟨ad, p, rfl, hab, hx0, g0, g1, hpo⟩ := (hr1.below hbel hB).at_ hlt
      have HX := Lib.hid (lnsOf_at hx0)
      have hp4 := HOK.out.few p.ln (List.mem_of_getElem? HX.out)
      have hrow := (hr1.ok p (List.mem_of_getElem? hx0)).rd
      obtain ⟨m, hm⟩ : ∃ m, m = p.ln.nums.length := ⟨_, rfl⟩
      have Hm := Lib.hid hm
      unfold Pl.val at g1
      rw [← hm] at g1 hp4 hrow
      have hbw : (ad.add (i * 2)).block < w.heap.size := by rw [block_add]; omega
      clear hx0 hm hpo
      have hi0 : (0 : Int) ≤ (i : Int) := by omega
      have hi1 : (i : Int) < (n1 : Int) := by omega
      rename World => wo
      go_upto_region 6 with fail
      go_loopw [6, 8] (fun o x wz => ∃ k t : Nat, k ≤ m ∧ x = .int .i64 k ∧ wz.ownsRow w.heap.size 74 3 o t (recCells ([] ++ recsTo (lnsOf p1) i k)) ∧ Below w.heap.size w wz) (fun _ x _ => m - (intOf x).toNat)
      case atStart => exact ⟨0, t0, Nat.zero_le _, rfl, hown, hbel⟩
      obtain ⟨k, t, hk, rfl, hownz, hbz⟩ := hrel
      have hwz := hbz.size
      have y0 := (hbz.cell hbw).trans ((hbel.cell hbw).symm.trans g0)
      have y1 := (hbz.cell (p := ⟨(ad.add (i * 2)).block, (ad.add (i * 2)).off + 1, none⟩) hbw).trans ((hbel.cell (p := ⟨(ad.add (i * 2)).block, (ad.add (i * 2)).off + 1, none⟩) hbw).symm.trans g1)
      by_cases hkm : k < m
      · obtain ⟨adn, hA, hadb, hcn⟩ := hrow.2 (by omega)
        obtain ⟨z, hz⟩ : ∃ z, p.ln.nums[k]? = some z := ⟨_, List.getElem?_eq_getElem (by rw [← Hm.out]; exact hkm)⟩
        have hadn : (adn.add k).block < w.heap.size := by rw [block_add]; omega
        have z0 : wr.cell? (adn.add k) = some (.int .i64 z) := (hbz.cell hadn).trans (hcn k (iv z) (by rw [List.getElem?_map, hz]; rfl))
        rw [hA] at y1
        have HNX := Lib.hid (recsTo_next HX.out hz)
        clear hA hz hcn hadb
        have htl : t ≤ 320000 := by
          have h1 := hownz.1
          rw [recCells_lenM] at h1
          have h2 := recsTo_len (l := lnsOf p1) (i := i) (k := k)
          have h3 := sumL_le HOK.out
          have h4 := HPRE.out
          rw [List.length_append] at h1
          omega
        have hownAd := World.ownsRow.drew hownz
        have hbyA : (t + 1) * 32 ≤ 140737488355328 := by omega
        have hszd : w.heap.size ≤ wr.drew.heap.size := hwz
        have hbl0 : (ad.add (i * 2)).block < wr.drew.heap.size := Nat.lt_of_lt_of_le hbw hszd
        have hbl1 : (adn.add k).block < wr.drew.heap.size := Nat.lt_of_lt_of_le hadn hszd
        have c0d : wr.drew.cell? (ad.add (i * 2)) = some (.string p.ln.key) := y0
        have c1d : wr.drew.cell? ⟨(ad.add (i * 2)).block, (ad.add (i * 2)).off + 1, none⟩ = some (.slice (some adn) m p.c) := y1
        have c2d : wr.drew.cell? (adn.add k) = some (.int .i64 z) := z0
        have c0a := fun o => (World.cell?_alloc_lt wr.drew o (ad.add (i * 2)) hbl0).trans c0d
        have c1a := fun o => (World.cell?_alloc_lt wr.drew o ⟨(ad.add (i * 2)).block, (ad.add (i * 2)).off + 1, none⟩ hbl0).trans c1d
        have c2a := fun o => (World.cell?_alloc_lt wr.drew o (adn.add k) hbl1).trans c2d
        have hk0 : (0 : Int) ≤ (k : Int) := by omega
        have hk1 : (k : Int) < (m : Int) := by omega
        go_wp2_with fail
        go_region_held3 (fun w' => w'.cell? (ad.add (i * 2)) = some (.string p.ln.key) ∧ w'.cell? ⟨(ad.add (i * 2)).block, (ad.add (i * 2)).off + 1, none⟩ = some (.slice (some adn) m p.c) ∧ w'.cell? (adn.add k) = some (.int .i64 z)) (first | exact ⟨c0d, c1d, c2d⟩ | exact ⟨c0a _, c1a _, c2a _⟩ | exact ⟨(hb4.cell hbw).trans c0d, (hb4.cell (p := ⟨(ad.add (i * 2)).block, (ad.add (i * 2)).off + 1, none⟩) hbw).trans c1d, (hb4.cell hadn).trans c2d⟩)
          ((first
            | (with_reducible show (if Region.wanted (⟨some 45, _, _, _, _, _⟩ : Oper) _ = true then _ else _); go_must (first | refine step_newm (.tmp 29) (.tmp 44) el_recM rfl rfl hownAd rfl rfl rfl rfl rfl hbyA hszd ?_ | refine step_newg (.tmp 29) (.tmp 44) el_recM rfl rfl hownAd rfl rfl rfl rfl rfl hbyA hszd ?_); intro v4 w4 hown4 hb4 hg4 ha4)))
        have hown5 : w4.ownsRow w.heap.size 74 3 v4 (t + 1) (recCells ([] ++ recsTo (lnsOf p1) i (k + 1))) := by
          rw [HNX.out, ← List.append_assoc, recCells_app]; exact hown4
        have hb5 := hbz.drew.trans hb4
        clear hown4 c0a c1a c2a c0d c1d c2d hbl0 hbl1
        go_wp2_with fail
        go_roundw
        case rel => exact ⟨k + 1, t + 1, by omega, by go_num, hown5, hb5⟩
        case measure => simp [intOf]; omega
      · obtain rfl : k = m := by omega
        have hown5 := hownz
        rw [Hm.out, recsTo_line HX.out] at hown5
        go_wp2_with fail
        go_roundw
        case rel => exact ⟨i + 1, t, by omega, by go_num, hown5, hbz⟩
        case measure => simp [intOf]; omega
    · have hall : recsTo (lnsOf p1) i 0 = (lnsOf p1).flatMap recsOf := recsTo_all (by rw [lnsOf_len, hr1.len]; omega)
      rw [hall] at hown
      clear hall
      obtain ⟨R1, hR1⟩ : ∃ R1, R1 = (lnsOf p1).flatMap recsOf := ⟨_, rfl⟩
      have HR1 := Lib.hid hR1
      have HPRE : Hid (R1.length ≤ 160000) := Lib.hid (by rw [hR1, recsOf_len]; exact sumL_le HK1.out)
      have HOK := HK2
      rw [List.nil_append, ← hR1] at hown
      clear hR1
      have hst2 := hown
      rw [show R1 = R1 ++ recsTo (lnsOf p2) 0 0 from by rw [recsTo_zero, List.append_nil]] at hst2
      have hbs2 := hbel
      clear hown
      rename World => w1
      go_wp2_with fail
      clear hlt hi
      go_loopw [6, 9] (fun o x wr => ∃ i t : Nat, i ≤ n2 ∧ x = .int .i64 i ∧ wr.ownsRow w.heap.size 74 3 o t (recCells (R1 ++ recsTo (lnsOf p2) i 0)) ∧ Below w.heap.size w wr) (fun _ x _ => n2 - (intOf x).toNat)
      case atStart => exact ⟨0, _, Nat.zero_le _, rfl, hst2, hbs2⟩
      case round =>
        obtain ⟨i, t0, hi, rfl, hown, hbel⟩ := hrel
        by_cases hlt : i < n2
        · obtain ⟨ad, p, rfl, hab, hx0, g0, g1, hpo⟩ := (hr2.below hbel hB).at_ hlt
          have HX := Lib.hid (lnsOf_at hx0)
          have hp4 := HOK.out.few p.ln (List.mem_of_getElem? HX.out)
          have hrow := (hr2.ok p (List.mem_of_getElem? hx0)).rd
          obtain ⟨m, hm⟩ : ∃ m, m = p.ln.nums.length := ⟨_, rfl⟩
          have Hm := Lib.hid hm
          unfold Pl.val at g1
          rw [← hm] at g1 hp4 hrow
          have hbw : (ad.add (i * 2)).block < w.heap.size := by rw [block_add]; omega
          clear hx0 hm hpo
          have hi0 : (0 : Int) ≤ (i : Int) := by omega
          have hi1 : (i : Int) < (n2 : Int) := by omega
          rename World => wo
          go_upto_region 13 with fail
          go_loopw [6, 10] (fun o x wz => ∃ k t : Nat, k ≤ m ∧ x = .int .i64 k ∧ wz.ownsRow w.heap.size 74 3 o t (recCells (R1 ++ recsTo (lnsOf p2) i k)) ∧ Below w.heap.size w wz) (fun _ x _ => m - (intOf x).toNat)
          case atStart => exact ⟨0, t0, Nat.zero_le _, rfl, hown, hbel⟩
          obtain ⟨k, t, hk, rfl, hownz, hbz⟩ := hrel
          have hwz := hbz.size
          have y0 := (hbz.cell hbw).trans ((hbel.cell hbw).symm.trans g0)
          have y1 := (hbz.cell (p := ⟨(ad.add (i * 2)).block, (ad.add (i * 2)).off + 1, none⟩) hbw).trans ((hbel.cell (p := ⟨(ad.add (i * 2)).block, (ad.add (i * 2)).off + 1, none⟩) hbw).symm.trans g1)
          by_cases hkm : k < m
          · obtain ⟨adn, hA, hadb, hcn⟩ := hrow.2 (by omega)
            obtain ⟨z, hz⟩ : ∃ z, p.ln.nums[k]? = some z := ⟨_, List.getElem?_eq_getElem (by rw [← Hm.out]; exact hkm)⟩
            have hadn : (adn.add k).block < w.heap.size := by rw [block_add]; omega
            have z0 : wr.cell? (adn.add k) = some (.int .i64 z) := (hbz.cell hadn).trans (hcn k (iv z) (by rw [List.getElem?_map, hz]; rfl))
            rw [hA] at y1
            have HNX := Lib.hid (recsTo_next HX.out hz)
            clear hA hz hcn hadb
            have htl : t ≤ 320000 := by
              have h1 := hownz.1
              rw [recCells_lenM] at h1
              have h2 := recsTo_len (l := lnsOf p2) (i := i) (k := k)
              have h3 := sumL_le HOK.out
              have h4 := HPRE.out
              rw [List.length_append] at h1
              omega
            have hownAd := World.ownsRow.drew hownz
            have hbyA : (t + 1) * 32 ≤ 140737488355328 := by omega
            have hszd : w.heap.size ≤ wr.drew.heap.size := hwz
            have hbl0 : (ad.add (i * 2)).block < wr.drew.heap.size := Nat.lt_of_lt_of_le hbw hszd
            have hbl1 : (adn.add k).block < wr.drew.heap.size := Nat.lt_of_lt_of_le hadn hszd
            have c0d : wr.drew.cell? (ad.add (i * 2)) = some (.string p.ln.key) := y0
            have c1d : wr.drew.cell? ⟨(ad.add (i * 2)).block, (ad.add (i * 2)).off + 1, none⟩ = some (.slice (some adn) m p.c) := y1
            have c2d : wr.drew.cell? (adn.add k) = some (.int .i64 z) := z0
            have c0a := fun o => (World.cell?_alloc_lt wr.drew o (ad.add (i * 2)) hbl0).trans c0d
            have c1a := fun o => (World.cell?_alloc_lt wr.drew o ⟨(ad.add (i * 2)).block, (ad.add (i * 2)).off + 1, none⟩ hbl0).trans c1d
            have c2a := fun o => (World.cell?_alloc_lt wr.drew o (adn.add k) hbl1).trans c2d
            have hk0 : (0 : Int) ≤ (k : Int) := by omega
            have hk1 : (k : Int) < (m : Int) := by omega
            go_wp2_with fail
            go_region_held3 (fun w' => w'.cell? (ad.add (i * 2)) = some (.string p.ln.key) ∧ w'.cell? ⟨(ad.add (i * 2)).block, (ad.add (i * 2)).off + 1, none⟩ = some (.slice (some adn) m p.c) ∧ w'.cell? (adn.add k) = some (.int .i64 z)) (first | exact ⟨c0d, c1d, c2d⟩ | exact ⟨c0a _, c1a _, c2a _⟩ | exact ⟨(hb4.cell hbw).trans c0d, (hb4.cell (p := ⟨(ad.add (i * 2)).block, (ad.add (i * 2)).off + 1, none⟩) hbw).trans c1d, (hb4.cell hadn).trans c2d⟩)
              ((first
                | (with_reducible show (if Region.wanted (⟨some 78, _, _, _, _, _⟩ : Oper) _ = true then _ else _); go_must (first | refine step_newm (.tmp 62) (.tmp 77) el_recM rfl rfl hownAd rfl rfl rfl rfl rfl hbyA hszd ?_ | refine step_newg (.tmp 62) (.tmp 77) el_recM rfl rfl hownAd rfl rfl rfl rfl rfl hbyA hszd ?_); intro v4 w4 hown4 hb4 hg4 ha4)))
            have hown5 : w4.ownsRow w.heap.size 74 3 v4 (t + 1) (recCells (R1 ++ recsTo (lnsOf p2) i (k + 1))) := by
              rw [HNX.out, ← List.append_assoc, recCells_app]; exact hown4
            have hb5 := hbz.drew.trans hb4
            clear hown4 c0a c1a c2a c0d c1d c2d hbl0 hbl1
            go_wp2_with fail
            go_roundw
            case rel => exact ⟨k + 1, t + 1, by omega, by go_num, hown5, hb5⟩
            case measure => simp [intOf]; omega
          · obtain rfl : k = m := by omega
            have hown5 := hownz
            rw [Hm.out, recsTo_line HX.out] at hown5
            go_wp2_with fail
            go_roundw
            case rel => exact ⟨i + 1, t, by omega, by go_num, hown5, hbz⟩
            case measure => simp [intOf]; omega
        · have hall : recsTo (lnsOf p2) i 0 = (lnsOf p2).flatMap recsOf := recsTo_all (by rw [lnsOf_len, hr2.len]; omega)
          rw [hall] at hown
          clear hall
          have hlin : linesOf (R1 ++ (lnsOf p2).flatMap recsOf) = mergeL (lnsOf p1 ++ lnsOf p2) := by
            rw [HR1.out, ← List.flatMap_append]
            refine linesOf_all fun x hx => ?_
            rcases List.mem_append.1 hx with hx | hx
            · exact HK1.out.some_ x hx
            · exact HK2.out.some_ x hx
          have hwf : ∀ r ∈ R1 ++ (lnsOf p2).flatMap recsOf, (Lit.int .i64 r.num).wf = true := fun r hr => by
            rcases List.mem_append.1 hr with hr | hr
            · rw [HR1.out] at hr; exact recsOf_wf hr1 r hr
            · exact recsOf_wf hr2 r hr
          have hlen : (R1 ++ (lnsOf p2).flatMap recsOf).length = t0 := by have := hown.1; rw [recCells_lenM] at this; omega
          have ht : t0 ≤ 320000 := by
            have h1 := sumL_le HK2.out
            have h2 := HPRE.out
            rw [List.length_append, recsOf_len] at hlen
            omega
          obtain ⟨Ao, co, rfl, _, _, _, o3⟩ := own_form hown
          have hrl := rlines1_any Ao co wr.heap.size t0 (R1 ++ (lnsOf p2).flatMap recsOf) wr o3 hlen (Nat.le_refl _) (by omega) hwf
          have hps : (mergeL (lnsOf p1 ++ lnsOf p2)).length ≤ 320000 := by rw [← hlin]; exact Nat.le_trans (linesOf_len _) (by omega)
          rw [hlin] at hrl
          have HRL := Lib.hid hrl
          have HB : Hid (bothL (lnsOf p1) (lnsOf p2) = 0) := Lib.hid (by rw [bothL, if_neg (by rw [h1]; simp), h2])
          have HME : Hid (mergeE (lnsOf p1) (lnsOf p2) = if linesE (mergeL (lnsOf p1 ++ lnsOf p2)) ≠ 0 then 4 else 0) := Lib.hid (by rw [mergeE, if_neg (by rw [HB.out]; simp)])
          have HMO : Hid (mergeO (lnsOf p1) (lnsOf p2) = if mergeE (lnsOf p1) (lnsOf p2) = 0 then mergeL (lnsOf p1 ++ lnsOf p2) else []) := Lib.hid (by rw [mergeO])
          clear hrl hlin hwf hlen hown o3
          generalize mergeL (lnsOf p1 ++ lnsOf p2) = L at *
          by_cases hl0 : linesE L = 0
          · have HL0 := Lib.hid hl0
            have HM0 : Hid (mergeE (lnsOf p1) (lnsOf p2) = 0) := Lib.hid (by rw [HME.out, if_neg (by simp [hl0])])
            clear hl0
            go_wp2_with (first
              | (go_at_call 53; go_must (refine HRL.out.mono ?_); rintro e w5 ⟨v5, s5, rfl, q1, q2, hb5⟩; obtain ⟨A5, c5, rfl, q3, q4, q5⟩ := q1.rd)
              | (go_at_call 26; go_must (refine (rlines_any A5 c5 w5.heap.size s5.length s5 w5 q5 (by have := congrArg List.length q2; rw [lnsOf_len] at this; omega)).mono ?_); rintro e w6 ⟨rfl, q, rfl⟩; rw [q2, HL0.out]))
            go_ret2
            exact ⟨_, by rw [HM0.out]; rfl, ⟨A5, c5, s5, rfl, q3, q4, by rw [q2, HMO.out, if_pos HM0.out], ⟨q5.len, q5.rd.drewN q, fun p hp => (q5.ok p hp).below (below_drewN (Below.refl _ _) q) (Nat.le_refl _)⟩⟩, below_drewN (below_up hbel hb5) q⟩
          · have HL0 : Hid (¬ ((linesE L : Int) = 0)) := Lib.hid (by omega)
            have hl1 : ¬ ((linesE L : Int) = 0) := by omega
            have HM0 : Hid (mergeE (lnsOf p1) (lnsOf p2) = 4) := Lib.hid (by rw [HME.out, if_pos hl0])
            go_wp2_with (first
              | (go_at_call 53; go_must (refine HRL.out.mono ?_); rintro e w5 ⟨v5, s5, rfl, q1, q2, hb5⟩; obtain ⟨A5, c5, rfl, q3, q4, q5⟩ := q1.rd)
              | (go_at_call 26; go_must (refine (rlines_any A5 c5 w5.heap.size s5.length s5 w5 q5 (by have := congrArg List.length q2; rw [lnsOf_len] at this; omega)).mono ?_); rintro e w6 ⟨rfl, q, rfl⟩; rw [q2]))
            go_ret2
            refine ⟨_, by rw [HM0.out]; rfl, ?_, below_drewN (below_up hbel hb5) q⟩
            rw [HMO.out, if_neg (by rw [HM0.out]; omega)]
            exact LnsAt.nil_ _
end Go.Proofs.YtelailhghhjleaaDoor
