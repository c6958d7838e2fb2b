/- The order of table.Mix, its sort, its walk. -/
import Derived.Test.YtcfijljagohmlaaGreatDoorShelfEnt
import Derived.Test.YtcfijljagohmlaaGreatDoorMemEnts
import Derived.Test.YtcfijljagohmlaaGreatDoorMemSort
import Derived.Test.YtcfijljagohmlaaGreatDoorRowE
import Derived.Test.YtcfijljagohmlaaGreatDoorWalkSearch
import Derived.Deep.CutBlock
import Derived.Deep.CutRange
namespace Go.Proofs.YtcfijljagohmlaaGreatDoor
open Go.RowKit Go.Maps Go.Sort Go.Shelf Go.Lib Go.WideMaps

instance : Inhabited Ent := ⟨⟨⟨#[]⟩, ⟨#[]⟩, false⟩⟩
def entCf (x y : Ent) : Int := cmpS x.key y.key
theorem entLt {x y : Ent} : ltOf entCf x y = klt x.key y.key := by
  unfold ltOf entCf cmpS klt
  split
  · rename_i h; simp [h]
  · rename_i h
    split <;> simp [h]
theorem entSwo : SWO (ltOf entCf) where
  irrefl x := by rw [entLt]; exact klt_irrefl _
  trans x y z := by rw [entLt, entLt, entLt]; exact klt_trans
  ntrans x y z := by
    rw [entLt, entLt, entLt]
    intro h1 h2
    rcases hxz : klt x.key z.key
    · rfl
    · rcases klt_tri x.key y.key with t | t | t
      · rw [t] at h1; cases h1
      · rw [t] at hxz; rw [hxz] at h2; cases h2
      · have := klt_trans t hxz; rw [this] at h2; cases h2
set_option maxRecDepth 100000 in
set_option maxHeartbeats 2000000 in
theorem entcmp_any (x y : Ent) (w : World) :
    Calls Tryz.prog 134 #[x.val, y.val] w fun e w' => e = .returned (.int .i64 (entCf x y)) ∧ ∃ q os', w' = grow (w.drewN q) os' := by
  have hgr : Hid ((w.alloc (.cells #[.string x.key, .string x.value, .bool x.dead] 67)).alloc (.cells #[.string y.key, .string y.value, .bool y.dead] 67) = grow w (#[.cells #[.string x.key, .string x.value, .bool x.dead] 67] ++ #[.cells #[.string y.key, .string y.value, .bool y.dead] 67])) := Lib.hid (by rw [alloc_eq_grow, alloc_eq_grow, grow_grow])
  go_enter Tryz.func134, Tryz.ntmps134
  unfold Ent.val
  go_wp2_with (first | (go_at_call 135; refine (strcmp_any _ _ _).mono ?_; rintro e w' ⟨rfl, rfl⟩))
  go_ret
  exact ⟨rfl, 0, _, hgr.out⟩
theorem ent_lays (blk off size : Nat) (w : World) : CmpLays Tryz.prog 134 #[] Ent.cells 3 entCf blk off size w :=
  fun _ _ _ _ x y => entcmp_any x y _
theorem entK (x : Ent) : x.cells.length = 3 := rfl
theorem entK1 (x : Ent) : ∀ v ∈ x.cells, v.oneCell' = true := by
  intro v hv
  simp only [Ent.cells, List.mem_cons, List.not_mem_nil, or_false] at hv
  rcases hv with rfl | rfl | rfl <;> rfl
theorem ent_sort {w : World} {base n : Nat} {v : Value} {l : List Ent} (h : w.ownsRow base 67 3 v n (entCells l)) (hl : l.length = n) (hn : n < 4611686018427387904) (hb : base ≤ w.heap.size) : ∃ A c, v = .slice A n c ∧ n ≤ c ∧ c ≤ maxLen ∧
    Calls Tryz.prog 133 #[.slice A n c, .func (.func 134) #[] #[]] w fun e w' =>
      e = .returned (.tuple #[]) ∧ ∃ s : List Ent, s.Perm l ∧ Up (ltOf entCf) s ∧ Rd w' w'.heap.size 3 A n (entCells s) ∧ w'.ownsRow base 67 3 (.slice A n c) n (entCells s) ∧ Below base w w' := by
  rcases h.2 with ⟨rfl, rfl⟩ | ⟨g, cap, cur, rfl, _, _, hnc, hcm, _, _⟩
  · refine ⟨none, 0, rfl, Nat.le_refl _, Nat.zero_le _, (AnyF.slices_SortFunc_none laysEnt none 0 _ w).mono ?_⟩
    rintro e w' ⟨rfl, rfl⟩
    obtain rfl := List.eq_nil_of_length_eq_zero hl
    exact ⟨rfl, [], .refl _, List.Pairwise.nil, Rd.nil_, World.ownsRow_nil _ _ _ _, Below.refl _ _⟩
  · refine ⟨_, cap, rfl, hnc, hcm, ?_⟩
    obtain ⟨hH, hlt, hge⟩ := holdsK_own (enc := Ent.cells) entK (by omega) h hl
    have hz : l.toArray.size = n := by simpa using hl
    have hc := AnyQ.slices_SortFunc laysEnt 3 (fun _ => by kernel_rfl) (fun _ => by kernel_rfl) Ent.cells entK entK1 entCf entSwo 134 #[] g 0 cap l.toArray w
      (fun _ _ => by kernel_rfl) (ent_lays _ _ _ _) hH hlt (by omega)
    rw [hz] at hc
    refine hc.mono ?_
    rintro e w' ⟨rfl, d', q, os, hpm, hso, hw⟩
    have hS : SWK Ent.cells 3 w g 0 d' w' := ⟨q, os, hw⟩
    have hds : d'.size = n := by rw [hpm.1, hz]
    have hd : d' = (([] : List Ent) ++ (d'.toList ++ [])).toArray := by simp
    have hlen : d'.toList.length = n := by simpa using hds
    have hup : Up (ltOf entCf) d'.toList := by
      refine up_of_sortedIn (x := []) (y := []) ?_
      rw [← hd, List.length_nil, Nat.zero_add, hlen]
      exact hso
    have hperm : d'.toList.Perm l := by
      have h3 := hpm.2.2
      have e1 : (d'.extract 0 n).toList = d'.toList := by
        simp
        exact List.take_of_length_le (by omega)
      have e2 : (l.toArray.extract 0 n).toList = l := by
        simp
        exact List.take_of_length_le (by omega)
      rw [e1, e2] at h3
      exact h3
    have hrowW := holdsK_row (hS.holds hlt hH (hds.trans hz.symm))
    refine ⟨rfl, d'.toList, hperm, hup, ?_, ?_, below_swk hS hge hb⟩
    rotate_left
    · obtain ⟨hsh, _, _, _⟩ := shape_own h
      have hcl : ∀ k x, d'.toList[k]? = some x → EntAt w' g k x := fun k x hx => by
        have hk : k < d'.toList.toArray.size := by simpa using (List.getElem?_eq_some_iff.1 hx).1
        have hx2 : d'.toList.toArray[k]! = x := by
          rw [getElem!_pos d'.toList.toArray k hk]
          simpa using (List.getElem?_eq_some_iff.1 hx).2
        have c0 := (hrowW.cell (i := k) (c := 0) hk (by omega)).1
        have c1 := (hrowW.cell (i := k) (c := 1) hk (by omega)).1
        have c2 := (hrowW.cell (i := k) (c := 2) hk (by omega)).1
        rw [hx2, Nat.zero_add] at c0 c1 c2
        exact ⟨c0, c1, c2⟩
      have hres := own_shape (xs := entCells d'.toList) (shape_swk hsh hS) hge hnc hcm (by rw [entCells_length, hlen]) (entCells_of hcl)
      exact hres
    have := rd_of_holdsK (enc := Ent.cells) entK (by omega) (holdsK_row (hS.holds hlt hH (hds.trans hz.symm))) (B := w'.heap.size) (hS.lt hlt)
    rw [hlen] at this
    exact this

theorem nodup_lenE {α : Type} : ∀ {O P : List α}, O.Nodup → (∀ p ∈ O, p ∈ P) → O.length ≤ P.length := by
  intro O
  induction O with
  | nil => intro P _ _; exact Nat.zero_le _
  | cons x xs ih =>
    intro P nd sub
    obtain ⟨a, b, rfl⟩ := List.append_of_mem (sub x List.mem_cons_self)
    rw [List.nodup_cons] at nd
    have := ih (P := a ++ b) nd.2 fun p hp => by
      rcases List.mem_append.1 (sub p (List.mem_cons_of_mem _ hp)) with h | h
      · exact List.mem_append_left _ h
      · rcases List.mem_cons.1 h with h | h
        · exact absurd (h ▸ hp) nd.1
        · exact List.mem_append_right _ h
    simp at this ⊢
    omega
theorem mem_len {l : List Ent} : ∀ {ls : List (List Ent)}, l ∈ ls → l.length ≤ ls.flatten.length := by
  intro ls
  induction ls with
  | nil => intro h; cases h
  | cons x xs ih =>
    intro h
    rw [List.flatten_cons, List.length_append]
    rcases List.mem_cons.1 h with rfl | h
    · omega
    · have := ih h; omega
def wantE (dead : Bool) (e : Ent) : Bool := dead || !e.dead
def mixO (dead : Bool) (ls : List (List Ent)) : List Ent := (mixL ls.flatten).filter (wantE dead)
theorem entCells_app (acc : List Ent) (r : Ent) : entCells (acc ++ [r]) = entCells acc ++ r.cells := by simp [entCells]
set_option maxRecDepth 100000 in
set_option maxHeartbeats 4000000 in
theorem mix_any (A : Option Addr) (c B n : Nat) (ls : List (List Ent)) (dead : Bool) (w : World) (hr : RdEE w B A ls) (hln : ls.length = n) (hB : B ≤ w.heap.size) (hn : n ≤ 140737488355328) (htot : ls.flatten.length ≤ 100000000) (hk : ∀ l ∈ ls, ∀ e ∈ l, e.key.size ≤ maxLen) :
    Calls Tryz.prog 98 #[.slice A n c, .bool dead] w fun e w' => ∃ A' c', e = .returned (.slice A' (mixO dead ls).length c') ∧ (mixO dead ls).length ≤ c' ∧ c' ≤ maxLen ∧ Rd w' w'.heap.size 3 A' (mixO dead ls).length (entCells (mixO dead ls)) ∧ w'.ownsRow w.heap.size 67 3 (.slice A' (mixO dead ls).length c') (mixO dead ls).length (entCells (mixO dead ls)) ∧ Below w.heap.size w w' := by
  obtain ⟨LO, hLO⟩ : ∃ LO, LO = mixO dead ls := ⟨_, rfl⟩
  have HMO : Hid (LO = (mixL ls.flatten).filter (wantE dead)) := Lib.hid hLO
  rw [← hLO]
  clear hLO
  have HLN := Lib.hid hln
  have HK := Lib.hid hk
  have HTOT := Lib.hid htot
  clear hln hk htot
  have hmm := @run_makeMap Tryz.prog
  have hbm := (Below.refl w.heap.size w).alloc (Nat.le_refl _) (.map #[] 0)
  have hown0 := World.ownsMap_made w Tryz.prog 9 entR
  go_enter Tryz.func98, Tryz.ntmps98
  go_upto_region 2 with fail
  obtain ⟨M, hM⟩ : ∃ M, M = w.heap.size := ⟨_, rfl⟩
  rw [← hM] at hown0 ⊢
  have hwM : w.heap.size ≤ M := by omega
  generalize w.alloc (.map #[] 0) = wm at *
  clear hmm hM
  go_wp2_with fail
  go_loopw [18] (fun x wr => ∃ (i t : Nat) (D : DataW Unit), x = .int .i64 i ∧ i ≤ n ∧ Hid (t = (entsTo ls i 0).length) ∧ wr.ownsMap Tryz.prog 9 entR M t D ∧ Hid (MixD D (mixL (entsTo ls i 0))) ∧ Below w.heap.size w wr) (fun x _ => n - (intOf x).toNat)
  case atStart => exact ⟨0, 0, _, rfl, Nat.zero_le _, Lib.hid (by rw [entsTo_zero]; rfl), hown0, Lib.hid (by rw [entsTo_zero]; exact MixD.start), hbm⟩
  clear hown0 hbm
  obtain ⟨i, t0, D0, rfl, hi, HT0, hown, HM0, hbel⟩ := hrel
  by_cases hlt : i < n
  · obtain ⟨ad, rfl, hab, hcell⟩ := hr (by rw [HLN.out]; omega)
    obtain ⟨l, hl⟩ : ∃ l, ls[i]? = some l := ⟨_, List.getElem?_eq_getElem (by rw [HLN.out]; exact hlt)⟩
    obtain ⟨A1, c1, g0w, hlc, hcm, hrd⟩ := hcell i l hl
    have hbw : (ad.add i).block < w.heap.size := by rw [block_add]; omega
    have g0 := (hbel.cell hbw).trans g0w
    have HL := Lib.hid hl
    have HKL := Lib.hid (HK.out l (List.mem_of_getElem? hl))
    obtain ⟨m, hm⟩ : ∃ m, m = l.length := ⟨_, rfl⟩
    have Hm := Lib.hid hm
    have hm8 : m ≤ 100000000 := by
      rw [hm]
      exact Nat.le_trans (mem_len (List.mem_of_getElem? hl)) HTOT.out
    rw [← hm] at g0 hlc hrd
    clear hl hcell g0w hm
    have hi0 : (0 : Int) ≤ (i : Int) := by omega
    have hi1 : (i : Int) < (n : Int) := by omega
    go_upto_region 6 with fail
    rename World => wo
    go_loopw [24] (fun x wz => ∃ (k t : Nat) (D : DataW Unit), x = .int .i64 k ∧ k ≤ m ∧ Hid (t = (entsTo ls i k).length) ∧ wz.ownsMap Tryz.prog 9 entR M t D ∧ Hid (MixD D (mixL (entsTo ls i k))) ∧ Below w.heap.size w wz) (fun x _ => m - (intOf x).toNat)
    case atStart => exact ⟨0, t0, D0, rfl, Nat.zero_le _, HT0, hown, HM0, hbel⟩
    clear hown hbel g0 HT0 HM0
    obtain ⟨k, t, D, rfl, hkm, HT, hown, HM, hbel⟩ := hrel
    have hws := hbel.size
    by_cases hlk : k < m
    · obtain ⟨ad1, e, rfl, _, hx, x0, x1, x2⟩ := hrd.ent_ hlk Hm.out.symm hbel hB
      have HN := Lib.hid (entsTo_next HL.out hx)
      have hkey := klS_key (HKL.out e (List.mem_of_getElem? hx))
      have HX := Lib.hid hx
      have ht8 : t ≤ 100000000 := by
        have h1 := HTOT.out
        have h2 : (entsTo ls i k).length ≤ ls.flatten.length := by
          have e1 : entsTo ls i k <+: ls.flatten := by
            refine ⟨(l.drop k) ++ (ls.drop (i + 1)).flatten, ?_⟩
            have e2 : ls.getD i [] = l := by rw [List.getD_eq_getElem?_getD, HL.out]; rfl
            rw [entsTo, e2, List.append_assoc, ← List.append_assoc (l.take k), List.take_append_drop]
            conv => rhs; rw [← List.take_append_drop i ls]
            obtain ⟨hi2, e3⟩ := List.getElem?_eq_some_iff.1 HL.out
            rw [List.flatten_append, List.drop_eq_getElem_cons hi2, e3, List.flatten_cons]
          exact e1.length_le
        rw [HT.out]; omega
      have hMl := hown.lt
      have hk0 : (0 : Int) ≤ (k : Int) := by omega
      have hk1 : (k : Int) < (m : Int) := by omega
      have hbx := hbel.alloc hws (.cells #[.string e.key, .string e.value, .bool e.dead] 67)
      have hh := HM.out.has_ e.key
      clear hx
      rcases hE : entOf (mixL (entsTo ls i k)) e.key with _ | e2
      · rw [hE] at hh
        have HM2 := Lib.hid (HM.out.add hE)
        clear hE
        have hh2 : Maps.has D (klS e.key) = false := hh
        go_wp2_with (first
          | (at_lookup; go_must (refine wpList_lookup_ent _ rfl _ _ 114 rfl 9 67 kstr Tryz.underlying114 (zent _) M t D rfl (hown.alloc _) _ _ rfl hkey ?_); intro s1 s2 d; rw [hh2])
          | (at_mapUpdate; go_must (refine wpList_mapUpdate_own _ rfl _ _ _ 114 rfl 9 67 kstr Tryz.underlying114 entR M t D rfl ((hown.alloc _).alloc _) (by unfold maxLen; omega) _ _ (klS e.key) rfl rfl hkey (entD e) [] rfl ?_); intro w9 hown9 hgr9))
        go_roundw
        case rel =>
          refine ⟨k + 1, t + 1, _, by go_num, by omega, Lib.hid (by rw [HN.out, List.length_append, ← HT.out]; rfl), hown9, Lib.hid (by rw [HN.out, mix_app]; exact HM2.out), (hbx.alloc hbx.size _).grown hgr9 (by have := hbx.size; simp; omega) (fun q hq => by cases hq; exact hwM)⟩
        case measure => simp [intOf]; omega
      · rw [hE] at hh
        have HM2 := Lib.hid (HM.out.there (x := e) (by rw [hE]; simp))
        clear hE
        have hh2 : Maps.has D (klS e.key) = true := hh
        go_wp2_with (first
          | (at_lookup; go_must (refine wpList_lookup_ent _ rfl _ _ 114 rfl 9 67 kstr Tryz.underlying114 (zent _) M t D rfl (hown.alloc _) _ _ rfl hkey ?_); intro s1 s2 d; rw [hh2]))
        go_roundw
        case rel =>
          exact ⟨k + 1, t + 1, _, by go_num, by omega, Lib.hid (by rw [HN.out, List.length_append, ← HT.out]; rfl), ((hown.alloc _).alloc _).mono (Nat.le_succ _), Lib.hid (by rw [HN.out, mix_app]; exact HM2.out), hbx.alloc hbx.size _⟩
        case measure => simp [intOf]; omega
    · obtain rfl : k = m := by omega
      have HE := Lib.hid (entsTo_line HL.out)
      rw [Hm.out, HE.out] at HT HM
      go_wp2_with fail
      go_roundw
      case rel => exact ⟨i + 1, t, D, by go_num, by omega, HT, hown, HM, hbel⟩
      case measure => simp [intOf]; omega
  · obtain rfl : i = n := by omega
    have hall := entsTo_all (ls := ls) (i := i) (by rw [HLN.out]; exact Nat.le_refl _)
    rw [hall] at HM0 HT0
    have hL8 : (mixL ls.flatten).length ≤ 100000000 := Nat.le_trans (mix_len _) HTOT.out
    clear hall HT0 hr
    generalize mixL ls.flatten = L at *
    have hMl := hown.lt
    have hws := hbel.size
    obtain ⟨fw, hfw⟩ : ∃ fw, fw = wantE dead := ⟨_, rfl⟩
    have HFW := Lib.hid hfw
    clear hfw
    rename World => wq
    go_wp2_with (first
      | (at_range; go_must (refine wpList_range_own _ rfl _ 114 rfl 9 67 kstr Tryz.underlying114 entR M t0 D0 rfl hown ?_); intro w0 hrg0 hg0 hs0))
    go_frame
    go_loopw [12] (fun o wr => ∃ (left : Lit → Bool) (cnt : Nat) (O : List Ent), wr.ranges Tryz.prog 9 entR M wq.heap.size t0 D0 left cnt ∧ CollE L fw D0 left O ∧ wr.ownsRow (wq.heap.size + 1) 67 3 o O.length (entCells O) ∧ wq.heap.size + 1 ≤ wr.heap.size ∧ Below w.heap.size w wr) (fun _ wr => wr.rangeLeft M wq.heap.size)
    case atStart => exact ⟨_, _, [], hrg0, CollE.start HM0.out, World.ownsRow_nil _ _ _ _, by omega, hbel.grown hg0 hws (fun j hj => by cases hj)⟩
    clear hrg0 hg0 hs0 hown
    obtain ⟨left, cnt, O, hrg, hco, hro, hsz, hbel2⟩ := hrel
    have hfew : O.length ≤ L.length := nodup_lenE hco.nd (fun p hp => (hco.sub p hp).1)
    have HC := Lib.hid hco
    clear hco
    go_wp2_with (first
      | (at_next; go_must (refine wpList_next_ranges _ rfl _ rfl 9 kstr entR Value.string (fun e : Ent => .agg #[.string e.key, .string e.value, .bool e.dead]) (fun key kl h => keyOf_str_inv h) (fun v y hv => by obtain ⟨e, rfl, _⟩ := entR_inv hv; exact ⟨e, rfl⟩) M wq.heap.size t0 D0 left cnt rfl hrg ?_ ?_)))
    · intro hc0 hl0
      have HPM := Lib.hid (HC.out.done HM0.out hl0)
      obtain ⟨A5, c5, rfl, hnc, hcm, hsort⟩ := ent_sort hro rfl (by omega) hsz
      clear hro
      go_wp2_with (first
        | (go_at_call 133; go_must (refine hsort.mono ?_); rintro e w5 ⟨rfl, s, hsp, hsu, hrd5, hown5, hb5⟩))
      go_ret
      have e1 : s = LO := by
        rw [HMO.out, ← HFW.out]
        exact up_riseE (hsp.trans HPM.out) (HM0.out.rise.filter _) (List.Pairwise.imp (fun {a b} (h : ltOf entCf b a = false) => by rwa [entLt] at h) hsu)
      have hlO : O.length = LO.length := by rw [← e1, hsp.length_eq]
      rw [e1, hlO] at hrd5 hown5
      exact ⟨A5, c5, by rw [hlO]; rfl, by rw [← hlO]; exact hnc, hcm, hrd5, own_base hown5 (by omega), hbel2.trans (hb5.mono (by omega))⟩
    · intro x e kl y1 y2 w1 cnt1 hkx hlk hRc hat hrg1 hlt1 hg1 hs1 hen
      obtain ⟨p, hp, rfl⟩ := HM0.out.dom kl (HC.out.has kl hlk)
      obtain rfl : p.key = x := klS_inj (keyOf_str_kl hkx)
      have hpe : p = e := by
        rw [entR_mk] at hRc
        injection hRc with hRc
        injection hRc with hRc _
        have h1 := hat .nil
        rw [HM0.out.at_ p hp] at h1
        exact entD_inj (h1.trans hRc.symm)
      subst hpe
      have hb1 : Below w.heap.size w w1 := hbel2.grown hg1 hbel2.size (fun j hj => by cases hj; exact hws)
      have hro1 := own_far hro hg1 (fun k hk e => by injection e with e; have := (hro.lt k hk).1; omega)
      have hsz1 : wq.heap.size + 1 ≤ w1.heap.size := by omega
      clear hat hRc hkx hro hbel2
      have hrg2 := hrg1.kept (World.grownBy_alloc w1 (.cells #[.string p.key, .string p.value, .bool p.dead] 67) none) (by simp) (by simp)
      have hb2 := hb1.alloc hb1.size (.cells #[.string p.key, .string p.value, .bool p.dead] 67)
      have hro2 := hro1.alloc (.cells #[.string p.key, .string p.value, .bool p.dead] 67)
      have hszx : wq.heap.size + 1 ≤ (w1.alloc (.cells #[.string p.key, .string p.value, .bool p.dead] 67)).heap.size := by simp; omega
      have hgx : (w1.alloc (.cells #[.string p.key, .string p.value, .bool p.dead] 67)).heap.size = wr.heap.size + 1 := by simp [hs1]
      have hbyx : (O.length + 1) * 40 ≤ 140737488355328 := by omega
      by_cases hdd : dead = true
      · have hf : fw p = true := by rw [HFW.out, wantE, hdd]; rfl
        have HST := Lib.hid (HC.out.step HM0.out hp hf hlk)
        clear hf
        go_wp2_with (first
          | (with_reducible show wpList _ _ _ (⟨some 58, _, _, _, _, _⟩ :: _) _ _; go_must (refine wpList_newg (.tmp 55) (.tmp 57) el_ent rfl rfl hro2 rfl rfl hgx rfl rfl hbyx hszx ?_); intro v4 w4 hown4 hb4 hg4 ha4))
        have hrg3 := hrg2.kept hg4 (fun e => by have := (hro2.lt M e.symm).1; omega) (fun e => by have := (hro2.lt wq.heap.size e.symm).1; omega)
        go_roundw
        case rel =>
          refine ⟨_, ⟨cnt1, hrg3⟩, O ++ [p], HST.out, ?_, Nat.le_trans hszx hb4.size, hb2.trans (hb4.mono (by omega))⟩
          rw [List.length_append, entCells_app]
          first | exact hown4 | (rw [Ent.cells, hpd]; exact hown4)
        case measure => rw [hrg3.left_eq, hrg.left_eq]; exact hlt1
      · have hdd2 : dead = false := by simpa using hdd
        rcases hpd : p.dead
        · have hf : fw p = true := by rw [HFW.out, wantE, hpd]; simp
          have HST := Lib.hid (HC.out.step HM0.out hp hf hlk)
          rw [hpd] at hen hrg2 hb2 hro2 hszx hgx
          clear hf
          go_wp2_with (first
            | (with_reducible show wpList _ _ _ (⟨some 58, _, _, _, _, _⟩ :: _) _ _; go_must (refine wpList_newg (.tmp 55) (.tmp 57) el_ent rfl rfl hro2 rfl rfl hgx rfl rfl hbyx hszx ?_); intro v4 w4 hown4 hb4 hg4 ha4))
          have hrg3 := hrg2.kept hg4 (fun e => by have := (hro2.lt M e.symm).1; omega) (fun e => by have := (hro2.lt wq.heap.size e.symm).1; omega)
          go_roundw
          case rel =>
            refine ⟨_, ⟨cnt1, hrg3⟩, O ++ [p], HST.out, ?_, Nat.le_trans hszx hb4.size, hb2.trans (hb4.mono (by omega))⟩
            rw [List.length_append, entCells_app]
            first | exact hown4 | (rw [Ent.cells, hpd]; exact hown4)
          case measure => rw [hrg3.left_eq, hrg.left_eq]; exact hlt1
        · have hf : fw p = false := by rw [HFW.out, wantE, hpd, hdd2]; rfl
          have HST := Lib.hid (HC.out.skip HM0.out hp hf)
          rw [hpd] at hen hrg2 hb2 hro2 hszx
          clear hf
          go_wp2_with fail
          go_roundw
          case rel => exact ⟨_, _, _, _, _, _, _, _, _, _, _, _, _, _, _, _, ⟨_, cnt1, O, hrg2, HST.out, hro2, hszx, hb2⟩, by rw [hdd2]⟩
          case measure => rw [hrg2.left_eq, hrg.left_eq]; exact hlt1
end Go.Proofs.YtcfijljagohmlaaGreatDoor
