/- Entries by keys in a map, as table.Mix makes them; slices of slices of entries. -/
import Derived.Test.YtcfijljagohmlaaGreatDoorProg
import Derived.Test.YtcfijljagohmlaaGreatDoorPlainMix
import Derived.Test.YtcfijljagohmlaaGreatDoorBase2
import Derived.Maps.Own
import Derived.Maps.OwnOps
import Derived.Maps.OwnSet
import Derived.Maps.Views
import Derived.Maps.RangeWalk
namespace Go.Proofs.YtcfijljagohmlaaGreatDoor
open Go.RowKit Go.Maps Go.WideMaps

def klS (k : ByteArray) : Lit := .string k.data.toList
theorem ba_inj {a b : ByteArray} (h : a.data.toList = b.data.toList) : a = b := by
  have : a.data = b.data := Array.toList_inj.1 h
  cases a; cases b; simp at this; rw [this]
theorem klS_inj {a b : ByteArray} (h : klS a = klS b) : a = b := by
  injection h with h
  exact ba_inj h
theorem kstr : Keyed Tryz.prog 9 := string_keyed Tryz.underlying9
theorem klS_key {k : ByteArray} (h : k.size ≤ maxLen) : keyOf Tryz.prog 9 (.string k) = some (klS k) := keyOf_string_mk Tryz.underlying9 h
theorem keyOf_str_inv {key : Value} {kl : Lit} (h : keyOf Tryz.prog 9 key = some kl) : ∃ k : ByteArray, key = .string k := by
  rw [keyOf_string Tryz.underlying9] at h
  cases key with
  | string k => exact ⟨k, rfl⟩
  | _ => simp [mapKey, Tryz.underlying9] at h
theorem keyOf_str_kl {k : ByteArray} {kl : Lit} (h : keyOf Tryz.prog 9 (.string k) = some kl) : kl = klS k := by
  rw [keyOf_string Tryz.underlying9] at h
  simp only [mapKey, Tryz.underlying9] at h
  split at h
  · injection h with h; exact h.symm
  · cases h
/-- How an entry reads. -/
def entD (e : Ent) : DataW Unit := .slice [.lit (.string e.key.data.toList), .lit (.string e.value.data.toList), .lit (.bool e.dead)] []
def entL (l : List Value) : Option (DataW Unit × List MemPlace) := match l with
  | [.string k, .string s, .bool d] => some (entD ⟨k, s, d⟩, [])
  | _ => none
def entR (v : Value) : Option (DataW Unit × List MemPlace) := match v with
  | .agg a => entL a.toList
  | _ => none
theorem entR_mk (e : Ent) : entR (.agg #[.string e.key, .string e.value, .bool e.dead]) = some (entD e, []) := rfl
theorem entL_inv {l : List Value} {y : DataW Unit × List MemPlace} (h : entL l = some y) : ∃ e : Ent, l = [.string e.key, .string e.value, .bool e.dead] ∧ y = (entD e, []) := by
  unfold entL at h
  split at h
  · rename_i k s d
    exact ⟨⟨k, s, d⟩, rfl, by injection h with h; exact h.symm⟩
  · cases h
theorem entR_inv {v : Value} {y : DataW Unit × List MemPlace} (h : entR v = some y) : ∃ e : Ent, v = .agg #[.string e.key, .string e.value, .bool e.dead] ∧ y = (entD e, []) := by
  cases v with
  | agg a =>
    obtain ⟨e, h1, h2⟩ := entL_inv h
    have : a = #[.string e.key, .string e.value, .bool e.dead] := Array.toList_inj.1 h1
    exact ⟨e, by rw [this], h2⟩
  | _ => cases h
theorem entD_inj {a b : Ent} (h : entD a = entD b) : a = b := by
  unfold entD at h
  injection h with h _
  injection h with h1 h
  injection h with h2 h
  injection h with h3 _
  injection h1 with h1
  injection h1 with h1
  injection h2 with h2
  injection h2 with h2
  injection h3 with h3
  injection h3 with h3
  cases a; cases b
  simp at h1 h2 h3
  rw [ba_inj (congrArg Array.toList h1), ba_inj (congrArg Array.toList h2), h3]
theorem zent (w : World) : (zeroValue 67).run Tryz.prog w = .ok (.agg #[.string ByteArray.empty, .string ByteArray.empty, .bool false]) w := by kernel_rfl
theorem wpList_lookup_ent {P : Program} (w : World) {ops : Array Oper} {rest : List Oper} {o : Oper} {a : Act} {Q : Exit → Act → World → Prop} (hg : o.guard = none) (m x : Operand) (t : TypeId) (hop : o.op = Op.lookup t m x true)
    (k e : TypeId) (K : Keyed P k) (ht : P.underlying t = some (.map k e)) (hz : (zeroValue e).run P w = .ok (.agg #[.string ByteArray.empty, .string ByteArray.empty, .bool false]) w) (b n : Nat) (D : DataW Unit)
    (hm : a.eval m = .map (some b)) (hown : w.ownsMap P k entR b n D) (key : Value) (kl : Lit) (hx : a.eval x = key) (hkey : keyOf P k key = some kl)
    (hK : ∀ (s1 s2 : ByteArray) (d : Bool), wpList P ops Q rest (a.put o.dst (.tuple #[.agg #[.string s1, .string s2, .bool d], .bool (Maps.has D kl)])) w) :
    wpList P ops Q (o :: rest) a w :=
  wpList_lookup_own_ok w hg m x t hop k e K ht entR hz (entD ⟨ByteArray.empty, ByteArray.empty, false⟩) [] rfl b n D hm hown key kl hx hkey fun v ps hv => by
    obtain ⟨e, rfl, _⟩ := entR_inv hv
    exact hK e.key e.value e.dead
/-- The map's datum, and the entries that it stands for. -/
structure MixD (D : DataW Unit) (L : List Ent) : Prop where
  rise : riseE L
  at_ : ∀ x ∈ L, ∀ zd, D.atKey (klS x.key) zd = entD x
  has_ : ∀ k : ByteArray, Maps.has D (klS k) = (entOf L k).isSome
  dom : ∀ kl, Maps.has D kl = true → ∃ x ∈ L, kl = klS x.key
  ismap : IsMap D
theorem MixD.start : MixD (.map []) [] :=
  ⟨.nil, (fun _ h => (List.not_mem_nil h).elim), (fun _ => rfl), (fun _ h => by cases h), isMap_empty⟩
theorem MixD.there {D : DataW Unit} {L : List Ent} (h : MixD D L) {x : Ent} (hx : entOf L x.key ≠ none) : MixD D (entPut x L) := by
  have : entPut x L = L := by
    have hr := h.rise
    clear h
    induction L with
    | nil => exact absurd rfl hx
    | cons y ys ih =>
      rw [riseE, List.pairwise_cons] at hr
      rw [entPut]
      split
      · rename_i hlt
        rw [entOf_cons, if_neg (klt_ne hlt)] at hx
        rw [ih hx hr.2]
      · rename_i hlt
        split
        · rfl
        · rename_i hne
          have hkx : klt x.key y.key = true := by
            rcases klt_tri y.key x.key with t | t | t
            · exact absurd t hlt
            · exact absurd t hne
            · exact t
          exact absurd (entOf_none.2 fun z hz e => by
            rcases List.mem_cons.1 hz with rfl | hz
            · exact hne e
            · exact klt_ne (klt_trans hkx (hr.1 z hz)) e.symm) hx
  rw [this]; exact h
theorem MixD.add {D : DataW Unit} {L : List Ent} (h : MixD D L) {x : Ent} (hx : entOf L x.key = none) : MixD (D.put (klS x.key) (entD x)) (entPut x L) where
  rise := entPut_rise h.rise
  at_ := fun y hy zd => by
    rcases entPut_mem hy with rfl | hy2
    · exact atKey_put_same h.ismap (by trivial) _ _
    · have hne : y.key ≠ x.key := entOf_none.1 hx y hy2
      rw [atKey_put_other (fun e => hne (klS_inj e)) _ _]
      exact h.at_ y hy2 zd
  has_ := fun k => by
    rw [entPut_of h.rise]
    by_cases e : k = x.key
    · rw [if_pos e, e]; exact has_put_same h.ismap (by trivial) _
    · rw [if_neg e, has_put_other (fun h2 => e (klS_inj h2)) _]; exact h.has_ k
  dom := fun kl hkl => by
    by_cases e : kl = klS x.key
    · have h1 := entPut_of (e := x) h.rise x.key
      rw [if_pos rfl, hx, Option.getD_none] at h1
      exact ⟨x, (entOf_some h1).1, e⟩
    · rw [has_put_other e _] at hkl
      obtain ⟨y, hy, e2⟩ := h.dom kl hkl
      have h1 : entOf (entPut x L) y.key = some y := by
        rw [entPut_of h.rise, if_neg (fun e3 => e (by rw [e2, e3]))]
        exact entOf_mem h.rise hy
      exact ⟨y, (entOf_some h1).1, e2⟩
  ismap := by
    obtain ⟨es, rfl⟩ := h.ismap
    exact ⟨_, rfl⟩
theorem MixD.same {D : DataW Unit} {L : List Ent} (h : MixD D L) {x y : Ent} (hx : x ∈ L) (hy : y ∈ L) (e : klS x.key = klS y.key) : x = y := by
  have e := klS_inj e
  have h1 := entOf_mem h.rise hx
  have h2 := entOf_mem h.rise hy
  rw [e, h2] at h1
  injection h1 with h1
  exact h1.symm
/-- What has come of the map so far: what is not wanted is left out. -/
structure CollE (L : List Ent) (f : Ent → Bool) (D : DataW Unit) (left : Lit → Bool) (O : List Ent) : Prop where
  has : ∀ kl, left kl = true → Maps.has D kl = true
  nd : O.Nodup
  sub : ∀ p ∈ O, p ∈ L ∧ f p = true
  on : ∀ p ∈ L, f p = true → left (klS p.key) = false → p ∈ O
  off : ∀ p ∈ O, left (klS p.key) = false
section
variable {D : DataW Unit} {L O : List Ent} {f : Ent → Bool} {left : Lit → Bool}
theorem CollE.start (h : MixD D L) : CollE L f D (Maps.has D) [] :=
  ⟨fun _ h => h, .nil, (fun p hp => by cases hp), (fun p hp _ hf => by
    have h2 := h.has_ p.key
    rw [entOf_mem h.rise hp] at h2
    rw [h2] at hf; cases hf), (fun p hp => by cases hp)⟩
theorem CollE.skip (h : MixD D L) (c : CollE L f D left O) {p : Ent} (hp : p ∈ L) (hf : f p = false) : CollE L f D (fun z => left z && !z.sameKey (klS p.key)) O := by
  refine ⟨fun kl hk => c.has kl (by simp at hk; exact hk.1), c.nd, c.sub, fun q hq hfq hlq => ?_, fun q hq => ?_⟩
  · rcases hl : left (klS q.key) with _ | _
    · exact c.on q hq hfq hl
    · rw [hl, Bool.true_and] at hlq
      have hs : (klS q.key).sameKey (klS p.key) = true := by simpa using hlq
      have e := h.same hq hp (WideAt.sameKey_eq hs)
      rw [e, hf] at hfq; cases hfq
  · show (left _ && _) = false
    rw [c.off q hq]; rfl
theorem CollE.step (h : MixD D L) (c : CollE L f D left O) {p : Ent} (hp : p ∈ L) (hf : f p = true) (hl : left (klS p.key) = true) : CollE L f D (fun z => left z && !z.sameKey (klS p.key)) (O ++ [p]) := by
  have hno : p ∉ O := fun hm => by rw [c.off p hm] at hl; cases hl
  refine ⟨fun kl hk => c.has kl (by simp at hk; exact hk.1), ?_, fun q hq => ?_, fun q hq hfq hlq => ?_, fun q hq => ?_⟩
  · rw [List.nodup_append]
    refine ⟨c.nd, by simp, fun a ha b hb => ?_⟩
    rw [List.mem_singleton.1 hb]
    exact fun e => hno (e ▸ ha)
  · rcases List.mem_append.1 hq with hq | hq
    · exact c.sub q hq
    · rw [List.mem_singleton.1 hq]; exact ⟨hp, hf⟩
  · rcases hl2 : left (klS q.key) with _ | _
    · exact List.mem_append_left _ (c.on q hq hfq hl2)
    · rw [hl2, Bool.true_and] at hlq
      have hs : (klS q.key).sameKey (klS p.key) = true := by simpa using hlq
      have e := h.same hq hp (WideAt.sameKey_eq hs)
      rw [e]
      exact List.mem_append_right _ (List.mem_singleton.2 rfl)
  · rcases List.mem_append.1 hq with hq | hq
    · show (left _ && _) = false
      rw [c.off q hq]; rfl
    · rw [List.mem_singleton.1 hq]
      show (left _ && !_) = false
      rw [WideAt.sameKey_self (by trivial), Bool.not_true, Bool.and_false]
theorem CollE.done (h : MixD D L) (c : CollE L f D left O) (hl : ∀ kl, left kl = false) : O.Perm (L.filter f) := by
  have hP : L.Nodup := List.Pairwise.imp (fun {a b} (hab : klt a.key b.key = true) (e : a = b) => klt_ne hab (by rw [e])) h.rise
  exact (List.perm_ext_iff_of_nodup c.nd (hP.filter _)).2 fun p => ⟨fun hp => List.mem_filter.2 (c.sub p hp), fun hp => c.on p (List.mem_filter.1 hp).1 (List.mem_filter.1 hp).2 (hl _)⟩
end
/-- A slice of slices of entries reads as these lists, all below block B. -/
def RdEE (w : World) (B : Nat) (A : Option Addr) (ls : List (List Ent)) : Prop :=
  0 < ls.length → ∃ ad, A = some ad ∧ ad.block < B ∧ ∀ (i : Nat) (l : List Ent), ls[i]? = some l → ∃ A' c, w.cell? (ad.add i) = some (.slice A' l.length c) ∧ l.length ≤ c ∧ c ≤ maxLen ∧ Rd w B 3 A' l.length (entCells l)
theorem RdEE.below {w w' : World} {B D : Nat} {A : Option Addr} {ls : List (List Ent)} (h : RdEE w B A ls) (hb : Below D w w') (hD : B ≤ D) : RdEE w' B A ls := by
  intro hn
  obtain ⟨ad, e, hlt, hc⟩ := h hn
  refine ⟨ad, e, hlt, fun i l hi => ?_⟩
  obtain ⟨A', c, h1, h2, h3, h4⟩ := hc i l hi
  exact ⟨A', c, (hb.cell (by rw [block_add]; omega)).trans h1, h2, h3, h4.below hb hD⟩
/-- The entries of the first lists, and of one the first. -/
def entsTo (ls : List (List Ent)) (i k : Nat) : List Ent := (ls.take i).flatten ++ (ls.getD i []).take k
theorem entsTo_zero (ls : List (List Ent)) : entsTo ls 0 0 = [] := by simp [entsTo]
theorem entsTo_next {ls : List (List Ent)} {i k : Nat} {l : List Ent} {x : Ent} (h : ls[i]? = some l) (hx : l[k]? = some x) : entsTo ls i (k + 1) = entsTo ls i k ++ [x] := by
  have e : ls.getD i [] = l := by rw [List.getD_eq_getElem?_getD, h]; rfl
  rw [entsTo, entsTo, e, List.take_add_one, hx, List.append_assoc]; rfl
theorem entsTo_line {ls : List (List Ent)} {i : Nat} {l : List Ent} (h : ls[i]? = some l) : entsTo ls i l.length = entsTo ls (i + 1) 0 := by
  have e : ls.getD i [] = l := by rw [List.getD_eq_getElem?_getD, h]; rfl
  rw [entsTo, entsTo, e, List.take_length, List.take_add_one, h, List.flatten_append]
  simp
theorem entsTo_all {ls : List (List Ent)} {i : Nat} (h : ls.length ≤ i) : entsTo ls i 0 = ls.flatten := by
  rw [entsTo, List.take_of_length_le h]; simp
theorem mix_app (a : List Ent) (x : Ent) : mixL (a ++ [x]) = entPut x (mixL a) := by rw [mixL, List.foldl_append]; rfl
end Go.Proofs.YtcfijljagohmlaaGreatDoor
