/- Names of files; a disk's state and what its steps answer. No walk in sight. -/
import Derived.Test.YtmeemcafjebanaaGreatDoorDiskMem
import Derived.Lib.SlTrimSet
import Derived.Sort.KeysCollected
namespace Go.Proofs.YtmeemcafjebanaaGreatDoor
open Go.RowKit Go.Maps Go.WideMaps

/-- The bytes that a name may have. -/
def okC (c : UInt8) : Bool := c.toNat == 45 || (decide (48 ≤ c.toNat) && decide (c.toNat ≤ 57)) || (decide (97 ≤ c.toNat) && decide (c.toNat ≤ 122))
def cutS : List UInt8 := [97, 98, 99, 100, 101, 102, 103, 104, 105, 106, 107, 108, 109, 110, 111, 112, 113, 114, 115, 116, 117, 118, 119, 120, 121, 122, 48, 49, 50, 51, 52, 53, 54, 55, 56, 57, 45]
theorem cut_ok (c : UInt8) : cutS.contains c = okC c := by
  have h : (List.range 256).all (fun n => cutS.contains (UInt8.ofNat n) == okC (UInt8.ofNat n)) = true := by decide +kernel
  have h2 := List.all_eq_true.1 h c.toNat (List.mem_range.2 c.toNat_lt)
  rw [show UInt8.ofNat c.toNat = c from UInt8.ofNat_toNat] at h2
  simpa using h2
def namedB (s : ByteArray) : Bool := decide (0 < s.size) && (decide (s.size ≤ 20) && s.data.toList.all okC)
theorem namedB_size {s : ByteArray} (h : namedB s = true) : s.size ≤ 20 := by
  simp only [namedB, Bool.and_eq_true, decide_eq_true_eq] at h
  exact h.2.1
theorem dropW_nil {p : UInt8 → Bool} : ∀ {l : List UInt8}, l.dropWhile p = [] ↔ l.all p = true := by
  intro l
  induction l with
  | nil => simp
  | cons x xs ih =>
    rw [List.dropWhile_cons, List.all_cons]
    cases hx : p x
    · simp
    · simpa using ih
theorem trim_nil (l cs : List UInt8) : (Lib.trimS l cs).isEmpty = l.all (cs.contains ·) := by
  have h1 : (Lib.trimS l cs = []) ↔ l.all (cs.contains ·) = true := by
    unfold Lib.trimS Lib.trimLeftS Lib.trimRightS
    rw [dropW_nil, List.all_reverse]
    constructor
    · intro h
      have h3 := List.takeWhile_append_dropWhile (p := (cs.contains ·)) (l := l.reverse)
      have h4 : l.reverse.all (cs.contains ·) = true := by
        rw [← h3, List.all_append, h, List.all_takeWhile]; rfl
      rwa [List.all_reverse] at h4
    · intro h
      rw [← List.all_reverse, ← dropW_nil] at h
      rw [h]; rfl
  rw [Bool.eq_iff_iff, List.isEmpty_iff]
  exact h1
theorem trim_cut (s : ByteArray) : (Lib.trimS s.data.toList cutS).isEmpty = s.data.toList.all okC := by
  rw [trim_nil]
  congr 1
  funext c
  exact cut_ok c
/-- The error of a name that is to be there. -/
def hasE (l : List Fl) (n : ByteArray) : Nat := if namedB n then (if (atF n l).isSome then 0 else 6) else 2
theorem hasE_zero {l : List Fl} {n : ByteArray} (h : hasE l n = 0) : namedB n = true ∧ ∃ x, atF n l = some x := by
  unfold hasE at h
  split at h
  · split at h
    · rename_i h1 h2; exact ⟨h1, Option.isSome_iff_exists.1 h2⟩
    · cases h
  · cases h
/-- A disk: what is safe, what was done since, how many steps, where they stop. -/
structure DS where
  safe : List Fl
  since : List DOp
  steps : Nat
  stop : Int
def DS.now (s : DS) : List Fl := runF s.safe s.since
def stepE (s : DS) (e : Nat) : Nat := if decide (0 ≤ s.stop) && decide (s.stop ≤ (s.steps : Int)) then 7 else e
def stepS (s : DS) (e : Nat) (o : Option DOp) : DS := if stepE s e = 0 then ⟨s.safe, s.since ++ o.toList, s.steps + 1, s.stop⟩ else s
def syncS (s : DS) : DS := if stepE s 0 = 0 then ⟨s.now, [], s.steps + 1, s.stop⟩ else s
def crashK (keep : Int) (n : Nat) : Nat := min (max 0 keep).toNat n
def crashS (s : DS) (keep : Int) : DS := ⟨runF s.safe (s.since.take (crashK keep s.since.length)), [], 0, -1⟩
def failS (s : DS) (at_ : Int) : DS := { s with stop := max (-1) at_ }
def DiskAt (w : World) (base g : Nat) (s : DS) : Prop := DiskIn w base g s.safe s.since s.steps s.stop
/-- It is not too large. -/
structure DS.Few (s : DS) (n : Nat) : Prop where
  files : s.safe.length + s.since.length ≤ n
  steps : s.steps ≤ n
theorem DS.Few.now {s : DS} {n : Nat} (h : s.Few n) : s.now.length ≤ n := Nat.le_trans (run_le s.since s.safe) h.files
theorem DS.Few.step {s : DS} {n : Nat} (h : s.Few n) (e : Nat) (o : Option DOp) : (stepS s e o).Few (n + 1) := by
  unfold stepS
  split
  · refine ⟨?_, Nat.succ_le_succ h.steps⟩
    have := h.files
    cases o <;> simp <;> omega
  · exact ⟨Nat.le_succ_of_le h.files, Nat.le_succ_of_le h.steps⟩
theorem DS.Few.sync {s : DS} {n : Nat} (h : s.Few n) : (syncS s).Few (n + 1) := by
  unfold syncS
  split
  · exact ⟨Nat.le_succ_of_le h.now, Nat.succ_le_succ h.steps⟩
  · exact ⟨Nat.le_succ_of_le h.files, Nat.le_succ_of_le h.steps⟩
theorem DS.Few.crash {s : DS} {n : Nat} (h : s.Few n) (keep : Int) : (crashS s keep).Few n := by
  refine ⟨?_, Nat.zero_le _⟩
  have h1 := run_le (s.since.take (crashK keep s.since.length)) s.safe
  have h2 : (s.since.take (crashK keep s.since.length)).length ≤ s.since.length := List.length_take_le' _ _
  have := h.files
  show (runF s.safe (s.since.take _)).length + 0 ≤ n
  omega
theorem DS.Few.fail {s : DS} {n : Nat} (h : s.Few n) (a : Int) : (failS s a).Few n := ⟨h.files, h.steps⟩
theorem DS.Few.more {s : DS} {n m : Nat} (h : s.Few n) (hm : n ≤ m) : s.Few m := ⟨Nat.le_trans h.files hm, Nat.le_trans h.steps hm⟩
def nameL (x : Fl) : List UInt8 := x.name.data.toList
/-- The keys of a map of files are their names. -/
theorem strKeys_names {w : World} {M n : Nat} {D : DataW Unit} {l : List Fl} (hown : w.ownsMap Tryz.prog 9 slR M n D) (h : MapL kfF flD D l) {ss : List (List UInt8)} (hp : ss.Perm (strKeys D)) : ss.Perm (l.map nameL) := by
  refine hp.trans ?_
  obtain ⟨es, hD, hpw, _⟩ := hown.entries kstr
  obtain ⟨es', hD', hko⟩ := hown.keysOf
  obtain rfl : es = es' := by rw [hD] at hD'; simpa using hD'
  subst hD
  refine (perm_strKeys hpw (fun p hp => by obtain ⟨v, hv⟩ := hko p hp; obtain ⟨x, _, hx, _⟩ := Maps.keyOf_str Tryz.underlying9 hv; exact ⟨x, hx⟩) ?_ fun x => ?_).symm
  · refine List.pairwise_map.2 (h.apart.imp fun {a b} hne e => hne ?_)
    exact congrArg Lit.string e
  · constructor
    · intro hx
      obtain ⟨y, hy, rfl⟩ := List.mem_map.1 hx
      exact h.there y hy
    · intro hx
      obtain ⟨y, hy, e⟩ := h.dom _ hx
      refine List.mem_map.2 ⟨y, hy, ?_⟩
      injection e with e
      exact e.symm
end Go.Proofs.YtmeemcafjebanaaGreatDoor
