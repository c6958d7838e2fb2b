/- A disk and its reference side by side, in plain words. -/
import Derived.Test.YtmeemcafjebanaaGreatDoorKDo3
import Derived.Test.YtmeemcafjebanaaGreatDoorDiskNames
namespace Go.Proofs.YtmeemcafjebanaaGreatDoor
open Go.RowKit Go.Maps Go.WideMaps

def prR (x : RFl) : ByteArray × List UInt8 := (x.name, x.b)
def prF (x : Fl) : ByteArray × List UInt8 := (x.name, x.b)
def RelF (rs : List RFl) (l : List Fl) : Prop := riseR rs ∧ (rs.map prR).Perm (l.map prF)
def RelOp (w : RW) : DOp → Prop
  | .put x => w.kind = 1 ∧ w.name = x.name ∧ w.b = x.b
  | .ren a b => w.kind = 2 ∧ w.name = a ∧ w.to = b
  | .del a => w.kind = 3 ∧ w.name = a
theorem off_is (n : ByteArray) (l : List Fl) : offF n l = l.filter fun z => !decide (z.name = n) := by
  unfold offF offKey
  congr 1
  funext z
  by_cases h : z.name = n
  · rw [show kfF z = klS n from by rw [kfF, h], WideAt.sameKey_self (klS_lit n)]
    simp [h]
  · rw [show (kfF z).sameKey (klS n) = false from sameKey_ne (fun e => h (klS_inj e))]
    simp [h]
theorem map_offF (n : ByteArray) (l : List Fl) : (offF n l).map prF = (l.map prF).filter fun p => !decide (p.1 = n) := by
  rw [off_is, List.filter_map]; rfl
theorem map_offR (n : ByteArray) (l : List RFl) : (l.filter fun z => !decide (z.name = n)).map prR = (l.map prR).filter fun p => !decide (p.1 = n) := by
  rw [List.filter_map]; rfl
theorem RelF.nil : RelF [] [] := ⟨.nil, .nil⟩
theorem RelF.len {rs : List RFl} {l : List Fl} (h : RelF rs l) : rs.length = l.length := by
  have := h.2.length_eq
  simpa using this
theorem RelF.off {rs : List RFl} {l : List Fl} (h : RelF rs l) (e : RFl) : RelF (withR e rs true) (offF e.name l) := by
  rw [withR_off]
  refine ⟨riseR_off _ h.1, ?_⟩
  rw [map_offR, map_offF]
  exact h.2.filter _
theorem RelF.put {rs : List RFl} {l : List Fl} (h : RelF rs l) (e : RFl) (x : Fl) (hx : prR e = prF x) : RelF (withR e rs false) (x :: offF x.name l) := by
  obtain ⟨k1, k2⟩ := withR_put (e := e) h.1
  refine ⟨k1, (k2.map prR).trans ?_⟩
  have hn : e.name = x.name := congrArg Prod.fst hx
  rw [List.map_cons, List.map_cons, map_offR, map_offF, hx, hn]
  exact (h.2.filter _).cons _
theorem RelF.at_ {rs : List RFl} {l : List Fl} (h : RelF rs l) (n : ByteArray) : (atR n rs).map RFl.b = (atF n l).map Fl.b := by
  rcases ha : atF n l with _ | y
  · rcases hr : atR n rs with _ | x
    · rfl
    · exfalso
      obtain ⟨h1, h2⟩ := atR_some hr
      have h3 : prR x ∈ l.map prF := h.2.mem_iff.1 (List.mem_map.2 ⟨x, h1, rfl⟩)
      obtain ⟨z, hz, e⟩ := List.mem_map.1 h3
      exact atF_none.1 ha z hz ((congrArg Prod.fst e).trans h2)
  · obtain ⟨h1, h2⟩ := atF_some ha
    have h3 : prF y ∈ rs.map prR := h.2.mem_iff.2 (List.mem_map.2 ⟨y, h1, rfl⟩)
    obtain ⟨z, hz, e⟩ := List.mem_map.1 h3
    have hn : z.name = n := (congrArg Prod.fst e).trans h2
    rw [← hn, atR_mem h.1 hz]
    exact congrArg some (congrArg Prod.snd e)
theorem RelF.some_ {rs : List RFl} {l : List Fl} (h : RelF rs l) (n : ByteArray) : (atR n rs).isSome = (atF n l).isSome := by
  have := congrArg Option.isSome (h.at_ n)
  simpa using this
theorem RelF.do_ {rs : List RFl} {l : List Fl} {w : RW} {o : DOp} (h : RelF rs l) (hw : RelOp w o) : RelF (doingR rs w) (doF l o) := by
  cases o with
  | put x =>
    obtain ⟨h1, h2, h3⟩ := hw
    rw [doing_put h1]
    exact h.put _ x (by rw [prR, prF, h2, h3])
  | del a =>
    obtain ⟨h1, h2⟩ := hw
    rw [doing_del h1, h2]
    exact h.off (noR a)
  | ren a b =>
    obtain ⟨h1, h2, h3⟩ := hw
    rw [doing_ren h1, h2, h3]
    have hat := h.at_ a
    show RelF (moveR rs a b (atR a rs)) (renF l a b (atF a l))
    rcases hf : atF a l with _ | y
    · rw [hf] at hat
      rw [show atR a rs = none from Option.map_eq_none_iff.1 hat]
      exact h
    · rw [hf] at hat
      obtain ⟨x, hx, hb⟩ := Option.map_eq_some_iff.1 hat
      rw [hx]
      exact (h.off (noR a)).put ⟨b, x.b, x.A, x.c⟩ ⟨b, y.b, y.g, y.c⟩ (by rw [prR, prF, hb])
/-- What was done since, on both sides. -/
def RelOps (ws : List RW) (os : List DOp) : Prop := ws.length = os.length ∧ ∀ (i : Nat) (w : RW) (o : DOp), ws[i]? = some w → os[i]? = some o → RelOp w o
theorem RelOps.push {ws : List RW} {os : List DOp} {w : RW} {o : DOp} (h : RelOps ws os) (hw : RelOp w o) : RelOps (ws ++ [w]) (os ++ [o]) := by
  refine ⟨by rw [List.length_append, List.length_append, h.1]; rfl, fun i v p hv hp => ?_⟩
  rcases Nat.lt_or_ge i ws.length with hi | hi
  · rw [List.getElem?_append_left hi] at hv
    rw [List.getElem?_append_left (by rw [← h.1]; exact hi)] at hp
    exact h.2 i v p hv hp
  · rw [List.getElem?_append_right hi] at hv
    rw [List.getElem?_append_right (by rw [← h.1]; exact hi), ← h.1] at hp
    rcases hj : i - ws.length with _ | j
    · rw [hj] at hv hp
      simp at hv hp
      rw [← hv, ← hp]; exact hw
    · rw [hj] at hv
      simp at hv
theorem RelOps.run {rs : List RFl} {l : List Fl} {ws : List RW} {os : List DOp} (h : RelF rs l) (ho : RelOps ws os) : ∀ i, RelF ((ws.take i).foldl doingR rs) (runF l (os.take i)) := by
  intro i
  induction i with
  | zero => exact h
  | succ i ih =>
    rcases Nat.lt_or_ge i ws.length with hi | hi
    · have hw : ws[i]? = some ws[i] := List.getElem?_eq_getElem hi
      have hoi : i < os.length := by rw [← ho.1]; exact hi
      have hov : os[i]? = some os[i] := List.getElem?_eq_getElem hoi
      rw [fold_take hw, runF_take hov]
      exact ih.do_ (ho.2 i _ _ hw hov)
    · rw [List.take_of_length_le (by omega)] at ih ⊢
      rw [List.take_of_length_le (by rw [← ho.1]; omega)] at ih ⊢
      exact ih
theorem RelOps.kinds {ws : List RW} {os : List DOp} (h : RelOps ws os) : ∀ y ∈ ws, y.kind = 1 ∨ y.kind = 2 ∨ y.kind = 3 := by
  intro y hy
  obtain ⟨i, hi⟩ := List.mem_iff_getElem?.1 hy
  have hlt := (List.getElem?_eq_some_iff.1 hi).1
  have hoi : i < os.length := by rw [← h.1]; exact hlt
  have := h.2 i y _ hi (List.getElem?_eq_getElem hoi)
  cases ho : os[i] with
  | put x => rw [ho] at this; exact .inl this.1
  | ren a b => rw [ho] at this; exact .inr (.inl this.1)
  | del a => rw [ho] at this; exact .inr (.inr this.1)
structure Sim (s : DS) (k : KS) : Prop where
  now : RelF k.now s.now
  safe : RelF k.safe s.safe
  since : RelOps k.since s.since
  steps : k.steps = s.steps
  stop : k.stop = s.stop
def noKS : KS := ⟨[], [], [], 0, -1⟩
theorem Sim.start : Sim noDS noKS := ⟨RelF.nil, RelF.nil, ⟨rfl, fun i w o h => by simp [noKS] at h⟩, rfl, rfl⟩
section
variable {s : DS} {k : KS}
theorem Sim.few (h : Sim s k) {n : Nat} (hf : s.Few n) : k.Few n := by
  have h1 := h.now.len
  have h2 := h.safe.len
  have h3 := h.since.1
  have h4 := hf.now
  have h5 := hf.files
  have h6 := hf.steps
  exact ⟨by omega, by omega, by omega, by rw [h.steps]; exact h6⟩
theorem Sim.stopE (h : Sim s k) (e : Nat) : kStopE k e = stepE s e := by rw [kStopE, stepE, h.steps, h.stop]
theorem Sim.has (h : Sim s k) (n : ByteArray) : kHasE k.now n = hasE s.now n := by rw [kHasE, hasE, h.now.some_]
theorem Sim.read (h : Sim s k) (n : ByteArray) : kReadB k.now n = readB s.now n := by rw [kReadB, readB, h.has, h.now.at_]
/-- The disk's fault of what is to be done. -/
def opE (s : DS) : DOp → Nat
  | .put x => writeE x.name x.b.length
  | .ren a b => renE s.now a b
  | .del a => hasE s.now a
theorem Sim.opE_ (h : Sim s k) {w : RW} {o : DOp} (hw : RelOp w o) : kOpE k w = opE s o := by
  cases o with
  | put x => obtain ⟨h1, h2, h3⟩ := hw; rw [kOp_put h1, h2, h3]; rfl
  | ren a b => obtain ⟨h1, h2, h3⟩ := hw; rw [kOp_ren h1, h2, h3, h.has]; rfl
  | del a => obtain ⟨h1, h2⟩ := hw; rw [kOp_del h1, h2, h.has]; rfl
theorem Sim.op (h : Sim s k) {w : RW} {o : DOp} (hw : RelOp w o) : Sim (stepS s (opE s o) (some o)) (kDoS k w) := by
  have e1 : kStopE k (kOpE k w) = stepE s (opE s o) := by rw [h.stopE, h.opE_ hw]
  unfold kDoS stepS
  rw [e1]
  split
  · refine ⟨?_, h.safe, h.since.push hw, congrArg (· + 1) h.steps, h.stop⟩
    show RelF (doingR k.now w) (runF s.safe (s.since ++ [o]))
    rw [runF_app]
    exact h.now.do_ hw
  · exact h
theorem Sim.sync (h : Sim s k) : Sim (syncS s) (kSyncS k) := by
  unfold kSyncS syncS
  rw [h.stopE]
  split
  · exact ⟨h.now, h.now, ⟨rfl, fun i w o hw => by simp at hw⟩, congrArg (· + 1) h.steps, h.stop⟩
  · exact h
theorem Sim.crash (h : Sim s k) (n : Int) : Sim (crashS s n) ⟨kCrash k n, kCrash k n, [], 0, -1⟩ := by
  have hr := h.since.run h.safe (crashK n k.since.length)
  have e : RelF (kCrash k n) (runF s.safe (s.since.take (crashK n s.since.length))) := by
    rw [← h.since.1]; exact hr
  exact ⟨e, e, ⟨rfl, fun i w o hw => by simp at hw⟩, rfl, rfl⟩
theorem Sim.fail (h : Sim s k) (a : Int) : Sim (failS s a) ⟨k.now, k.safe, k.since, k.steps, max (-1) a⟩ := ⟨h.now, h.safe, h.since, h.steps, rfl⟩
theorem Sim.names (h : Sim s k) : namesL s.now = k.now.map fun x => x.name.data.toList := by
  refine names_sorted h.now.1 ?_
  have hp := h.now.2.map fun p : ByteArray × List UInt8 => p.1.data.toList
  rw [List.map_map, List.map_map] at hp
  exact hp.symm
end
end Go.Proofs.YtmeemcafjebanaaGreatDoor
