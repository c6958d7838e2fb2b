/- What DiskKeeps' steps come to, in plain words. -/
import Derived.Test.YtmeemcafjebanaaDoorDiskCrash
import Derived.Test.YtmeemcafjebanaaDoorDiskNames
namespace Go.Proofs.YtmeemcafjebanaaDoor
open Go.RowKit Go.Maps

def nA : ByteArray := ⟨#[97]⟩
def nB : ByteArray := ⟨#[98]⟩
def nC : ByteArray := ⟨#[99]⟩
theorem namedA : namedB nA = true := by decide +kernel
theorem namedBB : namedB nB = true := by decide +kernel
theorem namedC : namedB nC = true := by decide +kernel
theorem writeE_fits {n : ByteArray} {k : Nat} (h : namedB n = true) (hk : k ≤ 60000) : writeE n k = 0 := by rw [writeE, h, if_pos rfl, if_neg (by omega)]
theorem stepE_free {s : DS} (h : s.stop = -1) (e : Nat) : stepE s e = e := by rw [stepE, h]; rfl
theorem stepS_free {s : DS} (h : s.stop = -1) (o : Option DOp) : stepS s 0 o = ⟨s.safe, s.since ++ o.toList, s.steps + 1, s.stop⟩ := stepS_ok o (stepE_free h 0)
section
variable (a b : List UInt8) (ga gb : Option Nat) (ca cb : Nat)
def kA : Fl := ⟨nA, a, ga, ca⟩
def kB : Fl := ⟨nB, b, gb, cb⟩
def kC : Fl := ⟨nC, a, ga, ca⟩
def k1 : DS := ⟨[], [.put (kA a ga ca)], 1, -1⟩
def k2 : DS := ⟨[kA a ga ca], [], 2, -1⟩
def k3 : DS := ⟨[kA a ga ca], [.put (kB b gb cb)], 3, -1⟩
def k4 : DS := ⟨[kA a ga ca], [.put (kB b gb cb), .ren nA nC], 4, -1⟩
def k5 : DS := ⟨[kA a ga ca], [.put (kB b gb cb), .ren nA nC, .del nB], 5, -1⟩
theorem k1_now : (k1 a ga ca).now = [kA a ga ca] := rfl
theorem k3_now : (k3 a b ga gb ca cb).now = [kB b gb cb, kA a ga ca] := by kernel_rfl
theorem k4_now : (k4 a b ga gb ca cb).now = [kC a ga ca, kB b gb cb] := by kernel_rfl
theorem k5_now : (k5 a b ga gb ca cb).now = [kC a ga ca] := by kernel_rfl
theorem k1_is : stepS noDS 0 (some (.put (kA a ga ca))) = k1 a ga ca := rfl
theorem k2_is : syncS (k1 a ga ca) = k2 a ga ca := rfl
theorem k3_is : stepS (k2 a ga ca) 0 (some (.put (kB b gb cb))) = k3 a b ga gb ca cb := rfl
theorem k4_is : stepS (k3 a b ga gb ca cb) 0 (some (.ren nA nC)) = k4 a b ga gb ca cb := rfl
theorem k5_is : stepS (k4 a b ga gb ca cb) 0 (some (.del nB)) = k5 a b ga gb ca cb := rfl
theorem k3_ren : renE (k3 a b ga gb ca cb).now nA nC = 0 := by rw [k3_now]; kernel_rfl
theorem k4_del : hasE (k4 a b ga gb ca cb).now nB = 0 := by rw [k4_now]; kernel_rfl
theorem k6_0 {keep : Int} (h : keep ≤ 0) : crashS (k5 a b ga gb ca cb) keep = ⟨[kA a ga ca], [], 0, -1⟩ := by
  have : crashK keep (k5 a b ga gb ca cb).since.length = 0 := by show min (max 0 keep).toNat 3 = 0; omega
  rw [crashS, this]; rfl
theorem k6_1 : crashS (k5 a b ga gb ca cb) 1 = ⟨[kB b gb cb, kA a ga ca], [], 0, -1⟩ := by
  have : crashK 1 (k5 a b ga gb ca cb).since.length = 1 := rfl
  rw [crashS, this]; exact congrArg (fun l => (⟨l, [], 0, -1⟩ : DS)) (k3_now a b ga gb ca cb)
theorem k6_2 : crashS (k5 a b ga gb ca cb) 2 = ⟨[kC a ga ca, kB b gb cb], [], 0, -1⟩ := by
  have : crashK 2 (k5 a b ga gb ca cb).since.length = 2 := rfl
  rw [crashS, this]; exact congrArg (fun l => (⟨l, [], 0, -1⟩ : DS)) (k4_now a b ga gb ca cb)
theorem k6_3 {keep : Int} (h : 2 < keep) : crashS (k5 a b ga gb ca cb) keep = ⟨[kC a ga ca], [], 0, -1⟩ := by
  have : crashK keep (k5 a b ga gb ca cb).since.length = 3 := by show min (max 0 keep).toNat 3 = 3; omega
  rw [crashS, this]; exact congrArg (fun l => (⟨l, [], 0, -1⟩ : DS)) (k5_now a b ga gb ca cb)
end
theorem namesL_is {l : List Fl} {t : List (List UInt8)} (hp : (l.map nameL).Perm t) (ht : t.Pairwise fun x y => x ≤ y) : namesL l = t := by
  rw [namesL, mergeSort_of_perm hp]
  exact List.mergeSort_of_pairwise (ht.imp fun h => by simpa using h)
theorem keeps_good {a b : List UInt8} {xa xb : Fl} {s1 s2 s3 s4 s5 : DS} {v1 v2 v3 v4 v5 : Value} (ha : a.length ≤ 60000) (hb : b.length ≤ 60000) (h1 : xa.name = nA ∧ xa.b = a) (h2 : xb.name = nB ∧ xb.b = b)
    (e1 : s1 = stepS noDS (writeE nA a.length) (some (.put xa))) (e2 : s2 = syncS s1) (e3 : s3 = stepS s2 (writeE nB b.length) (some (.put xb))) (e4 : s4 = stepS s3 (renE s3.now nA nC) (some (.ren nA nC))) (e5 : s5 = stepS s4 (hasE s4.now nB) (some (.del nB)))
    (f1 : v1 = errV (stepE noDS (writeE nA a.length))) (f2 : v2 = errV (stepE s1 0)) (f3 : v3 = errV (stepE s2 (writeE nB b.length))) (f4 : v4 = errV (stepE s3 (renE s3.now nA nC))) (f5 : v5 = errV (stepE s4 (hasE s4.now nB))) :
    (∃ ga gb ca cb, s5 = k5 a b ga gb ca cb) ∧ v1 = .nilIface ∧ v2 = .nilIface ∧ v3 = .nilIface ∧ v4 = .nilIface ∧ v5 = .nilIface := by
  obtain ⟨xan, xab, ga, ca⟩ := xa
  obtain ⟨xbn, xbb, gb, cb⟩ := xb
  obtain ⟨rfl, rfl⟩ := h1
  obtain ⟨rfl, rfl⟩ := h2
  rw [writeE_fits namedA ha] at e1 f1
  rw [writeE_fits namedBB hb] at e3 f3
  have e1 : s1 = k1 xab ga ca := e1
  subst e1
  have e2 : s2 = k2 xab ga ca := e2
  subst e2
  have e3 : s3 = k3 xab xbb ga gb ca cb := e3
  subst e3
  rw [k3_ren] at e4 f4
  have e4 : s4 = k4 xab xbb ga gb ca cb := e4
  subst e4
  rw [k4_del] at e5 f5
  have e5 : s5 = k5 xab xbb ga gb ca cb := e5
  subst e5
  exact ⟨⟨ga, gb, ca, cb, rfl⟩, f1, f2, f3, f4, f5⟩
section
variable (a b : List UInt8) (ga gb : Option Nat) (ca cb : Nat)
theorem n6_0 : namesL [kA a ga ca] = [nA].map (fun x => x.data.toList) := namesL_is (List.Perm.refl _) (List.pairwise_singleton _ _)
theorem n6_1 : namesL [kB b gb cb, kA a ga ca] = [nA, nB].map (fun x => x.data.toList) := namesL_is (List.Perm.swap _ _ _) (by decide)
theorem n6_2 : namesL [kC a ga ca, kB b gb cb] = [nB, nC].map (fun x => x.data.toList) := namesL_is (List.Perm.swap _ _ _) (by decide)
theorem n6_3 : namesL [kC a ga ca] = [nC].map (fun x => x.data.toList) := namesL_is (List.Perm.refl _) (List.pairwise_singleton _ _)
theorem h6_0 : hasE [kA a ga ca] nA = 0 := by kernel_rfl
theorem h6_1 : hasE [kB b gb cb, kA a ga ca] nA = 0 := by kernel_rfl
theorem h6_2 : hasE [kC a ga ca, kB b gb cb] nC = 0 := by kernel_rfl
theorem h6_3 : hasE [kC a ga ca] nC = 0 := by kernel_rfl
theorem r6_0 : readB [kA a ga ca] nA = a := by rw [readB, if_pos (h6_0 a ga ca)]; kernel_rfl
theorem r6_1 : readB [kB b gb cb, kA a ga ca] nA = a := by rw [readB, if_pos (h6_1 a b ga gb ca cb)]; kernel_rfl
theorem r6_2 : readB [kC a ga ca, kB b gb cb] nC = a := by rw [readB, if_pos (h6_2 a b ga gb ca cb)]; kernel_rfl
theorem r6_3 : readB [kC a ga ca] nC = a := by rw [readB, if_pos (h6_3 a ga ca)]; kernel_rfl
end
end Go.Proofs.YtmeemcafjebanaaDoor
