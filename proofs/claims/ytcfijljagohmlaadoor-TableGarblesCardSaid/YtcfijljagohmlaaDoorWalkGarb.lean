/- What the walk of TableGarbles leans on: table.Scan of bytes that are none; one table put together. -/
import Derived.Test.YtcfijljagohmlaaDoorWalkTMerge
import Derived.Test.YtcfijljagohmlaaDoorWalkScan
import Derived.Test.YtcfijljagohmlaaDoorPlainTabBack
import Derived.Test.YtcfijljagohmlaaDoorPlainTMerge
namespace Go.Proofs.YtcfijljagohmlaaDoor
open Go.RowKit

set_option maxRecDepth 100000 in
set_option maxHeartbeats 1000000 in
theorem scan_bad (A : Option Addr) (c B : Nat) (b : List UInt8) (low high : ByteArray) (w : World) (hr : Rd w B 1 A b.length (b.map bv)) (hB : B ≤ w.heap.size) (hl : b.length ≤ 140737488355328) (hc : b.length ≤ c) (ht : readTab b = none) :
    Calls Tryd.prog 26 #[.slice A b.length c, .string low, .string high] w fun e w' => ∃ v, e = .returned (.tuple #[v, .iface 75 (.int .i64 9)]) ∧ Below w.heap.size w w' := by
  have hrd := readtab_any A c B b w hr hB hl hc
  rw [rtE_none ht, ht, show errV 9 = .iface 75 (.int .i64 9) from rfl] at hrd
  generalize b.length = n at *
  go_enter Tryd.func26, Tryd.ntmps26
  go_wp2_with fail
  refine hrd.mono ?_
  rintro e w1 ⟨v1, rfl, ho1, hb1⟩
  go_wp2_with fail
  go_ret2
  exact ⟨_, rfl, hb1⟩
theorem tm_none {b : List UInt8} (h : readTab b = none) : tmE [b] true = 9 := by simp [tmE, h]
theorem tm_some {b : List UInt8} {E : List Ent} (h : readTab b = some E) : tmE [b] true = 0 := by
  have hE := readTab_ok h
  have h1 : readsL [b] = [E] := by simp [readsL, h]
  rw [tmE, if_pos (by simp [h]), h1, mixO, mix_filter_ents (fun l hl => by rw [List.mem_singleton.1 hl]; exact hE), if_neg]
  have a1 : ((mixL [E].flatten).filter (wantE true)).length ≤ (mixL [E].flatten).length := List.length_filter_le _ _
  have a2 := mix_len [E].flatten
  have a3 : [E].flatten = E := by simp
  have a4 := (entsE_all hE).1
  rw [a3] at a2
  rw [a3] at a1 ⊢
  omega
theorem ents_riseG : ∀ (l : List Ent) (p : Option Ent), entsGo p l = 0 → (l.Pairwise fun a b => klt a.key b.key = true) ∧ ∀ q, p = some q → ∀ x ∈ l, klt q.key x.key = true := by
  intro l
  induction l with
  | nil => intro p _; exact ⟨.nil, fun _ _ _ h => absurd h List.not_mem_nil⟩
  | cons x l ih =>
    intro p h
    obtain ⟨_, h2, h3⟩ := entsGo_cons h
    obtain ⟨i1, i2⟩ := ih _ h3
    refine ⟨.cons (fun y hy => i2 x rfl y hy) i1, ?_⟩
    rintro q rfl y hy
    have hq : klt q.key x.key = true := by simpa [stuck, keyLt, klt] using h2
    rcases List.mem_cons.1 hy with rfl | hy
    · exact hq
    · exact klt_trans hq (i2 x rfl y hy)
theorem rise_keysG {l : List Ent} (h : entsE l = 0) : riseK (keysE l) ∧ l.length ≤ 400 := by
  have hl := (entsE_all h).1
  rw [entsE, if_neg (by omega)] at h
  exact ⟨List.pairwise_map.2 (ents_riseG l none h).1, hl⟩
theorem tmod_bd (a : Int) (n : Nat) (h : 0 < n) : -(n : Int) < a.tmod n ∧ a.tmod n < n := by
  rcases Int.le_total 0 a with h0 | h0
  · rw [Int.tmod_eq_emod_of_nonneg h0]
    have h1 := Int.emod_nonneg a (show (n : Int) ≠ 0 by omega)
    have h2 := Int.emod_lt_of_pos a (show (0 : Int) < n by omega)
    omega
  · have e : a = -(-a) := by omega
    rw [e, Int.neg_tmod, Int.tmod_eq_emod_of_nonneg (by omega)]
    have h1 := Int.emod_nonneg (-a) (show (n : Int) ≠ 0 by omega)
    have h2 := Int.emod_lt_of_pos (-a) (show (0 : Int) < n by omega)
    omega
theorem tabB_le' {l : List Ent} (hE : entsE l = 0) : (tabB l).length ≤ 200000 := by
  rw [tabB_good hE]
  have h1 := tabIn_le hE
  have h2 := numB_le ((tabIn l).length : Int)
  simp only [sealB, List.length_append]
  have h3 : (sum4 (sumB (tabIn l))).length = 4 := rfl
  omega
theorem tabB_pos {l : List Ent} (hE : entsE l = 0) : 0 < (tabB l).length := by
  rw [tabB_good hE]
  simp only [sealB, List.length_append]
  have h3 : (sum4 (sumB (tabIn l))).length = 4 := rfl
  omega
def eX : Ent := ⟨⟨#[97]⟩, ⟨#[98]⟩, false⟩
theorem eX_ok : entsE [eX] = 0 := by decide
theorem eX_got : (gotE ⟨#[97]⟩ [eX]).val = .agg #[.string ⟨#[97]⟩, .string ⟨#[98]⟩, .bool false] ∧ gotN ⟨#[97]⟩ [eX] = 0 := by
  have h1 : lowK ⟨#[97]⟩ (keysE [eX]) = 0 := by
    show (if klt ⟨#[97]⟩ ⟨#[97]⟩ = true then _ else 0) = 0
    rw [klt_irrefl]; rfl
  have h2 : hasK ⟨#[97]⟩ (keysE [eX]) = true := by
    rw [hasK, h1]; decide
  exact ⟨by rw [gotE, if_pos h2, h1]; rfl, by rw [gotN, if_pos h2]⟩
end Go.Proofs.YtcfijljagohmlaaDoor
