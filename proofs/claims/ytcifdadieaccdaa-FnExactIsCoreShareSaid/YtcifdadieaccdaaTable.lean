/- GainTable: reference and program. No condition. -/
import Derived.Test.YtcifdadieaccdaaBits
import Derived.Test.YtcifdadieaccdaaGain
import Derived.Test.YtcifdadieaccdaaStep
namespace Go.Proofs.Ytcifdadieaccdaa
open Go.RowKit Go.Sort

def tabF (F : Fld) (worth : Int) (b : Nat) : Int := gainF F worth (bitsL F.op.length b)
def tabOk (F : Fld) (worth : Int) : Bool := goodF F && worthB worth
def tabL (F : Fld) (worth : Int) : List Int := if tabOk F worth = true then mapTo (tabF F worth) (2 ^ F.op.length) else []
theorem tabL_yes {F : Fld} {worth : Int} (h : tabOk F worth = true) : tabL F worth = mapTo (tabF F worth) (2 ^ F.op.length) := if_pos h
theorem tabL_no {F : Fld} {worth : Int} (h : tabOk F worth = false) : tabL F worth = [] := if_neg (by simp [h])
theorem tabOk_parts {F : Fld} {worth : Int} (h : tabOk F worth = true) : goodF F = true ∧ 0 ≤ worth ∧ worth ≤ 999 := by
  simp only [tabOk, worthB, inB, Bool.and_eq_true, decide_eq_true_eq] at h
  exact ⟨h.1, h.2.1, h.2.2⟩
theorem pow7 {n : Nat} (h : n ≤ 7) : 2 ^ n ≤ 128 := Nat.pow_le_pow_right (by omega) h
theorem tabL_len (F : Fld) (worth : Int) : (tabL F worth).length ≤ 1048576 := by
  by_cases h : tabOk F worth = true
  · rw [tabL_yes h, mapTo_len]
    have := pow7 (goodF_iff.1 (tabOk_parts h).1).1.2
    omega
  · rw [tabL_no (by simpa using h)]; simp

end Go.Proofs.Ytcifdadieaccdaa
