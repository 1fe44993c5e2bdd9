/- The cost of a move: reference and program. No condition. -/
import Derived.Test.YtjoebikljmkhfaaPlan
import Derived.Test.YtjoebikljmkhfaaService
import Derived.Test.YtjoebikljmkhfaaGain
import Derived.Test.YtjoebikljmkhfaaBits
import Derived.Test.YtjoebikljmkhfaaLget
import Derived.IntWalk
namespace Go.Proofs.Ytjoebikljmkhfaa
open Go.RowKit Go.Sort

/-- The field of a round. -/
def fldR (S : Sea) (r : Nat) : Fld := ⟨S.op, S.ro.getD r []⟩
theorem fldR_good {S : Sea} (h : goodS S = true) {r : Nat} (hr : r < S.ro.length) : goodF (fldR S r) = true := by
  obtain ⟨⟨h1, h2⟩, h3, _, _, _, h6⟩ := goodS_iff.1 h
  have e : S.ro.getD r [] = S.ro[r] := by simp [List.getD, hr]
  obtain ⟨h7, h8⟩ := h6 _ (List.getElem_mem hr)
  refine goodF_iff.2 ⟨⟨h1, by show S.op.length ≤ 7; omega⟩, (rowB_iff.1 h3).1, ?_, ?_⟩
  · show (S.ro.getD r []).length ≤ 7
    rw [e]; omega
  · intro q hq
    have hq' : q ∈ S.ro[r] := by rw [← e]; exact hq
    exact rowB_iff.1 (h8 q hq')
/-- What a site adds to the cost of a move. -/
def mvAt (S : Sea) (bef T : List Int) (a : Nat) : Int :=
  (if (T.any fun x => x == (a : Int)) = true then lget S.ke a else 0) + (if (T.any fun x => x == (a : Int)) = true ∧ (bef.any fun x => x == (a : Int)) = false then lget S.op a else 0) + (if (bef.any fun x => x == (a : Int)) = true ∧ (T.any fun x => x == (a : Int)) = false then lget S.cl a else 0)
def moveF (S : Sea) (r : Nat) (bef T : List Int) : Int := serveF (fldR S r) T + sumTo (mvAt S bef T) S.op.length
theorem lget_bd {xs : List Int} {n : Nat} (h : rowB n xs = true) (i : Nat) : 0 ≤ lget xs i ∧ lget xs i ≤ 99 := by
  by_cases hi : i < xs.length
  · rw [lget_at hi]; exact (rowB_iff.1 h).1 _ (List.getElem_mem hi)
  · rw [lget, List.getD, List.getElem?_eq_none (by omega)]; simp
theorem mvAt_bd {S : Sea} (h : goodS S = true) (bef T : List Int) (a : Nat) : 0 ≤ mvAt S bef T a ∧ mvAt S bef T a ≤ 297 := by
  obtain ⟨_, h1, h2, h3, _⟩ := goodS_iff.1 h
  have b1 := lget_bd h1 a
  have b2 := lget_bd h2 a
  have b3 := lget_bd h3 a
  unfold mvAt
  split <;> split <;> split <;> omega
theorem mvSum_bd {S : Sea} (h : goodS S = true) (bef T : List Int) (k : Nat) (hk : k ≤ 5) : 0 ≤ sumTo (mvAt S bef T) k ∧ sumTo (mvAt S bef T) k ≤ 1485 := by
  have := sumTo_bd (g := mvAt S bef T) (b := 297) (fun i => mvAt_bd h bef T i) k
  omega
theorem moveF_bd {S : Sea} (h : goodS S = true) {r : Nat} (hr : r < S.ro.length) (bef T : List Int) : 0 ≤ moveF S r bef T ∧ moveF S r bef T ≤ 2178 := by
  have h1 := serveF_bd (fldR_good h hr) T
  have h2 := mvSum_bd h bef T S.op.length (goodS_iff.1 h).1.2
  unfold moveF; omega
end Go.Proofs.Ytjoebikljmkhfaa
