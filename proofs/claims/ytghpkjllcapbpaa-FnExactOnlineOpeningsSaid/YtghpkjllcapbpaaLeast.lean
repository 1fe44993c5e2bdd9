/- least and lists: the first row with the least value; the rows of which something is so. No condition. -/
import Derived.Test.YtghpkjllcapbpaaSets2
namespace Go.Proofs.Ytghpkjllcapbpaa
open Go.RowKit Go.Sort

def bestTo (v : List Int → Int) (rows : List (List Int)) (k : Nat) : List Int := (rows.take k).foldl (bestStep v) (rows.getD 0 [])
theorem bestTo_succ {v : List Int → Int} {rows : List (List Int)} {k : Nat} (hk : k < rows.length) : bestTo v rows (k + 1) = bestStep v (bestTo v rows k) rows[k] := by
  unfold bestTo
  rw [List.take_succ_eq_append_getElem hk, List.foldl_append]; rfl
theorem bestTo_all (v : List Int → Int) (rows : List (List Int)) : bestTo v rows rows.length = bestL v rows := by
  unfold bestTo bestL
  rw [List.take_length]
theorem bestTo_mem {v : List Int → Int} {rows : List (List Int)} (h0 : 0 < rows.length) : ∀ k, k ≤ rows.length → bestTo v rows k ∈ rows
  | 0, _ => by
    have e : rows.getD 0 [] = rows[0] := by simp [List.getD, h0]
    unfold bestTo
    rw [List.take_zero, List.foldl_nil, e]
    exact List.getElem_mem h0
  | k + 1, hk => by
    rw [bestTo_succ (by omega)]
    unfold bestStep
    by_cases h : v rows[k] < v (bestTo v rows k)
    · rw [if_pos h]; exact List.getElem_mem _
    · rw [if_neg h]; exact bestTo_mem h0 k (by omega)
theorem bestL_mem {v : List Int → Int} {rows : List (List Int)} (h0 : 0 < rows.length) : bestL v rows ∈ rows := by
  rw [← bestTo_all]; exact bestTo_mem h0 _ (Nat.le_refl _)
/-- A function value that tells a number of a row. -/
def Val (FN : FuncId) (pre caps : Array Value) (v : List Int → Int) (Q : List Int → Prop) (w : World) : Prop :=
  (∀ (args : Array Value) (w : World), Sem.run Try.prog (callFunc FN args) w = .ok (.enter FN args) w) ∧
  ∀ (S : List Int) (Av : Option Addr) (cv : Nat) (w' : World), Kp w w' → Q S → IntsAt w' Av S → S.length ≤ cv → Calls Try.prog FN (pre.push (.slice Av S.length cv) ++ caps) w' fun e w'' => e = .returned (.int .i64 (v S)) ∧ Kp w' w''
theorem Val.kp {FN : FuncId} {pre caps : Array Value} {v : List Int → Int} {Q : List Int → Prop} {w w' : World} (h : Val FN pre caps v Q w) (hk : Kp w w') : Val FN pre caps v Q w' :=
  ⟨h.1, fun S Av cv w2 h2 => h.2 S Av cv w2 (hk.trans h2)⟩
/-- A function value that tells whether something is so of a row. -/
def Tells (FN : FuncId) (pre caps : Array Value) (p : List Int → Bool) (Q : List Int → Prop) (w : World) : Prop :=
  (∀ (args : Array Value) (w : World), Sem.run Try.prog (callFunc FN args) w = .ok (.enter FN args) w) ∧
  ∀ (S : List Int) (Av : Option Addr) (cv : Nat) (w' : World), Kp w w' → Q S → IntsAt w' Av S → S.length ≤ cv → Calls Try.prog FN (pre.push (.slice Av S.length cv) ++ caps) w' fun e w'' => e = .returned (.bool (p S)) ∧ Kp w' w''
theorem Tells.kp {FN : FuncId} {pre caps : Array Value} {p : List Int → Bool} {Q : List Int → Prop} {w w' : World} (h : Tells FN pre caps p Q w) (hk : Kp w w') : Tells FN pre caps p Q w' :=
  ⟨h.1, fun S Av cv w2 h2 => h.2 S Av cv w2 (hk.trans h2)⟩
end Go.Proofs.Ytghpkjllcapbpaa
