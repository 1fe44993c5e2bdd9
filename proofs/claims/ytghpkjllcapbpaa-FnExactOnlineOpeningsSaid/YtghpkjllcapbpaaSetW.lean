/- The comparisons of two sets, the reference's and the program's. No condition. -/
import Derived.Test.YtghpkjllcapbpaaSort
namespace Go.Proofs.Ytghpkjllcapbpaa
open Go.RowKit Go.Sort

def cmpI (x y : Int) : Int := if x < y then -1 else if y < x then 1 else 0
def orL : List Int → Int
  | [] => 0
  | x :: xs => if x = 0 then orL xs else x
theorem orL_drop {xs : List Int} {k : Nat} (hk : k < xs.length) (h : xs[k] = 0) : orL (xs.drop k) = orL (xs.drop (k + 1)) := by
  rw [List.drop_eq_getElem_cons hk, orL, if_pos h]
theorem orL_at {xs : List Int} {k : Nat} (hk : k < xs.length) (h : xs[k] ≠ 0) : orL (xs.drop k) = xs[k] := by
  rw [List.drop_eq_getElem_cons hk, orL, if_neg h]
theorem lexC_cons (x y : Int) (xs ys : List Int) : lexC (x :: xs) (y :: ys) = if x < y then -1 else if y < x then 1 else lexC xs ys := rfl
theorem lexC_step {xs ys : List Int} {k : Nat} (hx : k < xs.length) (hy : k < ys.length) : lexC (xs.drop k) (ys.drop k) = if cmpI xs[k] ys[k] = 0 then lexC (xs.drop (k + 1)) (ys.drop (k + 1)) else cmpI xs[k] ys[k] := by
  rw [List.drop_eq_getElem_cons hx, List.drop_eq_getElem_cons hy, lexC_cons]
  unfold cmpI
  by_cases h1 : xs[k] < ys[k]
  · simp [h1]
  · by_cases h2 : ys[k] < xs[k]
    · simp [h1, h2]
    · simp [h1, h2]
theorem cmpS_or (a b : List Int) : orL [cmpI a.length b.length, lexC a b] = cmpS a b := by
  unfold cmpS cmpI
  by_cases h1 : a.length < b.length
  · simp [orL, h1]
  · by_cases h2 : b.length < a.length
    · simp [orL, h1, h2]
    · simp only [orL, h1, h2, Int.ofNat_lt, if_false, if_true]
      by_cases h3 : lexC a b = 0 <;> simp [h3]
theorem two_ints (w : World) (x y : Int) : IntsAt (w.alloc (.cells #[.int .i64 x, .int .i64 y] 3)) (some ⟨w.heap.size, 0, none⟩) [x, y] :=
  ⟨by simp, fun k hk => by
    have hk2 : k < 2 := by simpa using hk
    refine ⟨_, rfl, ?_⟩
    rw [add0, World.cell?_alloc_at _ _ _ _ rfl]
    match k, hk2 with
    | 0, _ => rfl
    | 1, _ => rfl⟩
theorem bef_len {a b : List Int} (h : a.length ≠ b.length) : befB a b = decide (a.length < b.length) := by
  unfold befB cmpS
  by_cases h1 : a.length < b.length
  · simp [h1]
  · simp [h1, show b.length < a.length by omega]
theorem bef_same {a b : List Int} (h : a.length = b.length) : befB a b = decide (lexC a b < 0) := by
  unfold befB cmpS
  simp [h]
theorem lexC_lt {xs ys : List Int} {k : Nat} (hx : k < xs.length) (hy : k < ys.length) (h : xs[k] ≠ ys[k]) : decide (lexC (xs.drop k) (ys.drop k) < 0) = decide (xs[k] < ys[k]) := by
  rw [lexC_step hx hy]
  unfold cmpI
  by_cases h1 : xs[k] < ys[k]
  · simp [h1]
  · simp [h1, show ys[k] < xs[k] by omega]
theorem lexC_same {xs ys : List Int} {k : Nat} (hx : k < xs.length) (hy : k < ys.length) (h : xs[k] = ys[k]) : lexC (xs.drop k) (ys.drop k) = lexC (xs.drop (k + 1)) (ys.drop (k + 1)) := by
  rw [lexC_step hx hy]
  simp [cmpI, h]
end Go.Proofs.Ytghpkjllcapbpaa
