/- ClientsTaken: reference and program. No condition. -/
import Derived.Test.YtcekddpllpbkmaaOpened
import Derived.Test.YtcekddpllpbkmaaBits
namespace Go.Proofs.Ytcekddpllpbkmaa
open Go.RowKit Go.Sort

/-- Client j is nearer to S than to L. -/
def takenB (F : Fld) (L S : List Int) (j : Nat) : Bool := !S.isEmpty && decide (nearF F j S < nearF F j L)
def takenTo (F : Fld) (L S : List Int) (k : Nat) : List Int := ((List.range k).filter (takenB F L S)).map fun (x : Nat) => (x : Int)
theorem takenTo_zero (F : Fld) (L S : List Int) : takenTo F L S 0 = [] := rfl
theorem takenTo_yes {F : Fld} {L S : List Int} {k : Nat} (h : takenB F L S k = true) : takenTo F L S (k + 1) = takenTo F L S k ++ [(k : Int)] := by simp [takenTo, List.range_succ, List.filter_append, h]
theorem takenTo_no {F : Fld} {L S : List Int} {k : Nat} (h : takenB F L S k = false) : takenTo F L S (k + 1) = takenTo F L S k := by simp [takenTo, List.range_succ, List.filter_append, h]
theorem takenTo_len (F : Fld) (L S : List Int) (k : Nat) : (takenTo F L S k).length ≤ k := by
  unfold takenTo
  rw [List.length_map]
  exact Nat.le_trans (List.length_filter_le _ _) (by simp)
theorem takenTo_nil (F : Fld) (L : List Int) (k : Nat) : takenTo F L [] k = [] := by
  have : (takenB F L []) = fun _ => false := by funext j; rfl
  simp [takenTo, this]
theorem fold_min {F : Fld} {i : Nat} : ∀ (L : List Int) (b : Int), dAt F i (L.foldl (stepS F i) b) ≤ dAt F i b ∧ ∀ a ∈ L, dAt F i (L.foldl (stepS F i) b) ≤ dAt F i a
  | [], b => ⟨Int.le_refl _, by simp⟩
  | x :: L, b => by
    have h := fold_min (F := F) (i := i) L (stepS F i b x)
    have hb : dAt F i (stepS F i b x) ≤ dAt F i b ∧ dAt F i (stepS F i b x) ≤ dAt F i x := by
      unfold stepS; split <;> constructor <;> omega
    refine ⟨Int.le_trans h.1 hb.1, fun a ha => ?_⟩
    rcases List.mem_cons.1 ha with rfl | ha
    · exact Int.le_trans h.1 hb.2
    · exact h.2 a ha
/-- Somebody of S is nearer than d exactly if the nearest is. -/
theorem near_any {F : Fld} {i : Nat} {S : List Int} {d : Int} : (S.any fun a => decide (dAt F i a < d)) = (!S.isEmpty && decide (nearF F i S < d)) := by
  cases S with
  | nil => rfl
  | cons x S =>
    have hne : x :: S ≠ [] := by simp
    rw [Bool.eq_iff_iff]
    simp only [List.any_eq_true, decide_eq_true_eq, List.isEmpty_cons, Bool.not_false, Bool.true_and]
    constructor
    · rintro ⟨a, ha, hl⟩
      exact Int.lt_of_le_of_lt ((fold_min _ _).2 a ha) hl
    · intro h
      exact ⟨_, siteF_mem hne, h⟩
def takenOk (F : Fld) (L S : List Int) : Bool := openedB F L && setB F S && !(S.any fun x => L.any fun y => y == x)
def takenL (F : Fld) (L S : List Int) : List Int := if takenOk F L S = true then takenTo F L S F.di.length else []
theorem takenL_yes {F : Fld} {L S : List Int} (h : takenOk F L S = true) : takenL F L S = takenTo F L S F.di.length := if_pos h
theorem takenL_no {F : Fld} {L S : List Int} (h : takenOk F L S = false) : takenL F L S = [] := if_neg (by simp [h])
theorem takenL_len (F : Fld) (L S : List Int) : (takenL F L S).length ≤ 1048576 := by
  by_cases h : takenOk F L S = true
  · rw [takenL_yes h]
    refine Nat.le_trans (takenTo_len F L S _) ?_
    have h1 : openedB F L = true := by simp only [takenOk, Bool.and_eq_true] at h; exact h.1.1
    have := (goodF_iff.1 (openedB_parts h1).1).2.2.1
    omega
  · rw [takenL_no (by simpa using h)]; simp
/-- The two sets share nothing exactly if their numbers share no bit. -/
theorem bag_apart {L S : List Int} (hL : ∀ y ∈ L, 0 ≤ y) (hS : ∀ y ∈ S, 0 ≤ y) : decide (bagN L &&& bagN S = 0) = !(S.any fun x => L.any fun y => y == x) := by
  rw [Bool.eq_iff_iff]
  simp only [decide_eq_true_eq, Bool.not_eq_true', List.any_eq_false, List.any_eq_true, beq_iff_eq, not_exists, not_and]
  constructor
  · intro h x hx y hy e
    have hb : (bagN L &&& bagN S).testBit x.toNat = true := by
      have hx0 := hS x hx
      have hxe : ((x.toNat : Nat) : Int) = x := by omega
      rw [Nat.testBit_and, bagN_bit hL, bagN_bit hS, hxe]
      simp [hx, e ▸ hy]
    rw [h] at hb
    simp at hb
  · intro h
    apply Nat.eq_of_testBit_eq
    intro i
    rw [Nat.testBit_and, bagN_bit hL, bagN_bit hS, Nat.zero_testBit]
    by_cases h1 : (i : Int) ∈ L <;> by_cases h2 : (i : Int) ∈ S <;> simp [h1, h2]
    exact h _ h2 _ h1 rfl
end Go.Proofs.Ytcekddpllpbkmaa
