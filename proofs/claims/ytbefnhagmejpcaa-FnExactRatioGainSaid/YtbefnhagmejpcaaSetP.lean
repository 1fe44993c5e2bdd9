/- All sets of some sites in their order: plain words. No condition. -/
import Derived.Test.YtbefnhagmejpcaaBag
namespace Go.Proofs.Ytbefnhagmejpcaa
open Go.RowKit Go.Sort

/-- Which of two lists comes first, number by number. -/
def lexC : List Int → List Int → Int
  | [], [] => 0
  | [], _ :: _ => -1
  | _ :: _, [] => 1
  | x :: xs, y :: ys => if x < y then -1 else if y < x then 1 else lexC xs ys
theorem lexC_anti : ∀ a b : List Int, lexC b a = - lexC a b
  | [], [] => rfl
  | [], _ :: _ => rfl
  | _ :: _, [] => rfl
  | x :: xs, y :: ys => by
    unfold lexC
    have ih := lexC_anti xs ys
    by_cases h1 : x < y
    · simp [h1, show ¬ y < x by omega]
    · by_cases h2 : y < x
      · simp [h1, h2]
      · simp [h1, h2]; exact ih
theorem lexC_zero : ∀ a b : List Int, lexC a b = 0 → a = b
  | [], [], _ => rfl
  | [], _ :: _, h => by simp [lexC] at h
  | _ :: _, [], h => by simp [lexC] at h
  | x :: xs, y :: ys, h => by
    unfold lexC at h
    by_cases h1 : x < y
    · rw [if_pos h1] at h; omega
    · by_cases h2 : y < x
      · rw [if_neg h1, if_pos h2] at h; omega
      · rw [if_neg h1, if_neg h2] at h
        rw [lexC_zero xs ys h, show x = y by omega]
theorem lexC_trans : ∀ a b c : List Int, lexC a b < 0 → lexC b c < 0 → lexC a c < 0
  | [], [], _, h, _ => by simp [lexC] at h
  | [], _ :: _, [], _, h => by simp [lexC] at h
  | [], _ :: _, _ :: _, _, _ => by simp [lexC]
  | _ :: _, [], _, h, _ => by simp [lexC] at h
  | _ :: _, _ :: _, [], _, h => by simp [lexC] at h
  | x :: xs, y :: ys, z :: zs, h, h' => by
    unfold lexC at h h' ⊢
    have ih := lexC_trans xs ys zs
    by_cases h1 : x < y
    · by_cases h2 : z < y
      · rw [if_neg (by omega), if_pos h2] at h'; omega
      · rw [if_pos (by omega)]; omega
    · by_cases h2 : y < x
      · rw [if_neg h1, if_pos h2] at h; omega
      · rw [if_neg h1, if_neg h2] at h
        have e : x = y := by omega
        subst e
        by_cases h3 : x < z
        · rw [if_pos h3]; omega
        · by_cases h4 : z < x
          · rw [if_neg h3, if_pos h4] at h'; omega
          · rw [if_neg h3, if_neg h4] at h' ⊢
            exact ih h h'
/-- First by how many there are, then number by number. -/
def cmpS (a b : List Int) : Int := if a.length < b.length then -1 else if b.length < a.length then 1 else lexC a b
def befB (a b : List Int) : Bool := decide (cmpS a b < 0)
theorem cmpS_anti (a b : List Int) : cmpS b a = - cmpS a b := by
  unfold cmpS
  by_cases h1 : a.length < b.length
  · simp [h1, show ¬ b.length < a.length by omega]
  · by_cases h2 : b.length < a.length
    · simp [h1, h2]
    · simp [h1, h2]; exact lexC_anti a b
theorem cmpS_zero {a b : List Int} (h : cmpS a b = 0) : a = b := by
  unfold cmpS at h
  by_cases h1 : a.length < b.length
  · rw [if_pos h1] at h; omega
  · by_cases h2 : b.length < a.length
    · rw [if_neg h1, if_pos h2] at h; omega
    · rw [if_neg h1, if_neg h2] at h; exact lexC_zero a b h
theorem cmpS_trans {a b c : List Int} (h : cmpS a b < 0) (h' : cmpS b c < 0) : cmpS a c < 0 := by
  unfold cmpS at *
  by_cases h1 : a.length < c.length
  · rw [if_pos h1]; omega
  · have hb : ¬ b.length < a.length := fun hh => by rw [if_neg (by omega), if_pos hh] at h; omega
    have hc : ¬ c.length < b.length := fun hh => by rw [if_neg (by omega), if_pos hh] at h'; omega
    rw [if_neg (by omega), if_neg hb] at h
    rw [if_neg (by omega), if_neg hc] at h'
    rw [if_neg h1, if_neg (by omega)]
    exact lexC_trans a b c h h'
theorem befB_irrefl (a : List Int) : befB a a = false := by
  have := cmpS_anti a a
  simp [befB]; omega
theorem befB_trans {a b c : List Int} (h : befB a b = true) (h' : befB b c = true) : befB a c = true := by
  simp only [befB, decide_eq_true_eq] at *; exact cmpS_trans h h'
theorem befB_total {a b : List Int} (h : befB a b = false) (h' : befB b a = false) : a = b := by
  simp only [befB, decide_eq_false_iff_not] at *
  have := cmpS_anti a b
  exact cmpS_zero (by omega)
theorem befB_asymm {a b : List Int} (h : befB a b = true) : befB b a = false := by
  cases h' : befB b a with
  | false => rfl
  | true => have := befB_trans h h'; rw [befB_irrefl] at this; cases this
/-- What is not behind. -/
def notB (a b : List Int) : Bool := !befB b a
theorem notB_trans (a b c : List Int) (h : notB a b = true) (h' : notB b c = true) : notB a c = true := by
  simp only [notB, Bool.not_eq_true'] at *
  by_cases e1 : a = b
  · subst e1; exact h'
  by_cases e2 : b = c
  · subst e2; exact h
  have g1 : befB a b = true := by
    cases hh : befB a b with
    | true => rfl
    | false => exact absurd (befB_total hh h) e1
  have g2 : befB b c = true := by
    cases hh : befB b c with
    | true => rfl
    | false => exact absurd (befB_total hh h') e2
  exact befB_asymm (befB_trans g1 g2)
theorem notB_total (a b : List Int) : (notB a b || notB b a) = true := by
  cases h : befB b a with
  | false => simp [notB, h]
  | true => simp [notB, befB_asymm h]
/-- The codes of the sets with at least one member, in the order of codes. -/
def codesL (n : Nat) : List (List Int) := (List.range (2 ^ n - 1)).map fun c => bitsL n (c + 1)
def setsL (n : Nat) : List (List Int) := (codesL n).mergeSort notB
theorem setsL_perm (n : Nat) : (setsL n).Perm (codesL n) := List.mergeSort_perm _ _
theorem setsL_len (n : Nat) : (setsL n).length = 2 ^ n - 1 := by rw [(setsL_perm n).length_eq]; simp [codesL]
theorem bitsL_inj {n a b : Nat} (ha : a < 2 ^ n) (hb : b < 2 ^ n) (h : bitsL n a = bitsL n b) : a = b := by
  apply Nat.eq_of_testBit_eq
  intro i
  by_cases hi : i < n
  · have h1 := mem_bitsL (n := n) (b := a) (x := (i : Int))
    have h2 := mem_bitsL (n := n) (b := b) (x := (i : Int))
    rw [h] at h1
    have h3 := h1.symm.trans h2
    rw [Bool.eq_iff_iff]
    simp only [Int.toNat_natCast] at h3
    constructor
    · intro hx; exact (h3.1 ⟨by omega, by omega, hx⟩).2.2
    · intro hx; exact (h3.2 ⟨by omega, by omega, hx⟩).2.2
  · rw [Nat.testBit_lt_two_pow (Nat.lt_of_lt_of_le ha (Nat.pow_le_pow_right (by omega) (by omega))), Nat.testBit_lt_two_pow (Nat.lt_of_lt_of_le hb (Nat.pow_le_pow_right (by omega) (by omega)))]
theorem codesL_nodup (n : Nat) : (codesL n).Nodup := by
  unfold codesL List.Nodup
  rw [List.pairwise_map]
  refine (List.pairwise_iff_getElem.2 ?_)
  intro i j hi hj hij e
  have hi' : i < 2 ^ n - 1 := by simpa using hi
  have hj' : j < 2 ^ n - 1 := by simpa using hj
  simp only [List.getElem_range] at e
  have := bitsL_inj (n := n) (by omega) (by omega) e
  omega
theorem setsL_nodup (n : Nat) : (setsL n).Nodup := (setsL_perm n).nodup_iff.2 (codesL_nodup n)
theorem setsL_sorted (n : Nat) : (setsL n).Pairwise (fun a b => befB a b = true) := by
  have h1 : (setsL n).Pairwise (fun a b => notB a b = true) := List.pairwise_mergeSort notB_trans notB_total _
  have h2 := setsL_nodup n
  rw [List.pairwise_iff_getElem] at h1 ⊢
  unfold List.Nodup at h2
  rw [List.pairwise_iff_getElem] at h2
  intro i j hi hj hij
  have h3 := h1 i j hi hj hij
  have h4 := h2 i j hi hj hij
  simp only [notB, Bool.not_eq_true'] at h3
  cases hh : befB (setsL n)[i] (setsL n)[j] with
  | true => rfl
  | false => exact absurd (befB_total hh h3) h4
/-- There is one list of all sets in order. -/
theorem setsL_uniq {n : Nat} {l : List (List Int)} (hp : l.Perm (codesL n)) (hs : l.Pairwise (fun a b => befB a b = true)) : l = setsL n :=
  List.Perm.eq_of_pairwise (le := fun a b => befB a b = true) (fun a b _ _ h h' => by have := befB_asymm h; rw [h'] at this; cases this) hs (setsL_sorted n) (hp.trans (setsL_perm n).symm)
theorem mem_codesL {n : Nat} {S : List Int} : S ∈ codesL n ↔ S ≠ [] ∧ risB S 0 ((n : Int) - 1) = true := by
  constructor
  · intro h
    simp only [codesL, List.mem_map, List.mem_range] at h
    obtain ⟨c, hc, rfl⟩ := h
    refine ⟨fun e => ?_, bitsL_ris _ _ _ (Int.le_refl _)⟩
    have h0 : bitsL n 0 = [] := by simp [bitsL, bitsN]
    have := bitsL_inj (n := n) (a := c + 1) (b := 0) (by omega) (Nat.two_pow_pos n) (e.trans h0.symm)
    omega
  · rintro ⟨hne, hr⟩
    have hr' := ris_iff.1 hr
    have hm : ∀ y ∈ S, 0 ≤ y ∧ y < n := fun y hy => by have := hr'.2 y hy; omega
    have hb := bits_bag hr'.1 hm
    have hlt := bagN_lt hm
    simp only [codesL, List.mem_map, List.mem_range]
    have hpos : 0 < bagN S := by
      rcases Nat.eq_zero_or_pos (bagN S) with h | h
      · rw [h] at hb; exact absurd (by rw [← hb]; simp [bitsL, bitsN]) hne
      · exact h
    exact ⟨bagN S - 1, by omega, by rw [Nat.sub_add_cancel hpos]; exact hb⟩
theorem mem_setsL {n : Nat} {S : List Int} : S ∈ setsL n ↔ S ≠ [] ∧ risB S 0 ((n : Int) - 1) = true := (setsL_perm n).mem_iff.trans mem_codesL
theorem risB_len {n : Nat} {S : List Int} (h : risB S 0 ((n : Int) - 1) = true) : S.length ≤ n := by
  have hr' := ris_iff.1 h
  have hm : ∀ y ∈ S, 0 ≤ y ∧ y < n := fun y hy => by have := hr'.2 y hy; omega
  have := bitsL_len n (bagN S)
  rwa [bits_bag hr'.1 hm] at this
/-- The first one with the least value. -/
def bestStep (v : List Int → Int) (b s : List Int) : List Int := if v s < v b then s else b
def bestL (v : List Int → Int) (l : List (List Int)) : List Int := l.foldl (bestStep v) (l.getD 0 [])
end Go.Proofs.Ytbefnhagmejpcaa
