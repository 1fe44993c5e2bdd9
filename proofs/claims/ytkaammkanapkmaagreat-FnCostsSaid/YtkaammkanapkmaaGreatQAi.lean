/- Marginal shares, and the sum of them over all orders, in plain Lean; A slice of the call's own: one slot read and written; one that was made. No condition. -/
import Derived.Test.YtkaammkanapkmaaGreatQAh
import Derived.Test.YtkaammkanapkmaaGreatQAa
import Derived.Test.YtkaammkanapkmaaGreatQAe
namespace Go.Proofs.YtkaammkanapkmaaGreat
open Go.RowKit Go.Sort

/-- What a client adds behind the first t ones of an order, summed over the places where it stands. -/
def mgT (ct : Nat → Int) (O : List Int) (j : Nat) : Nat → Int
  | 0 => 0
  | t + 1 => mgT ct O j t + (if O.getD t 0 = (j : Int) then ct (bagN (O.take (t + 1))) - ct (bagN (O.take t)) else 0)
theorem mgT_snoc (ct : Nat → Int) (O : List Int) (a : Int) (j : Nat) : ∀ t, t ≤ O.length → mgT ct (O ++ [a]) j t = mgT ct O j t
  | 0, _ => rfl
  | t + 1, h => by
    unfold mgT
    rw [mgT_snoc ct O a j t (by omega), getD_snoc_lt (by omega), List.take_append_of_le_length (by omega), List.take_append_of_le_length (by omega)]
theorem mgT_top (ct : Nat → Int) (O : List Int) (a : Int) (j : Nat) : mgT ct (O ++ [a]) j (O.length + 1) = mgT ct O j O.length + (if a = (j : Int) then ct (bagN (O ++ [a])) - ct (bagN O) else 0) := by
  show mgT ct (O ++ [a]) j O.length + _ = _
  rw [mgT_snoc ct O a j _ (Nat.le_refl _), getD_snoc_eq, List.take_of_length_le (by simp), List.take_append_of_le_length (Nat.le_refl _), List.take_length]
theorem mgT_none (ct : Nat → Int) (O : List Int) (j : Nat) (h : (j : Int) ∉ O) : ∀ t, t ≤ O.length → mgT ct O j t = 0
  | 0, _ => rfl
  | t + 1, ht => by
    unfold mgT
    rw [mgT_none ct O j h t (by omega), if_neg]
    · rfl
    · intro e
      have : O.getD t 0 = O[t] := by simp [List.getD, show t < O.length by omega]
      exact h (by rw [← e, this]; exact List.getElem_mem _)
/-- The sum of what all orders add that begin so. -/
def fsT (ct : Nat → Int) (n j : Nat) : Nat → List Int → Int
  | 0, O => mgT ct O j O.length
  | r + 1, O => sumTo (fun i => if (i : Int) ∈ O then 0 else fsT ct n j r (O ++ [(i : Int)])) n
def facT : Nat → Int
  | 0 => 1
  | r + 1 => (r + 1 : Nat) * facT r
/-- The number of these orders. -/
def cnT (n : Nat) : Nat → List Int → Int
  | 0, _ => 1
  | r + 1, O => sumTo (fun i => if (i : Int) ∈ O then 0 else cnT n r (O ++ [(i : Int)])) n
/-- An order of some of n. -/
structure Ord (n : Nat) (O : List Int) : Prop where
  nd : O.Nodup
  rg : ∀ x ∈ O, 0 ≤ x ∧ x < (n : Int)
theorem Ord.nil (n : Nat) : Ord n [] := ⟨List.nodup_nil, by simp⟩
theorem Ord.snoc {n : Nat} {O : List Int} (h : Ord n O) {i : Nat} (hi : i < n) (hn : (i : Int) ∉ O) : Ord n (O ++ [(i : Int)]) := by
  refine ⟨?_, fun x hx => ?_⟩
  · rw [List.nodup_append]
    refine ⟨h.nd, by simp, fun x hx y hy => ?_⟩
    rw [List.mem_singleton] at hy
    subst hy
    intro e; subst e; exact hn hx
  · rw [List.mem_append, List.mem_singleton] at hx
    rcases hx with h1 | rfl
    · exact h.rg x h1
    · omega
theorem Ord.len {n : Nat} {O : List Int} (h : Ord n O) : O.length ≤ n := by
  have hp := nd_len O ((List.range n).map (fun (i : Nat) => (i : Int))) h.nd (fun x hx => by
    have := h.rg x hx
    exact List.mem_map.2 ⟨x.toNat, List.mem_range.2 (by omega), by omega⟩)
  simpa using hp
theorem Ord.full {n : Nat} {O : List Int} (h : Ord n O) (hl : O.length = n) {j : Nat} (hj : j < n) : (j : Int) ∈ O := Classical.byContradiction (fun hn => by
  have := (h.snoc hj hn).len
  rw [List.length_append, List.length_singleton] at this
  omega)
/-- How many of the first n are so. -/
theorem cnt_mem {n : Nat} {O : List Int} (h : Ord n O) : sumTo (fun i => if (i : Int) ∈ O then 1 else 0) n = (O.length : Int) := by
  have key : ∀ (O : List Int), O.Nodup → (∀ x ∈ O, 0 ≤ x ∧ x < (n : Int)) → sumTo (fun i => if (i : Int) ∈ O then 1 else 0) n = (O.length : Int) := by
    intro O
    induction O with
    | nil => intro _ _; simp only [List.not_mem_nil, if_false]; rw [sumTo_c0]; rfl
    | cons x t ih =>
      intro hn hr
      rw [List.nodup_cons] at hn
      have hx := hr x List.mem_cons_self
      have e : ∀ i, i < n → (if (i : Int) ∈ x :: t then (1 : Int) else 0) = (if (i : Int) ∈ t then 1 else 0) + (if i = x.toNat then 1 else 0) := fun i hi => by
        by_cases e1 : (i : Int) = x
        · rw [if_pos (by rw [e1]; exact List.mem_cons_self), if_neg (by rw [e1]; exact hn.1), if_pos (by omega)]; rfl
        · rw [if_neg (show ¬ i = x.toNat by omega)]
          by_cases e2 : (i : Int) ∈ t
          · rw [if_pos (List.mem_cons_of_mem _ e2), if_pos e2]; rfl
          · rw [if_neg (by rw [List.mem_cons]; exact fun h => h.elim e1 e2), if_neg e2]; rfl
      rw [sumTo_congr e, sumTo_addf, ih hn.2 (fun y hy => hr y (List.mem_cons_of_mem _ hy)), sumTo_one (by omega)]
      rw [List.length_cons]; omega
  exact key O h.nd h.rg
theorem cnt_out {n : Nat} {O : List Int} (h : Ord n O) : sumTo (fun i => if (i : Int) ∈ O then 0 else 1) n = (n : Int) - (O.length : Int) := by
  have h1 := cnt_mem h
  have e : sumTo (fun i => (if (i : Int) ∈ O then (0 : Int) else 1) + (if (i : Int) ∈ O then 1 else 0)) n = (n : Int) := by
    rw [sumTo_congr (h := fun _ => 1) (fun i _ => by split <;> rfl)]
    exact sumTo_ones n
  rw [sumTo_addf, h1] at e
  omega
theorem cnT_eq {n : Nat} : ∀ (r : Nat) (O : List Int), Ord n O → O.length + r = n → cnT n r O = facT r
  | 0, _, _, _ => rfl
  | r + 1, O, h, hl => by
    unfold cnT
    have e : ∀ i, i < n → (if (i : Int) ∈ O then (0 : Int) else cnT n r (O ++ [(i : Int)])) = (if (i : Int) ∈ O then 0 else 1) * facT r := fun i hi => by
      by_cases hO : (i : Int) ∈ O
      · rw [if_pos hO, if_pos hO]; simp
      · rw [if_neg hO, if_neg hO, cnT_eq r _ (h.snoc hi hO) (by rw [List.length_append, List.length_singleton]; omega)]; simp
    rw [sumTo_congr e, sumTo_mulc, cnt_out h]
    show ((n : Int) - O.length) * facT r = ((r + 1 : Nat) : Int) * facT r
    congr 1; omega
/-- All of P is in C. -/
def subT (n P C : Nat) : Bool := (List.range n).all fun i => !P.testBit i || C.testBit i
theorem subT_iff {n P C : Nat} : subT n P C = true ↔ ∀ i, i < n → P.testBit i = true → C.testBit i = true := by
  unfold subT
  rw [List.all_eq_true]
  constructor
  · intro h i hi hp
    have := h i (List.mem_range.2 hi)
    rw [hp] at this
    simpa using this
  · intro h i hi
    have := h i (List.mem_range.1 hi)
    cases hp : P.testBit i
    · rfl
    · rw [this hp]; rfl
/-- How many are in C. -/
def pcT (n C : Nat) : Int := sumTo (fun i => if C.testBit i = true then 1 else 0) n
theorem pc_len (n C : Nat) : pcT n C = ((bitsL n C).length : Int) := by
  unfold pcT
  induction n with
  | zero => simp [sumTo_zero, bitsL, bitsN]
  | succ n ih =>
    rw [sumTo_succ, ih]
    by_cases h : C.testBit n = true
    · rw [if_pos h, bitsL_yes h, List.length_append]; simp
    · have h' : C.testBit n = false := by simpa using h
      rw [if_neg h, bitsL_no h']; simp
theorem pc_bag {n : Nat} {O : List Int} (h : Ord n O) : pcT n (bagN O) = (O.length : Int) := by
  rw [← cnt_mem h]
  exact sumTo_congr (fun i _ => by
    rw [bagN_bit (fun y hy => (h.rg y hy).1)]
    by_cases hO : (i : Int) ∈ O
    · rw [decide_eq_true hO, if_pos rfl, if_pos hO]
    · rw [decide_eq_false hO, if_neg (by decide), if_neg hO])
theorem pc_nn (n C : Nat) : 0 ≤ pcT n C := sumTo_nn (fun i _ => by split <;> omega)
theorem pc_le (n C : Nat) : pcT n C ≤ n := by
  have := sumTo_mono' (k := n) (g := fun i => if C.testBit i = true then 1 else 0) (h := fun _ => 1) (fun i _ => by split <;> omega)
  rw [sumTo_ones] at this
  exact this
theorem pc_diff {n P C : Nat} (h : subT n P C = true) : sumTo (fun i => if C.testBit i = true ∧ P.testBit i = false then 1 else 0) n = pcT n C - pcT n P := by
  unfold pcT
  rw [← sumTo_sub]
  refine sumTo_congr (fun i hi => ?_)
  have := subT_iff.1 h i hi
  cases hp : P.testBit i
  · cases hc : C.testBit i <;> simp
  · rw [this hp]; simp
theorem pc_eq {n P C : Nat} (h : subT n P C = true) (hP : P < 2 ^ n) (hC : C < 2 ^ n) (he : pcT n C = pcT n P) : C = P := by
  have hd := pc_diff h
  rw [he, Int.sub_self] at hd
  refine Nat.eq_of_testBit_eq (fun i => ?_)
  by_cases hi : i < n
  · cases hp : P.testBit i
    · cases hc : C.testBit i
      · rfl
      · have := sumTo_ge (g := fun i => if C.testBit i = true ∧ P.testBit i = false then (1 : Int) else 0) (a := i) (k := n) (fun i _ => by split <;> omega) hi
        rw [hd, if_pos ⟨hc, hp⟩] at this
        omega
    · exact subT_iff.1 h i hi hp
  · rw [Nat.testBit_lt_two_pow (Nat.lt_of_lt_of_le hC (Nat.pow_le_pow_right (by omega) (by omega))), Nat.testBit_lt_two_pow (Nat.lt_of_lt_of_le hP (Nat.pow_le_pow_right (by omega) (by omega)))]
/-- What client j adds to the set C. -/
def dlT (ct : Nat → Int) (j C : Nat) : Int := ct (C + 2 ^ j) - ct C
/-- The sum over all sets that hold P and not j. -/
def stT (ct : Nat → Int) (n j P : Nat) (p : Nat) : Int := sumTo (fun C => if subT n P C = true ∧ C.testBit j = false then facT ((bitsL n C).length - p) * facT (n - 1 - (bitsL n C).length) * dlT ct j C else 0) (2 ^ n)
theorem add_or {C j : Nat} (h : C.testBit j = false) : C + 2 ^ j = C ||| 2 ^ j := by
  have hp : 0 < 2 ^ j := Nat.two_pow_pos j
  obtain ⟨q, hq⟩ : ∃ q, q = C / 2 ^ j := ⟨_, rfl⟩
  obtain ⟨r, hr⟩ : ∃ r, r = C % 2 ^ j := ⟨_, rfl⟩
  have hC : C = 2 ^ j * q + r := by rw [hq, hr]; exact (Nat.div_add_mod C (2 ^ j)).symm
  have hrl : r < 2 ^ j := by rw [hr]; exact Nat.mod_lt _ hp
  have hq2 : q % 2 = 0 := by
    rw [Nat.testBit_eq_decide_div_mod_eq, decide_eq_false_iff_not, ← hq] at h
    omega
  obtain ⟨m, hm⟩ : ∃ m, q = 2 * m := ⟨q / 2, by omega⟩
  have e1 : 2 ^ j * q = 2 ^ (j + 1) * m := by rw [hm, Nat.pow_succ, Nat.mul_assoc]
  have e2 : 2 ^ j * (q + 1) = 2 ^ j * q ||| 2 ^ j := by
    rw [Nat.mul_add, Nat.mul_one, e1]
    exact Nat.two_pow_add_eq_or_of_lt (by rw [Nat.pow_succ]; omega) m
  have e3 : C + 2 ^ j = 2 ^ j * (q + 1) + r := by rw [hC, Nat.mul_add, Nat.mul_one]; omega
  rw [e3, Nat.two_pow_add_eq_or_of_lt hrl, e2, hC, Nat.two_pow_add_eq_or_of_lt hrl, Nat.or_assoc, Nat.or_assoc, Nat.or_comm r]
theorem bag_snoc {O : List Int} (a : Nat) : bagN (O ++ [(a : Int)]) = bagN O ||| 2 ^ a := by
  unfold bagN bagTo
  rw [List.foldl_append]
  simp
theorem sub_snoc {n C : Nat} {O : List Int} {i : Nat} (hi : i < n) : subT n (bagN (O ++ [(i : Int)])) C = true ↔ subT n (bagN O) C = true ∧ C.testBit i = true := by
  rw [subT_iff, subT_iff]
  constructor
  · intro h
    refine ⟨fun k hk hb => h k hk (by rw [bag_snoc, Nat.testBit_or, hb]; rfl), h i hi (by rw [bag_snoc, Nat.testBit_or, Nat.testBit_two_pow]; simp)⟩
  · rintro ⟨h1, h2⟩ k hk hb
    rw [bag_snoc, Nat.testBit_or, Nat.testBit_two_pow, Bool.or_eq_true, decide_eq_true_eq] at hb
    rcases hb with hb | rfl
    · exact h1 k hk hb
    · exact h2
theorem Ord.bag {n : Nat} {O : List Int} (h : Ord n O) : bagN O < 2 ^ n := bagN_lt (fun y hy => h.rg y hy)
theorem Ord.bit {n : Nat} {O : List Int} (h : Ord n O) (i : Nat) : (bagN O).testBit i = decide ((i : Int) ∈ O) := bagN_bit (fun y hy => (h.rg y hy).1) i
theorem fs_eq {ct : Nat → Int} {n j : Nat} (hj : j < n) : ∀ (r : Nat) (O : List Int), Ord n O → O.length + r = n → fsT ct n j r O = if (j : Int) ∈ O then facT r * mgT ct O j O.length else stT ct n j (bagN O) O.length
  | 0, O, h, hl => by rw [if_pos (h.full hl hj)]; show mgT ct O j O.length = 1 * _; omega
  | r + 1, O, h, hl => by
    unfold fsT
    have ih := fun (i : Nat) (hi : i < n) (hO : (i : Int) ∉ O) => fs_eq (ct := ct) hj r (O ++ [(i : Int)]) (h.snoc hi hO) (by rw [List.length_append, List.length_singleton]; omega)
    by_cases hjO : (j : Int) ∈ O
    · rw [if_pos hjO]
      have e : ∀ i, i < n → (if (i : Int) ∈ O then (0 : Int) else fsT ct n j r (O ++ [(i : Int)])) = (if (i : Int) ∈ O then 0 else 1) * (facT r * mgT ct O j O.length) := fun i hi => by
        by_cases hO : (i : Int) ∈ O
        · rw [if_pos hO, if_pos hO]; simp
        · rw [if_neg hO, if_neg hO, ih i hi hO, if_pos (List.mem_append_left _ hjO), List.length_append, List.length_singleton, mgT_top, if_neg (fun e => hO (by rw [e]; exact hjO))]; simp
      rw [sumTo_congr e, sumTo_mulc, cnt_out h]
      show ((n : Int) - O.length) * (facT r * _) = ((r + 1 : Nat) : Int) * facT r * _
      rw [Int.mul_assoc]
      congr 1; omega
    · rw [if_neg hjO]
      have hjb : (bagN O).testBit j = false := by rw [h.bit, decide_eq_false hjO]
      -- the client itself comes next, or another one
      have e : ∀ i, i < n → (if (i : Int) ∈ O then (0 : Int) else fsT ct n j r (O ++ [(i : Int)])) = (if i = j then facT r * dlT ct j (bagN O) else 0) + sumTo (fun C => if subT n (bagN O) C = true ∧ C.testBit j = false then (if C.testBit i = true ∧ (bagN O).testBit i = false then 1 else 0) * (facT ((bitsL n C).length - (O.length + 1)) * facT (n - 1 - (bitsL n C).length) * dlT ct j C) else 0) (2 ^ n) := fun i hi => by
        by_cases hO : (i : Int) ∈ O
        · rw [if_pos hO, if_neg (fun e => hjO (by rw [← e]; exact hO))]
          rw [sumTo_congr (h := fun _ => 0) (fun C _ => by
            rw [h.bit i, decide_eq_true hO]; simp), sumTo_c0]; rfl
        · rw [if_neg hO, ih i hi hO]
          have hib : (bagN O).testBit i = false := by rw [h.bit, decide_eq_false hO]
          by_cases hij : i = j
          · subst hij
            rw [if_pos (List.mem_append_right _ (List.mem_singleton.2 rfl)), if_pos rfl, List.length_append, List.length_singleton, mgT_top, if_pos rfl, mgT_none ct O i hO _ (Nat.le_refl _), bag_snoc, ← add_or hjb]
            rw [sumTo_congr (h := fun _ => 0) (fun C _ => by
              by_cases hc : C.testBit i = true
              · rw [if_neg (fun hh => by rw [hc] at hh; cases hh.2)]
              · by_cases h2 : subT n (bagN O) C = true ∧ C.testBit i = false
                · rw [if_pos h2, if_neg (fun hh => hc hh.1), Int.zero_mul]
                · rw [if_neg h2]), sumTo_c0]
            show facT r * (0 + dlT ct i (bagN O)) = _
            rw [Int.zero_add]; omega
          · have hjn : (j : Int) ∉ O ++ [(i : Int)] := fun hh => by
              rw [List.mem_append, List.mem_singleton] at hh
              rcases hh with hh | hh
              · exact hjO hh
              · omega
            rw [if_neg hjn, if_neg hij, Int.zero_add]
            unfold stT
            refine sumTo_congr (fun C _ => ?_)
            rw [List.length_append, List.length_singleton, hib]
            by_cases h1 : subT n (bagN O) C = true ∧ C.testBit j = false
            · rw [if_pos h1]
              by_cases h2 : C.testBit i = true
              · rw [if_pos ⟨(sub_snoc hi).2 ⟨h1.1, h2⟩, h1.2⟩, if_pos ⟨h2, rfl⟩, Int.one_mul]
              · rw [if_neg (fun hh => h2 ((sub_snoc hi).1 hh.1).2), if_neg (fun hh => h2 hh.1), Int.zero_mul]
            · rw [if_neg h1, if_neg (fun hh => h1 ⟨((sub_snoc hi).1 hh.1).1, hh.2⟩)]
      rw [sumTo_congr e, sumTo_addf, sumTo_swap]
      rw [sumTo_single (g := fun i => if i = j then facT r * dlT ct j (bagN O) else 0) hj (fun i _ hn => if_neg hn), if_pos rfl]
      -- every set is met once for each of its clients that is not in P
      have e2 : ∀ C, C < 2 ^ n → sumTo (fun i => if subT n (bagN O) C = true ∧ C.testBit j = false then (if C.testBit i = true ∧ (bagN O).testBit i = false then 1 else 0) * (facT ((bitsL n C).length - (O.length + 1)) * facT (n - 1 - (bitsL n C).length) * dlT ct j C) else 0) n = (if subT n (bagN O) C = true ∧ C.testBit j = false then facT ((bitsL n C).length - O.length) * facT (n - 1 - (bitsL n C).length) * dlT ct j C else 0) - (if C = bagN O then facT r * dlT ct j (bagN O) else 0) := fun C hC => by
        by_cases h1 : subT n (bagN O) C = true ∧ C.testBit j = false
        · have hd := pc_diff h1.1
          rw [pc_bag h, pc_len] at hd
          rw [sumTo_congr (h := fun i => (if C.testBit i = true ∧ (bagN O).testBit i = false then 1 else 0) * (facT ((bitsL n C).length - (O.length + 1)) * facT (n - 1 - (bitsL n C).length) * dlT ct j C)) (fun i _ => if_pos h1), sumTo_mulc, hd, if_pos h1]
          have hnn := sumTo_nn (g := fun i => if C.testBit i = true ∧ (bagN O).testBit i = false then (1 : Int) else 0) (k := n) (fun i _ => by split <;> omega)
          rw [hd] at hnn
          by_cases hCe : C = bagN O
          · have hlc : ((bitsL n C).length : Int) = O.length := by rw [← pc_len, hCe, pc_bag h]
            have hl2 : (bitsL n C).length = O.length := by omega
            rw [if_pos hCe, hl2, hCe, Nat.sub_self, show n - 1 - O.length = r by omega]
            show ((O.length : Int) - O.length) * _ = 1 * facT r * _ - _
            rw [Int.sub_self, Int.zero_mul, Int.one_mul, Int.sub_self]
          · have hne : (bitsL n C).length ≠ O.length := fun hh => hCe (pc_eq h1.1 h.bag hC (by rw [pc_bag h, pc_len, hh]))
            rw [if_neg hCe, Int.sub_zero]
            obtain ⟨d, hd2⟩ : ∃ d, (bitsL n C).length = O.length + (d + 1) := ⟨(bitsL n C).length - O.length - 1, by omega⟩
            rw [hd2, show O.length + (d + 1) - O.length = d + 1 by omega, show O.length + (d + 1) - (O.length + 1) = d by omega]
            show (((O.length + (d + 1) : Nat) : Int) - O.length) * (facT d * _ * _) = ((d + 1 : Nat) : Int) * facT d * _ * _
            rw [show ((O.length + (d + 1) : Nat) : Int) - O.length = ((d + 1 : Nat) : Int) by omega, Int.mul_assoc, Int.mul_assoc, Int.mul_assoc]
        · rw [if_neg h1, sumTo_congr (h := fun _ => 0) (fun i _ => if_neg h1), sumTo_c0, if_neg (fun hh => h1 ⟨by rw [hh]; exact subT_iff.2 (fun _ _ hb => hb), by rw [hh]; exact hjb⟩)]; rfl
      rw [sumTo_congr e2, sumTo_sub, sumTo_single (g := fun C => if C = bagN O then facT r * dlT ct j (bagN O) else 0) h.bag (fun i _ hn => if_neg hn), if_pos rfl]
      unfold stT
      omega
end Go.Proofs.YtkaammkanapkmaaGreat

namespace Go.Proofs.YtkaammkanapkmaaGreat
open Go.RowKit Go.Sort

/-- A slot of a slice of the call's own: read and written. -/
theorem Own.slot {w : World} {base g n cap j : Nat} {xs : List Int} (h : Own w base (.slice (some ⟨g, 0, none⟩) n cap) xs) (hn : xs.length = n) (hj : j < n) :
    w.cell? ⟨g, j, none⟩ = some (.int .i64 (xs.getD j 0)) ∧ w.frozen? ⟨g, j, none⟩ = false ∧
    ∀ z : Int, Own (w.setCell ⟨g, j, none⟩ (.int .i64 z)) base (.slice (some ⟨g, 0, none⟩) n cap) (xs.set j z) ∧ Turn (fun i => i = g) w (w.setCell ⟨g, j, none⟩ (.int .i64 z)) := by
  have h' : w.ownsRow base 3 1 (.slice (some ⟨g, 0, none⟩) n cap) n (xs.map (Value.int .i64)) := by
    have := h; unfold Own at this; rw [hn] at this; exact this
  refine ⟨?_, h'.frozenAt j, fun z => ?_⟩
  · rw [h'.cellAt j (by omega), List.getElem?_map]
    have : j < xs.length := by omega
    simp [List.getD, this]
  · have hs := h'.stored j (.int .i64 z)
    refine ⟨?_, (Turn.of_grown hs.2).mono (fun i hi => by simpa using hi.symm)⟩
    have h2 := hs.1
    rw [← List.map_set] at h2
    unfold Own
    rw [List.length_set, hn]; exact h2
/-- A slot of a slice of the call's own: read, written, and written while another such slice stays. -/
theorem Own.slotL {w : World} {base g n cap j : Nat} {xs : List Int} (h : Own w base (.slice (some ⟨g, 0, none⟩) n cap) xs) (hn : xs.length = n) (hj : j < n) :
    w.cell? ⟨g, j, none⟩ = some (.int .i64 (lget xs j)) ∧ w.frozen? ⟨g, j, none⟩ = false ∧
    ∀ z : Int, Own (w.setCell ⟨g, j, none⟩ (.int .i64 z)) base (.slice (some ⟨g, 0, none⟩) n cap) (xs.set j z) ∧ Turn (fun i => i = g) w (w.setCell ⟨g, j, none⟩ (.int .i64 z)) := h.slot hn hj
theorem Own.not_block {w w' : World} {base g n cap : Nat} {v : Value} {xs : List Int} (h : Own w base v xs) (ha : Apart v (.slice (some ⟨g, 0, none⟩) n cap)) (ht : Turn (fun i => i = g) w w') : Own w' base v xs :=
  h.turn ht (fun k hk e => ha k hk (by subst e; rfl))
theorem Own.at0 {w : World} {base n : Nat} {v : Value} {xs : List Int} (h : Own w base v xs) (hn : xs.length = n) (hp : 0 < n) : ∃ g cap, v = .slice (some ⟨g, 0, none⟩) n cap := by
  rcases h.2 with ⟨_, h0⟩ | ⟨g, cap, cur, e, _⟩
  · omega
  · exact ⟨g, cap, by rw [e, hn]⟩
def sLen : Value → Nat
  | .slice _ n _ => n
  | _ => 0
theorem own_made (w : World) (base n : Nat) (hb : base ≤ w.heap.size) (hn : n ≤ 1048576) : Own (w.alloc (.cells (madeCells #[.int .i64 0] n) 3)) base (.slice (some ⟨w.heap.size, 0, none⟩) n n) (List.replicate n 0) := by
  have hr : IntRow (w.alloc (.cells (madeCells #[.int .i64 0] n) 3)) w.heap.size (List.replicate n 0) := by
    unfold IntRow
    rw [List.length_replicate]
    exact (World.rowIs_made w (.int .i64 0) n 3).congr (fun i hi => by simp [List.getD, hi])
  have := Own.of_row hr hb (by simp; omega)
  rw [List.length_replicate] at this
  exact this
end Go.Proofs.YtkaammkanapkmaaGreat
