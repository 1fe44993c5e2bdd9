/- The play of two firms, in plain Lean; slices.Sort and slices.Reverse of a slice of numbers of the call's own: laid (by layp.py), and what they leave; slices.Values, slices.AppendSeq, slices.Collect and slices.Sorted of ints: a slice of the call's own with what the iterator gives; slices.Clone, slices.Min over lists of integers; A copy of a list: the reference's; Cells that are kept; The clients of the first firm: program and reference. No condition. -/
import Derived.Test.YtblebedejddefaaGreatQAd
import Derived.Test.YtblebedejddefaaGreatQAa
import Derived.Shelf.Sort.Plain
import Derived.Shelf.Slices.Reverse
import Derived.Lib.OwnBridge
import Derived.Lib.AppendIntMem
import Derived.Shelf.Slices.In.SortNone
import Derived.RangeFuncBox
import Derived.RangeFuncLeaves
import Derived.Shelf.Abstract
import Derived.WalkKit
import Derived.OwnWalkIn
import Derived.TacticsInMore
import Derived.LoopNIn
import Derived.LoopIn
import Derived.Maps.AppendAt
import Derived.Test.YtblebedejddefaaGreatQAb
import Derived.WalkSpells
import Derived.Deep.RegionHeld3
namespace Go.Proofs.YtblebedejddefaaGreat
open Go.RowKit Go.Sort

theorem putL_mem {S : List Int} {a x : Int} : x ∈ putL S a ↔ x ∈ S ∨ x = a := by
  unfold putL
  by_cases h : a ∈ S
  · rw [if_pos h]
    exact ⟨.inl, fun h2 => h2.elim id (fun e => e ▸ h)⟩
  · rw [if_neg h, List.mem_append, List.mem_cons]
    have e : x ∈ S ↔ x ∈ S.takeWhile (· < a) ∨ x ∈ S.dropWhile (· < a) := by
      conv => lhs; rw [← List.takeWhile_append_dropWhile (p := fun y => decide (y < a)) (l := S), List.mem_append]
    rw [e]
    constructor
    · rintro (h | h | h)
      · exact .inl (.inl h)
      · exact .inr h
      · exact .inl (.inr h)
    · rintro ((h | h) | h)
      · exact .inl h
      · exact .inr (.inr h)
      · exact .inr (.inl h)
/-- It stands at an even place. -/
def evB (O : List Int) (x : Int) : Bool := (List.range O.length).any fun i => decide (i % 2 = 0) && decide (O.getD i 0 = x)
theorem evB_iff {O : List Int} {x : Int} : evB O x = true ↔ ∃ i, i < O.length ∧ i % 2 = 0 ∧ O.getD i 0 = x := by
  unfold evB
  rw [List.any_eq_true]
  constructor
  · rintro ⟨i, hi, h⟩
    rw [Bool.and_eq_true, decide_eq_true_eq, decide_eq_true_eq] at h
    exact ⟨i, List.mem_range.1 hi, h.1, h.2⟩
  · rintro ⟨i, hi, h1, h2⟩
    exact ⟨i, List.mem_range.2 hi, by rw [Bool.and_eq_true, decide_eq_true_eq, decide_eq_true_eq]; exact ⟨h1, h2⟩⟩
theorem getD_inj {O : List Int} (h : O.Nodup) {i j : Nat} (hi : i < O.length) (hj : j < O.length) (e : O.getD i 0 = O.getD j 0) : i = j := by
  have e1 : O.getD i 0 = O[i] := by simp [List.getD, hi]
  have e2 : O.getD j 0 = O[j] := by simp [List.getD, hj]
  rw [e1, e2] at e
  exact (List.getElem_inj h).1 e
theorem evB_at {O : List Int} (h : O.Nodup) {i : Nat} (hi : i < O.length) : evB O (O.getD i 0) = decide (i % 2 = 0) := by
  by_cases he : i % 2 = 0
  · rw [decide_eq_true he]; exact evB_iff.2 ⟨i, hi, he, rfl⟩
  · rw [decide_eq_false he]
    cases hb : evB O (O.getD i 0) with
    | false => rfl
    | true =>
      obtain ⟨j, hj, h1, h2⟩ := evB_iff.1 hb
      have := getD_inj h hj hi h2
      subst this
      exact absurd h1 he
/-- Two firms have opened sites in turn: the first firm's sites and the second firm's. -/
structure Duel (M : Nat) (O X Y : List Int) : Prop where
  nd : O.Nodup
  rg : ∀ x ∈ O, 0 ≤ x ∧ x < (M : Int)
  sx : X.Pairwise (· < ·)
  sy : Y.Pairwise (· < ·)
  mx : ∀ x, x ∈ X ↔ ∃ i, i < O.length ∧ i % 2 = 0 ∧ O.getD i 0 = x
  my : ∀ x, x ∈ Y ↔ ∃ i, i < O.length ∧ i % 2 = 1 ∧ O.getD i 0 = x
  lx : X.length = (O.length + 1) / 2
  ly : Y.length = O.length / 2
theorem Duel.nil (M : Nat) : Duel M [] [] [] := ⟨List.nodup_nil, by simp, .nil, .nil, by simp, by simp, rfl, rfl⟩
theorem Duel.mem {M : Nat} {O X Y : List Int} (h : Duel M O X Y) {x : Int} : x ∈ O ↔ x ∈ X ∨ x ∈ Y := by
  rw [h.mx, h.my]
  constructor
  · intro hx
    obtain ⟨i, hi, rfl⟩ := List.getElem_of_mem hx
    have e : O.getD i 0 = O[i] := by simp [List.getD, hi]
    rcases Nat.mod_two_eq_zero_or_one i with h0 | h0
    · exact .inl ⟨i, hi, h0, e⟩
    · exact .inr ⟨i, hi, h0, e⟩
  · rintro (⟨i, hi, _, rfl⟩ | ⟨i, hi, _, rfl⟩)
    all_goals
      have e : O.getD i 0 = O[i] := by simp [List.getD, hi]
      rw [e]; exact List.getElem_mem hi
theorem Duel.nds {M : Nat} {O X Y : List Int} (h : Duel M O X Y) {a : Int} (ha : a ∉ O) : (O ++ [a]).Nodup := by
  rw [List.nodup_append]
  refine ⟨h.nd, by simp, fun x hx y hy => ?_⟩
  rw [List.mem_singleton] at hy
  subst hy
  intro e; subst e; exact ha hx
theorem snoc_ex {O : List Int} {a x : Int} {r : Nat} (he : O.length % 2 = r) : (∃ i, i < (O ++ [a]).length ∧ i % 2 = r ∧ (O ++ [a]).getD i 0 = x) ↔ (∃ i, i < O.length ∧ i % 2 = r ∧ O.getD i 0 = x) ∨ x = a := by
  constructor
  · rintro ⟨i, hi, h1, h2⟩
    rw [List.length_append, List.length_singleton] at hi
    by_cases hl : i < O.length
    · exact .inl ⟨i, hl, h1, by rw [← getD_snoc_lt hl]; exact h2⟩
    · obtain rfl : i = O.length := by omega
      rw [getD_snoc_eq] at h2
      exact .inr h2.symm
  · rintro (⟨i, hi, h1, h2⟩ | rfl)
    · exact ⟨i, by rw [List.length_append]; omega, h1, by rw [getD_snoc_lt hi]; exact h2⟩
    · exact ⟨O.length, by simp, he, getD_snoc_eq⟩
theorem snoc_no {O : List Int} {a x : Int} {r : Nat} (he : O.length % 2 ≠ r) : (∃ i, i < (O ++ [a]).length ∧ i % 2 = r ∧ (O ++ [a]).getD i 0 = x) ↔ (∃ i, i < O.length ∧ i % 2 = r ∧ O.getD i 0 = x) := by
  constructor
  · rintro ⟨i, hi, h1, h2⟩
    rw [List.length_append, List.length_singleton] at hi
    by_cases hl : i < O.length
    · exact ⟨i, hl, h1, by rw [← getD_snoc_lt hl]; exact h2⟩
    · obtain rfl : i = O.length := by omega
      exact absurd h1 he
  · rintro ⟨i, hi, h1, h2⟩
    exact ⟨i, by rw [List.length_append]; omega, h1, by rw [getD_snoc_lt hi]; exact h2⟩
theorem Duel.rgs {M : Nat} {O X Y : List Int} (h : Duel M O X Y) {a : Nat} (ha : a < M) : ∀ x ∈ O ++ [(a : Int)], 0 ≤ x ∧ x < (M : Int) := fun x hx => by
  rw [List.mem_append, List.mem_singleton] at hx
  rcases hx with h1 | rfl
  · exact h.rg x h1
  · omega
theorem Duel.one {M : Nat} {O X Y : List Int} (h : Duel M O X Y) {a : Nat} (ha : a < M) (hn : (a : Int) ∉ O) (he : O.length % 2 = 0) : Duel M (O ++ [(a : Int)]) (putL X a) Y := by
  have hnx : (a : Int) ∉ X := fun hx => hn (h.mem.2 (.inl hx))
  refine ⟨h.nds hn, h.rgs ha, putL_sorted h.sx _, h.sy, fun x => ?_, fun x => ?_, ?_, ?_⟩
  · rw [putL_mem, h.mx, snoc_ex he]
  · rw [h.my, snoc_no (by omega)]
  · rw [putL_new hnx, h.lx, List.length_append, List.length_singleton]; omega
  · rw [h.ly, List.length_append, List.length_singleton]; omega
theorem Duel.two {M : Nat} {O X Y : List Int} (h : Duel M O X Y) {a : Nat} (ha : a < M) (hn : (a : Int) ∉ O) (he : O.length % 2 = 1) : Duel M (O ++ [(a : Int)]) X (putL Y a) := by
  have hny : (a : Int) ∉ Y := fun hy => hn (h.mem.2 (.inr hy))
  refine ⟨h.nds hn, h.rgs ha, h.sx, putL_sorted h.sy _, fun x => ?_, fun x => ?_, ?_, ?_⟩
  · rw [h.mx, snoc_no (by omega)]
  · rw [putL_mem, h.my, snoc_ex he]
  · rw [h.lx, List.length_append, List.length_singleton]; omega
  · rw [putL_new hny, h.ly, List.length_append, List.length_singleton]; omega
theorem Duel.same {M : Nat} {O X Y : List Int} (h : Duel M O X Y) : (X.length = Y.length ↔ O.length % 2 = 0) := by
  rw [h.lx, h.ly]; omega
theorem Duel.first {M : Nat} {O X Y : List Int} (h : Duel M O X Y) (x : Int) : (X.any fun y => y == x) = evB O x := by
  rw [Bool.eq_iff_iff, evB_iff, ← h.mx, List.any_eq_true]
  constructor
  · rintro ⟨y, hy, e⟩
    rw [← eq_of_beq e]; exact hy
  · intro hx; exact ⟨x, hx, by simp⟩
theorem Duel.len {M : Nat} {O X Y : List Int} (h : Duel M O X Y) : O.length ≤ M := by
  have hp := nd_len O ((List.range M).map (fun (i : Nat) => (i : Int))) h.nd (fun x hx => by
    have := h.rg x hx
    exact List.mem_map.2 ⟨x.toNat, List.mem_range.2 (by omega), by omega⟩)
  simpa using hp
/-- What stays to be put in: the reference's list of all open sites. -/
theorem putAll_ext {O X Y Z : List Int} {M : Nat} (h : Duel M O X Y) (hz : Z.Pairwise (· < ·)) (hm : ∀ x, x ∈ Z ↔ x ∈ X ∨ x ∈ Y) {W : List Int} (hw : W.Pairwise (· < ·)) (hw2 : ∀ x, x ∈ W ↔ x ∈ O) : Z = W :=
  rising_ext hz hw (fun x => by rw [hm, hw2, h.mem])
def wonTo (F : Fld) (O S : List Int) : Nat → Nat
  | 0 => 0
  | j + 1 => wonTo F O S j + (if evB O (siteF F j S) = true then 1 else 0)
theorem wonTo_le (F : Fld) (O S : List Int) : ∀ j, wonTo F O S j ≤ j
  | 0 => Nat.le_refl _
  | j + 1 => by have := wonTo_le F O S j; unfold wonTo; split <;> omega
/-- All sites that are open, in order. -/
def allO (F : Fld) (O : List Int) : List Int := bitsL F.op.length (bagN O)
def wonV (F : Fld) (O : List Int) : Int := (wonTo F O (allO F O) F.di.length : Int)
def pstep (first : Bool) (st : Int × Int) (a v : Int) : Int × Int := if st.2 < 0 ∨ (first = true ∧ st.1 < v) ∨ (first = false ∧ v < st.1) then (v, a) else st
def evL (O : List Int) : Bool := decide (O.length % 2 = 0)
def playN (F : Fld) : Nat → List Int → Int × Int
  | 0, O => (wonV F O, -1)
  | n + 1, O => (List.range F.op.length).foldl (fun st (a : Nat) => if (a : Int) ∈ O then st else pstep (evL O) st a (playN F n (O ++ [(a : Int)])).1) (0, -1)
def playTo (F : Fld) (n : Nat) (O : List Int) (j : Nat) : Int × Int := (List.range j).foldl (fun st (a : Nat) => if (a : Int) ∈ O then st else pstep (evL O) st a (playN F n (O ++ [(a : Int)])).1) (0, -1)
def pval (F : Fld) (n : Nat) (O : List Int) (a : Nat) : Int := (playN F n (O ++ [(a : Int)])).1
theorem playN_succ (F : Fld) (n : Nat) (O : List Int) : playN F (n + 1) O = playTo F n O F.op.length := rfl
theorem playTo_zero (F : Fld) (n : Nat) (O : List Int) : playTo F n O 0 = (0, -1) := rfl
theorem playTo_succ (F : Fld) (n : Nat) (O : List Int) (j : Nat) : playTo F n O (j + 1) = if (j : Int) ∈ O then playTo F n O j else pstep (evL O) (playTo F n O j) j (pval F n O j) := by
  unfold playTo
  rw [List.range_succ, List.foldl_append]
  rfl
structure PlayI (F : Fld) (n : Nat) (O : List Int) (j : Nat) (st : Int × Int) : Prop where
  none_ : st.2 < 0 → st = (0, -1) ∧ ∀ a, a < j → (a : Int) ∈ O
  some_ : 0 ≤ st.2 → ∃ s : Nat, st.2 = (s : Int) ∧ s < j ∧ (s : Int) ∉ O ∧ st.1 = pval F n O s ∧ (∀ a, a < s → (a : Int) ∉ O → pval F n O a ≠ st.1)
  ext : 0 ≤ st.2 → ∀ a, a < j → (a : Int) ∉ O → (evL O = true → pval F n O a ≤ st.1) ∧ (evL O = false → st.1 ≤ pval F n O a)
theorem play_inv (F : Fld) (n : Nat) (O : List Int) : ∀ j, PlayI F n O j (playTo F n O j)
  | 0 => ⟨fun _ => ⟨rfl, fun a ha => by omega⟩, fun h => absurd h (by rw [playTo_zero]; decide), fun h => absurd h (by rw [playTo_zero]; decide)⟩
  | j + 1 => by
    have ih := play_inv F n O j
    rw [playTo_succ]
    by_cases hO : (j : Int) ∈ O
    · rw [if_pos hO]
      refine ⟨fun h => ⟨(ih.none_ h).1, fun a ha => ?_⟩, fun h => ?_, fun h a ha hn => ?_⟩
      · by_cases e : a = j
        · subst e; exact hO
        · exact (ih.none_ h).2 a (by omega)
      · obtain ⟨s, h1, h2, h3, h4, h5⟩ := ih.some_ h
        exact ⟨s, h1, by omega, h3, h4, h5⟩
      · by_cases e : a = j
        · subst e; exact absurd hO hn
        · exact ih.ext h a (by omega) hn
    · rw [if_neg hO]
      unfold pstep
      by_cases hc : (playTo F n O j).2 < 0 ∨ (evL O = true ∧ (playTo F n O j).1 < pval F n O j) ∨ (evL O = false ∧ pval F n O j < (playTo F n O j).1)
      · rw [if_pos hc]
        have hbefore : ∀ a, a < j → (a : Int) ∉ O → (evL O = true → pval F n O a < pval F n O j) ∧ (evL O = false → pval F n O j < pval F n O a) := fun a ha hn => by
          by_cases h0 : (playTo F n O j).2 < 0
          · exact absurd ((ih.none_ h0).2 a ha) hn
          · have hx := ih.ext (by omega) a ha hn
            rcases hc with h | h | h
            · exact absurd h h0
            · exact ⟨fun e => by have := hx.1 e; omega, fun e => by rw [h.1] at e; cases e⟩
            · exact ⟨fun e => (by rw [h.1] at e; cases e), fun e => by have := hx.2 e; omega⟩
        refine ⟨fun h => absurd h (by show ¬ (j : Int) < 0; omega), fun _ => ⟨j, rfl, by omega, hO, rfl, fun a ha hn => ?_⟩, fun _ a ha hn => ?_⟩
        · have := hbefore a ha hn
          show pval F n O a ≠ pval F n O j
          cases he : evL O
          · have := this.2 he; omega
          · have := this.1 he; omega
        · show (evL O = true → pval F n O a ≤ pval F n O j) ∧ (evL O = false → pval F n O j ≤ pval F n O a)
          by_cases e : a = j
          · subst e; exact ⟨fun _ => Int.le_refl _, fun _ => Int.le_refl _⟩
          · have := hbefore a (by omega) hn
            exact ⟨fun h => by have := this.1 h; omega, fun h => by have := this.2 h; omega⟩
      · rw [if_neg hc]
        have h0 : ¬ (playTo F n O j).2 < 0 := fun h => hc (.inl h)
        refine ⟨fun h => absurd h h0, fun h => ?_, fun h a ha hn => ?_⟩
        · obtain ⟨s, h1, h2, h3, h4, h5⟩ := ih.some_ h
          exact ⟨s, h1, by omega, h3, h4, h5⟩
        · by_cases e : a = j
          · subst e
            exact ⟨fun he => Int.not_lt.1 (fun hlt => hc (.inr (.inl ⟨he, hlt⟩))), fun he => Int.not_lt.1 (fun hlt => hc (.inr (.inr ⟨he, hlt⟩)))⟩
          · exact ih.ext h a (by omega) hn
theorem play_bd (F : Fld) : ∀ (n : Nat) (O : List Int), 0 ≤ (playN F n O).1 ∧ (playN F n O).1 ≤ (F.di.length : Int)
  | 0, O => by have := wonTo_le F O (allO F O) F.di.length; show 0 ≤ wonV F O ∧ wonV F O ≤ _; unfold wonV; omega
  | n + 1, O => by
    rw [playN_succ]
    have h := play_inv F n O F.op.length
    by_cases h0 : (playTo F n O F.op.length).2 < 0
    · rw [(h.none_ h0).1]; show (0 : Int) ≤ 0 ∧ (0 : Int) ≤ _; omega
    · obtain ⟨s, _, _, _, h4, _⟩ := h.some_ (by omega)
      rw [h4]
      exact play_bd F n _
theorem playTo_bd (F : Fld) (n : Nat) (O : List Int) (j : Nat) : 0 ≤ (playTo F n O j).1 ∧ (playTo F n O j).1 ≤ (F.di.length : Int) := by
  have h := play_inv F n O j
  by_cases h0 : (playTo F n O j).2 < 0
  · rw [(h.none_ h0).1]; show (0 : Int) ≤ 0 ∧ (0 : Int) ≤ _; omega
  · obtain ⟨s, _, _, _, h4, _⟩ := h.some_ (by omega)
    rw [h4]
    exact play_bd F n _
/-- Where sites are left, one is opened. -/
theorem free_ex {M : Nat} {O : List Int} (hl : O.length < M) : ∃ a, a < M ∧ (a : Int) ∉ O := Classical.byContradiction (fun hno => by
  have hsub := nd_len ((List.range M).map (fun (i : Nat) => (i : Int))) O (by
    show List.Pairwise (· ≠ ·) _
    rw [List.pairwise_map]
    exact List.pairwise_lt_range.imp (fun h => by omega)) (fun x hx => by
      obtain ⟨a, ha, rfl⟩ := List.mem_map.1 hx
      exact Classical.byContradiction (fun h => hno ⟨a, List.mem_range.1 ha, h⟩))
  simp at hsub
  omega)
theorem play_site (F : Fld) (n : Nat) {O : List Int} (hl : O.length < F.op.length) : ∃ s : Nat, (playN F (n + 1) O).2 = (s : Int) ∧ s < F.op.length ∧ (s : Int) ∉ O ∧ (playN F (n + 1) O).1 = pval F n O s ∧ ∀ a, a < s → (a : Int) ∉ O → pval F n O a ≠ (playN F (n + 1) O).1 := by
  rw [playN_succ]
  have h := play_inv F n O F.op.length
  by_cases h0 : (playTo F n O F.op.length).2 < 0
  · obtain ⟨a, ha, hn⟩ := free_ex hl
    exact absurd ((h.none_ h0).2 a ha) hn
  · exact h.some_ (by omega)
/-- The reference's best so far. -/
def sbest (st : Int × Int) : Int := if st.2 < 0 then -1 else st.1
theorem pstep_yes {first : Bool} {st : Int × Int} {a v : Int} (h : st.2 < 0 ∨ (first = true ∧ st.1 < v) ∨ (first = false ∧ v < st.1)) : pstep first st a v = (v, a) := if_pos h
theorem pstep_no {first : Bool} {st : Int × Int} {a v : Int} (h : ¬ (st.2 < 0 ∨ (first = true ∧ st.1 < v) ∨ (first = false ∧ v < st.1))) : pstep first st a v = st := if_neg h
theorem sbest_new (v : Int) (a : Nat) : sbest (v, (a : Int)) = v := if_neg (by show ¬ (a : Int) < 0; omega)
theorem sbest_neg {st : Int × Int} (h : st.2 < 0) : sbest st = -1 := if_pos h
theorem sbest_pos {st : Int × Int} (h : ¬ st.2 < 0) : sbest st = st.1 := if_neg h
theorem sbest_one {F : Fld} {n : Nat} {O : List Int} {j : Nat} (hj : (j : Int) ∉ O) (he : evL O = true) : sbest (playTo F n O (j + 1)) = max (sbest (playTo F n O j)) (pval F n O j) := by
  rw [playTo_succ, if_neg hj]
  have hv' : 0 ≤ pval F n O j := (play_bd F n (O ++ [(j : Int)])).1
  by_cases h0 : (playTo F n O j).2 < 0
  · rw [pstep_yes (.inl h0), sbest_new, sbest_neg h0]; omega
  · by_cases h1 : (playTo F n O j).1 < pval F n O j
    · rw [pstep_yes (.inr (.inl ⟨he, h1⟩)), sbest_new, sbest_pos h0]; omega
    · rw [pstep_no (fun h => by
        rcases h with h | h | h
        · exact h0 h
        · exact h1 h.2
        · rw [he] at h; cases h.1), sbest_pos h0]; omega
theorem sbest_two {F : Fld} {n : Nat} {O : List Int} {j : Nat} (hj : (j : Int) ∉ O) (he : evL O = false) : sbest (playTo F n O (j + 1)) = if sbest (playTo F n O j) < 0 ∨ pval F n O j < sbest (playTo F n O j) then pval F n O j else sbest (playTo F n O j) := by
  rw [playTo_succ, if_neg hj]
  have hb := (playTo_bd F n O j).1
  by_cases h0 : (playTo F n O j).2 < 0
  · rw [pstep_yes (.inl h0), sbest_new, sbest_neg h0, if_pos (.inl (by omega))]
  · by_cases h1 : pval F n O j < (playTo F n O j).1
    · rw [pstep_yes (.inr (.inr ⟨he, h1⟩)), sbest_new, sbest_pos h0, if_pos (.inr h1)]
    · rw [pstep_no (fun h => by
        rcases h with h | h | h
        · exact h0 h
        · rw [he] at h; cases h.1
        · exact h1 h.2), sbest_pos h0, if_neg (by omega)]
theorem sbest_no {F : Fld} {n : Nat} {O : List Int} {j : Nat} (hj : (j : Int) ∈ O) : sbest (playTo F n O (j + 1)) = sbest (playTo F n O j) := by rw [playTo_succ, if_pos hj]
theorem sbest_end {F : Fld} {n : Nat} {O : List Int} (hl : O.length < F.op.length) : sbest (playTo F n O F.op.length) = (playN F (n + 1) O).1 := by
  obtain ⟨s, h1, _⟩ := play_site F n hl
  rw [← playN_succ]
  unfold sbest
  rw [if_neg (by omega)]
theorem sbest_bd (F : Fld) (n : Nat) (O : List Int) (j : Nat) : -1 ≤ sbest (playTo F n O j) ∧ sbest (playTo F n O j) ≤ (F.di.length : Int) := by
  have := playTo_bd F n O j
  unfold sbest
  split <;> omega
/-- The play: the sites that are opened. -/
def outL (F : Fld) (K : Nat) : Nat → List Int
  | 0 => []
  | i + 1 => outL F K i ++ [(playN F (K - i) (outL F K i)).2]
theorem outL_len (F : Fld) (K : Nat) : ∀ i, (outL F K i).length = i
  | 0 => rfl
  | i + 1 => by unfold outL; rw [List.length_append, outL_len F K i]; rfl
theorem allO_sorted (F : Fld) (O : List Int) : (allO F O).Pairwise (· < ·) := bitsL_sorted _ _
end Go.Proofs.YtblebedejddefaaGreat

namespace Go.Proofs.YtblebedejddefaaGreat
open Go.RowKit Go.Sort Go.Shelf

def sortI_ren : Go.Shelf.Ren := ⟨fun | 189 => 102 | 125 => 97 | 257 => 116 | 128 => 112 | 129 => 113 | 294 => 122 | 295 => 123 | 296 => 124 | 297 => 125 | 298 => 126 | 299 => 127 | 216 => 128 | 300 => 129 | 301 => 130 | 328 => 132 | 329 => 118 | 330 => 119 | 331 => 133 | 332 => 134 | 215 => 114 | 343 => 135 | n => n, fun | 28 => 24 | 3 => 3 | 46 => 73 | 0 => 0 | 51 => 109 | 53 => 54 | 4 => 4 | 183 => 103 | 182 => 102 | 131 => 30 | 5 => 5 | 9 => 9 | 218 => 113 | 222 => 117 | 228 => 124 | 229 => 49 | n => n, fun | n => n⟩
theorem sortI : Go.Proofs.Lays.n189 Tryz.prog sortI_ren := {
  mixed := by kernel_rfl
  f125 := Tryz.func97.trans (congrArg some (by kernel_rfl))
  f128 := Tryz.func112.trans (congrArg some (by kernel_rfl))
  f129 := Tryz.func113.trans (congrArg some (by kernel_rfl))
  f189 := Tryz.func102.trans (congrArg some (by kernel_rfl))
  f215 := Tryz.func114.trans (congrArg some (by kernel_rfl))
  f216 := Tryz.func128.trans (congrArg some (by kernel_rfl))
  f257 := Tryz.func116.trans (congrArg some (by kernel_rfl))
  f294 := Tryz.func122.trans (congrArg some (by kernel_rfl))
  f295 := Tryz.func123.trans (congrArg some (by kernel_rfl))
  f296 := Tryz.func124.trans (congrArg some (by kernel_rfl))
  f297 := Tryz.func125.trans (congrArg some (by kernel_rfl))
  f298 := Tryz.func126.trans (congrArg some (by kernel_rfl))
  f299 := Tryz.func127.trans (congrArg some (by kernel_rfl))
  f300 := Tryz.func129.trans (congrArg some (by kernel_rfl))
  f301 := Tryz.func130.trans (congrArg some (by kernel_rfl))
  f328 := Tryz.func132.trans (congrArg some (by kernel_rfl))
  f329 := Tryz.func118.trans (congrArg some (by kernel_rfl))
  f330 := Tryz.func119.trans (congrArg some (by kernel_rfl))
  f331 := Tryz.func133.trans (congrArg some (by kernel_rfl))
  f332 := Tryz.func134.trans (congrArg some (by kernel_rfl))
  f343 := Tryz.func135.trans (congrArg some (by kernel_rfl))
  t0 := Tryz.underlying0
  a0 := Tryz.isAgg0
  z0 := Tryz.sizeOf0
  v0 := Tryz.zeroValue0
  t3 := Tryz.underlying3
  a3 := Tryz.isAgg3
  z3 := Tryz.sizeOf3
  v3 := Tryz.zeroValue3
  t4 := Tryz.underlying4
  a4 := Tryz.isAgg4
  z4 := Tryz.sizeOf4
  v4 := Tryz.zeroValue4
  t5 := Tryz.underlying5
  a5 := Tryz.isAgg5
  z5 := Tryz.sizeOf5
  v5 := Tryz.zeroValue5
  t9 := Tryz.underlying9
  a9 := Tryz.isAgg9
  z9 := Tryz.sizeOf9
  v9 := Tryz.zeroValue9
  t28 := Tryz.underlying24
  a28 := Tryz.isAgg24
  z28 := Tryz.sizeOf24
  v28 := Tryz.zeroValue24
  t46 := Tryz.underlying73
  a46 := Tryz.isAgg73
  z46 := Tryz.sizeOf73
  v46 := Tryz.zeroValue73
  t51 := Tryz.underlying109
  a51 := Tryz.isAgg109
  z51 := Tryz.sizeOf109
  v51 := Tryz.zeroValue109
  t53 := Tryz.underlying54
  a53 := Tryz.isAgg54
  z53 := Tryz.sizeOf54
  v53 := Tryz.zeroValue54
  t131 := Tryz.underlying30
  a131 := Tryz.isAgg30
  z131 := Tryz.sizeOf30
  v131 := Tryz.zeroValue30
  t182 := Tryz.underlying102
  a182 := Tryz.isAgg102
  z182 := Tryz.sizeOf102
  v182 := Tryz.zeroValue102
  t183 := Tryz.underlying103
  a183 := Tryz.isAgg103
  z183 := Tryz.sizeOf103
  v183 := Tryz.zeroValue103
  t218 := Tryz.underlying113
  a218 := Tryz.isAgg113
  z218 := Tryz.sizeOf113
  v218 := Tryz.zeroValue113
  t222 := Tryz.underlying117
  a222 := Tryz.isAgg117
  z222 := Tryz.sizeOf117
  v222 := Tryz.zeroValue117
  t228 := Tryz.underlying124
  a228 := Tryz.isAgg124
  z228 := Tryz.sizeOf124
  v228 := Tryz.zeroValue124
  t229 := Tryz.underlying49
  a229 := Tryz.isAgg49
  z229 := Tryz.sizeOf49
  v229 := Tryz.zeroValue49 }
theorem turn_put {w : World} {g q : Nat} (d : Array Int) (os : Array Obj) : Turn (fun i => i = g) w (grow (putRow (Value.int .i64) (Sort.ahead w q) g 0 d) os) :=
  ⟨rfl, rfl, rfl, by simp, fun i hi hn => by
    rw [heap_grow_old _ _ (by simpa using hi)]
    simp [putRow, mapBlock, Sort.ahead, Array.getElem?_modify, Ne.symm hn]⟩
theorem own_put {w : World} {base g cap q : Nat} {xs ys : List Int} (h : Own w base (.slice (some ⟨g, 0, none⟩) xs.length cap) xs) (hy : ys.length = xs.length) (os : Array Obj) :
    Own (grow (putRow (Value.int .i64) (Sort.ahead w q) g 0 ys.toArray) os) base (.slice (some ⟨g, 0, none⟩) xs.length cap) ys := by
  have h3 := Lib.ownsRow_putRow (q := q) (k := xs.length) (ys := ys) h hy (Nat.le_refl _)
  rw [List.take_of_length_le (by omega)] at h3
  have h4 := Lib.ownsRow_grow h3 0 os
  unfold Own
  rw [hy]
  exact h4
theorem own_holds {w : World} {base g cap : Nat} {xs : List Int} (h : Own w base (.slice (some ⟨g, 0, none⟩) xs.length cap) xs) : Holds (Value.int .i64) w g 0 xs.toArray ∧ g < w.heap.size := by
  obtain ⟨g2, cap2, e2, _, hlt, _, _, _, hH⟩ := Lib.holds_of_ownsRow h (by simp)
  simp only [Value.slice.injEq, Option.some.injEq, Addr.mk.injEq] at e2
  obtain ⟨⟨rfl, _, _⟩, _, rfl⟩ := e2
  exact ⟨hH, hlt⟩
theorem sortInts_any (base g cap n : Nat) (xs : List Int) (w : World) (h : Own w base (.slice (some ⟨g, 0, none⟩) n cap) xs) (hn : xs.length = n) (hl : n ≤ 1000000) :
    Calls Tryz.prog 102 #[.slice (some ⟨g, 0, none⟩) n cap] w fun e w' => e = .returned (.tuple #[]) ∧ Own w' base (.slice (some ⟨g, 0, none⟩) n cap) (xs.mergeSort fun x y => decide (x ≤ y)) ∧ Turn (fun i => i = g) w w' := by
  subst hn
  obtain ⟨hH, hlt⟩ := own_holds h
  refine Calls.mono (Any.slices_Sort_int sortI g 0 cap xs w hH hlt (by omega)) ?_
  rintro e w' ⟨rfl, q, os, rfl⟩
  exact ⟨rfl, own_put h (by simp) os, turn_put _ os⟩
end Go.Proofs.YtblebedejddefaaGreat

namespace Go.Proofs.YtblebedejddefaaGreat
open Go.RowKit Go.Sort Go.Shelf

attribute [local go_sem] Oper.semAt_some

theorem lt_some2 {w : World} {p : Addr} (h : (w.cell? p).isSome = true) : p.block < w.heap.size := by
  obtain ⟨v, e⟩ := Option.isSome_iff_exists.1 h
  exact World.block_lt_of_cell? _ _ e
set_option maxRecDepth 100000 in
set_option maxHeartbeats 4000000 in
/-- What has come when k rounds are over. -/
def uptoL (zs : List Int) (k : Nat) : List Int := zs.take k
theorem uptoL_succ {zs : List Int} {k : Nat} (h : k < zs.length) : uptoL zs (k + 1) = uptoL zs k ++ [zs[k]?.getD 0] := by
  unfold uptoL
  rw [List.take_succ_eq_append_getElem h]
  simp [h]
theorem uptoL_len {zs : List Int} {k : Nat} (h : k ≤ zs.length) : (uptoL zs k).length = k := by simp [uptoL, h]

set_option maxRecDepth 100000 in
set_option maxHeartbeats 2000000 in
/-- The closure of slices.Values, for every loop body that keeps what lay below n₀. -/
theorem values1_in (F : Fence) (n : Nat) (h7 : F.fn 103) (hro : F.round = none) (hn : 1 ≤ n) (l Bs n₀ len cap : Nat) (A : Option Addr) (zs : List Int) (hz : zs.length = len) (hreach : len ≤ 1000000) (J Jx : List Int → World → Prop)
    (hY : ∀ pre x W, J pre W → pre.length < len → YieldAt F (n - 1) Tryz.prog l #[.int .i64 x] W fun e W' =>
      (e = .returned (.bool true) ∧ J (pre ++ [x]) W' ∧ Below n₀ W W') ∨ (e = .returned (.bool false) ∧ Jx (pre ++ [x]) W'))
    (W : World) (hBs : W.cell? ⟨Bs, 0, none⟩ = some (.slice A len cap)) (hc : ∀ j, j < len → ∃ ad, A = some ad ∧ (ad.add j).block < n₀ ∧ W.cell? (ad.add j) = some (.int .i64 (zs[j]?.getD 0))) (h0 : J [] W) :
    CallsIn F n Tryz.prog 103 #[.func (.yield l) #[] #[], .pointer (some ⟨Bs, 0, none⟩)] W fun e W' => (∃ v, e = .returned v) ∧
      ((∃ ys, ys = zs ∧ J ys W') ∨ (∃ pre, pre <+: zs ∧ Jx pre W')) := by
  refine callsIn_of_wp Tryz.func103 rfl h7 ?_ hro
  simp only [Tryz.ntmps103, List.size_toArray, List.length_cons, List.length_nil, Nat.reduceAdd, Nat.reduceSub, Array.replicate_succ, Array.replicate_zero, List.push_toArray, List.append_toArray, List.nil_append, List.cons_append]
  have Hz := Lib.hid hz
  clear hz
  gi_wp2
  gi_loopw [7] (fun i wr => ∃ k : Nat, k ≤ len ∧ i = .int .i64 k ∧ J (uptoL zs k) wr ∧ Below n₀ W wr)
    (fun i _ => len - (intOf i).toNat)
  case atStart => exact ⟨0, Nat.zero_le _, rfl, h0, Below.refl _ _⟩
  case round =>
    obtain ⟨k, hk, rfl, hJs, hnx⟩ := hrel
    by_cases hlt : k < len
    · obtain ⟨ad, rfl, hb, hck⟩ := hc k hlt
      have hcx : wr.cell? (ad.add k) = some (.int .i64 (zs[k]?.getD 0)) := (hnx.cell (p := ad.add k) hb).trans hck
      obtain ⟨fn, tmps, assign, body, hy, hR⟩ := hY _ (zs[k]?.getD 0) wr hJs (by rw [uptoL_len (by rw [Hz.out]; exact hk)]; exact hlt)
      have Hk := Lib.hid (uptoL_succ (zs := zs) (k := k) (by rw [Hz.out]; exact hlt))
      clear hc hck
      gi_wp2
      refine hR.mono ?_
      rintro e W3 (⟨rfl, hJ3, hk3⟩ | ⟨rfl, hJx3⟩)
      · gi_wp2
        go_roundw
        case rel => exact ⟨k + 1, by omega, by go_num, by rw [Hk.out]; exact hJ3, hnx.trans hk3⟩
        case measure => simp [intOf]; omega
      · gi_wp2
        refine bodyPost_ret (results_none rfl _ _ _) rfl ?_
        exact ⟨⟨_, rfl⟩, .inr ⟨_, by rw [← Hk.out]; exact List.take_prefix _ _, hJx3⟩⟩
    · obtain rfl : k = len := by omega
      clear hc
      gi_wp2
      go_end0
      exact ⟨⟨_, rfl⟩, .inl ⟨_, by unfold uptoL; rw [List.take_of_length_le (by rw [Hz.out]; exact Nat.le_refl _)], hJs⟩⟩

/-- slices.Values hands back a value that gives all numbers, in order. -/
theorem values_stops (F : Fence) (n : Nat) (h7 : F.fn 103) (hro : F.round = none) (hn : 1 ≤ n) (Bs : Nat) (A : Option Addr) (len cap : Nat) (zs : List Int) (hz : zs.length = len) (hreach : len ≤ 1000000) (w : World) (hBs : Bs < w.heap.size)
    (hc : w.cell? ⟨Bs, 0, none⟩ = some (.slice A len cap)) (hI : IntsAt w A zs) :
    SeqStopsK F n Tryz.prog 103 #[.pointer (some ⟨Bs, 0, none⟩)] (fun x : Int => #[Value.int .i64 x]) (Below w.heap.size) (fun ys => ys = zs) (fun pre => pre <+: zs) len w := fun l J Jx W hW _ _ hY h0 =>
  values1_in F n h7 hro hn l Bs w.heap.size len cap A zs hz hreach J Jx hY W ((hW.cell (p := ⟨Bs, 0, none⟩) hBs).trans hc) (fun j hj => by
    obtain ⟨ad, rfl, h⟩ := hI.at_ (k := j) (by rw [hz]; exact hj)
    have hlt := lt_some2 (by rw [h]; rfl)
    exact ⟨ad, rfl, hlt, (hW.cell (p := ad.add j) hlt).trans (by rw [h]; simp [show j < zs.length by omega])⟩) h0
set_option maxHeartbeats 1000000 in
theorem values_any (A : Option Addr) (n c : Nat) (w : World) :
    Calls Tryz.prog 88 #[.slice A n c] w fun e w' => e = .returned (.func (.func 103) #[] #[.pointer (some ⟨w.heap.size, 0, none⟩)]) ∧ w' = w.alloc (.cells #[.slice A n c] 24) := by
  have hmf : ∀ (fn : Fn) (first cap : Array Value) (w : World), (Instr.makeFunc fn first cap).run Tryz.prog w = .ok (.func fn first cap) w := fun _ _ _ _ => rfl
  go_enter Tryz.func88, Tryz.ntmps88
  go_wp2_with fail
  go_ret
  exact ⟨rfl, rfl⟩
set_option maxRecDepth 100000 in
set_option maxHeartbeats 2000000 in
theorem appendSeq_any (Bs : Nat) (A : Option Addr) (len cap : Nat) (zs : List Int) (hz : zs.length = len) (hreach : len ≤ 1000000) (w : World) (hc : w.cell? ⟨Bs, 0, none⟩ = some (.slice A len cap)) (hI : IntsAt w A zs) :
    Calls Tryz.prog 115 #[.slice none 0 0, .func (.func 103) #[] #[.pointer (some ⟨Bs, 0, none⟩)]] w fun e w' => ∃ v, e = .returned v ∧ Own w' w.heap.size v zs ∧ (v = .slice none 0 0 ↔ zs = []) ∧ Kp w w' := by
  refine (callsIn_wide (n := 9)).1 ?_
  have hBs : Bs < w.heap.size := lt_some2 (by rw [hc]; rfl)
  obtain ⟨i0, hi, hz0, hz1, hz2⟩ := info_parts infoInt
  refine callsIn_of_wp_marks Tryz.func115 rfl trivial ?_ rfl
  simp only [Tryz.ntmps115, List.size_toArray, List.length_cons, List.length_nil, Nat.reduceAdd, Nat.reduceSub, Array.replicate_succ, Array.replicate_zero, List.push_toArray, List.append_toArray, List.nil_append, List.cons_append]
  gi_wp2
  have bO := Boxed.new w 24 (.slice none 0 0)
  have hB0 : Below w.heap.size w (w.alloc (.cells #[.slice none 0 0] 24)) := (Below.refl _ w).alloc (Nat.le_refl _) _
  refine wpIn_rangeFunc_ownG rfl (by omega) (gf := 103) (lb := #[.pointer (some ⟨Bs, 0, none⟩)]) rfl trivial (enters_of Tryz.func103 (by kernel_rfl) rfl)
    (values_stops Fence.wide (9 - 1) trivial rfl (by omega) Bs A len cap zs hz hreach w hBs hc hI) belowK_t (belowK_b (by simp)) hB0 (fun _ => rfl)
    (fun pre W => (∃ v, Boxed W w.heap.size 24 v ∧ W.ownsRow w.heap.size 3 1 v pre.length (pre.map (Value.int .i64)) ∧ (v = .slice none 0 0 ↔ pre = [])) ∧ Below w.heap.size w W)
    (fun _ _ _ => False)
    (OwnFrom.and (Own.from (holdsRow_own w.heap.size w.heap.size 24 3 1 (fun pre => pre.length) (fun pre => pre.map (Value.int .i64)) (fun pre v => v = .slice none 0 0 ↔ pre = [])) _) (ownFrom_below (Nat.le_refl _) (by simp)))
    (fun _ _ _ _ _ hs _ _ => hs)
    ⟨⟨_, bO, World.ownsRow_nil _ _ _ _, by simp⟩, hB0⟩
    (fun x => { tmps := #[.slice none 0 0, .func (.func 103) #[] #[.pointer (some ⟨Bs, 0, none⟩)], .pointer (some ⟨w.heap.size, 0, none⟩), undef, .slice none 0 0, .int .i64 x, .func (.func 103) #[] #[.pointer (some ⟨Bs, 0, none⟩)], .int .i64 x, undef, undef, undef, undef, undef], defers := [] }) ?assign ?body ?done ?stop
  case assign =>
    intro l x W K hK
    gi_wp2
    exact hK
  case body =>
    rintro l pre x W ⟨⟨v, hv, hrow, hnil⟩, hB⟩ hlt
    have hc := hv.cell
    gi_wp2_with (gi_at_builtin; refine wpListIn_append_own _ rfl _ _ 24 rfl w.heap.size 3 i0 (.int .i64 0) 1 8 Tryz.underlying24 hi hz0 hz1 hz2 rfl (by decide) _ _ _ rfl (hrow.alloc _) ⟨W.heap.size, 0, none⟩ 1 1 [.int .i64 x] rfl rfl (cell_one_new _ _ _) (by simp [Value.oneCell']) (by unfold maxLen; omega) (by omega) (by have := hB.size; simp; omega) ?_; intro v' w1 hown' hgrow _; obtain ⟨g', cap', rfl⟩ := ownsRow_succ hown'; obtain ⟨hv1, hv2, hr2, hk2, hb2⟩ := hv.appended (by decide) hrow hB.size (Nat.le_refl _) hown' hgrow; have hc1 := hv1.cell; have hf1 := hv1.frozen)
    exact ⟨hk2.from _, hb2, ⟨_, hv2, by simpa using hr2, by simp⟩, hB.trans hb2⟩
  case done =>
    rintro D ys W hD rfl ⟨⟨v, hv, hrow, hnil⟩, hB⟩ hK
    have hc := hv.cell
    gi_wp2
    refine ⟨by simp, .inl ⟨_, _, rfl, run_takeDeferred hK, ?_⟩⟩
    exact ⟨_, results_tmp rfl _ _ _, v, rfl, ownsRow_putObj hrow _ hK rfl, hnil, hB.trans (belowK_b (w := w) (Nat.le_refl _) W D _ _ (by simp at hD; omega) hK rfl rfl)⟩
  case stop =>
    rintro D c pre W _ _ h _
    exact h.elim
set_option maxHeartbeats 1000000 in
theorem collect_any (Bs : Nat) (A : Option Addr) (len cap : Nat) (zs : List Int) (hz : zs.length = len) (hreach : len ≤ 1000000) (w : World) (hc : w.cell? ⟨Bs, 0, none⟩ = some (.slice A len cap)) (hI : IntsAt w A zs) :
    Calls Tryz.prog 101 #[.func (.func 103) #[] #[.pointer (some ⟨Bs, 0, none⟩)]] w fun e w' => ∃ v, e = .returned v ∧ Own w' w.heap.size v zs ∧ (v = .slice none 0 0 ↔ zs = []) ∧ Kp w w' := by
  have CC := Lib.hid (appendSeq_any Bs A len cap zs hz hreach w hc hI)
  clear hc hI hz
  go_enter Tryz.func101, Tryz.ntmps101
  go_wp2_with fail
  with_reducible refine Calls.mono CC.out ?_
  rintro e w' ⟨v, rfl, ho, hn, hk⟩
  clear CC
  go_wp2_with fail
  go_ret
  exact ⟨v, rfl, ho, hn, hk⟩
def srtL (xs : List Int) : List Int := xs.mergeSort fun x y => decide (x ≤ y)
set_option maxHeartbeats 1000000 in
/-- slices.Sorted over slices.Values: a slice of the call's own with the numbers in ascending order. -/
theorem sorted_any (Bs : Nat) (A : Option Addr) (len cap : Nat) (zs : List Int) (hz : zs.length = len) (hreach : len ≤ 1000000) (w : World) (hc : w.cell? ⟨Bs, 0, none⟩ = some (.slice A len cap)) (hI : IntsAt w A zs) :
    Calls Tryz.prog 87 #[.func (.func 103) #[] #[.pointer (some ⟨Bs, 0, none⟩)]] w fun e w' => ∃ v, e = .returned v ∧ Own w' w.heap.size v (srtL zs) ∧ Kp w w' := by
  have CC := Lib.hid (collect_any Bs A len cap zs hz hreach w hc hI)
  have Hz := Lib.hid hz
  clear hc hI hz
  go_enter Tryz.func87, Tryz.ntmps87
  go_wp2_with fail
  with_reducible refine Calls.mono CC.out ?_
  rintro e w' ⟨v, rfl, ho, hn, hk⟩
  clear CC
  by_cases hne : zs = []
  · have hv := hn.2 hne
    subst hne hv
    have CC := Lib.hid (show Calls Tryz.prog 102 #[.slice none 0 0] w' (fun e w'' => e = .returned (.tuple #[]) ∧ w'' = w') from Any.slices_Sort_int_none sortI none 0 w')
    go_wp2_with fail
    with_reducible refine Calls.mono CC.out ?_
    rintro e w2 ⟨rfl, rfl⟩
    clear CC
    go_wp2_with fail
    go_ret
    exact ⟨_, rfl, by simpa [srtL] using ho, hk⟩
  · rcases id ho.2 with ⟨_, h0⟩ | ⟨g, cap2, cur, rfl, hg, hrest⟩
    · exact absurd (List.eq_nil_of_length_eq_zero h0) hne
    · have CC := Lib.hid (sortInts_any w.heap.size g cap2 zs.length zs w' ho rfl (by rw [Hz.out]; exact hreach))
      clear hrest
      go_wp2_with fail
      with_reducible refine Calls.mono CC.out ?_
      rintro e w2 ⟨rfl, ho2, ht⟩
      clear CC
      go_wp2_with fail
      go_ret
      refine ⟨_, rfl, ?_, ?_⟩
      · unfold Own at ho2 ⊢
        have : (srtL zs).length = zs.length := by unfold srtL; simp
        exact ho2
      · exact Own.kp_turn ho hk (Nat.le_refl _) (ht.mono (fun i e => by subst e; rfl))
end Go.Proofs.YtblebedejddefaaGreat

namespace Go.Proofs.YtblebedejddefaaGreat
open Go.RowKit Go.Sort

/-- append of a whole list of numbers to a slice of the call's own. -/
theorem wpl_appAll {ops : Array Oper} {rest : List Oper} {o : Oper} {a : Act} {Q : Exit → Act → World → Prop} {W : World} (hgd : o.guard = none) (s x : Operand)
    (ho : o.op = .call { callee := .builtin .append, args := #[s, x], argTypes := #[24, 24] }) (base : Nat) (v : Value) (xs ys : List Int) (ad : Addr) (m c : Nat)
    (hs : a.eval s = v) (hx : a.eval x = .slice (some ad) m c) (hown : Own W base v xs) (hy : IntsAt W (some ad) ys) (hym : ys.length = m) (hbase : base ≤ W.heap.size) (hlen : xs.length + ys.length ≤ 4194304)
    (h : ∀ v' w', Own w' base v' (xs ++ ys) → Turn (fun i => v.ownBlock = some i) W w' → (v'.ownBlock = v.ownBlock ∨ ∀ g, v'.ownBlock = some g → W.heap.size ≤ g) → wpList Tryz.prog ops Q rest (a.put o.dst v') w') :
    wpList Tryz.prog ops Q (o :: rest) a W := by
  obtain ⟨i0, hi, hz0, hz1, hz2⟩ := info_parts infoInt
  refine wpList_append_own_at _ hgd s x 24 ho base 3 i0 (.int .i64 0) 1 8 Tryz.underlying24 hi hz0 hz1 hz2 rfl (by decide) v xs.length (xs.map (Value.int .i64)) hs hown ad m c (ys.map (Value.int .i64)) hx (by simp [hym]) ?_ (ints_oneCell _ _) ?_ ?_ hbase ?_
  · intro j u hj
    by_cases hlt : j < ys.length
    · rw [List.getElem?_map, List.getElem?_eq_getElem hlt] at hj
      have e : u = .int .i64 ys[j] := by simpa using hj.symm
      rw [e]; exact hy.some_ hlt
    · rw [List.getElem?_eq_none (by simpa using hlt)] at hj; cases hj
  · unfold maxLen; omega
  · omega
  · intro v' w' h2 h3 _ h4
    refine h v' w' ?_ (Turn.of_grown h3) ?_
    · unfold Own
      rw [List.length_append, List.map_append, hym]
      exact h2
    · rcases h4 with e | e
      · exact .inl e
      · exact .inr (fun g hg => by rw [e] at hg; simp at hg; omega)

theorem clone_some (ad : Addr) (xs : List Int) (n c : Nat) (w : World) (hx : IntsAt w (some ad) xs) (hn : xs.length = n) (hb : n ≤ 1048576) :
    Calls Tryz.prog 59 #[.slice (some ad) n c] w fun e w' => ∃ v, e = .returned v ∧ Own w' w.heap.size v xs ∧ Kp w w' := by
  have Hn := Lib.hid hn; clear hn
  have hq := fun (w : World) (a : Option Addr) (n c : Nat) => Lib.run_eql_slice_nil (P := Tryz.prog) w 24 3 a n c 0 0 Tryz.underlying24
  have hlen : ([] : List Int).length + xs.length ≤ 4194304 := by rw [Hn.out]; simp; omega
  have ho0 := own_new0 w w.heap.size (Nat.le_refl _)
  have hk0 := (Kp.refl w).alloc (.cells #[] 3)
  go_enter Tryz.func59, Tryz.ntmps59
  go_wp2_with (at_builtin; refine wpl_appAll rfl (.tmp 5) (.tmp 6) rfl w.heap.size _ [] xs ad n c rfl rfl ho0 (hx.kp hk0) Hn.out hk0.le hlen ?_; intro v' w' ho' ht' _; have hk4 := ho0.kp_turn hk0 (Nat.le_refl _) ht')
  go_ret
  exact ⟨_, rfl, by simpa using ho', hk4⟩

end Go.Proofs.YtblebedejddefaaGreat

namespace Go.Proofs.YtblebedejddefaaGreat
open Go.RowKit Go.Sort

set_option maxHeartbeats 400000 in
/-- A copy of the call's own. -/
theorem l1Own_any (ad : Addr) (xs : List Int) (n c : Nat) (w : World) (hx : IntsAt w (some ad) xs) (hn : xs.length = n) (hb : n ≤ 1048576) :
    Calls Tryz.prog 46 #[.slice (some ad) n c] w fun e w' => ∃ v, e = .returned v ∧ Own w' w.heap.size v xs ∧ Kp w w' := by
  have Hn := Lib.hid hn; clear hn
  have hlen : ([] : List Int).length + xs.length ≤ 4194304 := by rw [Hn.out]; simp; omega
  have ho0 := own_new0 w w.heap.size (Nat.le_refl _)
  have hk0 := (Kp.refl w).alloc (.cells #[] 3)
  go_enter Tryz.func46, Tryz.ntmps46
  go_wp2_with (at_builtin; refine wpl_appAll rfl (.tmp 3) (.tmp 4) rfl w.heap.size _ [] xs ad n c rfl rfl ho0 (hx.kp hk0) Hn.out hk0.le hlen ?_; intro v' w' ho' ht' _; have hk4 := ho0.kp_turn hk0 (Nat.le_refl _) ht')
  go_ret
  exact ⟨_, rfl, by simpa using ho', hk4⟩
end Go.Proofs.YtblebedejddefaaGreat

namespace Go.Proofs.YtblebedejddefaaGreat
open Go.RowKit

theorem keepc1 {wv w' : World} {p : Addr} {a : Value} (h1 : wv.cell? p = some a) (h : Kp wv w') : w'.cell? p = some a ∧ Kp wv w' := ⟨h.get h1, h⟩
theorem keepc2 {wv w' : World} {p q : Addr} {a b : Value} (h1 : wv.cell? p = some a) (h2 : wv.cell? q = some b) (h : Kp wv w') : w'.cell? p = some a ∧ w'.cell? q = some b ∧ Kp wv w' := ⟨h.get h1, h.get h2, h⟩
theorem keepc3 {wv w' : World} {p q r : Addr} {a b c : Value} (h1 : wv.cell? p = some a) (h2 : wv.cell? q = some b) (h3 : wv.cell? r = some c) (h : Kp wv w') : w'.cell? p = some a ∧ w'.cell? q = some b ∧ w'.cell? r = some c ∧ Kp wv w' := ⟨h.get h1, h.get h2, h.get h3, h⟩
theorem keepc4 {wv w' : World} {p q r s : Addr} {a b c d : Value} (h1 : wv.cell? p = some a) (h2 : wv.cell? q = some b) (h3 : wv.cell? r = some c) (h4 : wv.cell? s = some d) (h : Kp wv w') : w'.cell? p = some a ∧ w'.cell? q = some b ∧ w'.cell? r = some c ∧ w'.cell? s = some d ∧ Kp wv w' := ⟨h.get h1, h.get h2, h.get h3, h.get h4, h⟩
theorem keepc5 {wv w' : World} {p q r s t : Addr} {a b c d e : Value} (h1 : wv.cell? p = some a) (h2 : wv.cell? q = some b) (h3 : wv.cell? r = some c) (h4 : wv.cell? s = some d) (h5 : wv.cell? t = some e) (h : Kp wv w') : w'.cell? p = some a ∧ w'.cell? q = some b ∧ w'.cell? r = some c ∧ w'.cell? s = some d ∧ w'.cell? t = some e ∧ Kp wv w' := ⟨h.get h1, h.get h2, h.get h3, h.get h4, h.get h5, h⟩
theorem keepc6 {wv w' : World} {p q r s t u : Addr} {a b c d e f : Value} (h1 : wv.cell? p = some a) (h2 : wv.cell? q = some b) (h3 : wv.cell? r = some c) (h4 : wv.cell? s = some d) (h5 : wv.cell? t = some e) (h6 : wv.cell? u = some f) (h : Kp wv w') : w'.cell? p = some a ∧ w'.cell? q = some b ∧ w'.cell? r = some c ∧ w'.cell? s = some d ∧ w'.cell? t = some e ∧ w'.cell? u = some f ∧ Kp wv w' := ⟨h.get h1, h.get h2, h.get h3, h.get h4, h.get h5, h.get h6, h⟩
theorem keepc7 {wv w' : World} {p0 p1 p2 p3 p4 p5 p6 : Addr} {v0 v1 v2 v3 v4 v5 v6 : Value} (h0 : wv.cell? p0 = some v0) (h1 : wv.cell? p1 = some v1) (h2 : wv.cell? p2 = some v2) (h3 : wv.cell? p3 = some v3) (h4 : wv.cell? p4 = some v4) (h5 : wv.cell? p5 = some v5) (h6 : wv.cell? p6 = some v6) (h : Kp wv w') : w'.cell? p0 = some v0 ∧ w'.cell? p1 = some v1 ∧ w'.cell? p2 = some v2 ∧ w'.cell? p3 = some v3 ∧ w'.cell? p4 = some v4 ∧ w'.cell? p5 = some v5 ∧ w'.cell? p6 = some v6 ∧ Kp wv w' := ⟨h.get h0, h.get h1, h.get h2, h.get h3, h.get h4, h.get h5, h.get h6, h⟩
theorem keepc8 {wv w' : World} {p0 p1 p2 p3 p4 p5 p6 p7 : Addr} {v0 v1 v2 v3 v4 v5 v6 v7 : Value} (h0 : wv.cell? p0 = some v0) (h1 : wv.cell? p1 = some v1) (h2 : wv.cell? p2 = some v2) (h3 : wv.cell? p3 = some v3) (h4 : wv.cell? p4 = some v4) (h5 : wv.cell? p5 = some v5) (h6 : wv.cell? p6 = some v6) (h7 : wv.cell? p7 = some v7) (h : Kp wv w') : w'.cell? p0 = some v0 ∧ w'.cell? p1 = some v1 ∧ w'.cell? p2 = some v2 ∧ w'.cell? p3 = some v3 ∧ w'.cell? p4 = some v4 ∧ w'.cell? p5 = some v5 ∧ w'.cell? p6 = some v6 ∧ w'.cell? p7 = some v7 ∧ Kp wv w' := ⟨h.get h0, h.get h1, h.get h2, h.get h3, h.get h4, h.get h5, h.get h6, h.get h7, h⟩
theorem keepc9 {wv w' : World} {p0 p1 p2 p3 p4 p5 p6 p7 p8 : Addr} {v0 v1 v2 v3 v4 v5 v6 v7 v8 : Value} (h0 : wv.cell? p0 = some v0) (h1 : wv.cell? p1 = some v1) (h2 : wv.cell? p2 = some v2) (h3 : wv.cell? p3 = some v3) (h4 : wv.cell? p4 = some v4) (h5 : wv.cell? p5 = some v5) (h6 : wv.cell? p6 = some v6) (h7 : wv.cell? p7 = some v7) (h8 : wv.cell? p8 = some v8) (h : Kp wv w') : w'.cell? p0 = some v0 ∧ w'.cell? p1 = some v1 ∧ w'.cell? p2 = some v2 ∧ w'.cell? p3 = some v3 ∧ w'.cell? p4 = some v4 ∧ w'.cell? p5 = some v5 ∧ w'.cell? p6 = some v6 ∧ w'.cell? p7 = some v7 ∧ w'.cell? p8 = some v8 ∧ Kp wv w' := ⟨h.get h0, h.get h1, h.get h2, h.get h3, h.get h4, h.get h5, h.get h6, h.get h7, h.get h8, h⟩
theorem keepc10 {wv w' : World} {p0 p1 p2 p3 p4 p5 p6 p7 p8 p9 : Addr} {v0 v1 v2 v3 v4 v5 v6 v7 v8 v9 : Value} (h0 : wv.cell? p0 = some v0) (h1 : wv.cell? p1 = some v1) (h2 : wv.cell? p2 = some v2) (h3 : wv.cell? p3 = some v3) (h4 : wv.cell? p4 = some v4) (h5 : wv.cell? p5 = some v5) (h6 : wv.cell? p6 = some v6) (h7 : wv.cell? p7 = some v7) (h8 : wv.cell? p8 = some v8) (h9 : wv.cell? p9 = some v9) (h : Kp wv w') : w'.cell? p0 = some v0 ∧ w'.cell? p1 = some v1 ∧ w'.cell? p2 = some v2 ∧ w'.cell? p3 = some v3 ∧ w'.cell? p4 = some v4 ∧ w'.cell? p5 = some v5 ∧ w'.cell? p6 = some v6 ∧ w'.cell? p7 = some v7 ∧ w'.cell? p8 = some v8 ∧ w'.cell? p9 = some v9 ∧ Kp wv w' := ⟨h.get h0, h.get h1, h.get h2, h.get h3, h.get h4, h.get h5, h.get h6, h.get h7, h.get h8, h.get h9, h⟩
end Go.Proofs.YtblebedejddefaaGreat

namespace Go.Proofs.YtblebedejddefaaGreat
open Go.RowKit Go.Sort

theorem allO_mem {F : Fld} {O X Y : List Int} (h : Duel F.op.length O X Y) (x : Int) : x ∈ allO F O ↔ x ∈ O := by
  unfold allO
  rw [mem_bitsL]
  constructor
  · rintro ⟨h0, h1, h2⟩
    rw [bagN_bit (fun y hy => (h.rg y hy).1), decide_eq_true_eq] at h2
    rwa [show ((x.toNat : Nat) : Int) = x by omega] at h2
  · intro hx
    have := h.rg x hx
    refine ⟨this.1, this.2, ?_⟩
    rw [bagN_bit (fun y hy => (h.rg y hy).1), decide_eq_true_eq, show ((x.toNat : Nat) : Int) = x by omega]
    exact hx
theorem allO_set {F : Fld} {O X Y : List Int} (h : Duel F.op.length O X Y) : setB F (allO F O) = true :=
  ris_iff.2 ⟨allO_sorted F O, fun x hx => by have := h.rg x ((allO_mem h x).1 hx); omega⟩
theorem allO_ne {F : Fld} {O X Y : List Int} (h : Duel F.op.length O X Y) (hne : O ≠ []) : allO F O ≠ [] := fun e => by
  obtain ⟨x, hx⟩ := List.exists_mem_of_ne_nil _ hne
  have := (allO_mem h x).2 hx
  rw [e] at this; cases this
theorem srtL_allO {F : Fld} {O X Y : List Int} (h : Duel F.op.length O X Y) : srtL O = allO F O := by
  refine rising_ext ?_ (allO_sorted F O) (fun x => ?_)
  · have hs : (srtL O).Pairwise (fun a b => decide (a ≤ b) = true) := List.pairwise_mergeSort (fun a b c h1 h2 => by simp at h1 h2 ⊢; omega) (fun a b => by simp; omega) O
    have hn : (srtL O).Nodup := (List.mergeSort_perm O _).nodup_iff.2 h.nd
    exact (hs.and hn).imp (fun hab => by have h1 := hab.1; have h2 := hab.2; simp at h1; omega)
  · rw [allO_mem h]
    exact (List.mergeSort_perm O _).mem_iff
def duelB (F : Fld) (k : Int) : Bool := goodF F && inB k 1 ((F.op.length : Int) / 2)
set_option maxHeartbeats 400000 in
theorem isDuel_any (f : Value) (F : Fld) (k : Int) (w : World) (hf : FldAt w f F) :
    Calls Tryz.prog 24 #[f, .int .i64 k] w fun e w' => e = .returned (.bool (duelB F k)) ∧ Kp w w' := by
  obtain ⟨A, c, B, d, rfl, hA, hB⟩ := hf
  have hk0 : Kp w (w.alloc (.cells #[.slice A F.op.length c, .slice B F.di.length d] 27)) := (Kp.refl w).alloc _
  obtain ⟨d0, d1⟩ := box2 w (.slice A F.op.length c) (.slice B F.di.length d) 27
  have hFA := FldAt.kp (show FldAt w (.agg #[.slice A F.op.length c, .slice B F.di.length d]) F from ⟨A, c, B, d, rfl, hA, hB⟩) hk0
  clear hA hB
  have CC := Lib.hid (isField_any _ F _ hFA)
  go_enter Tryz.func24, Tryz.ntmps24
  go_wp2_with fail
  have hsz : Hid ((w.alloc (.cells #[.slice A F.op.length c, .slice B F.di.length d] 27)).heap.size = w.heap.size + 1) := by show _ = _; simp
  generalize w.alloc (.cells #[.slice A F.op.length c, .slice B F.di.length d] 27) = wb at *
  have hkb : Kp wb wb := Kp.refl _
  have hkw := hk0
  with_reducible refine Calls.mono CC.out ?_
  rintro e w1 ⟨rfl, hk1⟩
  clear CC
  replace hkb := hkb.trans hk1
  cases hg_ : goodF F
  · have Hno : Hid (duelB F k = false) := by show _ = _; rw [duelB, hg_]; rfl
    clear hg_
    have q_d0 := hkb.get d0
    have q_d1 := hkb.get d1
    go_wp2_with fail
    go_ret
    exact ⟨by rw [Hno.out]; rfl, hkw.trans hkb⟩
  have Hg := Lib.hid hg_; clear hg_
  have hg7 := (goodF_iff.1 Hg.out).1.2
  have htd : (F.op.length : Int).tdiv 2 = ((F.op.length : Int) / 2) := by exact Int.tdiv_eq_ediv_of_nonneg (by omega)
  have hwr : IntKind.i64.wrap ((F.op.length : Int) / 2) = ((F.op.length : Int) / 2) := IntWalk.i64_in _ (by omega)
  have q_d0 := hkb.get d0
  have q_d1 := hkb.get d1
  go_wp2_with fail
  have CC := Lib.hid (between_any k 1 ((F.op.length : Int) / 2) w1)
  with_reducible refine Calls.mono CC.out ?_
  rintro e w2 ⟨rfl, rfl⟩
  clear CC
  have He : Hid (duelB F k = inB k 1 ((F.op.length : Int) / 2)) := by show _ = _; rw [duelB, Hg.out, Bool.true_and]
  clear q_d0 q_d1
  have q_d0 := hkb.get d0
  have q_d1 := hkb.get d1
  go_wp2_with fail
  go_ret
  exact ⟨by rw [He.out]; rfl, hkw.trans hkb⟩
set_option maxHeartbeats 400000 in
theorem l9Firms_any (f : Value) (F : Fld) (k : Int) (w : World) (hf : FldAt w f F) :
    Calls Tryz.prog 26 #[f, .int .i64 k] w fun e w' => e = .returned (.bool (duelB F k)) ∧ Kp w w' := by
  obtain ⟨A, c, B, d, rfl, hA, hB⟩ := hf
  have hk0 : Kp w (w.alloc (.cells #[.slice A F.op.length c, .slice B F.di.length d] 27)) := (Kp.refl w).alloc _
  obtain ⟨d0, d1⟩ := box2 w (.slice A F.op.length c) (.slice B F.di.length d) 27
  have hFA := FldAt.kp (show FldAt w (.agg #[.slice A F.op.length c, .slice B F.di.length d]) F from ⟨A, c, B, d, rfl, hA, hB⟩) hk0
  clear hA hB
  have CC := Lib.hid (l2Good_any _ F _ hFA)
  go_enter Tryz.func26, Tryz.ntmps26
  go_wp2_with fail
  have hsz : Hid ((w.alloc (.cells #[.slice A F.op.length c, .slice B F.di.length d] 27)).heap.size = w.heap.size + 1) := by show _ = _; simp
  generalize w.alloc (.cells #[.slice A F.op.length c, .slice B F.di.length d] 27) = wb at *
  have hkb : Kp wb wb := Kp.refl _
  have hkw := hk0
  with_reducible refine Calls.mono CC.out ?_
  rintro e w1 ⟨rfl, hk1⟩
  clear CC
  replace hkb := hkb.trans hk1
  cases hg_ : goodF F
  · have Hno : Hid (duelB F k = false) := by show _ = _; rw [duelB, hg_]; rfl
    clear hg_
    have q_d0 := hkb.get d0
    have q_d1 := hkb.get d1
    go_wp2_with fail
    go_ret
    exact ⟨by rw [Hno.out]; rfl, hkw.trans hkb⟩
  have Hg := Lib.hid hg_; clear hg_
  have hg7 := (goodF_iff.1 Hg.out).1.2
  have htd : (F.op.length : Int).tdiv 2 = ((F.op.length : Int) / 2) := by exact Int.tdiv_eq_ediv_of_nonneg (by omega)
  have hwr : IntKind.i64.wrap ((F.op.length : Int) / 2) = ((F.op.length : Int) / 2) := IntWalk.i64_in _ (by omega)
  have q_d0 := hkb.get d0
  have q_d1 := hkb.get d1
  go_wp2_with fail
  have CC := Lib.hid (l1In_any k 1 ((F.op.length : Int) / 2) w1)
  with_reducible refine Calls.mono CC.out ?_
  rintro e w2 ⟨rfl, rfl⟩
  clear CC
  have He : Hid (duelB F k = inB k 1 ((F.op.length : Int) / 2)) := by show _ = _; rw [duelB, Hg.out, Bool.true_and]
  clear q_d0 q_d1
  have q_d0 := hkb.get d0
  have q_d1 := hkb.get d1
  go_wp2_with fail
  go_ret
  exact ⟨by rw [He.out]; rfl, hkw.trans hkb⟩
set_option maxRecDepth 100000 in
set_option maxHeartbeats 1000000 in
theorem won_any (f : Value) (F : Fld) (A0 : Option Addr) (O X Y : List Int) (n c0 : Nat) (w : World) (hf : FldAt w f F) (hO : IntsAt w A0 O) (hn : O.length = n) (hg : goodF F = true) (hd : Duel F.op.length O X Y) (hne : O ≠ []) :
    Calls Tryz.prog 57 #[f, .slice A0 n c0] w fun e w' => e = .returned (.int .i64 (wonV F O)) ∧ Kp w w' := by
  obtain ⟨A, c, B, d, rfl, hA, hB⟩ := hf
  have hk0 : Kp w (w.alloc (.cells #[.slice A F.op.length c, .slice B F.di.length d] 27)) := (Kp.refl w).alloc _
  obtain ⟨d0, d1⟩ := box2 w (.slice A F.op.length c) (.slice B F.di.length d) 27
  have hFA := FldAt.kp (show FldAt w (.agg #[.slice A F.op.length c, .slice B F.di.length d]) F from ⟨A, c, B, d, rfl, hA, hB⟩) hk0
  have hO0 := hO.kp hk0
  have Hn := Lib.hid hn
  have HD := Lib.hid hd
  have HS := Lib.hid (allO_set hd)
  have HE := Lib.hid (allO_ne hd hne)
  have HG := Lib.hid hg
  have h7 := (goodF_iff.1 hg).1.2
  have h8 := (goodF_iff.1 hg).2.2.1
  have hO7 : n ≤ 7 := by have := hd.len; omega
  have Hsl := Lib.hid (srtL_allO hd)
  clear hA hB hO hn hd hne hg
  go_enter Tryz.func57, Tryz.ntmps57
  go_wp2_with fail
  have hsz : Hid ((w.alloc (.cells #[.slice A F.op.length c, .slice B F.di.length d] 27)).heap.size = w.heap.size + 1) := by show _ = _; simp
  generalize w.alloc (.cells #[.slice A F.op.length c, .slice B F.di.length d] 27) = wb at *
  have hkb : Kp wb wb := Kp.refl _
  have hkw := hk0
  have CC := Lib.hid (values_any A0 n c0 wb)
  with_reducible refine Calls.mono CC.out ?_
  rintro e w9 ⟨rfl, rfl⟩
  clear CC
  have hkv : Kp wb (wb.alloc (.cells #[.slice A0 n c0] 24)) := (Kp.refl wb).alloc _
  have hcv : (wb.alloc (.cells #[.slice A0 n c0] 24)).cell? ⟨wb.heap.size, 0, none⟩ = some (.slice A0 n c0) := by rw [World.cell?_alloc_at _ _ _ _ rfl]; rfl
  generalize wb.alloc (.cells #[.slice A0 n c0] 24) = wv at *
  replace hkb := hkb.trans hkv
  have q_d0 := hkb.get d0
  have q_d1 := hkb.get d1
  go_wp2_with fail
  have CC := Lib.hid (sorted_any wb.heap.size A0 n c0 O Hn.out (by omega) wv hcv (hO0.kp hkb))
  with_reducible refine Calls.mono CC.out ?_
  rintro e w1 ⟨v, rfl, hov, hk1⟩
  clear CC q_d0 q_d1
  replace hkb := hkb.trans hk1
  rw [Hsl.out] at hov
  obtain ⟨Av, cv, rfl, hvi⟩ := hov.ints (by have := bitsL_len F.op.length (bagN O); unfold allO; omega)
  clear hov hcv hkv
  have q_d0 := hkb.get d0
  have q_d1 := hkb.get d1
  go_wp2_with fail
  have CC := Lib.hid (served_any _ F Av (allO F O) _ cv _ (hFA.kp hkb) hvi rfl HG.out HS.out HE.out)
  with_reducible refine Calls.mono CC.out ?_
  rintro e w2 ⟨u, rfl, hou, hk2⟩
  clear CC q_d0 q_d1
  replace hkb := hkb.trans hk2
  have hml := mapTo_len (fun i => siteF F i (allO F O)) F.di.length
  obtain ⟨Au, cu, rfl, hui⟩ := hou.ints (by omega)
  rw [hml]
  clear hou hvi
  have hOl := hO0.kp hkb
  have hkl := hkw.trans hkb
  obtain ⟨wl, rfl⟩ : ∃ wl : World, wl = w2 := ⟨_, rfl⟩
  clear hkb d0 d1 hk0 hO0
  go_wp2_with fail
  go_loopw [6, 16] (fun mv iv wr => ∃ j : Nat, j ≤ F.di.length ∧ iv = .int .i64 j ∧ mv = .int .i64 (wonTo F O (allO F O) j : Int) ∧ wr = wl) (fun _ iv _ => F.di.length - (intOf iv).toNat)
  case atStart => exact ⟨0, by omega, rfl, rfl, rfl⟩
  case round =>
    obtain ⟨j, hj, rfl, rfl, rfl⟩ := hrel
    by_cases hlt : j < F.di.length
    · have lx : j < (mapTo (fun i => siteF F i (allO F O)) F.di.length).length := by rw [hml]; exact hlt
      obtain ⟨ad, rfl, hcj⟩ := hui.at_ lx
      rw [mapTo_get hlt] at hcj
      have hsm := siteF_mem (F := F) (i := j) HE.out
      have hsO := (allO_mem HD.out _).1 hsm
      have hwl := wonTo_le F O (allO F O) j
      have Hws : Hid (wonTo F O (allO F O) (j + 1) = wonTo F O (allO F O) j + (if evB O (siteF F j (allO F O)) = true then 1 else 0)) := Lib.hid rfl
      obtain ⟨sv, Hsv⟩ : ∃ z, Hid (siteF F j (allO F O) = z) := ⟨_, Lib.hid rfl⟩
      rw [Hsv.out] at hcj hsO Hws
      clear hsm
      have HsO := Lib.hid hsO
      clear hsO
      go_wp2_with fail
      have CC := Lib.hid (index_any A0 O n c0 sv wr hOl Hn.out)
      with_reducible refine Calls.mono CC.out ?_
      rintro e w5 ⟨r, rfl, hr0, hrr, hw5⟩
      obtain rfl := hw5
      clear CC
      have hr1 : 0 ≤ r := by
        have : (O.any fun x => x == sv) = true := List.any_eq_true.2 ⟨sv, HsO.out, by simp⟩
        rw [this] at hr0
        simpa using hr0
      obtain ⟨hrn, hrg, _⟩ := hrr hr1
      obtain ⟨q, rfl⟩ := Int.eq_ofNat_of_zero_le hr1
      rw [Int.toNat_natCast] at hrg
      have hev : Hid (evB O sv = decide (q % 2 = 0)) := by show _ = _; rw [← hrg]; exact evB_at HD.out.nd (by rw [Hn.out]; omega)
      have htm : (q : Int).tmod 2 = ((q % 2 : Nat) : Int) := by rw [Int.tmod_eq_emod_of_nonneg (by omega)]; omega
      clear hr0 hrr hrg hr1
      by_cases he : q % 2 = 0
      · have h0 : (((q % 2 : Nat) : Int) == 0) = true := by rw [he]; rfl
        rw [hev.out, decide_eq_true he, if_pos rfl] at Hws
        have hwr : IntKind.i64.wrap ((wonTo F O (allO F O) j : Int) + 1) = ((wonTo F O (allO F O) j + 1 : Nat) : Int) := by rw [IntWalk.i64_in _ (by omega)]; omega
        clear he
        go_wp2_with fail
        go_roundw
        case rel => exact ⟨j + 1, by omega, by go_num, by rw [Hws.out, Int.natCast_add]; rfl, trivial⟩
        case measure => simp [intOf]; omega
      · have h0 : (((q % 2 : Nat) : Int) == 0) = false := by rw [show q % 2 = 1 by omega]; rfl
        rw [hev.out, decide_eq_false he, if_neg (by decide)] at Hws
        clear he
        go_wp2_with fail
        go_roundw
        case rel => exact ⟨j + 1, by omega, by go_num, by rw [Hws.out, Nat.add_zero], trivial⟩
        case measure => simp [intOf]; omega
    · obtain rfl : j = F.di.length := by omega
      go_wp2_with fail
      go_ret
      exact ⟨rfl, hkl⟩
end Go.Proofs.YtblebedejddefaaGreat
