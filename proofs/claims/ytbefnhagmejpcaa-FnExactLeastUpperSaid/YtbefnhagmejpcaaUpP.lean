/- UpperGain: plain words: the marginal gains in falling order, put in one after the other, and sorted. No condition. -/
import Derived.Test.YtbefnhagmejpcaaGrd
namespace Go.Proofs.Ytbefnhagmejpcaa
open Go.RowKit Go.Sort

def insD (m : Int) (L : List Int) : List Int := L.takeWhile (fun x => decide (m ≤ x)) ++ m :: L.dropWhile (fun x => decide (m ≤ x))
theorem insD_at {L : List Int} {m : Int} {k : Nat} (h1 : ∀ x ∈ L.take k, m ≤ x) (h2 : ∀ h : k < L.length, L[k] < m) : insD m L = L.take k ++ m :: L.drop k := by
  have e : L = L.take k ++ L.drop k := (List.take_append_drop k L).symm
  have hd : (L.drop k).takeWhile (fun x => decide (m ≤ x)) = [] ∧ (L.drop k).dropWhile (fun x => decide (m ≤ x)) = L.drop k := by
    by_cases hk : k < L.length
    · have := h2 hk
      rw [List.drop_eq_getElem_cons hk, List.takeWhile_cons, List.dropWhile_cons, if_neg (by simp; omega), if_neg (by simp; omega)]
      exact ⟨rfl, rfl⟩
    · rw [List.drop_eq_nil_of_le (by omega)]; exact ⟨rfl, rfl⟩
  have e1 : L.takeWhile (fun x => decide (m ≤ x)) = L.take k := by
    conv => lhs; rw [e]
    rw [List.takeWhile_append_of_pos (by intro x hx; simpa using h1 x hx), hd.1, List.append_nil]
  have e2 : L.dropWhile (fun x => decide (m ≤ x)) = L.drop k := by
    conv => lhs; rw [e]
    rw [List.dropWhile_append_of_pos (by intro x hx; simpa using h1 x hx), hd.2]
  rw [insD, e1, e2]
theorem insD_perm (m : Int) (L : List Int) : (insD m L).Perm (m :: L) := by
  have h : (insD m L).Perm (m :: (L.takeWhile (fun x => decide (m ≤ x)) ++ L.dropWhile (fun x => decide (m ≤ x)))) := List.perm_middle
  rwa [List.takeWhile_append_dropWhile] at h
theorem insD_len (m : Int) (L : List Int) : (insD m L).length = L.length + 1 := (insD_perm m L).length_eq
theorem insD_drop {m : Int} : ∀ {L : List Int}, L.Pairwise (fun a b => b ≤ a) → ∀ x ∈ L.dropWhile (fun x => decide (m ≤ x)), x < m
  | [], _, x, hx => by simp at hx
  | y :: t, hs, x, hx => by
    rw [List.pairwise_cons] at hs
    rw [List.dropWhile_cons] at hx
    by_cases h : m ≤ y
    · rw [if_pos (by simpa using h)] at hx
      exact insD_drop hs.2 x hx
    · rw [if_neg (by simpa using h)] at hx
      rcases List.mem_cons.1 hx with rfl | hx
      · omega
      · have := hs.1 x hx; omega
theorem insD_take {m : Int} : ∀ {L : List Int}, ∀ x ∈ L.takeWhile (fun x => decide (m ≤ x)), m ≤ x
  | [], x, hx => by simp at hx
  | y :: t, x, hx => by
    rw [List.takeWhile_cons] at hx
    by_cases h : m ≤ y
    · rw [if_pos (by simpa using h)] at hx
      rcases List.mem_cons.1 hx with rfl | hx
      · exact h
      · exact insD_take x hx
    · rw [if_neg (by simpa using h)] at hx
      simp at hx
theorem insD_sorted {m : Int} {L : List Int} (hs : L.Pairwise (fun a b => b ≤ a)) : (insD m L).Pairwise (fun a b => b ≤ a) := by
  unfold insD
  rw [List.pairwise_append, List.pairwise_cons]
  have hd := insD_drop (m := m) hs
  refine ⟨hs.sublist (List.takeWhile_sublist _), ⟨fun x hx => by have := hd x hx; omega, hs.sublist (List.dropWhile_sublist _)⟩, fun x hx y hy => ?_⟩
  have h1 := insD_take x hx
  rcases List.mem_cons.1 hy with rfl | hy
  · exact h1
  · have := hd y hy; omega
def desc (M : List Int) : List Int := M.foldl (fun L m => insD m L) []
theorem desc_snoc (M : List Int) (m : Int) : desc (M ++ [m]) = insD m (desc M) := by rw [desc, List.foldl_append]; rfl
theorem desc_both (M : List Int) : (desc M).Perm M ∧ (desc M).Pairwise (fun a b => b ≤ a) := by
  have key : ∀ (M L : List Int), L.Pairwise (fun a b => b ≤ a) → (M.foldl (fun L m => insD m L) L).Perm (M ++ L) ∧ (M.foldl (fun L m => insD m L) L).Pairwise (fun a b => b ≤ a) := by
    intro M
    induction M with
    | nil => intro L h; exact ⟨List.Perm.refl _, h⟩
    | cons m t ih =>
      intro L h
      have := ih (insD m L) (insD_sorted h)
      refine ⟨this.1.trans ?_, this.2⟩
      exact ((insD_perm m L).append_left t).trans List.perm_middle
  have := key M [] List.Pairwise.nil
  rw [List.append_nil] at this
  exact this
theorem desc_len (M : List Int) : (desc M).length = M.length := (desc_both M).1.length_eq
theorem desc_mem {M : List Int} {x : Int} (h : x ∈ desc M) : x ∈ M := (desc_both M).1.subset h
theorem desc_sort (M : List Int) : (M.mergeSort fun x y => decide (x ≤ y)).reverse = desc M := by
  have h1 := List.pairwise_mergeSort (le := fun (x y : Int) => decide (x ≤ y)) (fun a b c h h' => by simp at *; omega) (fun a b => by simp; omega) M
  have h2 : ((M.mergeSort fun x y => decide (x ≤ y)).reverse).Pairwise (fun a b => b ≤ a) := by
    rw [List.pairwise_reverse]
    exact h1.imp (by intro a b h; simpa using h)
  exact List.Perm.eq_of_pairwise (fun a b _ _ h h' => by omega) h2 (desc_both M).2 (((List.reverse_perm _).trans (List.mergeSort_perm _ _)).trans (desc_both M).1.symm)
/-- The marginal gains of the sites below k that are not in the set. -/
def margsTo (F : Fld) (worth : Int) (S : List Int) (k : Nat) : List Int := ((List.range k).filter fun (a : Nat) => !(S.any fun x => x == (a : Int))).map fun (a : Nat) => moreF F worth S (a : Int)
theorem margs_no {F : Fld} {worth : Int} {S : List Int} {k : Nat} (h : (S.any fun x => x == (k : Int)) = true) : margsTo F worth S (k + 1) = margsTo F worth S k := by
  simp only [margsTo, List.range_succ, List.filter_append, List.map_append]
  rw [show [k].filter (fun (a : Nat) => !(S.any fun x => x == (a : Int))) = [] from by simp [List.filter, h]]
  simp
theorem margs_yes {F : Fld} {worth : Int} {S : List Int} {k : Nat} (h : (S.any fun x => x == (k : Int)) = false) : margsTo F worth S (k + 1) = margsTo F worth S k ++ [moreF F worth S k] := by
  simp only [margsTo, List.range_succ, List.filter_append, List.map_append]
  rw [show [k].filter (fun (a : Nat) => !(S.any fun x => x == (a : Int))) = [k] from by simp [List.filter, h]]
  simp
theorem margs_len (F : Fld) (worth : Int) (S : List Int) (k : Nat) : (margsTo F worth S k).length ≤ k := by
  rw [margsTo, List.length_map]
  exact Nat.le_trans (List.length_filter_le _ _) (by simp)
theorem margs_bd {F : Fld} (hg : goodF F = true) {worth : Int} (h0 : 0 ≤ worth) (h1 : worth ≤ 999) (S : List Int) (k : Nat) : ∀ x ∈ margsTo F worth S k, -6993 ≤ x ∧ x ≤ 6993 := by
  intro x hx
  rw [margsTo, List.mem_map] at hx
  obtain ⟨a, _, rfl⟩ := hx
  exact moreF_bd hg h0 h1 S a
theorem sum_bd {b : Int} : ∀ {L : List Int}, (∀ x ∈ L, -b ≤ x ∧ x ≤ b) → -(L.length * b) ≤ L.sum ∧ L.sum ≤ L.length * b
  | [], _ => by simp
  | x :: t, h => by
    have h1 := sum_bd (L := t) fun y hy => h y (List.mem_cons_of_mem _ hy)
    have h2 := h x (by simp)
    have e : (((x :: t).length : Nat) : Int) * b = t.length * b + b := by rw [List.length_cons, Int.natCast_add, Int.add_mul]; simp
    rw [List.sum_cons, e]; omega
def allM (F : Fld) (worth : Int) (S : List Int) : List Int := desc (margsTo F worth S F.op.length)
theorem allM_facts {F : Fld} (hg : goodF F = true) {worth : Int} (h0 : 0 ≤ worth) (h1 : worth ≤ 999) (S : List Int) : (allM F worth S).length ≤ 7 ∧ (∀ x ∈ allM F worth S, -6993 ≤ x ∧ x ≤ 6993) ∧ ∀ q : Nat, -48951 ≤ ((allM F worth S).take q).sum ∧ ((allM F worth S).take q).sum ≤ 48951 := by
  have h7 := (goodF_iff.1 hg).1.2
  have hl : (allM F worth S).length ≤ 7 := by rw [allM, desc_len]; have := margs_len F worth S F.op.length; omega
  have hm : ∀ x ∈ allM F worth S, -6993 ≤ x ∧ x ≤ 6993 := fun x hx => margs_bd hg h0 h1 S _ x (desc_mem hx)
  refine ⟨hl, hm, fun q => ?_⟩
  have := sum_bd (b := 6993) (L := (allM F worth S).take q) fun x hx => hm x (List.mem_of_mem_take hx)
  have hq : ((allM F worth S).take q).length ≤ 7 := by rw [List.length_take]; omega
  omega
def upF (F : Fld) (worth : Int) (S : List Int) (K : Nat) : Int := gainF F worth S + ((allM F worth S).take K).sum
theorem upF_bd {F : Fld} (hg : goodF F = true) {worth : Int} (h0 : 0 ≤ worth) (h1 : worth ≤ 999) (S : List Int) (K : Nat) : -48951 ≤ upF F worth S K ∧ upF F worth S K ≤ 55944 := by
  have a := gainF_bd hg h0 h1 S
  have b := (allM_facts hg h0 h1 S).2.2 K
  unfold upF; omega
end Go.Proofs.Ytbefnhagmejpcaa
