/- The follower's best set, in plain Lean. No condition. -/
import Derived.Test.YtcekddpllpbkmaaLists
import Derived.Test.YtcekddpllpbkmaaTaken3
namespace Go.Proofs.Ytcekddpllpbkmaa
open Go.RowKit Go.Sort

def meetB (L S : List Int) : Bool := S.any fun x => L.any fun y => y == x
def negT (F : Fld) (L S : List Int) : Int := if S = [] then 1 else -((takenTo F L S F.di.length).length : Int)
def fp (L : List Int) (k : Int) (S : List Int) : Bool := decide ((S.length : Int) = k) && !meetB L S
def folF (F : Fld) (L : List Int) (k : Int) : List Int := bestL (negT F L) ((setsL F.op.length).filter (fp L k))
def folOk (F : Fld) (L : List Int) (k : Int) : Bool := openedB F L && inB k 1 ((F.op.length : Int) - (L.length : Int))
def folL (F : Fld) (L : List Int) (k : Int) : List Int := if folOk F L k = true then folF F L k else []
theorem folL_yes {F : Fld} {L : List Int} {k : Int} (h : folOk F L k = true) : folL F L k = folF F L k := if_pos h
theorem folL_no {F : Fld} {L : List Int} {k : Int} (h : folOk F L k = false) : folL F L k = [] := if_neg (by simp [h])
theorem negT_nil (F : Fld) (L : List Int) : negT F L [] = 1 := if_pos rfl
theorem negT_not {F : Fld} {L S : List Int} (h : S ≠ []) : negT F L S = -((takenTo F L S F.di.length).length : Int) := if_neg h
theorem len_ne (a : Int) : ∀ Y : List Int, Y.Nodup → Y.length ≤ (Y.filter fun x => !(a == x)).length + 1
  | [], _ => by simp
  | y :: t, h => by
    rw [List.nodup_cons] at h
    by_cases e : a = y
    · have : (t.filter fun x => !(a == x)) = t := by
        rw [List.filter_eq_self]
        intro x hx
        have : a ≠ x := fun e2 => h.1 (e ▸ e2 ▸ hx)
        simp [this]
      have h2 : ((y :: t).filter fun x => !(a == x)) = t := by rw [List.filter_cons_of_neg (by simp [e]), this]
      rw [h2]; simp
    · have h2 : ((y :: t).filter fun x => !(a == x)) = y :: (t.filter fun x => !(a == x)) := List.filter_cons_of_pos (by simp [e])
      rw [h2]
      have := len_ne a t h.2
      simp only [List.length_cons]; omega
theorem len_out (X : List Int) (hX : X.Nodup) : ∀ L : List Int, X.length ≤ (X.filter fun x => !(L.any fun y => y == x)).length + L.length
  | [] => by
    have : (X.filter fun x => !(([] : List Int).any fun y => y == x)) = X := by rw [List.filter_eq_self]; intro x _; rfl
    rw [this]; simp
  | a :: L => by
    have h1 := len_out X hX L
    have h2 := len_ne a (X.filter fun x => !(L.any fun y => y == x)) (hX.filter _)
    have e : (X.filter fun x => !((a :: L).any fun y => y == x)) = ((X.filter fun x => !(L.any fun y => y == x)).filter fun x => !(a == x)) := by
      rw [List.filter_filter]
      congr 1
      funext x
      simp only [List.any_cons, Bool.not_or]
    rw [e]
    simp only [List.length_cons]; omega
def sitesL (n : Nat) : List Int := (List.range n).map fun (x : Nat) => (x : Int)
theorem sites_lt (n : Nat) : (sitesL n).Pairwise (· < ·) := by
  unfold sitesL
  rw [List.pairwise_map]
  exact List.pairwise_lt_range.imp (fun h => by omega)
theorem sites_mem {n : Nat} {x : Int} (h : x ∈ sitesL n) : 0 ≤ x ∧ x ≤ (n : Int) - 1 := by
  unfold sitesL at h
  rw [List.mem_map] at h
  obtain ⟨y, hy, rfl⟩ := h
  rw [List.mem_range] at hy
  omega
theorem fol_some {n : Nat} {L : List Int} {k : Int} (h1 : 1 ≤ k) (h2 : k ≤ (n : Int) - (L.length : Int)) : ∃ S ∈ setsL n, fp L k S = true := by
  obtain ⟨R, hR⟩ : ∃ R, R = (sitesL n).filter fun x => !(L.any fun y => y == x) := ⟨_, rfl⟩
  have hnd : (sitesL n).Nodup := (sites_lt n).imp (fun h => by omega)
  have hl := len_out (sitesL n) hnd L
  rw [← hR, show (sitesL n).length = n from by simp [sitesL]] at hl
  have hlen : (R.take k.toNat).length = k.toNat := by rw [List.length_take]; omega
  have hsub : (R.take k.toNat).Sublist (sitesL n) := (List.take_sublist _ _).trans (hR ▸ List.filter_sublist)
  refine ⟨R.take k.toNat, mem_setsL.2 ⟨?_, ris_iff.2 ⟨(sites_lt n).sublist hsub, fun x hx => sites_mem (hsub.subset hx)⟩⟩, ?_⟩
  · intro e
    rw [e] at hlen
    simp at hlen; omega
  · unfold fp
    rw [Bool.and_eq_true]
    refine ⟨?_, ?_⟩
    · rw [hlen, decide_eq_true_eq]; omega
    · have : meetB L (R.take k.toNat) = false := by
        unfold meetB
        rw [List.any_eq_false]
        intro x hx
        have h3 : x ∈ R := List.mem_of_mem_take hx
        rw [hR, List.mem_filter] at h3
        have h4 := h3.2
        simp only [Bool.not_eq_true'] at h4
        rw [h4]; simp
      rw [this]; rfl
theorem fol_pos {n : Nat} {L : List Int} {k : Int} (h1 : 1 ≤ k) (h2 : k ≤ (n : Int) - (L.length : Int)) : 0 < ((setsL n).filter (fp L k)).length := by
  obtain ⟨S, hS, hp⟩ := fol_some h1 h2
  exact List.length_pos_of_mem (List.mem_filter.2 ⟨hS, hp⟩)
theorem fol_mem {F : Fld} {L : List Int} {k : Int} (h1 : 1 ≤ k) (h2 : k ≤ (F.op.length : Int) - (L.length : Int)) : folF F L k ∈ (setsL F.op.length).filter (fp L k) := bestL_mem (fol_pos h1 h2)
theorem fol_set {F : Fld} {L : List Int} {k : Int} (h1 : 1 ≤ k) (h2 : k ≤ (F.op.length : Int) - (L.length : Int)) : folF F L k ≠ [] ∧ setB F (folF F L k) = true := mem_setsL.1 (List.mem_filter.1 (fol_mem h1 h2)).1
theorem folOk_parts {F : Fld} {L : List Int} {k : Int} (h : folOk F L k = true) : openedB F L = true ∧ 1 ≤ k ∧ k ≤ (F.op.length : Int) - (L.length : Int) := by
  simp only [folOk, inB, Bool.and_eq_true, decide_eq_true_eq] at h
  exact ⟨h.1, h.2⟩
theorem folL_len (F : Fld) (L : List Int) (k : Int) : (folL F L k).length ≤ 1048576 := by
  by_cases h : folOk F L k = true
  · obtain ⟨h0, h1, h2⟩ := folOk_parts h
    rw [folL_yes h]
    have h3 := risB_len (fol_set h1 h2).2
    have h4 := (goodF_iff.1 (openedB_parts h0).1).1.2
    omega
  · rw [folL_no (by simpa using h)]; simp
/-- What a loop over all rows picks, beginning with none: the best of those that pass, if any passes and every row is less than none. -/
def pk0 (p : List Int → Bool) (v : List Int → Int) (rows : List (List Int)) (k : Nat) : List Int := (rows.take k).foldl (fun b s => if p s = true then bestStep v b s else b) []
theorem pk0_zero (p : List Int → Bool) (v : List Int → Int) (rows : List (List Int)) : pk0 p v rows 0 = [] := rfl
theorem pk0_yes {p : List Int → Bool} {v : List Int → Int} {rows : List (List Int)} {k : Nat} (hk : k < rows.length) (h : p rows[k] = true) (h2 : v rows[k] < v (pk0 p v rows k)) : pk0 p v rows (k + 1) = rows[k] := by
  unfold pk0 at *
  rw [List.take_succ_eq_append_getElem hk, List.foldl_append]
  simp only [List.foldl_cons, List.foldl_nil, h, if_true, bestStep]
  exact if_pos h2
theorem pk0_no {p : List Int → Bool} {v : List Int → Int} {rows : List (List Int)} {k : Nat} (hk : k < rows.length) (h : ¬ (p rows[k] = true ∧ v rows[k] < v (pk0 p v rows k))) : pk0 p v rows (k + 1) = pk0 p v rows k := by
  unfold pk0 at *
  rw [List.take_succ_eq_append_getElem hk, List.foldl_append]
  simp only [List.foldl_cons, List.foldl_nil]
  by_cases hp : p rows[k] = true
  · rw [if_pos hp]; unfold bestStep; exact if_neg (fun h2 => h ⟨hp, h2⟩)
  · rw [if_neg hp]
theorem pk0_fil {p : List Int → Bool} {v : List Int → Int} : ∀ (rows : List (List Int)) (b : List Int), rows.foldl (fun b s => if p s = true then bestStep v b s else b) b = (rows.filter p).foldl (bestStep v) b
  | [], _ => rfl
  | s :: t, b => by
    simp only [List.foldl_cons]
    by_cases hp : p s = true
    · rw [if_pos hp, List.filter_cons_of_pos hp, List.foldl_cons, pk0_fil t]
    · rw [if_neg hp, List.filter_cons_of_neg (by simpa using hp), pk0_fil t]
theorem pk0_all {p : List Int → Bool} {v : List Int → Int} {rows : List (List Int)} (h : ∀ s ∈ rows, v s < v []) : pk0 p v rows rows.length = bestL v (rows.filter p) := by
  unfold pk0 bestL
  rw [List.take_length, pk0_fil]
  cases hf : rows.filter p with
  | nil => rfl
  | cons a t =>
    have ha : a ∈ rows := (List.mem_filter.1 (hf ▸ List.mem_cons_self : a ∈ rows.filter p)).1
    have e1 : bestStep v [] a = a := if_pos (h a ha)
    have e2 : bestStep v a a = a := if_neg (by omega)
    simp only [List.getD_cons_zero, List.foldl_cons, e1, e2]
theorem pk0_mem {p : List Int → Bool} {v : List Int → Int} {rows : List (List Int)} : ∀ k, k ≤ rows.length → pk0 p v rows k = [] ∨ pk0 p v rows k ∈ rows
  | 0, _ => .inl rfl
  | k + 1, hk => by
    by_cases h : p (rows[k]'(by omega)) = true ∧ v (rows[k]'(by omega)) < v (pk0 p v rows k)
    · rw [pk0_yes (by omega) h.1 h.2]; exact .inr (List.getElem_mem _)
    · rw [pk0_no (by omega) h]; exact pk0_mem k (by omega)
theorem negT_less {F : Fld} {L S : List Int} (h : S ≠ []) : negT F L S < negT F L [] := by rw [negT_nil, negT_not h]; omega
theorem fol_pick {F : Fld} {L : List Int} {k : Int} : pk0 (fp L k) (negT F L) (setsL F.op.length) (setsL F.op.length).length = folF F L k := pk0_all (fun s hs => negT_less (mem_setsL.1 hs).1)
end Go.Proofs.Ytcekddpllpbkmaa
