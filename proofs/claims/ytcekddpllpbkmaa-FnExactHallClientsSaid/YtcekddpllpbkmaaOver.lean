/- The first set of which something is so, as a loop over all codes finds it. No condition. -/
import Derived.Test.YtcekddpllpbkmaaSets2
namespace Go.Proofs.Ytcekddpllpbkmaa
open Go.RowKit Go.Sort

theorem find_at {l : List (List Int)} {p : List Int → Bool} {k : Nat} (hk : k < l.length) (h1 : ∀ x ∈ l.take k, p x = false) (h2 : p l[k] = true) : l.find? p = some l[k] := by
  have e : l = l.take k ++ l[k] :: l.drop (k + 1) := by rw [List.getElem_cons_drop, List.take_append_drop]
  conv => lhs; rw [e]
  rw [List.find?_append]
  have : (l.take k).find? p = none := List.find?_eq_none.2 (fun x hx => by simp [h1 x hx])
  rw [this, Option.none_or, List.find?_cons_of_pos h2]
theorem find_no {l : List (List Int)} {p : List Int → Bool} (h1 : ∀ x ∈ l, p x = false) : l.find? p = none := List.find?_eq_none.2 (fun x hx => by simp [h1 x hx])
/-- What the reference holds after k codes. -/
def overI (n : Nat) (p : List Int → Bool) (k : Nat) (best : List Int) : Prop :=
  (best = [] ∧ ∀ S ∈ rowsTo n k, p S = false) ∨ (best ∈ rowsTo n k ∧ p best = true ∧ ∀ S ∈ rowsTo n k, p S = true → S = best ∨ befB best S = true)
theorem mem_rows_succ {n k : Nat} {S : List Int} : S ∈ rowsTo n (k + 1) ↔ S ∈ rowsTo n k ∨ S = bitsL n (k + 1) := by rw [rowsTo_succ]; simp
theorem over_zero (n : Nat) (p : List Int → Bool) : overI n p 0 [] := .inl ⟨rfl, fun S h => by simp [rowsTo] at h⟩
theorem over_no {n : Nat} {p : List Int → Bool} {k : Nat} {best : List Int} (h : overI n p k best) (hp : p (bitsL n (k + 1)) = false) : overI n p (k + 1) best := by
  rcases h with ⟨h1, h2⟩ | ⟨h1, h2, h3⟩
  · refine .inl ⟨h1, fun S hS => ?_⟩
    rcases mem_rows_succ.1 hS with hS | rfl
    · exact h2 S hS
    · exact hp
  · refine .inr ⟨mem_rows_succ.2 (.inl h1), h2, fun S hS hpS => ?_⟩
    rcases mem_rows_succ.1 hS with hS | rfl
    · exact h3 S hS hpS
    · rw [hp] at hpS; cases hpS
theorem over_first {n : Nat} {p : List Int → Bool} {k : Nat} (h : overI n p k []) (hne : [] ∉ rowsTo n k) (hp : p (bitsL n (k + 1)) = true) : overI n p (k + 1) (bitsL n (k + 1)) := by
  rcases h with ⟨_, h2⟩ | ⟨h1, _, _⟩
  · refine .inr ⟨mem_rows_succ.2 (.inr rfl), hp, fun S hS hpS => ?_⟩
    rcases mem_rows_succ.1 hS with hS | rfl
    · rw [h2 S hS] at hpS; cases hpS
    · exact .inl rfl
  · exact absurd h1 hne
theorem over_take {n : Nat} {p : List Int → Bool} {k : Nat} {best : List Int} (h : overI n p k best) (hne : best ≠ []) (hp : p (bitsL n (k + 1)) = true) (hb : befB (bitsL n (k + 1)) best = true) : overI n p (k + 1) (bitsL n (k + 1)) := by
  rcases h with ⟨h1, _⟩ | ⟨h1, h2, h3⟩
  · exact absurd h1 hne
  · refine .inr ⟨mem_rows_succ.2 (.inr rfl), hp, fun S hS hpS => ?_⟩
    rcases mem_rows_succ.1 hS with hS | rfl
    · rcases h3 S hS hpS with rfl | h4
      · exact .inr hb
      · exact .inr (befB_trans hb h4)
    · exact .inl rfl
theorem over_keep {n : Nat} {p : List Int → Bool} {k : Nat} {best : List Int} (h : overI n p k best) (hne : best ≠ []) (hb : befB (bitsL n (k + 1)) best = false) : overI n p (k + 1) best := by
  rcases h with ⟨h1, _⟩ | ⟨h1, h2, h3⟩
  · exact absurd h1 hne
  · refine .inr ⟨mem_rows_succ.2 (.inl h1), h2, fun S hS hpS => ?_⟩
    rcases mem_rows_succ.1 hS with hS | rfl
    · exact h3 S hS hpS
    · cases h : befB best (bitsL n (k + 1)) with
      | true => exact .inr rfl
      | false => exact .inl (befB_total hb h)
theorem over_end {n : Nat} {p : List Int → Bool} {best : List Int} (h : overI n p (2 ^ n - 1) best) : best = ((setsL n).find? p).getD [] := by
  rw [overI, ← codesL_to] at h
  have hm := fun S => (setsL_perm n).mem_iff (a := S)
  rcases h with ⟨rfl, h2⟩ | ⟨h1, h2, h3⟩
  · rw [find_no (fun x hx => h2 x ((hm x).1 hx))]; rfl
  · obtain ⟨k, hk, e⟩ := List.getElem_of_mem ((hm best).2 h1)
    rw [find_at hk (fun x hx => ?_) (by rw [e]; exact h2)]
    · exact e.symm
    · cases hpx : p x with
      | false => rfl
      | true =>
        obtain ⟨i, hi, rfl⟩ := List.getElem_of_mem hx
        have hik : i < k := by simp at hi; omega
        rw [List.getElem_take] at hpx
        have hil : i < (setsL n).length := by omega
        have h4 := List.pairwise_iff_getElem.1 (setsL_sorted n) i k hil hk hik
        rcases h3 _ ((hm _).1 (List.getElem_mem hil)) hpx with h5 | h5
        · rw [h5, e, befB_irrefl] at h4; cases h4
        · rw [e] at h4
          have := befB_asymm h4
          rw [h5] at this; cases this
theorem nil_rows {n k : Nat} (hk : k < 2 ^ n) : [] ∉ rowsTo n k := by
  intro h
  obtain ⟨c, hc, e⟩ := rowsTo_mem h
  have h0 : bitsL n 0 = [] := by simp [bitsL, bitsN]
  have := bitsL_inj (by omega) (Nat.two_pow_pos n) (e.symm.trans h0.symm)
  omega
theorem over_no' {n : Nat} {p : List Int → Bool} {b : Nat} {best : List Int} (h1 : 1 ≤ b) (h : overI n p (b - 1) best) (hp : p (bitsL n b) = false) : overI n p (b + 1 - 1) best := by
  have := over_no h (by rw [Nat.sub_add_cancel h1]; exact hp)
  rwa [Nat.sub_add_cancel h1] at this
theorem over_first' {n : Nat} {p : List Int → Bool} {b : Nat} (h1 : 1 ≤ b) (hlt : b < 2 ^ n) (h : overI n p (b - 1) []) (hp : p (bitsL n b) = true) : overI n p (b + 1 - 1) (bitsL n b) := by
  have := over_first h (nil_rows (by omega)) (by rw [Nat.sub_add_cancel h1]; exact hp)
  rwa [Nat.sub_add_cancel h1] at this
theorem over_take' {n : Nat} {p : List Int → Bool} {b : Nat} {best : List Int} (h1 : 1 ≤ b) (h : overI n p (b - 1) best) (hne : best ≠ []) (hp : p (bitsL n b) = true) (hb : befB (bitsL n b) best = true) : overI n p (b + 1 - 1) (bitsL n b) := by
  have := over_take h hne (by rw [Nat.sub_add_cancel h1]; exact hp) (by rw [Nat.sub_add_cancel h1]; exact hb)
  rwa [Nat.sub_add_cancel h1] at this
theorem over_keep' {n : Nat} {p : List Int → Bool} {b : Nat} {best : List Int} (h1 : 1 ≤ b) (h : overI n p (b - 1) best) (hne : best ≠ []) (hb : befB (bitsL n b) best = false) : overI n p (b + 1 - 1) best := by
  have := over_keep h hne (by rw [Nat.sub_add_cancel h1]; exact hb)
  rwa [Nat.sub_add_cancel h1] at this
end Go.Proofs.Ytcekddpllpbkmaa
