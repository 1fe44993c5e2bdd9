/- l1Put: a number put into a rising list. No condition. -/
import Derived.Test.YtjoebikljmkhfaaStep2
import Derived.Test.YtjoebikljmkhfaaBits
namespace Go.Proofs.Ytjoebikljmkhfaa
open Go.RowKit Go.Sort

theorem put_has {S : List Int} {a : Int} {k : Nat} (hk : k < S.length) (h : S[k] = a) : putL S a = S := if_pos (h ▸ List.getElem_mem hk)
theorem put_at {S : List Int} {a : Int} {k : Nat} (hs : S.Pairwise (· < ·)) (h1 : ∀ x ∈ S.take k, x < a) (h2 : ∀ h : k < S.length, a < S[k]) : putL S a = S.take k ++ a :: S.drop k := by
  have hd : ∀ x ∈ S.drop k, a < x := by
    intro x hx
    obtain ⟨i, hi, rfl⟩ := List.getElem_of_mem hx
    have hi' : k + i < S.length := by simp at hi; omega
    have hk : k < S.length := by omega
    rw [List.getElem_drop]
    rcases Nat.eq_zero_or_pos i with rfl | hp
    · exact h2 hk
    · exact Int.lt_trans (h2 hk) (List.pairwise_iff_getElem.1 hs k (k + i) hk hi' (by omega))
  have hn : a ∉ S := by
    intro h
    rw [← List.take_append_drop k S, List.mem_append] at h
    rcases h with h | h
    · exact absurd (h1 a h) (by omega)
    · exact absurd (hd a h) (by omega)
  unfold putL
  rw [if_neg hn]
  have hw : S.takeWhile (· < a) = S.take k ∧ S.dropWhile (· < a) = S.drop k := by
    have e : S = S.take k ++ S.drop k := (List.take_append_drop k S).symm
    constructor
    · conv => lhs; rw [e]
      rw [List.takeWhile_append_of_pos (by intro x hx; simpa using h1 x hx)]
      cases hc : S.drop k with
      | nil => simp
      | cons y t => have := hd y (by rw [hc]; simp); rw [List.takeWhile_cons, if_neg (by simp; omega), List.append_nil]
    · conv => lhs; rw [e]
      rw [List.dropWhile_append_of_pos (by intro x hx; simpa using h1 x hx)]
      cases hc : S.drop k with
      | nil => simp
      | cons y t => have := hd y (by rw [hc]; simp); rw [List.dropWhile_cons, if_neg (by simp; omega)]
  rw [hw.1, hw.2]
end Go.Proofs.Ytjoebikljmkhfaa
