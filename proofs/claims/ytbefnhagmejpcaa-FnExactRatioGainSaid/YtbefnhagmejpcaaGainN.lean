/- The gain of a set goes by its members alone; more sites, no less gain. No condition. -/
import Derived.Test.YtbefnhagmejpcaaGrd
namespace Go.Proofs.Ytbefnhagmejpcaa
open Go.RowKit Go.Sort

theorem fold_min {F : Fld} {i : Nat} : ∀ (L : List Int) (b : Int), dAt F i (L.foldl (stepS F i) b) ≤ dAt F i b ∧ ∀ a ∈ L, dAt F i (L.foldl (stepS F i) b) ≤ dAt F i a
  | [], b => ⟨Int.le_refl _, by simp⟩
  | x :: L, b => by
    have h := fold_min (F := F) (i := i) L (stepS F i b x)
    have hb : dAt F i (stepS F i b x) ≤ dAt F i b ∧ dAt F i (stepS F i b x) ≤ dAt F i x := by
      unfold stepS; split <;> constructor <;> omega
    refine ⟨Int.le_trans h.1 hb.1, fun a ha => ?_⟩
    rcases List.mem_cons.1 ha with rfl | ha
    · exact Int.le_trans h.1 hb.2
    · exact h.2 a ha
/-- What a client is worth for a set, 0 for the set without sites. -/
def topF (F : Fld) (worth : Int) (S : List Int) (i : Nat) : Int := if S = [] then 0 else gainAt F worth S i
theorem gainF_top (F : Fld) (worth : Int) (S : List Int) : gainF F worth S = sumTo (topF F worth S) F.di.length := by
  by_cases h : S = []
  · subst h
    rw [gainF_nil]
    have : ∀ k, sumTo (topF F worth []) k = 0 := fun k => by
      induction k with
      | zero => rfl
      | succ k ih => rw [sumTo_succ, ih]; simp [topF]
    exact (this _).symm
  · rw [gainF_cons h]
    have : topF F worth S = gainAt F worth S := by funext i; simp [topF, h]
    rw [this]
theorem near_le {F : Fld} {i : Nat} {S : List Int} {x : Int} (hx : x ∈ S) : nearF F i S ≤ dAt F i x := by
  cases S with
  | nil => cases hx
  | cons y t =>
    have h := fold_min (F := F) (i := i) (y :: t) y
    exact h.2 x hx
theorem near_is {F : Fld} {i : Nat} {S : List Int} (hne : S ≠ []) : ∃ x ∈ S, nearF F i S = dAt F i x := ⟨siteF F i S, siteF_mem hne, rfl⟩
theorem top_le {F : Fld} {worth c : Int} {S : List Int} {i : Nat} : topF F worth S i ≤ c ↔ (S = [] → 0 ≤ c) ∧ (S ≠ [] → 0 ≤ c) ∧ ∀ x ∈ S, worth - dAt F i x ≤ c := by
  by_cases h : S = []
  · subst h
    simp [topF]
  · have e : topF F worth S i = max 0 (worth - nearF F i S) := by simp [topF, h, gainAt]
    rw [e]
    constructor
    · intro h1
      refine ⟨fun h2 => absurd h2 h, fun _ => by omega, fun x hx => ?_⟩
      have := near_le (F := F) (i := i) hx
      omega
    · rintro ⟨_, h2, h3⟩
      obtain ⟨x, hx, e2⟩ := near_is (F := F) (i := i) h
      have := h3 x hx
      have := h2 h
      omega
theorem top_le' {F : Fld} {worth c : Int} {S : List Int} {i : Nat} (h0 : 0 ≤ c) (h : ∀ x ∈ S, worth - dAt F i x ≤ c) : topF F worth S i ≤ c := top_le.2 ⟨fun _ => h0, fun _ => h0, h⟩
theorem top_nn (F : Fld) (worth : Int) (S : List Int) (i : Nat) : 0 ≤ topF F worth S i := by
  by_cases h : S = []
  · simp [topF, h]
  · simp [topF, h, gainAt]; omega
theorem le_top {F : Fld} {worth : Int} {S : List Int} {i : Nat} {x : Int} (hx : x ∈ S) : worth - dAt F i x ≤ topF F worth S i := (top_le.1 (Int.le_refl _)).2.2 x hx
theorem top_mono {F : Fld} {worth : Int} {S T : List Int} (h : ∀ x ∈ S, x ∈ T) (i : Nat) : topF F worth S i ≤ topF F worth T i :=
  top_le' (top_nn _ _ _ _) (fun x hx => le_top (h x hx))
theorem sumTo_mono {g h : Nat → Int} (e : ∀ i, g i ≤ h i) : ∀ k, sumTo g k ≤ sumTo h k
  | 0 => by simp [sumTo_zero]
  | k + 1 => by rw [sumTo_succ, sumTo_succ]; have := sumTo_mono e k; have := e k; omega
theorem sumTo_add (g h : Nat → Int) : ∀ k, sumTo (fun i => g i + h i) k = sumTo g k + sumTo h k
  | 0 => by simp [sumTo_zero]
  | k + 1 => by rw [sumTo_succ, sumTo_succ, sumTo_succ, sumTo_add g h k]; omega
/-- More sites do not make the gain less. -/
theorem gain_mono {F : Fld} {worth : Int} {S T : List Int} (h : ∀ x ∈ S, x ∈ T) : gainF F worth S ≤ gainF F worth T := by
  rw [gainF_top, gainF_top]
  exact sumTo_mono (top_mono h) _
/-- Two sets have at least the gain of what is in both and of what is in one of them. -/
theorem gain_submod {F : Fld} {worth : Int} {S T U V : List Int} (hU : ∀ x ∈ U, x ∈ S ∧ x ∈ T) (hV : ∀ x ∈ V, x ∈ S ∨ x ∈ T) : gainF F worth U + gainF F worth V ≤ gainF F worth S + gainF F worth T := by
  rw [gainF_top, gainF_top, gainF_top, gainF_top, ← sumTo_add, ← sumTo_add]
  refine sumTo_mono (fun i => ?_) _
  have h1 := top_mono (F := F) (worth := worth) (fun x hx => (hU x hx).1) i
  have h2 := top_mono (F := F) (worth := worth) (fun x hx => (hU x hx).2) i
  have n1 := top_nn F worth S i
  have n2 := top_nn F worth T i
  have h3 : topF F worth V i ≤ max (topF F worth S i) (topF F worth T i) := top_le' (by omega) (fun x hx => by
    rcases hV x hx with h | h
    · have := le_top (F := F) (worth := worth) (i := i) h; omega
    · have := le_top (F := F) (worth := worth) (i := i) h; omega)
  omega
end Go.Proofs.Ytbefnhagmejpcaa
