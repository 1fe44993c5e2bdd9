/- The frame of a law's proof where an argument is a field. No condition. -/
import Derived.Test.YtjoebikljmkhfaaFrame
import Derived.Lib.SmallJoins
import Derived.Test.YtjoebikljmkhfaaMark2
namespace Go.Proofs.Ytjoebikljmkhfaa
open Go.ChangeShapes Go.WideShapes Go.ChangeAt Go.RowKit Go.Deep Go.Joins

section
variable {H : Type} {enc : TypeId × Value → H} {P : Program} {W : World}
theorem intsAt_of_trod {t e : TypeId} {fuel : Nat} {v : Value} {y : DataW H × List MemPlace} (ht : P.underlying t = some (.slice e)) (he : P.underlying e = some (.int .i64)) (hc : P.cellsOf e = 1)
    (hf : DataW.trod enc P W 0 (fun _ => true) true fuel t [v] = some y) : ∃ A xs c, v = .slice A xs.length c ∧ IntsAt W A xs := by
  rcases open_ints ht he hc hf with ⟨hcs, _⟩ | ⟨a', len', cap', zs, hcs, _, hl, hm, hz, _, hcell, _⟩
  · simp at hcs
    subst hcs
    exact ⟨none, [], 0, rfl, IntsAt.nil _ _⟩
  · simp at hcs
    subst hcs
    simp only [if_true] at hz
    have hlen : (zs.take len').length = len' := by rw [List.length_take]; omega
    refine ⟨some a', zs.take len', cap', by rw [hlen], by rw [hlen]; unfold maxLen at hm; omega, fun k hk => ⟨a', rfl, ?_⟩⟩
    rw [hlen] at hk
    rw [hcell k (by omega)]
    simp [List.getD, List.getElem?_take, hk]
theorem gridAt_of_trod {t e q : TypeId} {fuel : Nat} {v : Value} {y : DataW H × List MemPlace} (ht : P.underlying t = some (.slice e)) (he : P.underlying e = some (.slice q)) (hq : P.underlying q = some (.int .i64)) (ce : P.cellsOf e = 1) (cq : P.cellsOf q = 1)
    (hf : DataW.trod enc P W 0 (fun _ => true) true fuel t [v] = some y) : ∃ B rows c, v = .slice B rows.length c ∧ GridAt W B rows := by
  rcases open_int_rows ht he hq ce cq hf with ⟨hcs, _⟩ | ⟨a, len, cap, A, L, C, Z, hcs, _, hl, hm, _, hr⟩
  · simp at hcs
    subst hcs
    exact ⟨none, [], 0, rfl, by simp, fun k hk => absurd hk (by simp)⟩
  · simp at hcs
    subst hcs
    have hlen : ((List.range len).map fun r => (Z r).take (L r)).length = len := by simp
    refine ⟨some a, (List.range len).map fun r => (Z r).take (L r), cap, by rw [hlen], by rw [hlen]; unfold maxLen at hm; omega, fun k hk => ?_⟩
    rw [hlen] at hk
    obtain ⟨h1, h2, h3, h4, _, h6, h7⟩ := hr k (by omega)
    have e1 : ((List.range len).map fun r => (Z r).take (L r)).getD k [] = (Z k).take (L k) := by simp [List.getD, hk]
    have e2 : ((Z k).take (L k)).length = L k := by rw [List.length_take]; omega
    rw [e1]
    refine ⟨a, A k, C k, rfl, by rw [e2]; exact h1, by rw [e2]; unfold maxLen at h3; omega, fun i hi => ?_⟩
    rw [e2] at hi
    cases hA : A k with
    | none => have := h6 hA; omega
    | some a' =>
      refine ⟨a', rfl, ?_⟩
      rw [(h7 a' hA).2 i (by omega)]
      simp [List.getD, List.getElem?_take, hi]
end
theorem Fld.bulk_op {F : Fld} (h : F.bulk ≤ 1048576) : F.op.length ≤ 9223372036854775807 := by unfold Fld.bulk at h; omega
end Go.Proofs.Ytjoebikljmkhfaa
