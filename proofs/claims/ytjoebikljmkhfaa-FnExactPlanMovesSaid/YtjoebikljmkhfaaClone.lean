/- slices.Clone, slices.Min over lists of integers. No condition. -/
import Derived.Test.YtjoebikljmkhfaaApp
import Derived.Test.YtjoebikljmkhfaaLawU
import Derived.WalkSpells
namespace Go.Proofs.Ytjoebikljmkhfaa
open Go.RowKit Go.Sort

/-- append of a whole list of numbers to a slice of the call's own. -/
theorem wpl_appAll {ops : Array Oper} {rest : List Oper} {o : Oper} {a : Act} {Q : Exit → Act → World → Prop} {W : World} (hgd : o.guard = none) (s x : Operand)
    (ho : o.op = .call { callee := .builtin .append, args := #[s, x], argTypes := #[22, 22] }) (base : Nat) (v : Value) (xs ys : List Int) (ad : Addr) (m c : Nat)
    (hs : a.eval s = v) (hx : a.eval x = .slice (some ad) m c) (hown : Own W base v xs) (hy : IntsAt W (some ad) ys) (hym : ys.length = m) (hbase : base ≤ W.heap.size) (hlen : xs.length + ys.length ≤ 4194304)
    (h : ∀ v' w', Own w' base v' (xs ++ ys) → Turn (fun i => v.ownBlock = some i) W w' → (v'.ownBlock = v.ownBlock ∨ ∀ g, v'.ownBlock = some g → W.heap.size ≤ g) → wpList Try.prog ops Q rest (a.put o.dst v') w') :
    wpList Try.prog ops Q (o :: rest) a W := by
  obtain ⟨i0, hi, hz0, hz1, hz2⟩ := info_parts infoInt
  refine wpList_append_own_at _ hgd s x 22 ho base 3 i0 (.int .i64 0) 1 8 Try.underlying22 hi hz0 hz1 hz2 rfl (by decide) v xs.length (xs.map (Value.int .i64)) hs hown ad m c (ys.map (Value.int .i64)) hx (by simp [hym]) ?_ (ints_oneCell _ _) ?_ ?_ hbase ?_
  · intro j u hj
    by_cases hlt : j < ys.length
    · rw [List.getElem?_map, List.getElem?_eq_getElem hlt] at hj
      have e : u = .int .i64 ys[j] := by simpa using hj.symm
      rw [e]; exact hy.some_ hlt
    · rw [List.getElem?_eq_none (by simpa using hlt)] at hj; cases hj
  · unfold maxLen; omega
  · omega
  · intro v' w' h2 h3 _ h4
    refine h v' w' ?_ (Turn.of_grown h3) ?_
    · unfold Own
      rw [List.length_append, List.map_append, hym]
      exact h2
    · rcases h4 with e | e
      · exact .inl e
      · exact .inr (fun g hg => by rw [e] at hg; simp at hg; omega)

end Go.Proofs.Ytjoebikljmkhfaa
