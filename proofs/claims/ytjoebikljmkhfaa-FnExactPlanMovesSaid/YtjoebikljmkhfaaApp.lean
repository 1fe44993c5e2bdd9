/- append of one number to a slice of the call's own. No condition. -/
import Derived.Test.YtjoebikljmkhfaaBase
import Derived.Test.YtjoebikljmkhfaaOwn
import Derived.OwnWalk
import Derived.Maps.AppendAt
namespace Go.Proofs.Ytjoebikljmkhfaa
open Go.RowKit

theorem wpl_app {ops : Array Oper} {rest : List Oper} {o : Oper} {a : Act} {Q : Exit → Act → World → Prop} {W : World} (hgd : o.guard = none) (s x : Operand)
    (ho : o.op = .call { callee := .builtin .append, args := #[s, x], argTypes := #[22, 22] }) (base : Nat) (v : Value) (xs : List Int) (z : Int)
    (hs : a.eval s = v) (hx : a.eval x = .slice (some ⟨W.heap.size, 0, none⟩) 1 1) (hown : Own W base v xs) (hbase : base ≤ W.heap.size) (hlen : xs.length < 1048576)
    (h : ∀ v' w', Own w' base v' (xs ++ [z]) → Turn (fun i => v.ownBlock = some i) W w' → (v'.ownBlock = v.ownBlock ∨ ∀ g, v'.ownBlock = some g → W.heap.size ≤ g) → wpList Try.prog ops Q rest (a.put o.dst v') w') :
    wpList Try.prog ops Q (o :: rest) a (W.alloc (.cells #[.int .i64 z] 3)) := by
  obtain ⟨i0, hi, hz0, hz1, hz2⟩ := info_parts infoInt
  have hal : Own (W.alloc (.cells #[.int .i64 z] 3)) base v xs := hown.kp ((Kp.refl W).alloc _)
  refine wpList_append_own_at _ hgd s x 22 ho base 3 i0 (.int .i64 0) 1 8 Try.underlying22 hi hz0 hz1 hz2 rfl (by decide) v xs.length (xs.map (Value.int .i64)) hs hal ⟨W.heap.size, 0, none⟩ 1 1 [.int .i64 z] hx rfl ?_ ?_ ?_ ?_ ?_ ?_
  · intro j u hj
    cases j with
    | zero =>
      simp at hj; subst hj
      rw [add0, World.cell?_alloc_at _ _ _ _ rfl]; rfl
    | succ j => simp at hj
  · intro u hu; simp at hu; subst hu; rfl
  · unfold maxLen; omega
  · omega
  · simp; omega
  · intro v' w' h2 h3 _ h4
    refine h v' w' ?_ ((Turn.of_kp ((Kp.refl W).alloc _)).trans (Turn.of_grown h3)) ?_
    · unfold Own
      rw [List.length_append, List.map_append]
      exact h2
    · rcases h4 with e | e
      · exact .inl e
      · refine .inr (fun g hg => ?_)
        rw [e] at hg
        simp at hg
        omega
theorem own_new0 (w : World) (base : Nat) (hb : base ≤ w.heap.size) : Own (w.alloc (.cells #[] 3)) base (.slice (some ⟨w.heap.size, 0, none⟩) 0 0) [] :=
  World.ownsRow_lit w #[] 0 hb (by unfold maxLen; omega) (by simp)
theorem Own.kp_turn {a w w' : World} {base : Nat} {v : Value} {xs : List Int} (h : Own w base v xs) (hk : Kp a w) (hb : a.heap.size ≤ base) (ht : Turn (fun i => v.ownBlock = some i) w w') : Kp a w' :=
  hk.turn ht (fun i hi => Nat.le_trans hb (h.lt i hi).1)
/-- Two slices of the call's own lie in different blocks. -/
def Apart (v u : Value) : Prop := ∀ g, v.ownBlock = some g → u.ownBlock ≠ some g
theorem Apart.grow {v v' u : Value} {W : World} {base : Nat} {xs : List Int} (h : Apart v u) (hu : Own W base u xs) (h4 : v'.ownBlock = v.ownBlock ∨ ∀ g, v'.ownBlock = some g → W.heap.size ≤ g) : Apart v' u := by
  intro g hg e
  rcases h4 with h4 | h4
  · exact h g (h4 ▸ hg) e
  · have := h4 g hg
    have := (hu.lt g e).2
    omega
theorem Own.apart_turn {v u : Value} {w w' : World} {base : Nat} {xs : List Int} (h : Own w base u xs) (ha : Apart v u) (ht : Turn (fun i => v.ownBlock = some i) w w') : Own w' base u xs := h.turn ht (fun g hg hv => ha g hv hg)
end Go.Proofs.Ytjoebikljmkhfaa
