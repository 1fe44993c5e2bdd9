/- A region whose last operation waits for all others, in a handy form. No condition. -/
import Derived.Test.YtcnceocgdghciaaQAu
namespace Go.Proofs.Ytcnceocgdghciaa
open Go.RowKit Go.Sort

theorem at_zero {x : Oper} {l : List Oper} : (x :: l).toArray[0]? = some x := by simp
theorem at_succ {x o : Oper} {l : List Oper} {n : Nat} (h : l.toArray[n]? = some o) : (x :: l).toArray[n + 1]? = some o := by simpa using h
theorem split_one {α : Type _} {o : α} : [o] = [] ++ [o] := rfl
theorem split_cons {α : Type _} {x o : α} {l i : List α} (h : l = i ++ [o]) : x :: l = (x :: i) ++ [o] := by rw [h]; rfl
def lastOk (l : List Oper) (o : Oper) : Bool :=
  l.zipIdx.all (fun p => p.1.after.toList.all (fun e => decide (e.on < p.2)) && p.1.guard.isNone) && o.guard.isNone && o.after.toList.all (fun e => decide (e.on < l.length)) && (List.range l.length).all (fun j => o.after.toList.any (fun e => Region.binds .any e && e.on == j))
theorem wp_region_last2 {P : Program} {S : World → Prop} {Q : Exit → Act → World → Prop} {id : Nat} {a : Act} {w : World} {ops l : List Oper} {o : Oper} (he : ops = l ++ [o]) (hm : P.follows .mixedOrders = true) (hok : lastOk l o = true)
    (h : wpAnyH P .any l.toArray (lastQ P o Q) S l.length (Array.replicate l.length false) a w.drew) : (Code.region id ops.toArray true).wp P Q a w := by
  subst he
  simp only [lastOk, Bool.and_eq_true, List.all_eq_true, decide_eq_true_eq] at hok
  obtain ⟨⟨⟨h1, h2⟩, h3⟩, h4⟩ := hok
  have e : (l ++ [o]).toArray = l.toArray.push o := by simp
  have hat : ∀ (i : Nat) (oi : Oper), l.toArray[i]? = some oi → (oi, i) ∈ l.zipIdx := fun i oi hi => by
    rw [List.mem_zipIdx_iff_getElem?]
    simpa using hi
  rw [e]
  refine wp_region_last (S := S) hm (fun i oi hi e he => (h1 _ (hat i oi hi)).1 e (by simpa using he)) (fun i oi hi => ?_) (fun e he => h3 e (by simpa using he)) (fun j hj => ?_) (by simpa using h)
  · by_cases hl : i < l.length
    · have hi2 : l.toArray[i]? = some oi := by rw [Array.getElem?_push, if_neg (by simp; omega)] at hi; exact hi
      simpa using (h1 _ (hat i oi hi2)).2
    · have : i = l.length := by have := (Array.getElem?_eq_some_iff.1 hi).1; simp at this; omega
      subst this
      have : o = oi := by simpa using hi
      subst this
      simpa using h2
  · have := h4 j (by simpa using hj)
    rw [List.any_eq_true] at this
    obtain ⟨e, he, hb⟩ := this
    rw [Bool.and_eq_true, beq_iff_eq] at hb
    exact ⟨e, by simpa using he, hb.1, hb.2⟩
end Go.Proofs.Ytcnceocgdghciaa
