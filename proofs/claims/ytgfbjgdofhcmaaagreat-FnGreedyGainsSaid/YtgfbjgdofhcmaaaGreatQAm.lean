/- A region whose last operation waits for all others; A region whose last operation waits for all others, in a handy form. No condition. -/
import Derived.Test.YtgfbjgdofhcmaaaGreatQAa
import Derived.Deep.RegionHeld3
namespace Go.Proofs.YtgfbjgdofhcmaaaGreat
open Go.RowKit Go.Sort

section
variable {P : Program} {md : Region.Mode} {init : Array Oper} {o : Oper} {Q : Exit → Act → World → Prop} {S : World → Prop}
/-- The post of the shorter region: the last operation, then the post. -/
def lastQ (P : Program) (o : Oper) (Q : Exit → Act → World → Prop) : Exit → Act → World → Prop
  | .normal => fun a w => o.wp P a w (fun a w => Q .normal a w) Q
  | e => Q e
theorem push_getD (listed : Array Bool) (i : Nat) (d : Bool) : (listed.push false).getD i d = if i = listed.size then false else listed.getD i d := by
  by_cases h : i = listed.size
  · subst h; simp [Array.getD]
  · rw [if_neg h]
    by_cases hl : i < listed.size
    · simp [Array.getD, hl, Nat.lt_succ_of_lt hl, Array.getElem_push]
    · have : ¬ i < listed.size + 1 := by omega
      simp [Array.getD, hl, this]
theorem all_listed (hord : ∀ (i : Nat) (oi : Oper), init[i]? = some oi → ∀ e ∈ oi.after, e.on < i) {listed : Array Bool} (hr : Region.ready md init listed = []) (hs : listed.size = init.size) : ∀ i, i < init.size → listed.getD i false = true := by
  intro i
  induction i using Nat.strongRecOn with
  | _ i ih =>
    intro hi
    cases h : listed.getD i false with
    | true => rfl
    | false =>
      exfalso
      have h2 : listed.getD i true = false := by
        have hl : i < listed.size := by omega
        simp [Array.getD, hl] at h ⊢
        exact h
      have : i ∈ Region.ready md init listed := mem_ready.2 ⟨h2, init[i], by simp [hi], fun e he _ => ih e.on (hord i _ (by simp [hi]) e he) (by have := hord i init[i] (by simp [hi]) e he; omega)⟩
      rw [hr] at this
      cases this
theorem wp_monoQ {oi : Oper} {a : Act} {w : World} {K K' : Act → World → Prop} {Q' : Exit → Act → World → Prop} (h : ∀ a w, K a w → K' a w) (hp : ∀ c a w, Q (.panic c) a w → Q' (.panic c) a w) (hl : LetsOut Q → LetsOut Q') (hh : oi.wp P a w K Q) : oi.wp P a w K' Q' := by
  unfold Oper.wp at *
  generalize (execOp a.eval oi).run P w = r at *
  cases r with
  | ok n w' =>
    cases n <;> simp only [Oper.upon] at hh ⊢ <;>
      first
        | exact h _ _ hh
        | exact Calls.mono hh (fun e w'' he => by cases e <;> first | exact h _ _ he | exact hp _ _ _ he | exact hl he)
        | exact Rows.mono hh (fun _ _ he => h _ _ he)
  | halt x w' => cases x <;> simp only [Oper.upon] at hh ⊢ <;> first | exact hp _ _ _ hh | exact hh
theorem wpAny_last (hord : ∀ (i : Nat) (oi : Oper), init[i]? = some oi → ∀ e ∈ oi.after, e.on < i) (hg : ∀ (i : Nat) (oi : Oper), (init.push o)[i]? = some oi → oi.guard = none) (hon : ∀ e ∈ o.after, e.on < init.size) (hb : ∀ j, j < init.size → ∃ e ∈ o.after, Region.binds md e = true ∧ e.on = j) :
    ∀ (fuel : Nat) (listed : Array Bool) (a : Act) (w : World), listed.size = init.size → wpAnyH P md init (lastQ P o Q) S fuel listed a w → wpAny P md (init.push o) Q (fuel + 1) (listed.push false) a w := by
  have hnone : ∀ {listed : Array Bool} {a : Act} {w : World}, listed.size = init.size → (Region.ready md init listed = [] → o.wp P a w (fun a w => Q .normal a w) Q) → ∀ fuel, Region.ready md init listed = [] →
      wpOp P (init.push o) Q init.size (wpAny P md (init.push o) Q fuel ((listed.push false).setIfInBounds init.size true)) a w := by
    intro listed a w hs h fuel hr
    have hget : (init.push o)[init.size]? = some o := by simp
    have hw : ∀ ys, Region.wanted o ys = true := fun ys => by simp [Region.wanted, hg _ _ hget]
    unfold wpOp
    rw [hget]
    simp only [hw, if_true]
    refine .inl (wp_monoQ (fun a' w' hq => wpAny_done ?_ hq fuel) (fun _ _ _ h => h) (fun h => h) (h hr))
    rw [List.eq_nil_iff_forall_not_mem]
    intro i hi
    obtain ⟨h0, oi, ho, _⟩ := mem_ready.1 hi
    have hi2 : i < init.size + 1 := by have := (Array.getElem?_eq_some_iff.1 ho).1; simpa using this
    by_cases e : i = init.size
    · subst e
      simp [Array.getD, hs] at h0
    · have := all_listed hord hr hs i (by omega)
      rw [getD_set_ne _ (by omega), push_getD, if_neg (by omega)] at h0
      have hl : i < listed.size := by omega
      simp [Array.getD, hl] at h0 this
      rw [h0] at this; cases this
  have hlast : ∀ {listed : Array Bool} {i : Nat}, listed.size = init.size → i ∈ Region.ready md (init.push o) (listed.push false) → (i = init.size ∧ Region.ready md init listed = []) ∨ (i ∈ Region.ready md init listed ∧ i < init.size) := by
    intro listed i hs hi
    obtain ⟨h0, oi, ho, hall⟩ := mem_ready.1 hi
    have hi2 : i < init.size + 1 := by have := (Array.getElem?_eq_some_iff.1 ho).1; simpa using this
    by_cases e : i = init.size
    · left
      refine ⟨e, ?_⟩
      subst e
      obtain rfl : o = oi := by simpa using ho
      rw [List.eq_nil_iff_forall_not_mem]
      intro j hj
      obtain ⟨h1, oj, hoj, _⟩ := mem_ready.1 hj
      have hj2 := (Array.getElem?_eq_some_iff.1 hoj).1
      obtain ⟨e, he, hbe, rfl⟩ := hb j hj2
      have := hall e he hbe
      rw [push_getD, if_neg (by omega)] at this
      have hl : e.on < listed.size := by omega
      simp [Array.getD, hl] at h1 this
      rw [h1] at this; cases this
    · right
      refine ⟨mem_ready.2 ⟨?_, oi, ?_, fun e he hbe => ?_⟩, by omega⟩
      · rw [push_getD, if_neg (by omega)] at h0; exact h0
      · rw [Array.getElem?_push, if_neg (by omega)] at ho; exact ho
      · have := hall e he hbe
        rw [push_getD] at this
        split at this
        · cases this
        · exact this
  have hany : ∀ {listed : Array Bool}, listed.size = init.size → Region.ready md (init.push o) (listed.push false) ≠ [] := by
    intro listed hs hr
    by_cases hi : Region.ready md init listed = []
    · have ha := all_listed hord hi hs
      have : init.size ∈ Region.ready md (init.push o) (listed.push false) := by
        refine mem_ready.2 ⟨by rw [push_getD, if_pos hs.symm], o, by simp, fun e he hbe => ?_⟩
        have := hon e he
        rw [push_getD, if_neg (by omega)]
        exact ha _ this
      rw [hr] at this; cases this
    · obtain ⟨i, hi2⟩ := List.exists_mem_of_ne_nil _ hi
      obtain ⟨h0, oi, ho, hall⟩ := mem_ready.1 hi2
      have hlt := (Array.getElem?_eq_some_iff.1 ho).1
      have : i ∈ Region.ready md (init.push o) (listed.push false) := by
        refine mem_ready.2 ⟨by rw [push_getD, if_neg (by omega)]; exact h0, oi, by rw [Array.getElem?_push, if_neg (by omega)]; exact ho, fun e he hbe => ?_⟩
        have := hord i oi ho e he
        rw [push_getD, if_neg (by omega)]
        exact hall e he hbe
      rw [hr] at this; cases this
  intro fuel
  induction fuel with
  | zero =>
    intro listed a w hs h
    refine ⟨fun hr => absurd hr (hany hs), fun i hi => ?_⟩
    rcases hlast hs hi with ⟨rfl, hr⟩ | ⟨hi', _⟩
    · exact hnone hs (fun _ => h.2) 0 hr
    · rw [h.1] at hi'; cases hi'
  | succ fuel ih =>
    intro listed a w hs h
    refine ⟨fun hr => absurd hr (hany hs), fun i hi => ?_⟩
    rcases hlast hs hi with ⟨rfl, hr⟩ | ⟨hi', hlt⟩
    · exact hnone hs (fun hr => h.1 hr) _ hr
    · have h2 := h.2 i hi'
      obtain ⟨_, oi, ho, _⟩ := mem_ready.1 hi'
      have ho2 : (init.push o)[i]? = some oi := by rw [Array.getElem?_push, if_neg (by omega)]; exact ho
      have hw : ∀ ys, Region.wanted oi ys = true := fun ys => by simp [Region.wanted, hg _ _ ho2]
      unfold wpOp at h2 ⊢
      rw [ho] at h2
      rw [ho2]
      simp only [hw, if_true] at h2 ⊢
      have hpush : (listed.push false).setIfInBounds i true = (listed.setIfInBounds i true).push false := by
        have hil : i < listed.size := by omega
        obtain ⟨l⟩ := listed
        have hil2 : i < l.length := by simpa using hil
        simp [List.set_append_left _ _ hil2]
      rcases h2 with h2 | ⟨h2, h3⟩
      · refine .inl (wp_monoQ (Q := lastQ P o Q) (Q' := Q) (fun a' w' hk => ?_) (fun _ _ _ h => h) (fun h => h) h2)
        rw [hpush]
        exact ih _ a' w' (by simpa using hs) hk.2
      · exact .inr ⟨h2, h3⟩
/-- The region, by the shorter one. -/
theorem wp_region_last {id : Nat} {a : Act} {w : World} (hm : P.follows .mixedOrders = true) (hord : ∀ (i : Nat) (oi : Oper), init[i]? = some oi → ∀ e ∈ oi.after, e.on < i) (hg : ∀ (i : Nat) (oi : Oper), (init.push o)[i]? = some oi → oi.guard = none) (hon : ∀ e ∈ o.after, e.on < init.size) (hb : ∀ j, j < init.size → ∃ e ∈ o.after, Region.binds .any e = true ∧ e.on = j)
    (h : wpAnyH P .any init (lastQ P o Q) S init.size (Array.replicate init.size false) a w.drew) : (Code.region id (init.push o) true).wp P Q a w := by
  refine wp_region_any hm ?_
  have := wpAny_last hord hg hon hb init.size (Array.replicate init.size false) a w.drew (by simp) h
  rw [show (Array.replicate init.size false).push false = Array.replicate (init.push o).size false from by simp [Array.replicate_succ], show init.size + 1 = (init.push o).size from by simp] at this
  exact this
end
end Go.Proofs.YtgfbjgdofhcmaaaGreat

namespace Go.Proofs.YtgfbjgdofhcmaaaGreat
open Go.RowKit Go.Sort

theorem at_zero {x : Oper} {l : List Oper} : (x :: l).toArray[0]? = some x := by simp
theorem at_succ {x o : Oper} {l : List Oper} {n : Nat} (h : l.toArray[n]? = some o) : (x :: l).toArray[n + 1]? = some o := by simpa using h
theorem split_one {α : Type _} {o : α} : [o] = [] ++ [o] := rfl
theorem split_cons {α : Type _} {x o : α} {l i : List α} (h : l = i ++ [o]) : x :: l = (x :: i) ++ [o] := by rw [h]; rfl
def lastOk (l : List Oper) (o : Oper) : Bool :=
  l.zipIdx.all (fun p => p.1.after.toList.all (fun e => decide (e.on < p.2)) && p.1.guard.isNone) && o.guard.isNone && o.after.toList.all (fun e => decide (e.on < l.length)) && (List.range l.length).all (fun j => o.after.toList.any (fun e => Region.binds .any e && e.on == j))
theorem wp_region_last2 {P : Program} {S : World → Prop} {Q : Exit → Act → World → Prop} {id : Nat} {a : Act} {w : World} {ops l : List Oper} {o : Oper} (he : ops = l ++ [o]) (hm : P.follows .mixedOrders = true) (hok : lastOk l o = true)
    (h : wpAnyH P .any l.toArray (lastQ P o Q) S l.length (Array.replicate l.length false) a w.drew) : (Code.region id ops.toArray true).wp P Q a w := by
  subst he
  simp only [lastOk, Bool.and_eq_true, List.all_eq_true, decide_eq_true_eq] at hok
  obtain ⟨⟨⟨h1, h2⟩, h3⟩, h4⟩ := hok
  have e : (l ++ [o]).toArray = l.toArray.push o := by simp
  have hat : ∀ (i : Nat) (oi : Oper), l.toArray[i]? = some oi → (oi, i) ∈ l.zipIdx := fun i oi hi => by
    rw [List.mem_zipIdx_iff_getElem?]
    simpa using hi
  rw [e]
  refine wp_region_last (S := S) hm (fun i oi hi e he => (h1 _ (hat i oi hi)).1 e (by simpa using he)) (fun i oi hi => ?_) (fun e he => h3 e (by simpa using he)) (fun j hj => ?_) (by simpa using h)
  · by_cases hl : i < l.length
    · have hi2 : l.toArray[i]? = some oi := by rw [Array.getElem?_push, if_neg (by simp; omega)] at hi; exact hi
      simpa using (h1 _ (hat i oi hi2)).2
    · have : i = l.length := by have := (Array.getElem?_eq_some_iff.1 hi).1; simp at this; omega
      subst this
      have : o = oi := by simpa using hi
      subst this
      simpa using h2
  · have := h4 j (by simpa using hj)
    rw [List.any_eq_true] at this
    obtain ⟨e, he, hb⟩ := this
    rw [Bool.and_eq_true, beq_iff_eq] at hb
    exact ⟨e, by simpa using he, hb.1, hb.2⟩
end Go.Proofs.YtgfbjgdofhcmaaaGreat
