/- Flows of needs through sites: what both programs find, in plain words; Sums over the first numbers. No condition. -/
import Derived.Test.YtbfmencamaicbaaGreatQAb
namespace Go.Proofs.YtbfmencamaicbaaGreat
open Go.RowKit Go.Sort

theorem sumTo_pos {g : Nat → Int} {K : Nat} (h : ∀ i, i < K → 0 ≤ g i) : ∀ k, k ≤ K → 0 ≤ sumTo g k
  | 0, _ => by simp [sumTo_zero]
  | k + 1, hk => by
    have h1 := sumTo_pos h k (by omega)
    have h2 := h k (by omega)
    rw [sumTo_succ]; omega
theorem sumTo_le {g : Nat → Int} {K : Nat} (h : ∀ i, i < K → 0 ≤ g i) {k : Nat} : ∀ m, k ≤ m → m ≤ K → sumTo g k ≤ sumTo g m
  | 0, hk, _ => by obtain rfl : k = 0 := by omega
                   exact Int.le_refl _
  | m + 1, hk, hm => by
    by_cases e : k = m + 1
    · subst e; exact Int.le_refl _
    · have h1 := sumTo_le (k := k) h m (by omega) (by omega)
      have h2 := h m (by omega)
      rw [sumTo_succ]; omega
theorem sumTo_lget (xs : List Int) : sumTo (lget xs) xs.length = xs.sum := by
  unfold sumTo mapTo
  congr 1
  apply List.ext_getElem
  · simp
  · intro i hi hi2
    simp [lget, List.getD, hi2]
theorem sum_small {xs : List Int} {M : Int} (h : ∀ x ∈ xs, 0 ≤ x ∧ x ≤ M) : ∀ k, k ≤ xs.length → 0 ≤ (xs.take k).sum ∧ (xs.take k).sum ≤ k * M
  | 0, _ => by simp
  | k + 1, hk => by
    have h1 := sum_small h k (by omega)
    have h2 := h _ (List.getElem_mem (show k < xs.length by omega))
    rw [List.take_succ_eq_append_getElem (show k < xs.length by omega), List.sum_append]
    simp only [List.sum_cons, List.sum_nil]
    have h3 : ((k + 1 : Nat) : Int) * M = k * M + M := by rw [Int.natCast_add, Int.add_mul]; simp
    omega

/-- Row j of a flow, its number for site a, and what is sent to site a by the first clients. -/
def flAt (flow : List (List Int)) (j a : Nat) : Int := lget (flow.getD j []) a
def colS (flow : List (List Int)) (a k : Nat) : Int := sumTo (fun j => flAt flow j a) k
def flHas (S : List Int) (a : Nat) : Bool := S.any fun y => y == (a : Int)
def flCell (need : Int) (S : List Int) (x : Int) (a : Nat) : Bool := inB x 0 need && !(decide (0 < x) && !flHas S a)
def flCells (need : Int) (S row : List Int) (k : Nat) : Bool := (List.range k).all fun a => flCell need S (lget row a) a
def flRow (n : Nat) (need : Int) (S row : List Int) : Bool := flCells need S row row.length && (decide (row.length = n) && decide (row.sum = need))
def flRows (n : Nat) (needs S : List Int) (flow : List (List Int)) (k : Nat) : Bool := (List.range k).all fun j => flRow n (lget needs j) S (flow.getD j [])
def flCols (rooms : List Int) (flow : List (List Int)) (k : Nat) : Bool := (List.range k).all fun a => decide (colS flow a flow.length ≤ lget rooms a)
def flowB (F : Fld) (rooms needs S : List Int) (flow : List (List Int)) : Bool :=
  decide (flow.length = F.di.length) && (flRows F.op.length needs S flow flow.length && flCols rooms flow F.op.length)
theorem flCell_iff {need : Int} {S : List Int} {x : Int} {a : Nat} : flCell need S x a = true ↔ 0 ≤ x ∧ x ≤ need ∧ (0 < x → flHas S a = true) := by
  unfold flCell
  rw [Bool.and_eq_true, inB_iff]
  by_cases hx : 0 < x <;> cases hf : flHas S a <;> simp [hx]
theorem flCells_iff {need : Int} {S row : List Int} {k : Nat} : flCells need S row k = true ↔ ∀ a, a < k → 0 ≤ lget row a ∧ lget row a ≤ need ∧ (0 < lget row a → flHas S a = true) := by
  unfold flCells
  rw [List.all_eq_true]
  constructor
  · intro h a ha; exact flCell_iff.1 (h a (List.mem_range.2 ha))
  · intro h a ha; exact flCell_iff.2 (h a (List.mem_range.1 ha))
theorem flRow_iff {n : Nat} {need : Int} {S row : List Int} : flRow n need S row = true ↔ row.length = n ∧ (∀ a, a < n → 0 ≤ lget row a ∧ lget row a ≤ need ∧ (0 < lget row a → flHas S a = true)) ∧ sumTo (lget row) n = need := by
  unfold flRow
  rw [Bool.and_eq_true, Bool.and_eq_true, decide_eq_true_eq, decide_eq_true_eq, flCells_iff, ← sumTo_lget]
  constructor
  · rintro ⟨h1, rfl, h3⟩; exact ⟨rfl, h1, h3⟩
  · rintro ⟨rfl, h1, h3⟩; exact ⟨h1, rfl, h3⟩
theorem flRows_iff {n : Nat} {needs S : List Int} {flow : List (List Int)} {k : Nat} : flRows n needs S flow k = true ↔ ∀ j, j < k → flRow n (lget needs j) S (flow.getD j []) = true := by
  unfold flRows
  rw [List.all_eq_true]
  exact ⟨fun h j hj => h j (List.mem_range.2 hj), fun h j hj => h j (List.mem_range.1 hj)⟩
theorem flRows_succ {n : Nat} {needs S : List Int} {flow : List (List Int)} {k : Nat} : flRows n needs S flow (k + 1) = (flRows n needs S flow k && flRow n (lget needs k) S (flow.getD k [])) := by
  unfold flRows; rw [List.range_succ, List.all_append]; simp
theorem flCols_iff {rooms : List Int} {flow : List (List Int)} {k : Nat} : flCols rooms flow k = true ↔ ∀ a, a < k → colS flow a flow.length ≤ lget rooms a := by
  unfold flCols
  rw [List.all_eq_true]
  exact ⟨fun h j hj => by simpa using h j (List.mem_range.2 hj), fun h j hj => by simpa using h j (List.mem_range.1 hj)⟩
theorem flCols_succ {rooms : List Int} {flow : List (List Int)} {k : Nat} : flCols rooms flow (k + 1) = (flCols rooms flow k && decide (colS flow k flow.length ≤ lget rooms k)) := by
  unfold flCols; rw [List.range_succ, List.all_append]; simp
theorem flCells_succ {need : Int} {S row : List Int} {k : Nat} : flCells need S row (k + 1) = (flCells need S row k && flCell need S (lget row k) k) := by
  unfold flCells; rw [List.range_succ, List.all_append]; simp
theorem colS_succ (flow : List (List Int)) (a k : Nat) : colS flow a (k + 1) = colS flow a k + flAt flow k a := sumTo_succ _ _
/-- The three ways in which lists are no flow. -/
theorem flow_len {F : Fld} {rooms needs S : List Int} {flow : List (List Int)} (h : flow.length ≠ F.di.length) : flowB F rooms needs S flow = false := by simp [flowB, h]
theorem flow_row {F : Fld} {rooms needs S : List Int} {flow : List (List Int)} {j : Nat} (hj : j < flow.length) (h : flRow F.op.length (lget needs j) S (flow.getD j []) = false) : flowB F rooms needs S flow = false := by
  cases hb : flowB F rooms needs S flow
  · rfl
  · simp only [flowB, Bool.and_eq_true, decide_eq_true_eq] at hb
    rw [flRows_iff.1 hb.2.1 j hj] at h; exact absurd h (by simp)
theorem flow_col {F : Fld} {rooms needs S : List Int} {flow : List (List Int)} {a : Nat} (ha : a < F.op.length) (h : ¬ colS flow a flow.length ≤ lget rooms a) : flowB F rooms needs S flow = false := by
  cases hb : flowB F rooms needs S flow
  · rfl
  · simp only [flowB, Bool.and_eq_true, decide_eq_true_eq] at hb
    exact absurd (flCols_iff.1 hb.2.2 a ha) h
theorem flow_yes {F : Fld} {rooms needs S : List Int} {flow : List (List Int)} (h1 : flow.length = F.di.length) (h2 : flRows F.op.length needs S flow flow.length = true) (h3 : flCols rooms flow F.op.length = true) : flowB F rooms needs S flow = true := by
  simp [flowB, h1, h3]; rw [← h1]; exact h2
theorem flow_parts {F : Fld} {rooms needs S : List Int} {flow : List (List Int)} (h : flowB F rooms needs S flow = true) : flow.length = F.di.length ∧ (∀ j, j < flow.length → flRow F.op.length (lget needs j) S (flow.getD j []) = true) ∧ ∀ a, a < F.op.length → colS flow a flow.length ≤ lget rooms a := by
  simp only [flowB, Bool.and_eq_true, decide_eq_true_eq] at h
  exact ⟨h.1, flRows_iff.1 h.2.1, flCols_iff.1 h.2.2⟩
theorem flAt_pos {n : Nat} {needs S : List Int} {flow : List (List Int)} {j a : Nat} (h : flRow n (lget needs j) S (flow.getD j []) = true) (ha : a < n) : 0 ≤ flAt flow j a ∧ flAt flow j a ≤ lget needs j := by
  have := (flRow_iff.1 h).2.1 a ha
  exact ⟨this.1, this.2.1⟩
theorem col_bd {n : Nat} {needs S : List Int} {flow : List (List Int)} {a : Nat} (hn : ∀ j, lget needs j ≤ 5) (ha : a < n) : ∀ k, flRows n needs S flow k = true → 0 ≤ colS flow a k ∧ colS flow a k ≤ k * 5
  | 0, _ => by simp [colS, sumTo_zero]
  | k + 1, h => by
    rw [flRows_succ, Bool.and_eq_true] at h
    have h1 := col_bd hn ha k h.1
    have h2 := flAt_pos h.2 ha
    have h3 := hn k
    rw [colS_succ]; omega
/-- What is used when client k has sent to the first a sites. -/
def usedL (flow : List (List Int)) (n k a : Nat) : List Int := (List.range n).map fun b => if b < a then colS flow b (k + 1) else colS flow b k
theorem usedL_len (flow : List (List Int)) (n k a : Nat) : (usedL flow n k a).length = n := by simp [usedL]
theorem usedL_zero (flow : List (List Int)) (n : Nat) : usedL flow n 0 0 = List.replicate n 0 := by
  unfold usedL
  apply List.ext_getElem
  · simp
  · intro i h1 h2; simp [colS, sumTo_zero]
theorem usedL_end (flow : List (List Int)) (n k : Nat) : usedL flow n k n = usedL flow n (k + 1) 0 := by
  unfold usedL
  apply List.map_congr_left
  intro b hb
  have := List.mem_range.1 hb
  simp [this]
theorem usedL_at (flow : List (List Int)) {n k a : Nat} (ha : a < n) (a0 : Nat) (h0 : a0 ≤ a) : lget (usedL flow n k a0) a = colS flow a k := by
  rw [lget_at (by rw [usedL_len]; exact ha)]
  simp [usedL]; omega
theorem usedL_set (flow : List (List Int)) {n k a : Nat} : (usedL flow n k a).set a (colS flow a k + flAt flow k a) = usedL flow n k (a + 1) := by
  apply List.ext_getElem
  · simp [usedL]
  · intro i h1 h2
    rw [List.getElem_set]
    by_cases e : a = i
    · subst e; simp [usedL, colS_succ]
    · simp only [if_neg e, usedL, List.getElem_map, List.getElem_range]
      by_cases hl : i < a
      · rw [if_pos hl, if_pos (by omega)]
      · rw [if_neg hl, if_neg (by omega)]
/-- What is left of the rooms then. -/
def leftL (rooms : List Int) (flow : List (List Int)) (n k a : Nat) : List Int := (List.range n).map fun b => lget rooms b - (if b < a then colS flow b (k + 1) else colS flow b k)
theorem leftL_len (rooms : List Int) (flow : List (List Int)) (n k a : Nat) : (leftL rooms flow n k a).length = n := by simp [leftL]
theorem leftL_zero {rooms : List Int} {flow : List (List Int)} {n : Nat} (h : rooms.length = n) : leftL rooms flow n 0 0 = rooms := by
  unfold leftL
  apply List.ext_getElem
  · simp [h]
  · intro i h1 h2; simp [colS, sumTo_zero, lget, List.getD, h2]
theorem leftL_end (rooms : List Int) (flow : List (List Int)) (n k : Nat) : leftL rooms flow n k n = leftL rooms flow n (k + 1) 0 := by
  unfold leftL
  apply List.map_congr_left
  intro b hb
  have := List.mem_range.1 hb
  simp [this]
theorem leftL_at (rooms : List Int) (flow : List (List Int)) {n k a : Nat} (ha : a < n) : lget (leftL rooms flow n k a) a = lget rooms a - colS flow a k := by
  rw [lget_at (by rw [leftL_len]; exact ha)]
  simp [leftL]
theorem leftL_set (rooms : List Int) (flow : List (List Int)) {n k a : Nat} : (leftL rooms flow n k a).set a (lget rooms a - colS flow a k - flAt flow k a) = leftL rooms flow n k (a + 1) := by
  apply List.ext_getElem
  · simp [leftL]
  · intro i h1 h2
    rw [List.getElem_set]
    by_cases e : a = i
    · subst e; simp [leftL, colS_succ]; omega
    · simp only [if_neg e, leftL, List.getElem_map, List.getElem_range]
      by_cases hl : i < a
      · rw [if_pos hl, if_pos (by omega)]
      · rw [if_neg hl, if_neg (by omega)]
/-- The program's state: all rows before are rows of a flow, the first numbers of this row are good, no site has more than its rooms. -/
structure flSt (F : Fld) (rooms needs S : List Int) (flow : List (List Int)) (k a : Nat) : Prop where
  rows : flRows F.op.length needs S flow k = true
  cells : ∀ b, b < a → 0 ≤ flAt flow k b ∧ flAt flow k b ≤ lget needs k ∧ (0 < flAt flow k b → flHas S b = true)
  sum : sumTo (flAt flow k) a ≤ lget needs k
  room : ∀ b, b < F.op.length → (if b < a then colS flow b (k + 1) else colS flow b k) ≤ lget rooms b
theorem flSt_first {F : Fld} {rooms needs S : List Int} {flow : List (List Int)} (h0 : ∀ a, 0 ≤ lget rooms a) (h1 : ∀ a, 0 ≤ lget needs a) : flSt F rooms needs S flow 0 0 :=
  ⟨rfl, fun b hb => absurd hb (by omega), by rw [sumTo_zero]; exact h1 0, fun b _ => by simp [colS, sumTo_zero, h0 b]⟩
theorem flSt.pos {F : Fld} {rooms needs S : List Int} {flow : List (List Int)} {k a : Nat} (h : flSt F rooms needs S flow k a) : 0 ≤ sumTo (flAt flow k) a := sumTo_pos (fun b hb => (h.cells b hb).1) a (Nat.le_refl _)
theorem flSt.next {F : Fld} {rooms needs S : List Int} {flow : List (List Int)} {k a : Nat} (h : flSt F rooms needs S flow k a) (ha : a < F.op.length) (h0 : 0 ≤ flAt flow k a) (h1 : flAt flow k a ≤ lget needs k - sumTo (flAt flow k) a) (h2 : flAt flow k a ≤ lget rooms a - colS flow a k) (h3 : 0 < flAt flow k a → flHas S a = true) : flSt F rooms needs S flow k (a + 1) := by
  have hp := h.pos
  refine ⟨h.rows, fun b hb => ?_, by rw [sumTo_succ]; omega, fun b hb => ?_⟩
  · by_cases e : b = a
    · subst e; exact ⟨h0, by omega, h3⟩
    · exact h.cells b (by omega)
  · by_cases e : b = a
    · subst e; rw [if_pos (by omega), colS_succ]; omega
    · have := h.room b hb
      by_cases hl : b < a
      · rw [if_pos hl] at this; rw [if_pos (by omega)]; exact this
      · rw [if_neg hl] at this; rw [if_neg (by omega)]; exact this
theorem flSt.bad {F : Fld} {rooms needs S : List Int} {flow : List (List Int)} {k a : Nat} (hk : k < flow.length) (ha : a < F.op.length) (hb : ¬ (0 ≤ flAt flow k a ∧ flAt flow k a ≤ lget needs k - sumTo (flAt flow k) a ∧ flAt flow k a ≤ lget rooms a - colS flow a k ∧ (0 < flAt flow k a → flHas S a = true))) : flowB F rooms needs S flow = false := by
  cases hf : flowB F rooms needs S flow
  · rfl
  · exfalso
    obtain ⟨p1, p2, p3⟩ := flow_parts hf
    obtain ⟨r1, r2, r3⟩ := flRow_iff.1 (p2 k hk)
    have c := r2 a ha
    have s1 := sumTo_le (g := flAt flow k) (K := F.op.length) (fun i hi => (r2 i hi).1) (k := a + 1) F.op.length (by omega) (Nat.le_refl _)
    have e : sumTo (flAt flow k) F.op.length = lget needs k := r3
    rw [e, sumTo_succ] at s1
    have s2 := sumTo_le (g := fun j => flAt flow j a) (K := flow.length) (fun i hi => ((flRow_iff.1 (p2 i hi)).2.1 a ha).1) (k := k + 1) flow.length (by omega) (Nat.le_refl _)
    have s3 : colS flow a (k + 1) ≤ lget rooms a := Int.le_trans s2 (p3 a ha)
    rw [colS_succ] at s3
    exact hb ⟨c.1, by omega, by omega, c.2.2⟩
theorem flSt.row {F : Fld} {rooms needs S : List Int} {flow : List (List Int)} {k : Nat} (h : flSt F rooms needs S flow k F.op.length) (hl : (flow.getD k []).length = F.op.length) (hn : sumTo (flAt flow k) F.op.length = lget needs k) (h1 : ∀ a, 0 ≤ lget needs a) : flSt F rooms needs S flow (k + 1) 0 := by
  refine ⟨?_, fun b hb => absurd hb (by omega), by rw [sumTo_zero]; exact h1 _, fun b hb => ?_⟩
  · rw [flRows_succ, h.rows, Bool.true_and]
    exact flRow_iff.2 ⟨hl, fun a ha => h.cells a ha, hn⟩
  · have := h.room b hb
    rw [if_pos hb] at this
    rw [if_neg (by omega)]; exact this
theorem flSt.short {F : Fld} {rooms needs S : List Int} {flow : List (List Int)} {k : Nat} (hk : k < flow.length) (hn : sumTo (flAt flow k) F.op.length ≠ lget needs k) : flowB F rooms needs S flow = false := by
  refine flow_row hk ?_
  cases h : flRow F.op.length (lget needs k) S (flow.getD k [])
  · rfl
  · exact absurd (flRow_iff.1 h).2.2 hn
theorem flow_rowlen {F : Fld} {rooms needs S : List Int} {flow : List (List Int)} {k : Nat} (hk : k < flow.length) (hn : (flow.getD k []).length ≠ F.op.length) : flowB F rooms needs S flow = false := by
  refine flow_row hk ?_
  cases h : flRow F.op.length (lget needs k) S (flow.getD k [])
  · rfl
  · exact absurd (flRow_iff.1 h).1 hn
theorem flSt.done {F : Fld} {rooms needs S : List Int} {flow : List (List Int)} {k : Nat} (h : flSt F rooms needs S flow k 0) (hk : k = flow.length) (hl : flow.length = F.di.length) : flowB F rooms needs S flow = true := by
  subst hk
  refine flow_yes hl h.rows (flCols_iff.2 fun a ha => ?_)
  have := h.room a ha
  rw [if_neg (by omega)] at this; exact this

/-- What a flow costs. -/
def costRow (F : Fld) (flow : List (List Int)) (j a : Nat) : Int := sumTo (fun a => flAt flow j a * dAt F j (a : Int)) a
def costFl (F : Fld) (flow : List (List Int)) (k : Nat) : Int := sumTo (fun j => costRow F flow j F.op.length) k
theorem prod_bd {x y : Int} (h0 : 0 ≤ x) (h1 : x ≤ 5) (h2 : 0 ≤ y) (h3 : y ≤ 99) : 0 ≤ x * y ∧ x * y ≤ 495 := by
  refine ⟨Int.mul_nonneg h0 h2, ?_⟩
  have := Int.mul_le_mul h1 h3 h2 (by omega)
  omega
theorem costRow_bd {F : Fld} {needs S : List Int} {flow : List (List Int)} {j : Nat} (hg : goodF F = true) (hj : j < F.di.length) (hn : ∀ j, lget needs j ≤ 5) (h : flRow F.op.length (lget needs j) S (flow.getD j []) = true) : ∀ a, a ≤ F.op.length → 0 ≤ costRow F flow j a ∧ costRow F flow j a ≤ a * 495
  | 0, _ => by simp [costRow, sumTo_zero]
  | a + 1, ha => by
    have h1 := costRow_bd hg hj hn h a (by omega)
    obtain ⟨h2, h3⟩ := flAt_pos h (show a < F.op.length by omega)
    obtain ⟨h4, h5⟩ := dAt_bd hg hj (a : Int)
    have h6 := hn j
    obtain ⟨h7, h8⟩ := prod_bd h2 (by omega) h4 h5
    have e : costRow F flow j (a + 1) = costRow F flow j a + flAt flow j a * dAt F j (a : Int) := sumTo_succ _ _
    rw [e]; omega
theorem costFl_bd {F : Fld} {needs S : List Int} {flow : List (List Int)} (hg : goodF F = true) (hn : ∀ j, lget needs j ≤ 5) (h : ∀ j, j < F.di.length → flRow F.op.length (lget needs j) S (flow.getD j []) = true) : ∀ k, k ≤ F.di.length → 0 ≤ costFl F flow k ∧ costFl F flow k ≤ k * 3465
  | 0, _ => by simp [costFl, sumTo_zero]
  | k + 1, hk => by
    have h1 := costFl_bd hg hn h k (by omega)
    obtain ⟨h2, h3⟩ := costRow_bd hg (show k < F.di.length by omega) hn (h k (by omega)) F.op.length (Nat.le_refl _)
    have h7 := (goodF_iff.1 hg).1.2
    have e : costFl F flow (k + 1) = costFl F flow k + costRow F flow k F.op.length := sumTo_succ _ _
    rw [e]; omega
theorem lget_all {xs : List Int} {M : Int} (hM : 0 ≤ M) (h : ∀ x ∈ xs, 0 ≤ x ∧ x ≤ M) (i : Nat) : 0 ≤ lget xs i ∧ lget xs i ≤ M := by
  by_cases hi : i < xs.length
  · rw [lget_at hi]; exact h _ (List.getElem_mem hi)
  · have : lget xs i = 0 := by unfold lget; rw [List.getD_eq_getElem?_getD, List.getElem?_eq_none (by omega)]; rfl
    rw [this]; exact ⟨Int.le_refl _, hM⟩
def fcIn (F : Fld) (rooms needs S : List Int) (flow : List (List Int)) : Bool := haulB F rooms needs S && flowB F rooms needs S flow
def fcV (F : Fld) (rooms needs S : List Int) (flow : List (List Int)) : Int := if fcIn F rooms needs S flow = true then costFl F flow F.di.length else 0
end Go.Proofs.YtbfmencamaicbaaGreat

namespace Go.Proofs.YtbfmencamaicbaaGreat
theorem sumTo_addf (g h : Nat → Int) : ∀ k, sumTo (fun i => g i + h i) k = sumTo g k + sumTo h k
  | 0 => by simp [sumTo_zero]
  | k + 1 => by rw [sumTo_succ, sumTo_succ, sumTo_succ, sumTo_addf g h k]; omega
theorem sumTo_congr {g h : Nat → Int} : ∀ {k : Nat}, (∀ i, i < k → g i = h i) → sumTo g k = sumTo h k
  | 0, _ => rfl
  | k + 1, e => by rw [sumTo_succ, sumTo_succ, sumTo_congr (fun i hi => e i (by omega)), e k (by omega)]
theorem sumTo_mono' {g h : Nat → Int} : ∀ {k : Nat}, (∀ i, i < k → g i ≤ h i) → sumTo g k ≤ sumTo h k
  | 0, _ => Int.le_refl _
  | k + 1, e => by rw [sumTo_succ, sumTo_succ]; have := sumTo_mono' (fun i hi => e i (by omega) : ∀ i, i < k → g i ≤ h i); have := e k (by omega); omega
theorem sumTo_lt {g h : Nat → Int} {a : Nat} : ∀ {k : Nat}, (∀ i, i < k → g i ≤ h i) → a < k → g a < h a → sumTo g k < sumTo h k
  | 0, _, ha, _ => by omega
  | k + 1, e, ha, hl => by
    rw [sumTo_succ, sumTo_succ]
    by_cases h1 : a = k
    · subst h1; have := sumTo_mono' (fun i hi => e i (by omega) : ∀ i, i < a → g i ≤ h i); omega
    · have := sumTo_lt (fun i hi => e i (by omega) : ∀ i, i < k → g i ≤ h i) (by omega) hl; have := e k (by omega); omega
theorem sumTo_c0 (k : Nat) : sumTo (fun _ => 0) k = 0 := by
  induction k with
  | zero => rfl
  | succ k ih => rw [sumTo_succ, ih]; rfl
theorem sumTo_sub (g h : Nat → Int) : ∀ k, sumTo (fun i => g i - h i) k = sumTo g k - sumTo h k
  | 0 => by simp [sumTo_zero]
  | k + 1 => by rw [sumTo_succ, sumTo_succ, sumTo_succ, sumTo_sub g h k]; omega
theorem sumTo_mulc (g : Nat → Int) (c : Int) : ∀ k, sumTo (fun i => g i * c) k = sumTo g k * c
  | 0 => by simp [sumTo_zero]
  | k + 1 => by rw [sumTo_succ, sumTo_succ, sumTo_mulc g c k, Int.add_mul]
theorem sumTo_swap (g : Nat → Nat → Int) (k : Nat) : ∀ m, sumTo (fun i => sumTo (g i) k) m = sumTo (fun j => sumTo (fun i => g i j) m) k
  | 0 => by simp only [sumTo_zero]; rw [sumTo_c0]
  | m + 1 => by
    rw [sumTo_succ, sumTo_swap g k m, ← sumTo_addf]
    exact sumTo_congr (fun j _ => (sumTo_succ _ _).symm)
theorem sumTo_nn {g : Nat → Int} {k : Nat} (h : ∀ i, i < k → 0 ≤ g i) : 0 ≤ sumTo g k := by
  have := sumTo_mono' (g := fun _ => 0) h
  rwa [sumTo_c0] at this
theorem sumTo_ge {g : Nat → Int} {a : Nat} : ∀ {k : Nat}, (∀ i, i < k → 0 ≤ g i) → a < k → g a ≤ sumTo g k
  | 0, _, ha => by omega
  | k + 1, h, ha => by
    rw [sumTo_succ]
    by_cases h1 : a = k
    · subst h1; have := sumTo_nn (fun i hi => h i (by omega) : ∀ i, i < a → 0 ≤ g i); omega
    · have := sumTo_ge (fun i hi => h i (by omega) : ∀ i, i < k → 0 ≤ g i) (show a < k by omega); have := h k (by omega); omega
theorem sumTo_pos' {g : Nat → Int} {k : Nat} (h : ∀ i, i < k → 0 ≤ g i) (hs : 0 < sumTo g k) : ∃ i, i < k ∧ 0 < g i := by
  by_cases hh : ∃ i, i < k ∧ 0 < g i
  · exact hh
  · exfalso
    have : ∀ i, i < k → g i ≤ (fun _ => (0 : Int)) i := fun i hi => by
      have := h i hi
      by_cases h2 : 0 < g i
      · exact absurd ⟨i, hi, h2⟩ hh
      · show g i ≤ 0; omega
    have := sumTo_mono' this
    rw [sumTo_c0] at this; omega
/-- Change at one place. -/
def upd {α : Type} (g : Nat → α) (j : Nat) (x : α) (i : Nat) : α := if i = j then x else g i
theorem upd_at {α : Type} {g : Nat → α} {j : Nat} {x : α} : upd g j x j = x := if_pos rfl
theorem upd_ne {α : Type} {g : Nat → α} {j i : Nat} {x : α} (h : i ≠ j) : upd g j x i = g i := if_neg h
theorem sumTo_ones (n : Nat) : sumTo (fun _ => 1) n = (n : Int) := by
  induction n with
  | zero => rfl
  | succ n ih => rw [sumTo_succ, ih]; omega
theorem sumTo_single {g : Nat → Int} {p : Nat} : ∀ {n : Nat}, p < n → (∀ i, i < n → i ≠ p → g i = 0) → sumTo g n = g p
  | 0, h, _ => by omega
  | n + 1, h, h0 => by
    rw [sumTo_succ]
    by_cases e : p = n
    · subst e
      rw [sumTo_congr (h := fun _ => 0) (fun i hi => h0 i (by omega) (by omega)), sumTo_c0]; omega
    · rw [sumTo_single (show p < n by omega) (fun i hi hn => h0 i (by omega) hn), h0 n (by omega) (by omega)]; omega
theorem sumTo_one {p n : Nat} (h : p < n) : sumTo (fun i => if i = p then 1 else 0) n = 1 := by
  rw [sumTo_single h (fun i _ hn => if_neg hn), if_pos rfl]
end Go.Proofs.YtbfmencamaicbaaGreat
