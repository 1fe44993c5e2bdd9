/- Flows of least cost: prices, labels, one more unit: plain words. No condition. -/
import Derived.Test.YtpiijhfjliolfaaGreatQAh
namespace Go.Proofs.YtpiijhfjliolfaaGreat
theorem sumTo_upd (g : Nat → Int) (j : Nat) (x : Int) : ∀ k, sumTo (upd g j x) k = sumTo g k + (if j < k then x - g j else 0)
  | 0 => by simp [sumTo_zero]
  | k + 1 => by
    rw [sumTo_succ, sumTo_succ, sumTo_upd g j x k]
    by_cases h : k = j
    · subst h; rw [upd_at, if_neg (by omega), if_pos (by omega)]; omega
    · rw [upd_ne h]
      by_cases h2 : j < k
      · rw [if_pos h2, if_pos (by omega)]; omega
      · rw [if_neg h2, if_neg (by omega)]; omega
/-- What is sent by a client, and what a site is sent. -/
def rowS (M : Nat) (x : Nat → Nat → Int) (j : Nat) : Int := sumTo (x j) M
def colT (J : Nat) (x : Nat → Nat → Int) (a : Nat) : Int := sumTo (fun j => x j a) J
def costT (J M : Nat) (d x : Nat → Nat → Int) : Int := sumTo (fun j => sumTo (fun a => x j a * d j a) M) J
/-- A haul: numbers of at least 0, only where they may be, each client's whole need, no site more than its rooms. -/
structure Haul (J M : Nat) (may : Nat → Nat → Bool) (nd rm : Nat → Int) (x : Nat → Nat → Int) : Prop where
  nn : ∀ j a, j < J → a < M → 0 ≤ x j a
  may : ∀ j a, j < J → a < M → 0 < x j a → may j a = true
  row : ∀ j, j < J → rowS M x j = nd j
  col : ∀ a, a < M → colT J x a ≤ rm a
/-- Prices under which no way of one more unit pays. -/
structure Pot (J M : Nat) (d : Nat → Nat → Int) (may : Nat → Nat → Bool) (f : Nat → Nat → Int) (lf : Nat → Int) (pc ps : Nat → Int) (T : Int) : Prop where
  arc : ∀ j a, j < J → a < M → may j a = true → ps a ≤ pc j + d j a
  back : ∀ j a, j < J → a < M → 0 < f j a → pc j ≤ ps a - d j a
  room : ∀ a, a < M → 0 < lf a → T ≤ ps a
  used : ∀ a, a < M → 0 < colT J f a → ps a ≤ T
theorem pot_sum {J M : Nat} (x : Nat → Nat → Int) (pc ps : Nat → Int) : sumTo (fun j => sumTo (fun a => x j a * (ps a - pc j)) M) J = sumTo (fun a => colT J x a * ps a) M - sumTo (fun j => rowS M x j * pc j) J := by
  have e1 : ∀ j, sumTo (fun a => x j a * (ps a - pc j)) M = sumTo (fun a => x j a * ps a) M - rowS M x j * pc j := fun j => by
    unfold rowS
    rw [← sumTo_mulc, ← sumTo_sub]
    exact sumTo_congr (fun a _ => by rw [Int.mul_sub])
  rw [sumTo_congr (fun j _ => e1 j), sumTo_sub, sumTo_swap]
  congr 1
  exact sumTo_congr (fun a _ => by unfold colT; rw [sumTo_mulc])
theorem tot {J M : Nat} (x : Nat → Nat → Int) : sumTo (colT J x) M = sumTo (rowS M x) J := (sumTo_swap x M J).symm
/-- No haul of the same needs costs less. -/
theorem pot_least {J M : Nat} {d : Nat → Nat → Int} {may : Nat → Nat → Bool} {f x : Nat → Nat → Int} {nd rm lf pc ps : Nat → Int} {T : Int}
    (hp : Pot J M d may f lf pc ps T) (hf : ∀ j a, j < J → a < M → 0 ≤ f j a) (hr : ∀ j, j < J → rowS M f j = nd j) (hl : ∀ a, a < M → colT J f a + lf a = rm a) (hl0 : ∀ a, a < M → 0 ≤ lf a) (hx : Haul J M may nd rm x) :
    costT J M d f ≤ costT J M d x := by
  have h1 : costT J M d f ≤ sumTo (fun j => sumTo (fun a => f j a * (ps a - pc j)) M) J := by
    refine sumTo_mono' (fun j hj => sumTo_mono' (fun a ha => ?_))
    have h0 := hf j a hj ha
    by_cases h : 0 < f j a
    · exact Int.mul_le_mul_of_nonneg_left (by have := hp.back j a hj ha h; omega) h0
    · have : f j a = 0 := by omega
      simp [this]
  have h2 : sumTo (fun j => sumTo (fun a => x j a * (ps a - pc j)) M) J ≤ costT J M d x := by
    refine sumTo_mono' (fun j hj => sumTo_mono' (fun a ha => ?_))
    have h0 := hx.nn j a hj ha
    by_cases h : 0 < x j a
    · exact Int.mul_le_mul_of_nonneg_left (by have := hp.arc j a hj ha (hx.may j a hj ha h); omega) h0
    · have : x j a = 0 := by omega
      simp [this]
  rw [pot_sum] at h1 h2
  have e1 : sumTo (fun j => rowS M f j * pc j) J = sumTo (fun j => rowS M x j * pc j) J := sumTo_congr (fun j hj => by rw [hr j hj, hx.row j hj])
  have e2 : sumTo (colT J f) M = sumTo (colT J x) M := by rw [tot, tot]; exact sumTo_congr (fun j hj => by rw [hr j hj, hx.row j hj])
  have h3 : sumTo (fun a => colT J f a * ps a) M ≤ sumTo (fun a => colT J x a * ps a) M := by
    have k1 : sumTo (fun a => colT J f a * ps a - colT J f a * T) M ≤ sumTo (fun a => colT J x a * ps a - colT J x a * T) M := by
      refine sumTo_mono' (fun a ha => ?_)
      rw [← Int.mul_sub, ← Int.mul_sub]
      have f0 : 0 ≤ colT J f a := sumTo_nn (fun j hj => hf j a hj ha)
      have x0 : 0 ≤ colT J x a := sumTo_nn (fun j hj => hx.nn j a hj ha)
      rcases Int.lt_trichotomy (ps a) T with h | h | h
      · have : ¬ 0 < lf a := fun hh => by have := hp.room a ha hh; omega
        have e : colT J x a ≤ colT J f a := by have := hl a ha; have := hx.col a ha; have := hl0 a ha; omega
        exact Int.mul_le_mul_of_nonpos_right e (by omega)
      · have : ps a - T = 0 := by omega
        simp [this]
      · have : ¬ 0 < colT J f a := fun hh => by have := hp.used a ha hh; omega
        have e : colT J f a = 0 := by omega
        rw [e, Int.zero_mul]
        exact Int.mul_nonneg x0 (by omega)
    rw [sumTo_sub, sumTo_sub, sumTo_mulc, sumTo_mulc, e2] at k1
    omega
  omega
/-- Where no way leads on, no haul sends more. -/
theorem cut_no {J M : Nat} {may : Nat → Nat → Bool} {f x : Nat → Nat → Int} {lf nd rm : Nat → Int} {RC RS : Nat → Bool} {j0 : Nat}
    (h1 : ∀ j a, j < J → a < M → RC j = true → may j a = true → RS a = true) (h2 : ∀ j a, j < J → a < M → RS a = true → 0 < f j a → RC j = true) (h3 : ∀ a, a < M → RS a = true → lf a = 0) (hj0 : j0 < J) (hc0 : RC j0 = true)
    (hf : ∀ j a, j < J → a < M → 0 ≤ f j a) (hl : ∀ a, a < M → colT J f a + lf a = rm a) (hr : ∀ j, j < J → rowS M f j ≤ nd j) (hr0 : rowS M f j0 < nd j0) (hx : Haul J M may nd rm x) : False := by
  -- what the reached clients send, the reached sites are sent
  have a1 : sumTo (fun j => if RC j = true then rowS M x j else 0) J ≤ sumTo (fun j => sumTo (fun a => if RS a = true then x j a else 0) M) J := by
    refine sumTo_mono' (fun j hj => ?_)
    by_cases h : RC j = true
    · rw [if_pos h]
      refine sumTo_mono' (fun a ha => ?_)
      by_cases hs : RS a = true
      · rw [if_pos hs]; exact Int.le_refl _
      · rw [if_neg hs]
        have := hx.nn j a hj ha
        by_cases hp : 0 < x j a
        · exact absurd (h1 j a hj ha h (hx.may j a hj ha hp)) hs
        · omega
    · rw [if_neg h]
      exact sumTo_nn (fun a ha => by split; exact hx.nn j a hj ha; exact Int.le_refl _)
  have a2 : sumTo (fun j => sumTo (fun a => if RS a = true then x j a else 0) M) J = sumTo (fun a => if RS a = true then colT J x a else 0) M := by
    rw [sumTo_swap]
    refine sumTo_congr (fun a _ => ?_)
    by_cases h : RS a = true
    · simp only [if_pos h]; rfl
    · simp only [if_neg h]; exact sumTo_c0 _
  have a3 : sumTo (fun a => if RS a = true then colT J x a else 0) M ≤ sumTo (fun a => if RS a = true then colT J f a else 0) M := by
    refine sumTo_mono' (fun a ha => ?_)
    by_cases h : RS a = true
    · rw [if_pos h, if_pos h]
      have := hl a ha; have := h3 a ha h; have := hx.col a ha; omega
    · rw [if_neg h, if_neg h]; exact Int.le_refl _
  have a4 : sumTo (fun a => if RS a = true then colT J f a else 0) M = sumTo (fun j => sumTo (fun a => if RS a = true then f j a else 0) M) J := by
    rw [sumTo_swap]
    refine sumTo_congr (fun a _ => ?_)
    by_cases h : RS a = true
    · simp only [if_pos h]; rfl
    · simp only [if_neg h]; exact (sumTo_c0 _).symm
  have a5 : sumTo (fun j => sumTo (fun a => if RS a = true then f j a else 0) M) J ≤ sumTo (fun j => if RC j = true then rowS M f j else 0) J := by
    refine sumTo_mono' (fun j hj => ?_)
    by_cases h : RC j = true
    · rw [if_pos h]
      refine sumTo_mono' (fun a ha => ?_)
      split
      · exact Int.le_refl _
      · exact hf j a hj ha
    · rw [if_neg h]
      have : sumTo (fun a => if RS a = true then f j a else 0) M = sumTo (fun _ => 0) M := sumTo_congr (fun a ha => by
        by_cases hs : RS a = true
        · rw [if_pos hs]
          have := hf j a hj ha
          by_cases hp : 0 < f j a
          · exact absurd (h2 j a hj ha hs hp) h
          · omega
        · rw [if_neg hs])
      rw [this, sumTo_c0]; exact Int.le_refl _
  have a6 : sumTo (fun j => if RC j = true then rowS M f j else 0) J < sumTo (fun j => if RC j = true then rowS M x j else 0) J := by
    refine sumTo_lt (a := j0) (fun j hj => ?_) hj0 ?_
    · by_cases h : RC j = true
      · rw [if_pos h, if_pos h, hx.row j hj]; exact hr j hj
      · rw [if_neg h, if_neg h]; exact Int.le_refl _
    · simp only [if_pos hc0, hx.row j0 hj0]; exact hr0
  rw [a2] at a1
  rw [a4] at a3
  omega
/-- Labels under which no step shortens a way; rc and rs tell who is reached. -/
structure Lab (J M : Nat) (d : Nat → Nat → Int) (may : Nat → Nat → Bool) (f : Nat → Nat → Int) (cl si : Nat → Int) (rc rs : Nat → Bool) : Prop where
  arc : ∀ j a, j < J → a < M → may j a = true → rc j = true → rs a = true ∧ si a ≤ cl j + d j a
  back : ∀ j a, j < J → a < M → 0 < f j a → rs a = true → rc j = true ∧ cl j ≤ si a - d j a
/-- One more unit along a shortest way: prices are found again. -/
theorem pot_next {J M : Nat} {d : Nat → Nat → Int} {may : Nat → Nat → Bool} {f f' : Nat → Nat → Int} {lf pc ps : Nat → Int} {T : Int} {cl si : Nat → Int} {rc rs : Nat → Bool} {b : Nat}
    (hp : Pot J M d may f lf pc ps T) (hl : Lab J M d may f cl si rc rs) (hb : b < M) (hbr : rs b = true) (hbl : 0 < lf b) (hbest : ∀ a, a < M → rs a = true → 0 < lf a → si b ≤ si a)
    (hf' : ∀ j a, j < J → a < M → 0 < f' j a → 0 < f j a ∨ (may j a = true ∧ rc j = true ∧ rs a = true ∧ si a = cl j + d j a ∧ si a - ps a ≤ si b - ps b))
    (hc : ∀ a, a < M → colT J f' a = colT J f a + if a = b then 1 else 0) :
    ∃ pc' ps' T', Pot J M d may f' (upd lf b (lf b - 1)) pc' ps' T' := by
  have hTb := hp.room b hb hbl
  refine ⟨fun j => if rc j = true then pc j + min (cl j - pc j) (si b - T) else pc j + (si b - T), fun a => if rs a = true then ps a + min (si a - ps a) (si b - T) else ps a + (si b - T), si b, ?_, ?_, ?_, ?_⟩
  · intro j a hj ha hm
    have h1 := hp.arc j a hj ha hm
    by_cases hr : rc j = true
    · obtain ⟨h2, h3⟩ := hl.arc j a hj ha hm hr
      simp only [if_pos hr, if_pos h2]; omega
    · simp only [if_neg hr]
      split <;> omega
  · have key : ∀ j a, j < J → a < M → 0 < f j a → (if rc j = true then pc j + min (cl j - pc j) (si b - T) else pc j + (si b - T)) ≤ (if rs a = true then ps a + min (si a - ps a) (si b - T) else ps a + (si b - T)) - d j a := by
      intro j a hj ha hm
      have h1 := hp.back j a hj ha hm
      by_cases hr : rs a = true
      · obtain ⟨h2, h3⟩ := hl.back j a hj ha hm hr
        rw [if_pos hr, if_pos h2]; omega
      · rw [if_neg hr]
        split <;> omega
    intro j a hj ha hm
    rcases hf' j a hj ha hm with h | ⟨h1, h2, h3, h4, h5⟩
    · exact key j a hj ha h
    · have := hp.arc j a hj ha h1
      simp only [if_pos h2, if_pos h3]; omega
  · intro a ha hla
    have h0 : 0 < lf a := by
      by_cases e : a = b
      · subst e; exact hbl
      · rw [upd_ne e] at hla; exact hla
    have h1 := hp.room a ha h0
    by_cases hr : rs a = true
    · have := hbest a ha hr h0
      simp only [if_pos hr]; omega
    · simp only [if_neg hr]; omega
  · intro a ha hu
    by_cases e : a = b
    · subst e
      simp only [if_pos hbr]; omega
    · have := hc a ha
      rw [if_neg e] at this
      have h1 := hp.used a ha (by omega)
      split <;> omega
/-- Nobody with room is reached: no haul sends more. -/
theorem lab_no {J M : Nat} {d : Nat → Nat → Int} {may : Nat → Nat → Bool} {f x : Nat → Nat → Int} {lf nd rm cl si : Nat → Int} {rc rs : Nat → Bool} {j0 : Nat}
    (hl : Lab J M d may f cl si rc rs) (h3 : ∀ a, a < M → rs a = true → lf a = 0) (hj0 : j0 < J) (hc0 : rc j0 = true)
    (hf : ∀ j a, j < J → a < M → 0 ≤ f j a) (hlf : ∀ a, a < M → colT J f a + lf a = rm a) (hr : ∀ j, j < J → rowS M f j ≤ nd j) (hr0 : rowS M f j0 < nd j0) (hx : Haul J M may nd rm x) : False :=
  cut_no (RC := rc) (RS := rs) (fun j a hj ha h1 h2 => (hl.arc j a hj ha h2 h1).1) (fun j a hj ha h1 h2 => (hl.back j a hj ha h2 h1).1) h3 hj0 hc0 hf hlf hr hr0 hx

/-- The tree of ways while labels fall: each node that is not a root has a parent, whose label less its price is less, or equal and laid earlier. -/
structure Tree {ν : Type} (nodes : List ν) (arc : ν → ν → Nat → Int → Prop) (root : ν → Int → Nat → Prop) (p : ν → Int) (far : Int) (l : ν → Int) (par : ν → Option ν) (tg tm : ν → Nat) (now : Nat) : Prop where
  par_some : ∀ v u, par v = some u → u ∈ nodes ∧ l v < far ∧ l u < far ∧ (∃ c, arc u v (tg v) c ∧ l u + c ≤ l v) ∧ (l u - p u < l v - p v ∨ (l u - p u = l v - p v ∧ tm u < tm v))
  par_none : ∀ v, par v = none → l v < far → root v (l v) (tg v)
  tm_le : ∀ v, tm v ≤ now
  le_far : ∀ v, l v ≤ far
def updv {ν α : Type} [DecidableEq ν] (g : ν → α) (j : ν) (x : α) (i : ν) : α := if i = j then x else g i
theorem updv_at {ν α : Type} [DecidableEq ν] {g : ν → α} {j : ν} {x : α} : updv g j x j = x := if_pos rfl
theorem updv_ne {ν α : Type} [DecidableEq ν] {g : ν → α} {j i : ν} {x : α} (h : i ≠ j) : updv g j x i = g i := if_neg h
theorem Tree.relax {ν : Type} [DecidableEq ν] {nodes : List ν} {arc : ν → ν → Nat → Int → Prop} {root : ν → Int → Nat → Prop} {p : ν → Int} {far : Int} {l : ν → Int} {par : ν → Option ν} {tg tm : ν → Nat} {now : Nat}
    (h : Tree nodes arc root p far l par tg tm now) (hp : ∀ u v e c, arc u v e c → p v ≤ p u + c) {u v : ν} {e : Nat} {c : Int} (hu : u ∈ nodes) (ha : arc u v e c) (hr : l u < far) (hlt : l u + c < l v) (hne : u ≠ v) :
    Tree nodes arc root p far (updv l v (l u + c)) (updv par v (some u)) (updv tg v e) (updv tm v (now + 1)) (now + 1) := by
  have hf := h.le_far v
  have hpa := hp u v e c ha
  refine ⟨?_, ?_, ?_, ?_⟩
  · intro x y hxy
    by_cases hx : x = v
    · subst hx
      rw [updv_at] at hxy
      obtain rfl : u = y := by simpa using hxy
      rw [updv_at, updv_ne hne, updv_at, updv_at, updv_ne hne]
      have := h.tm_le u
      exact ⟨hu, by omega, hr, ⟨c, ha, by omega⟩, by omega⟩
    · rw [updv_ne hx] at hxy
      obtain ⟨h1, h2, h3, ⟨c2, h4, h5⟩, h6⟩ := h.par_some x y hxy
      by_cases hy : y = v
      · subst hy
        rw [updv_at, updv_ne hx, updv_ne hx, updv_at, updv_ne hx]
        exact ⟨h1, h2, by omega, ⟨c2, h4, by omega⟩, by omega⟩
      · rw [updv_ne hx, updv_ne hy, updv_ne hx, updv_ne hx, updv_ne hy]
        exact ⟨h1, h2, h3, ⟨c2, h4, h5⟩, h6⟩
  · intro x hx hl
    by_cases e1 : x = v
    · subst e1; rw [updv_at] at hx; cases hx
    · rw [updv_ne e1] at hx hl ⊢
      rw [updv_ne e1]
      exact h.par_none x hx hl
  · intro x
    by_cases e1 : x = v
    · subst e1; rw [updv_at]; exact Nat.le_refl _
    · rw [updv_ne e1]; have := h.tm_le x; omega
  · intro x
    by_cases e1 : x = v
    · subst e1; rw [updv_at]; omega
    · rw [updv_ne e1]; exact h.le_far x
/-- Before: the rank of a node. -/
def befN {ν : Type} (p l : ν → Int) (tm : ν → Nat) (x v : ν) : Bool := decide (l x - p x < l v - p v) || (decide (l x - p x = l v - p v) && decide (tm x < tm v))
theorem befN_iff {ν : Type} {p l : ν → Int} {tm : ν → Nat} {x v : ν} : befN p l tm x v = true ↔ l x - p x < l v - p v ∨ (l x - p x = l v - p v ∧ tm x < tm v) := by simp [befN]
def cntN {ν : Type} (nodes : List ν) (p l : ν → Int) (tm : ν → Nat) (v : ν) : Nat := nodes.countP fun x => befN p l tm x v
theorem cnt_le {ν : Type} {nodes : List ν} {p l : ν → Int} {tm : ν → Nat} {v : ν} : cntN nodes p l tm v ≤ nodes.length := List.countP_le_length
theorem countP_lt {α : Type} {P Q : α → Bool} {u : α} : ∀ {L : List α}, (∀ x, P x = true → Q x = true) → u ∈ L → P u = false → Q u = true → L.countP P < L.countP Q
  | [], _, hu, _, _ => by simp at hu
  | x :: t, h, hu, h1, h2 => by
    have hm : t.countP P ≤ t.countP Q := List.countP_mono_left (fun x _ hx => h x hx)
    rw [List.countP_cons, List.countP_cons]
    rcases List.mem_cons.1 hu with e | hu
    · subst e; rw [h1, h2]; simp; omega
    · have := countP_lt h hu h1 h2
      by_cases hx : P x = true
      · rw [if_pos hx, if_pos (h x hx)]; omega
      · rw [if_neg hx]; split <;> omega
theorem cnt_lt {ν : Type} {nodes : List ν} {p l : ν → Int} {tm : ν → Nat} {u v : ν} (hu : u ∈ nodes) (h : l u - p u < l v - p v ∨ (l u - p u = l v - p v ∧ tm u < tm v)) : cntN nodes p l tm u < cntN nodes p l tm v := by
  refine countP_lt (u := u) (fun x hx => ?_) hu ?_ (befN_iff.2 h)
  · rw [befN_iff] at hx ⊢; omega
  · cases hb : befN p l tm u u
    · rfl
    · rw [befN_iff] at hb; omega
/-- Labels do not fall without end, and what is reached costs at least what its root does. -/
theorem Tree.low {ν : Type} {nodes : List ν} {arc : ν → ν → Nat → Int → Prop} {root : ν → Int → Nat → Prop} {p : ν → Int} {far : Int} {l : ν → Int} {par : ν → Option ν} {tg tm : ν → Nat} {now : Nat} {B : Int}
    (h : Tree nodes arc root p far l par tg tm now) (hc : ∀ u v e c, arc u v e c → -B ≤ c) (hB : 0 ≤ B) (hroot : ∀ v x e, root v x e → 0 ≤ x) (hfar : 0 ≤ far) : ∀ (n : Nat) (v : ν), cntN nodes p l tm v ≤ n → -(B * n) ≤ l v
  | n, v, hn => by
    by_cases hr : l v < far
    · cases hp : par v with
      | none =>
        have h1 := hroot v _ _ (h.par_none v hp hr)
        have := Int.mul_nonneg hB (show (0 : Int) ≤ n by omega)
        omega
      | some u =>
        obtain ⟨h1, h2, h3, ⟨c, h4, h5⟩, h6⟩ := h.par_some v u hp
        have hlt := cnt_lt (nodes := nodes) h1 h6
        cases n with
        | zero => omega
        | succ n =>
          have := Tree.low h hc hB hroot hfar n u (by omega)
          have h7 := hc u v _ c h4
          have e : B * ((n + 1 : Nat) : Int) = B * n + B := by rw [Int.natCast_add, Int.mul_add]; simp
          omega
    · have := Int.mul_nonneg hB (show (0 : Int) ≤ n by omega)
      omega
/-- Labels less prices are at least those of a root. -/
theorem Tree.red {ν : Type} {nodes : List ν} {arc : ν → ν → Nat → Int → Prop} {root : ν → Int → Nat → Prop} {p : ν → Int} {far : Int} {l : ν → Int} {par : ν → Option ν} {tg tm : ν → Nat} {now : Nat} {B : Int}
    (h : Tree nodes arc root p far l par tg tm now) (hroot : ∀ v x e, root v x e → B ≤ x - p v) : ∀ (n : Nat) (v : ν), cntN nodes p l tm v ≤ n → l v < far → B ≤ l v - p v
  | n, v, hn, hr => by
    cases hp : par v with
    | none => exact hroot v _ _ (h.par_none v hp hr)
    | some u =>
      obtain ⟨h1, h2, h3, ⟨c, h4, h5⟩, h6⟩ := h.par_some v u hp
      have hlt := cnt_lt (nodes := nodes) h1 h6
      cases n with
      | zero => omega
      | succ n =>
        have := Tree.red h hroot n u (by omega) h3
        omega
/-- What is reached at the end costs at most so much more than a root. -/
theorem Tree.high {ν : Type} {nodes : List ν} {arc : ν → ν → Nat → Int → Prop} {root : ν → Int → Nat → Prop} {p : ν → Int} {far : Int} {l : ν → Int} {par : ν → Option ν} {tg tm : ν → Nat} {now : Nat} {B R : Int}
    (h : Tree nodes arc root p far l par tg tm now) (hc : ∀ u v e c, arc u v e c → c ≤ B) (hB : 0 ≤ B) (hroot : ∀ v x e, root v x e → x ≤ R) (hstop : ∀ u v e c, arc u v e c → l u < far → l v ≤ l u + c) : ∀ (n : Nat) (v : ν), cntN nodes p l tm v ≤ n → l v < far → l v ≤ R + B * n
  | n, v, hn, hr => by
    cases hp : par v with
    | none =>
      have h1 := hroot v _ _ (h.par_none v hp hr)
      have := Int.mul_nonneg hB (show (0 : Int) ≤ n by omega)
      omega
    | some u =>
      obtain ⟨h1, h2, h3, ⟨c, h4, h5⟩, h6⟩ := h.par_some v u hp
      have hlt := cnt_lt (nodes := nodes) h1 h6
      cases n with
      | zero => omega
      | succ n =>
        have := Tree.high h hc hB hroot hstop n u (by omega) h3
        have h7 := hc u v _ c h4
        have h8 := hstop u v _ c h4 h3
        have e : B * ((n + 1 : Nat) : Int) = B * n + B := by rw [Int.natCast_add, Int.mul_add]; simp
        omega
def farN : Int := 1099511627776
def labL (xs : List Int) (v : Nat) : Int := if v < xs.length then lget xs v else farN
def parL (xs : List Int) (v : Nat) : Option Nat := if v < xs.length ∧ 0 ≤ lget xs v then some (lget xs v).toNat else none
def tagL (xs : List Int) (v : Nat) : Nat := (lget xs v).toNat
theorem lget_set {xs : List Int} {v i : Nat} {x : Int} (h : v < xs.length) : lget (xs.set v x) i = if i = v then x else lget xs i := by
  unfold lget
  by_cases e : i = v
  · subst e; rw [if_pos rfl]; simp [List.getD, h]
  · rw [if_neg e]; simp [List.getD, List.getElem?_set_ne (Ne.symm e)]
theorem labL_set {xs : List Int} {v : Nat} {x : Int} (h : v < xs.length) : labL (xs.set v x) = updv (labL xs) v x := by
  funext i
  unfold labL updv
  rw [List.length_set, lget_set h]
  by_cases e : i = v
  · subst e; simp [h]
  · simp [e]
theorem parL_set {xs : List Int} {v u : Nat} (h : v < xs.length) : parL (xs.set v (u : Int)) = updv (parL xs) v (some u) := by
  funext i
  unfold parL updv
  rw [List.length_set, lget_set h]
  by_cases e : i = v
  · subst e; simp [h]
  · simp [e]
theorem tagL_set {xs : List Int} {v u : Nat} (h : v < xs.length) : tagL (xs.set v (u : Int)) = updv (tagL xs) v u := by
  funext i
  unfold tagL updv
  rw [lget_set h]
  by_cases e : i = v
  · subst e; simp
  · simp [e]
theorem labL_in {xs : List Int} {v : Nat} (h : v < xs.length) : labL xs v = lget xs v := if_pos h
/-- A step from one site to another by a client that is served there. -/
def arcI (J M : Nat) (d : Nat → Nat → Int) (may : Nat → Nat → Bool) (f : Nat → Nat → Int) (u v e : Nat) (c : Int) : Prop := e < J ∧ u < M ∧ v < M ∧ 0 < f e u ∧ may e v = true ∧ c = d e v - d e u
def rootI (M : Nat) (d : Nat → Nat → Int) (may : Nat → Nat → Bool) (first v : Nat) (x : Int) (e : Nat) : Prop := v < M ∧ may first v = true ∧ x = d first v ∧ e = first
/-- The labels while they fall. -/
structure Bfs (J M : Nat) (d : Nat → Nat → Int) (may : Nat → Nat → Bool) (f : Nat → Nat → Int) (ps : Nat → Int) (first : Nat) (co fr b : List Int) : Prop where
  lc : co.length = M
  lfr : fr.length = M
  lb : b.length = M
  tree : ∃ tm now, Tree (List.range M) (arcI J M d may f) (rootI M d may first) ps farN (labL co) (parL fr) (tagL b) tm now
  root : ∀ a, a < M → may first a = true → lget co a ≤ d first a
  fr_ : ∀ a, a < M → -1 ≤ lget fr a ∧ lget fr a < M
  b_ : ∀ a, a < M → -1 ≤ lget b a ∧ lget b a < J
  reach : ∀ a, a < M → lget co a < farN → 0 ≤ lget b a
def initC (d : Nat → Nat → Int) (may : Nat → Nat → Bool) (first M k : Nat) : List Int := (List.range M).map fun a => if a < k ∧ may first a = true then d first a else farN
def initB (may : Nat → Nat → Bool) (first M k : Nat) : List Int := (List.range M).map fun a => if a < k ∧ may first a = true then (first : Int) else -1
theorem initC_len (d : Nat → Nat → Int) (may : Nat → Nat → Bool) (first M k : Nat) : (initC d may first M k).length = M := by simp [initC]
theorem initB_len (may : Nat → Nat → Bool) (first M k : Nat) : (initB may first M k).length = M := by simp [initB]
theorem initC_at {d : Nat → Nat → Int} {may : Nat → Nat → Bool} {first M k a : Nat} (h : a < M) : lget (initC d may first M k) a = if a < k ∧ may first a = true then d first a else farN := by
  rw [lget_at (by rw [initC_len]; exact h)]; simp [initC]
theorem initB_at {may : Nat → Nat → Bool} {first M k a : Nat} (h : a < M) : lget (initB may first M k) a = if a < k ∧ may first a = true then (first : Int) else -1 := by
  rw [lget_at (by rw [initB_len]; exact h)]; simp [initB]
theorem initC_zero (d : Nat → Nat → Int) (may : Nat → Nat → Bool) (first M : Nat) : initC d may first M 0 = List.replicate M farN := by
  apply List.ext_getElem
  · simp [initC]
  · intro i h1 h2; simp [initC]
theorem initB_zero (may : Nat → Nat → Bool) (first M : Nat) : initB may first M 0 = List.replicate M (-1) := by
  apply List.ext_getElem
  · simp [initB]
  · intro i h1 h2; simp [initB]
theorem initC_yes {d : Nat → Nat → Int} {may : Nat → Nat → Bool} {first M k : Nat} (h : may first k = true) : (initC d may first M k).set k (d first k) = initC d may first M (k + 1) := by
  apply List.ext_getElem
  · simp [initC]
  · intro i h1 h2
    rw [List.getElem_set]
    by_cases e : k = i
    · subst e; simp [initC, h]
    · rw [if_neg e]
      simp only [initC, List.getElem_map, List.getElem_range]
      by_cases hm : may first i = true
      · by_cases hl : i < k
        · rw [if_pos ⟨hl, hm⟩, if_pos ⟨by omega, hm⟩]
        · rw [if_neg (by omega), if_neg (by omega)]
      · rw [if_neg (fun h => hm h.2), if_neg (fun h => hm h.2)]
theorem initB_yes {may : Nat → Nat → Bool} {first M k : Nat} (h : may first k = true) : (initB may first M k).set k (first : Int) = initB may first M (k + 1) := by
  apply List.ext_getElem
  · simp [initB]
  · intro i h1 h2
    rw [List.getElem_set]
    by_cases e : k = i
    · subst e; simp [initB, h]
    · rw [if_neg e]
      simp only [initB, List.getElem_map, List.getElem_range]
      by_cases hm : may first i = true
      · by_cases hl : i < k
        · rw [if_pos ⟨hl, hm⟩, if_pos ⟨by omega, hm⟩]
        · rw [if_neg (by omega), if_neg (by omega)]
      · rw [if_neg (fun h => hm h.2), if_neg (fun h => hm h.2)]
theorem initC_no {d : Nat → Nat → Int} {may : Nat → Nat → Bool} {first M k : Nat} (h : may first k = false) : initC d may first M (k + 1) = initC d may first M k := by
  unfold initC
  apply List.map_congr_left
  intro i _
  by_cases hm : may first i = true
  · have : i ≠ k := fun e => by subst e; rw [h] at hm; cases hm
    by_cases hl : i < k
    · rw [if_pos ⟨by omega, hm⟩, if_pos ⟨hl, hm⟩]
    · rw [if_neg (by omega), if_neg (by omega)]
  · rw [if_neg (fun h => hm h.2), if_neg (fun h => hm h.2)]
theorem initB_no {may : Nat → Nat → Bool} {first M k : Nat} (h : may first k = false) : initB may first M (k + 1) = initB may first M k := by
  unfold initB
  apply List.map_congr_left
  intro i _
  by_cases hm : may first i = true
  · have : i ≠ k := fun e => by subst e; rw [h] at hm; cases hm
    by_cases hl : i < k
    · rw [if_pos ⟨by omega, hm⟩, if_pos ⟨hl, hm⟩]
    · rw [if_neg (by omega), if_neg (by omega)]
  · rw [if_neg (fun h => hm h.2), if_neg (fun h => hm h.2)]
theorem Bfs.init {J M : Nat} {d : Nat → Nat → Int} {may : Nat → Nat → Bool} {f : Nat → Nat → Int} {ps : Nat → Int} {first : Nat} (hd : ∀ j a, 0 ≤ d j a ∧ d j a ≤ 99) (hf : first < J) :
    Bfs J M d may f ps first (initC d may first M M) (List.replicate M (-1)) (initB may first M M) := by
  have hpar : ∀ v, parL (List.replicate M (-1)) v = none := fun v => by
    unfold parL
    refine if_neg (fun h => ?_)
    have h1 : v < M := by simpa using h.1
    have : lget (List.replicate M (-1)) v = -1 := by rw [lget_at h.1]; simp
    rw [this] at h; omega
  refine ⟨initC_len _ _ _ _ _, by simp, initB_len _ _ _ _, ⟨fun _ => 0, 0, ?_⟩, ?_, ?_, ?_, ?_⟩
  · refine ⟨(fun v u h => by rw [hpar] at h; cases h), fun v _ hl => ?_, fun v => Nat.le_refl _, fun v => ?_⟩
    · by_cases hv : v < M
      · rw [labL_in (by rw [initC_len]; exact hv), initC_at hv] at hl ⊢
        by_cases hm : v < M ∧ may first v = true
        · rw [if_pos hm]
          refine ⟨hv, hm.2, rfl, ?_⟩
          rw [tagL, initB_at hv, if_pos hm]; simp
        · rw [if_neg hm] at hl; unfold farN at hl; omega
      · rw [labL, if_neg (by rw [initC_len]; exact hv)] at hl; unfold farN at hl; omega
    · by_cases hv : v < M
      · rw [labL_in (by rw [initC_len]; exact hv), initC_at hv]
        split
        · have := (hd first v).2; unfold farN; omega
        · exact Int.le_refl _
      · rw [labL, if_neg (by rw [initC_len]; exact hv)]; exact Int.le_refl _
  · intro a ha hm; rw [initC_at ha, if_pos ⟨ha, hm⟩]; exact Int.le_refl _
  · intro a ha
    rw [lget_at (by simpa using ha)]; simp; omega
  · intro a ha; rw [initB_at ha]; split <;> omega
  · intro a ha hl
    rw [initC_at ha] at hl
    by_cases hm : a < M ∧ may first a = true
    · rw [initB_at ha, if_pos hm]; omega
    · rw [if_neg hm] at hl; unfold farN at hl; omega
theorem arcI_pot {J M : Nat} {d : Nat → Nat → Int} {may : Nat → Nat → Bool} {f : Nat → Nat → Int} {lf pc ps : Nat → Int} {T : Int} (hp : Pot J M d may f lf pc ps T) : ∀ u v e c, arcI J M d may f u v e c → ps v ≤ ps u + c := by
  rintro u v e c ⟨h1, h2, h3, h4, h5, rfl⟩
  have := hp.arc e v h1 h3 h5
  have := hp.back e u h1 h2 h4
  omega
theorem Bfs.relax {J M : Nat} {d : Nat → Nat → Int} {may : Nat → Nat → Bool} {f : Nat → Nat → Int} {lf pc ps : Nat → Int} {T : Int} {first : Nat} {co fr b : List Int} (h : Bfs J M d may f ps first co fr b) (hp : Pot J M d may f lf pc ps T)
    {i a x : Nat} (hi : i < J) (ha : a < M) (hx : x < M) (hf : 0 < f i a) (hm : may i x = true) (hr : lget co a < farN) (hlt : lget co a - d i a + d i x < lget co x) :
    Bfs J M d may f ps first (co.set x (lget co a - d i a + d i x)) (fr.set x (a : Int)) (b.set x (i : Int)) := by
  obtain ⟨tm, now, ht⟩ := h.tree
  have hxc : x < co.length := by rw [h.lc]; exact hx
  have hxf : x < fr.length := by rw [h.lfr]; exact hx
  have hxb : x < b.length := by rw [h.lb]; exact hx
  have hac : a < co.length := by rw [h.lc]; exact ha
  have hne : a ≠ x := fun e => by subst e; omega
  refine ⟨by rw [List.length_set]; exact h.lc, by rw [List.length_set]; exact h.lfr, by rw [List.length_set]; exact h.lb, ⟨updv tm x (now + 1), now + 1, ?_⟩, ?_, ?_, ?_, ?_⟩
  · rw [labL_set hxc, parL_set hxf, tagL_set hxb]
    have := ht.relax (arcI_pot hp) (u := a) (v := x) (e := i) (c := d i x - d i a) (List.mem_range.2 ha) ⟨hi, ha, hx, hf, hm, rfl⟩ (by rw [labL_in hac]; exact hr) (by rw [labL_in hac, labL_in hxc]; omega) hne
    rw [labL_in hac, show lget co a + (d i x - d i a) = lget co a - d i a + d i x from by omega] at this
    exact this
  · intro y hy hmy
    have := h.root y hy hmy
    rw [lget_set hxc]
    by_cases e : y = x
    · subst e; rw [if_pos rfl]; omega
    · rw [if_neg e]; exact this
  · intro y hy
    rw [lget_set hxf]
    by_cases e : y = x
    · rw [if_pos e]; omega
    · rw [if_neg e]; exact h.fr_ y hy
  · intro y hy
    rw [lget_set hxb]
    by_cases e : y = x
    · rw [if_pos e]; omega
    · rw [if_neg e]; exact h.b_ y hy
  · intro y hy
    rw [lget_set hxb, lget_set hxc]
    by_cases e : y = x
    · rw [if_pos e, if_pos e]; omega
    · rw [if_neg e, if_neg e]; exact h.reach y hy
theorem Bfs.low {J M : Nat} {d : Nat → Nat → Int} {may : Nat → Nat → Bool} {f : Nat → Nat → Int} {ps : Nat → Int} {first : Nat} {co fr b : List Int} (h : Bfs J M d may f ps first co fr b) (hd : ∀ j a, 0 ≤ d j a ∧ d j a ≤ 99) {a : Nat} (ha : a < M) : -(99 * (M : Int)) ≤ lget co a ∧ lget co a ≤ farN := by
  obtain ⟨tm, now, ht⟩ := h.tree
  have hac : a < co.length := by rw [h.lc]; exact ha
  have h1 := ht.low (B := 99) (fun u v e c hc => by obtain ⟨_, _, _, _, _, rfl⟩ := hc; have := hd e u; have := hd e v; omega) (by omega) (fun v x e hr => by obtain ⟨_, _, rfl, _⟩ := hr; exact (hd _ _).1) (by unfold farN; omega) M a (by have := cnt_le (nodes := List.range M) (p := ps) (l := labL co) (tm := tm) (v := a); simpa using this)
  rw [labL_in hac] at h1
  have h2 := ht.le_far a
  rw [labL_in hac] at h2
  exact ⟨h1, h2⟩
def findS (M : Nat) (f : Nat → Nat → Int) (co : List Int) (i : Nat) : Option Nat := (List.range M).find? fun a => decide (0 < f i a) && decide (lget co a < farN)
def clI (M : Nat) (d f : Nat → Nat → Int) (co : List Int) (first i : Nat) : Int := if i = first then 0 else match findS M f co i with
  | some a => lget co a - d i a
  | none => 0
def rcI (M : Nat) (f : Nat → Nat → Int) (co : List Int) (first i : Nat) : Bool := decide (i = first) || (findS M f co i).isSome
def rsI (co : List Int) (a : Nat) : Bool := decide (lget co a < farN)
theorem findS_some {M : Nat} {f : Nat → Nat → Int} {co : List Int} {i a : Nat} (h : findS M f co i = some a) : a < M ∧ 0 < f i a ∧ lget co a < farN := by
  have h1 := List.find?_some h
  have h2 := List.mem_of_find?_eq_some h
  simp only [Bool.and_eq_true, decide_eq_true_eq] at h1
  exact ⟨List.mem_range.1 h2, h1.1, h1.2⟩
theorem findS_none {M : Nat} {f : Nat → Nat → Int} {co : List Int} {i : Nat} (h : findS M f co i = none) : ∀ a, a < M → 0 < f i a → ¬ lget co a < farN := by
  intro a ha hf hl
  have := List.find?_eq_none.1 h a (List.mem_range.2 ha)
  simp [hf, hl] at this
/-- When labels stand still. -/
def StopI (J M : Nat) (d : Nat → Nat → Int) (may : Nat → Nat → Bool) (f : Nat → Nat → Int) (co : List Int) : Prop := ∀ i a x, i < J → a < M → x < M → 0 < f i a → lget co a < farN → may i x = true → lget co x ≤ lget co a - d i a + d i x
theorem Bfs.high {J M : Nat} {d : Nat → Nat → Int} {may : Nat → Nat → Bool} {f : Nat → Nat → Int} {ps : Nat → Int} {first : Nat} {co fr b : List Int} (h : Bfs J M d may f ps first co fr b) (hd : ∀ j a, 0 ≤ d j a ∧ d j a ≤ 99) (hs : StopI J M d may f co) {a : Nat} (ha : a < M) (hr : lget co a < farN) : lget co a ≤ 99 + 99 * (M : Int) := by
  obtain ⟨tm, now, ht⟩ := h.tree
  have hac : a < co.length := by rw [h.lc]; exact ha
  have h1 := ht.high (B := 99) (R := 99) (fun u v e c hc => by obtain ⟨_, _, _, _, _, rfl⟩ := hc; have := hd e u; have := hd e v; omega) (by omega) (fun v x e hr => by obtain ⟨_, _, rfl, _⟩ := hr; exact (hd _ _).2)
    (fun u v e c hc hl => by
      obtain ⟨c1, c2, c3, c4, c5, rfl⟩ := hc
      rw [labL_in (v := u) (by rw [h.lc]; exact c2)] at hl ⊢
      rw [labL_in (v := v) (by rw [h.lc]; exact c3)]
      have := hs e u v c1 c2 c3 c4 hl c5
      omega) M a (by have := cnt_le (nodes := List.range M) (p := ps) (l := labL co) (tm := tm) (v := a); simpa using this) (by rw [labL_in hac]; exact hr)
  rw [labL_in hac] at h1
  exact h1
theorem Bfs.red {J M : Nat} {d : Nat → Nat → Int} {may : Nat → Nat → Bool} {f : Nat → Nat → Int} {lf pc ps : Nat → Int} {T : Int} {first : Nat} {co fr b : List Int} (h : Bfs J M d may f ps first co fr b) (hp : Pot J M d may f lf pc ps T) (hfi : first < J) {a : Nat} (ha : a < M) (hr : lget co a < farN) : -pc first ≤ lget co a - ps a := by
  obtain ⟨tm, now, ht⟩ := h.tree
  have hac : a < co.length := by rw [h.lc]; exact ha
  have h1 := ht.red (B := -pc first) (fun v x e hr => by obtain ⟨h1, h2, rfl, _⟩ := hr; have := hp.arc first v hfi h1 h2; omega) M a (by have := cnt_le (nodes := List.range M) (p := ps) (l := labL co) (tm := tm) (v := a); simpa using this) (by rw [labL_in hac]; exact hr)
  rw [labL_in hac] at h1
  exact h1
theorem Bfs.lab {J M : Nat} {d : Nat → Nat → Int} {may : Nat → Nat → Bool} {f : Nat → Nat → Int} {lf pc ps : Nat → Int} {T : Int} {first : Nat} {co fr b : List Int} (h : Bfs J M d may f ps first co fr b) (hp : Pot J M d may f lf pc ps T) (hfi : first < J) (hM : M ≤ 1000)
    (hd : ∀ j a, 0 ≤ d j a ∧ d j a ≤ 99) (hfm : ∀ j a, j < J → a < M → 0 < f j a → may j a = true) (hs : StopI J M d may f co) : Lab J M d may f (clI M d f co first) (lget co) (rcI M f co first) (rsI co) := by
  constructor
  · intro i a hi ha hm hrc
    unfold rsI
    by_cases e : i = first
    · subst e
      have h1 := h.root a ha hm
      have := (hd i a).2
      unfold clI
      rw [if_pos rfl]
      exact ⟨decide_eq_true (by unfold farN; omega), by omega⟩
    · unfold clI
      rw [if_neg e]
      cases hf : findS M f co i with
      | none => simp [rcI, e, hf] at hrc
      | some a0 =>
        obtain ⟨g1, g2, g3⟩ := findS_some hf
        have h1 := hs i a0 a hi g1 ha g2 g3 hm
        have h2 := h.high hd hs g1 g3
        have := hd i a; have := hd i a0
        exact ⟨decide_eq_true (by unfold farN; omega), by simp only; omega⟩
  · intro i a hi ha hfa hra
    have hra' : lget co a < farN := by simpa [rsI] using hra
    by_cases e : i = first
    · subst e
      refine ⟨by simp [rcI], ?_⟩
      unfold clI
      rw [if_pos rfl]
      have h1 := h.red hp hi ha hra'
      have h2 := hp.back i a hi ha hfa
      omega
    · unfold clI rcI
      rw [if_neg e]
      cases hf : findS M f co i with
      | none => exact absurd hra' (findS_none hf a ha hfa)
      | some a0 =>
        obtain ⟨g1, g2, g3⟩ := findS_some hf
        have h1 := hs i a a0 hi ha g1 hfa hra' (hfm i a0 hi g1 g2)
        exact ⟨by simp, by simp only; omega⟩
/-- The site that is found: reached, with room, the cheapest of them. -/
structure BestS (M : Nat) (lf : Nat → Int) (co : List Int) (best : Nat) : Prop where
  lt : best < M
  reach : lget co best < farN
  room : 0 < lf best
  least : ∀ a, a < M → lget co a < farN → 0 < lf a → lget co best ≤ lget co a
def tightI (M : Nat) (d : Nat → Nat → Int) (may : Nat → Nat → Bool) (f : Nat → Nat → Int) (ps : Nat → Int) (first : Nat) (co : List Int) (best i a : Nat) : Prop :=
  may i a = true ∧ rcI M f co first i = true ∧ rsI co a = true ∧ lget co a = clI M d f co first i + d i a ∧ lget co a - ps a ≤ lget co best - ps best
/-- While one unit is sent, from the last site back to the first client. -/
structure Snd (J M : Nat) (d : Nat → Nat → Int) (may : Nat → Nat → Bool) (f : Nat → Nat → Int) (ps : Nat → Int) (first : Nat) (co : List Int) (tm : Nat → Nat) (best : Nat) (a : Int) (f' : Nat → Nat → Int) : Prop where
  cur : -1 ≤ a ∧ a < M
  ok : 0 ≤ a → lget co a.toNat < farN ∧ lget co a.toNat - ps a.toNat ≤ lget co best - ps best
  nn : ∀ i x, i < J → x < M → 0 ≤ f' i x
  keep : 0 ≤ a → ∀ i x, i < J → x < M → befN ps (labL co) tm x a.toNat = true → f i x ≤ f' i x
  supp : ∀ i x, i < J → x < M → 0 < f' i x → 0 < f i x ∨ tightI M d may f ps first co best i x
  row : ∀ i, i < J → rowS M f' i = rowS M f i + if a < 0 ∧ i = first then 1 else 0
  col : ∀ x, x < M → colT J f' x = colT J f x + (if x = best then 1 else 0) - if (x : Int) = a then 1 else 0
theorem Snd.start {J M : Nat} {d : Nat → Nat → Int} {may : Nat → Nat → Bool} {f : Nat → Nat → Int} {ps : Nat → Int} {first : Nat} {co : List Int} {tm : Nat → Nat} {best : Nat} {lf : Nat → Int} (hb : BestS M lf co best) (hf : ∀ i x, i < J → x < M → 0 ≤ f i x) : Snd J M d may f ps first co tm best best f := by
  refine ⟨⟨by omega, by have := hb.lt; omega⟩, fun _ => ⟨by simpa using hb.reach, by simp⟩, hf, fun _ _ _ _ _ _ => Int.le_refl _, fun _ _ _ _ h => .inl h, fun i _ => by rw [if_neg (by omega)]; omega, fun x _ => ?_⟩
  by_cases e : x = best
  · rw [if_pos e, if_pos (by omega)]; omega
  · rw [if_neg e, if_neg (by omega)]; omega
/-- One number more or less at one place. -/
theorem row_upd2 {M : Nat} (f : Nat → Nat → Int) {j a : Nat} (x : Int) (ha : a < M) (i : Nat) : rowS M (upd2 f j a x) i = rowS M f i + if i = j then x - f j a else 0 := by
  unfold rowS
  by_cases e : i = j
  · subst e
    rw [if_pos rfl, show upd2 f i a x i = upd (f i) a x from by funext b; unfold upd2; rw [if_pos rfl], sumTo_upd, if_pos ha]
  · rw [if_neg e, show upd2 f j a x i = f i from by funext b; unfold upd2; rw [if_neg e]]; omega
theorem col_upd2 {J : Nat} (f : Nat → Nat → Int) {j a : Nat} (x : Int) (hj : j < J) (b : Nat) : colT J (upd2 f j a x) b = colT J f b + if b = a then x - f j a else 0 := by
  unfold colT
  by_cases e : b = a
  · subst e
    rw [if_pos rfl, show (fun i => upd2 f j b x i b) = upd (fun i => f i b) j x from by
      funext i; unfold upd2 upd
      by_cases h : i = j
      · rw [if_pos h, if_pos h, if_pos rfl]
      · rw [if_neg h, if_neg h], sumTo_upd, if_pos hj]
  · rw [if_neg e, show (fun i => upd2 f j a x i b) = fun i => f i b from by funext i; exact upd2_ne (.inr e)]; omega
theorem befN_trans {ν : Type} {p l : ν → Int} {tm : ν → Nat} {x y z : ν} (h1 : befN p l tm x y = true) (h2 : befN p l tm y z = true) : befN p l tm x z = true := by
  rw [befN_iff] at *; omega
theorem befN_irr {ν : Type} {p l : ν → Int} {tm : ν → Nat} {x : ν} (h : befN p l tm x x = true) : False := by
  rw [befN_iff] at h; omega
/-- A site on the way: its client is tight. -/
theorem tight_of {J M : Nat} {d : Nat → Nat → Int} {may : Nat → Nat → Bool} {f : Nat → Nat → Int} {lf pc ps : Nat → Int} {T : Int} {first : Nat} {co fr b : List Int} {tm : Nat → Nat} {now : Nat} {best : Nat} (h : Bfs J M d may f ps first co fr b)
    (ht : Tree (List.range M) (arcI J M d may f) (rootI M d may first) ps farN (labL co) (parL fr) (tagL b) tm now) (hl : Lab J M d may f (clI M d f co first) (lget co) (rcI M f co first) (rsI co)) (_hp : Pot J M d may f lf pc ps T)
    {a : Nat} (ha : a < M) (hr : lget co a < farN) (hle : lget co a - ps a ≤ lget co best - ps best) :
    ∃ i : Nat, lget b a = i ∧ i < J ∧ tightI M d may f ps first co best i a ∧
      ((lget fr a < 0 ∧ i = first) ∨ ∃ u : Nat, lget fr a = u ∧ u < M ∧ u ≠ a ∧ 0 < f i u ∧ lget co u < farN ∧ befN ps (labL co) tm u a = true ∧ lget co u - ps u ≤ lget co best - ps best) := by
  have hac : a < co.length := by rw [h.lc]; exact ha
  have haf : a < fr.length := by rw [h.lfr]; exact ha
  have hb0 := h.reach a ha hr
  have hbJ := (h.b_ a ha).2
  have hfb := h.fr_ a ha
  by_cases hn : lget fr a < 0
  · have hpar : parL fr a = none := by unfold parL; exact if_neg (by omega)
    obtain ⟨_, h2, h3, h4⟩ := ht.par_none a hpar (by rw [labL_in hac]; exact hr)
    rw [labL_in hac] at h3
    unfold tagL at h4
    have e : lget b a = (first : Nat) := by omega
    refine ⟨first, e, by omega, ⟨h2, by simp [rcI], decide_eq_true hr, ?_, hle⟩, .inl ⟨hn, rfl⟩⟩
    unfold clI; rw [if_pos rfl, h3]; omega
  · obtain ⟨u, hu⟩ := Int.eq_ofNat_of_zero_le (show 0 ≤ lget fr a by omega)
    have hpar : parL fr a = some u := by unfold parL; rw [if_pos ⟨haf, by omega⟩, hu]; rfl
    obtain ⟨k1, k2, k3, ⟨c, ⟨c1, c2, c3, c4, c5, c6⟩, k5⟩, k6⟩ := ht.par_some a u hpar
    have huc : u < co.length := by rw [h.lc]; exact c2
    rw [labL_in hac, labL_in huc] at k5
    rw [labL_in huc] at k3
    have hbef : befN ps (labL co) tm u a = true := befN_iff.2 k6
    rw [labL_in hac, labL_in huc] at k6
    obtain ⟨i, hi⟩ := Int.eq_ofNat_of_zero_le hb0
    have ei : tagL b a = i := by unfold tagL; rw [hi]; rfl
    rw [ei] at c1 c4 c5 c6
    have hru : rsI co u = true := decide_eq_true k3
    obtain ⟨m1, m2⟩ := hl.back i u c1 c2 c4 hru
    obtain ⟨m3, m4⟩ := hl.arc i a c1 ha c5 m1
    refine ⟨i, hi, c1, ⟨c5, m1, m3, by omega, hle⟩, .inr ⟨u, hu, c2, fun e => by subst e; exact befN_irr hbef, c4, k3, hbef, by omega⟩⟩
theorem Snd.root {J M : Nat} {d : Nat → Nat → Int} {may : Nat → Nat → Bool} {f f' : Nat → Nat → Int} {ps : Nat → Int} {first : Nat} {co : List Int} {tm : Nat → Nat} {best a : Nat} (h : Snd J M d may f ps first co tm best a f') (hfi : first < J)
    (ht : tightI M d may f ps first co best first a) : Snd J M d may f ps first co tm best (-1) (upd2 f' first a (f' first a + 1)) := by
  have ha : a < M := by have := h.cur.2; omega
  refine ⟨⟨by omega, by omega⟩, fun hh => by omega, ?_, fun hh => by omega, ?_, ?_, ?_⟩
  · intro i x hi hx
    by_cases e : i = first ∧ x = a
    · obtain ⟨rfl, rfl⟩ := e; rw [upd2_at]; have := h.nn i x hi hx; omega
    · rw [upd2_ne (by omega)]; exact h.nn i x hi hx
  · intro i x hi hx hp
    by_cases e : i = first ∧ x = a
    · obtain ⟨rfl, rfl⟩ := e; exact .inr ht
    · rw [upd2_ne (by omega)] at hp; exact h.supp i x hi hx hp
  · intro i hi
    rw [row_upd2 _ _ ha, h.row i hi]
    (repeat' split) <;> omega
  · intro x hx
    rw [col_upd2 _ _ hfi, h.col x hx]
    by_cases e : x = a
    · rw [if_pos e, if_pos (show (x : Int) = (a : Int) by omega), if_neg (show ¬ (x : Int) = -1 by omega)]; omega
    · rw [if_neg e, if_neg (show ¬ (x : Int) = (a : Int) by omega), if_neg (show ¬ (x : Int) = -1 by omega)]; omega
theorem Snd.step {J M : Nat} {d : Nat → Nat → Int} {may : Nat → Nat → Bool} {f f' : Nat → Nat → Int} {ps : Nat → Int} {first : Nat} {co : List Int} {tm : Nat → Nat} {best a i u : Nat} (h : Snd J M d may f ps first co tm best a f') (hi : i < J) (hu : u < M) (hne : u ≠ a)
    (ht : tightI M d may f ps first co best i a) (hf : 0 < f i u) (hr : lget co u < farN) (hbef : befN ps (labL co) tm u a = true) (hle : lget co u - ps u ≤ lget co best - ps best) :
    0 < upd2 f' i a (f' i a + 1) i u ∧ Snd J M d may f ps first co tm best u (upd2 (upd2 f' i a (f' i a + 1)) i u (upd2 f' i a (f' i a + 1) i u - 1)) := by
  have ha : a < M := by have := h.cur.2; omega
  have hk := h.keep (by omega)
  rw [Int.toNat_natCast] at hk
  have h1 : upd2 f' i a (f' i a + 1) i u = f' i u := upd2_ne (.inr hne)
  have h2 := hk i u hi hu hbef
  rw [h1]
  refine ⟨by omega, ⟨⟨by omega, by omega⟩, fun _ => ⟨by simpa using hr, by simpa using hle⟩, ?_, ?_, ?_, ?_, ?_⟩⟩
  · intro j x hj hx
    by_cases e : j = i ∧ x = u
    · obtain ⟨rfl, rfl⟩ := e; rw [upd2_at]; omega
    · rw [upd2_ne (by omega)]
      by_cases e2 : j = i ∧ x = a
      · obtain ⟨rfl, rfl⟩ := e2; rw [upd2_at]; have := h.nn j x hj hx; omega
      · rw [upd2_ne (by omega)]; exact h.nn j x hj hx
  · intro _ j x hj hx hb
    rw [Int.toNat_natCast] at hb
    have hxu : x ≠ u := fun e => by subst e; exact befN_irr hb
    have hba := befN_trans hb hbef
    have hxa : x ≠ a := fun e => by subst e; exact befN_irr hba
    rw [upd2_ne (.inr hxu), upd2_ne (.inr hxa)]
    exact hk j x hj hx hba
  · intro j x hj hx hp
    by_cases e : j = i ∧ x = u
    · obtain ⟨rfl, rfl⟩ := e; exact .inl hf
    · rw [upd2_ne (by omega)] at hp
      by_cases e2 : j = i ∧ x = a
      · obtain ⟨rfl, rfl⟩ := e2; exact .inr ht
      · rw [upd2_ne (by omega)] at hp; exact h.supp j x hj hx hp
  · intro j hj
    rw [row_upd2 _ _ hu, row_upd2 _ _ ha, h.row j hj, h1]
    (repeat' split) <;> omega
  · intro x hx
    rw [col_upd2 _ _ hi, col_upd2 _ _ hi, h.col x hx, h1]
    by_cases e : x = a
    · rw [if_pos e, if_pos (show (x : Int) = (a : Int) by omega), if_neg (show ¬ x = u by omega), if_neg (show ¬ (x : Int) = (u : Int) by omega)]; omega
    · rw [if_neg e, if_neg (show ¬ (x : Int) = (a : Int) by omega)]
      by_cases e3 : x = u
      · rw [if_pos e3, if_pos (show (x : Int) = (u : Int) by omega)]; omega
      · rw [if_neg e3, if_neg (show ¬ (x : Int) = (u : Int) by omega)]; omega
/-- What stands between two pushes. -/
structure Net (J M : Nat) (d : Nat → Nat → Int) (may : Nat → Nat → Bool) (rm : Nat → Int) (f : Nat → Nat → Int) (lf : Nat → Int) : Prop where
  nn : ∀ i x, i < J → x < M → 0 ≤ f i x
  mayf : ∀ i x, i < J → x < M → 0 < f i x → may i x = true
  lf0 : ∀ x, x < M → 0 ≤ lf x
  col : ∀ x, x < M → colT J f x + lf x = rm x
  pot : ∃ pc ps T, Pot J M d may f lf pc ps T
theorem Snd.net {J M : Nat} {d : Nat → Nat → Int} {may : Nat → Nat → Bool} {f f' : Nat → Nat → Int} {rm lf pc ps : Nat → Int} {T : Int} {first : Nat} {co : List Int} {tm : Nat → Nat} {best : Nat} (hn : Net J M d may rm f lf) (hp : Pot J M d may f lf pc ps T) (hb : BestS M lf co best)
    (hl : Lab J M d may f (clI M d f co first) (lget co) (rcI M f co first) (rsI co)) (h : Snd J M d may f ps first co tm best (-1) f') : Net J M d may rm f' (upd lf best (lf best - 1)) := by
  have hc : ∀ x, x < M → colT J f' x = colT J f x + if x = best then 1 else 0 := fun x hx => by rw [h.col x hx, if_neg (show ¬ (x : Int) = -1 by omega)]; omega
  refine ⟨h.nn, fun i x hi hx hpos => ?_, fun x hx => ?_, fun x hx => ?_, ?_⟩
  · rcases h.supp i x hi hx hpos with h1 | h1
    · exact hn.mayf i x hi hx h1
    · exact h1.1
  · by_cases e : x = best
    · subst e; rw [upd_at]; have := hb.room; omega
    · rw [upd_ne e]; exact hn.lf0 x hx
  · rw [hc x hx]
    have := hn.col x hx
    by_cases e : x = best
    · subst e; rw [upd_at, if_pos rfl]; omega
    · rw [upd_ne e, if_neg e]; omega
  · exact pot_next hp hl hb.lt (decide_eq_true hb.reach) hb.room (fun a ha hr hl => hb.least a ha (by simpa [rsI] using hr) hl) (fun i x hi hx hpos => h.supp i x hi hx hpos) hc
theorem Net.zero {J M : Nat} {d : Nat → Nat → Int} {may : Nat → Nat → Bool} {rm : Nat → Int} (hd : ∀ j a, 0 ≤ d j a) (hr : ∀ x, x < M → 0 ≤ rm x) : Net J M d may rm (fun _ _ => 0) rm := by
  have hz : ∀ x, colT J (fun _ _ => 0) x = 0 := fun x => sumTo_c0 J
  refine ⟨fun _ _ _ _ => Int.le_refl _, fun _ _ _ _ h => by simp at h, hr, fun x _ => by rw [hz]; omega, fun _ => 0, fun _ => 0, 0, ⟨fun j a _ _ _ => by have := hd j a; omega, fun _ _ _ _ h => by simp at h, fun _ _ _ => Int.le_refl _, fun _ _ _ => Int.le_refl _⟩⟩
/-- Nobody with room is reached: no haul has these rows and one unit more of this client. -/
theorem Bfs.no {J M : Nat} {d : Nat → Nat → Int} {may : Nat → Nat → Bool} {f : Nat → Nat → Int} {rm lf : Nat → Int} {first : Nat} {co : List Int} (hn : Net J M d may rm f lf) (hfi : first < J)
    (hl : Lab J M d may f (clI M d f co first) (lget co) (rcI M f co first) (rsI co)) (hno : ∀ a, a < M → lget co a < farN → ¬ 0 < lf a) {nd : Nat → Int} (h1 : ∀ j, j < J → rowS M f j ≤ nd j) (h2 : rowS M f first < nd first) (x : Nat → Nat → Int) : ¬ Haul J M may nd rm x := fun hx =>
  lab_no hl (fun a ha hr => by have := hno a ha (by simpa [rsI] using hr); have := hn.lf0 a ha; omega) hfi (by simp [rcI]) hn.nn hn.col h1 h2 hx
/-- All is sent: the haul is one of the cheapest. -/
theorem Net.least {J M : Nat} {d : Nat → Nat → Int} {may : Nat → Nat → Bool} {f : Nat → Nat → Int} {rm lf nd : Nat → Int} (hn : Net J M d may rm f lf) (hr : ∀ j, j < J → rowS M f j = nd j) : Haul J M may nd rm f ∧ ∀ x, Haul J M may nd rm x → costT J M d f ≤ costT J M d x := by
  obtain ⟨pc, ps, T, hp⟩ := hn.pot
  exact ⟨⟨hn.nn, hn.mayf, hr, fun a ha => by have := hn.col a ha; have := hn.lf0 a ha; omega⟩, fun x hx => pot_least hp hn.nn hr hn.col hn.lf0 hx⟩
end Go.Proofs.YtpiijhfjliolfaaGreat
