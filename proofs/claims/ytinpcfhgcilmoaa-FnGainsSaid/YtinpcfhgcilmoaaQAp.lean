/- l1Put: a number put into a rising list; Marginal gains and greedy choices: plain words; The gain of a set goes by its members alone; more sites, no less gain; Which tables are submodular: the program's answer and the reference's; Fields with a set of at least one site: the program's test and the reference's; The least worth with which a set's gain reaches a part: the program's answer and the reference's; l1Put: the reference's walk. No condition. -/
import Derived.Test.YtinpcfhgcilmoaaQAb
import Derived.Test.YtinpcfhgcilmoaaQAl
import Derived.Test.YtinpcfhgcilmoaaQAc
import Derived.Deep.RegionHeld3
namespace Go.Proofs.Ytinpcfhgcilmoaa
open Go.RowKit Go.Sort

theorem put_has {S : List Int} {a : Int} {k : Nat} (hk : k < S.length) (h : S[k] = a) : putL S a = S := if_pos (h ▸ List.getElem_mem hk)
theorem put_at {S : List Int} {a : Int} {k : Nat} (hs : S.Pairwise (· < ·)) (h1 : ∀ x ∈ S.take k, x < a) (h2 : ∀ h : k < S.length, a < S[k]) : putL S a = S.take k ++ a :: S.drop k := by
  have hd : ∀ x ∈ S.drop k, a < x := by
    intro x hx
    obtain ⟨i, hi, rfl⟩ := List.getElem_of_mem hx
    have hi' : k + i < S.length := by simp at hi; omega
    have hk : k < S.length := by omega
    rw [List.getElem_drop]
    rcases Nat.eq_zero_or_pos i with rfl | hp
    · exact h2 hk
    · exact Int.lt_trans (h2 hk) (List.pairwise_iff_getElem.1 hs k (k + i) hk hi' (by omega))
  have hn : a ∉ S := by
    intro h
    rw [← List.take_append_drop k S, List.mem_append] at h
    rcases h with h | h
    · exact absurd (h1 a h) (by omega)
    · exact absurd (hd a h) (by omega)
  unfold putL
  rw [if_neg hn]
  have hw : S.takeWhile (· < a) = S.take k ∧ S.dropWhile (· < a) = S.drop k := by
    have e : S = S.take k ++ S.drop k := (List.take_append_drop k S).symm
    constructor
    · conv => lhs; rw [e]
      rw [List.takeWhile_append_of_pos (by intro x hx; simpa using h1 x hx)]
      cases hc : S.drop k with
      | nil => simp
      | cons y t => have := hd y (by rw [hc]; simp); rw [List.takeWhile_cons, if_neg (by simp; omega), List.append_nil]
    · conv => lhs; rw [e]
      rw [List.dropWhile_append_of_pos (by intro x hx; simpa using h1 x hx)]
      cases hc : S.drop k with
      | nil => simp
      | cons y t => have := hd y (by rw [hc]; simp); rw [List.dropWhile_cons, if_neg (by simp; omega)]
  rw [hw.1, hw.2]
end Go.Proofs.Ytinpcfhgcilmoaa

namespace Go.Proofs.Ytinpcfhgcilmoaa
open Go.RowKit Go.Sort

theorem mem_putL {S : List Int} {a x : Int} : x ∈ putL S a ↔ x ∈ S ∨ x = a := by
  unfold putL
  by_cases h : a ∈ S
  · rw [if_pos h]
    constructor
    · exact .inl
    · rintro (h' | rfl)
      · exact h'
      · exact h
  · rw [if_neg h]
    have e : x ∈ S ↔ x ∈ S.takeWhile (· < a) ∨ x ∈ S.dropWhile (· < a) := by
      conv => lhs; rw [← List.takeWhile_append_dropWhile (p := fun y => decide (y < a)) (l := S)]
      rw [List.mem_append]
    rw [List.mem_append, List.mem_cons, e]
    constructor
    · rintro (h | h | h)
      · exact .inl (.inl h)
      · exact .inr h
      · exact .inl (.inr h)
    · rintro ((h | h) | h)
      · exact .inl h
      · exact .inr (.inr h)
      · exact .inr (.inl h)
theorem drop_gt : ∀ {S : List Int} {a : Int}, S.Pairwise (· < ·) → a ∉ S → ∀ x ∈ S.dropWhile (· < a), a < x
  | [], _, _, _, x, hx => by simp at hx
  | y :: t, a, hs, hn, x, hx => by
    rw [List.pairwise_cons] at hs
    simp only [List.mem_cons, not_or] at hn
    rw [List.dropWhile_cons] at hx
    by_cases h : y < a
    · rw [if_pos (by simpa using h)] at hx
      exact drop_gt hs.2 hn.2 x hx
    · rw [if_neg (by simpa using h)] at hx
      rcases List.mem_cons.1 hx with rfl | hx
      · omega
      · have := hs.1 x hx; omega
theorem take_lt {S : List Int} {a : Int} : ∀ x ∈ S.takeWhile (· < a), x < a := by
  induction S with
  | nil => intro x hx; simp at hx
  | cons y t ih =>
    intro x hx
    rw [List.takeWhile_cons] at hx
    by_cases h : y < a
    · rw [if_pos (by simpa using h)] at hx
      rcases List.mem_cons.1 hx with rfl | hx
      · exact h
      · exact ih x hx
    · rw [if_neg (by simpa using h)] at hx
      simp at hx
theorem putL_sorted {S : List Int} (hs : S.Pairwise (· < ·)) (a : Int) : (putL S a).Pairwise (· < ·) := by
  unfold putL
  by_cases h : a ∈ S
  · rw [if_pos h]; exact hs
  · rw [if_neg h, List.pairwise_append, List.pairwise_cons]
    have hd := drop_gt hs h
    refine ⟨hs.sublist (List.takeWhile_sublist _), ⟨hd, hs.sublist (List.dropWhile_sublist _)⟩, fun x hx y hy => ?_⟩
    have h1 := take_lt x hx
    rcases List.mem_cons.1 hy with rfl | hy
    · exact h1
    · have := hd y hy; omega
theorem putL_len (S : List Int) (a : Int) : (putL S a).length ≤ S.length + 1 := by
  unfold putL
  by_cases h : a ∈ S
  · rw [if_pos h]; omega
  · rw [if_neg h, List.length_append, List.length_cons]
    have : S.length = (S.takeWhile (· < a)).length + (S.dropWhile (· < a)).length := by
      conv => lhs; rw [← List.takeWhile_append_dropWhile (p := fun y => decide (y < a)) (l := S), List.length_append]
    omega
theorem putL_new {S : List Int} {a : Int} (h : a ∉ S) : (putL S a).length = S.length + 1 := by
  unfold putL
  rw [if_neg h, List.length_append, List.length_cons]
  have : S.length = (S.takeWhile (· < a)).length + (S.dropWhile (· < a)).length := by
    conv => lhs; rw [← List.takeWhile_append_dropWhile (p := fun y => decide (y < a)) (l := S), List.length_append]
  omega
theorem setB_nil (F : Fld) : setB F [] = true := rfl
theorem setB_put {F : Fld} {S : List Int} {a : Int} (h : setB F S = true) (h0 : 0 ≤ a) (h1 : a < F.op.length) : setB F (putL S a) = true := by
  have hr := ris_iff.1 h
  refine ris_iff.2 ⟨putL_sorted hr.1 a, fun x hx => ?_⟩
  rcases mem_putL.1 hx with hx | rfl
  · exact hr.2 x hx
  · omega
theorem setB_len {F : Fld} {S : List Int} (h : setB F S = true) : S.length ≤ F.op.length := by
  rw [← set_bits h]; exact bitsL_len _ _
theorem bits_any {n b a : Nat} (ha : a < n) : (bitsL n b).any (fun x => x == (a : Int)) = b.testBit a := by
  rw [Bool.eq_iff_iff, List.any_eq_true]
  constructor
  · rintro ⟨x, hx, e⟩
    obtain ⟨h0, h1, h2⟩ := mem_bitsL.1 hx
    have e' : x = a := by simpa using e
    subst e'
    simpa using h2
  · intro h
    exact ⟨a, mem_bitsL.2 ⟨by omega, by omega, by simpa using h⟩, by simp⟩
theorem bits_put {n b a : Nat} (ha : a < n) : bitsL n (b ||| 2 ^ a) = putL (bitsL n b) a := by
  refine rising_ext (bitsL_sorted _ _) (putL_sorted (bitsL_sorted _ _) _) (fun x => ?_)
  rw [mem_putL, mem_bitsL, mem_bitsL, Nat.testBit_or, Nat.testBit_two_pow, Bool.or_eq_true, decide_eq_true_eq]
  constructor
  · rintro ⟨h0, h1, h2 | h2⟩
    · exact .inl ⟨h0, h1, h2⟩
    · exact .inr (by omega)
  · rintro (⟨h0, h1, h2⟩ | rfl)
    · exact ⟨h0, h1, .inl h2⟩
    · exact ⟨by omega, by omega, .inr (by omega)⟩
theorem bits_zero (n : Nat) : bitsL n 0 = [] := by
  have : ∀ x, x ∉ bitsL n 0 := fun x hx => by have := (mem_bitsL.1 hx).2.2; simp at this
  exact List.eq_nil_iff_forall_not_mem.2 this

/-- What a site adds to the gain of a set. -/
def moreF (F : Fld) (worth : Int) (S : List Int) (a : Int) : Int := gainF F worth (putL S a) - gainF F worth S
theorem gainF_bd {F : Fld} (hg : goodF F = true) {worth : Int} (h0 : 0 ≤ worth) (h1 : worth ≤ 999) (S : List Int) : 0 ≤ gainF F worth S ∧ gainF F worth S ≤ 6993 := by
  by_cases h : S = []
  · subst h; rw [gainF_nil]; omega
  · rw [gainF_cons h]
    have := sumTo_bd (gainAt_bd (F := F) (S := S) h0 h1 (fun i => (nearF_bd hg S i).1)) F.di.length
    have h7 := (goodF_iff.1 hg).2.2.1
    omega
theorem moreF_bd {F : Fld} (hg : goodF F = true) {worth : Int} (h0 : 0 ≤ worth) (h1 : worth ≤ 999) (S : List Int) (a : Int) : -6993 ≤ moreF F worth S a ∧ moreF F worth S a ≤ 6993 := by
  have := gainF_bd hg h0 h1 S
  have := gainF_bd hg h0 h1 (putL S a)
  unfold moreF; omega

/-- The first one of the numbers below k that may be taken with the greatest value of more than 0, and this value. -/
def pickTo (ok : Nat → Bool) (val : Nat → Int) : Nat → Int × Int
  | 0 => (-1, 0)
  | k + 1 => if ok k && decide ((pickTo ok val k).2 < val k) then ((k : Int), val k) else pickTo ok val k
theorem pick_yes {ok : Nat → Bool} {val : Nat → Int} {k : Nat} (h1 : ok k = true) (h2 : (pickTo ok val k).2 < val k) : pickTo ok val (k + 1) = ((k : Int), val k) := by
  show (if _ then _ else _) = _
  rw [if_pos (by simp [h1, h2])]
theorem pick_no {ok : Nat → Bool} {val : Nat → Int} {k : Nat} (h : ok k = false) : pickTo ok val (k + 1) = pickTo ok val k := by
  show (if _ then _ else _) = _
  rw [if_neg (by simp [h])]
theorem pick_less {ok : Nat → Bool} {val : Nat → Int} {k : Nat} (h2 : ¬ (pickTo ok val k).2 < val k) : pickTo ok val (k + 1) = pickTo ok val k := by
  show (if _ then _ else _) = _
  rw [if_neg (by simp [h2])]
theorem pick_inv (ok : Nat → Bool) (val : Nat → Int) : ∀ k, pickTo ok val k = (-1, 0) ∨ ∃ a, a < k ∧ ok a = true ∧ 0 < val a ∧ pickTo ok val k = ((a : Int), val a)
  | 0 => .inl rfl
  | k + 1 => by
    have ih := pick_inv ok val k
    by_cases h : ok k = true
    · by_cases h2 : (pickTo ok val k).2 < val k
      · refine .inr ⟨k, by omega, h, ?_, pick_yes h h2⟩
        rcases ih with e | ⟨a, _, _, h3, e⟩ <;> rw [e] at h2 <;> simp at h2 <;> omega
      · rw [pick_less h2]
        rcases ih with e | ⟨a, h1, h3⟩
        · exact .inl e
        · exact .inr ⟨a, by omega, h3⟩
    · rw [pick_no (by simpa using h)]
      rcases ih with e | ⟨a, h1, h3⟩
      · exact .inl e
      · exact .inr ⟨a, by omega, h3⟩
theorem pick_bd (ok : Nat → Bool) (val : Nat → Int) (k : Nat) : -1 ≤ (pickTo ok val k).1 ∧ (pickTo ok val k).1 < k ∧ 0 ≤ (pickTo ok val k).2 := by
  rcases pick_inv ok val k with e | ⟨a, h1, _, h3, e⟩ <;> rw [e] <;> simp <;> omega
theorem pick_neg (ok : Nat → Bool) (val : Nat → Int) (k : Nat) : (pickTo ok val k).1 < 0 ↔ (pickTo ok val k).2 = 0 := by
  rcases pick_inv ok val k with e | ⟨a, h1, _, h3, e⟩ <;> rw [e] <;> simp <;> omega
theorem pick_congr {ok ok' : Nat → Bool} {val val' : Nat → Int} : ∀ k, (∀ a, a < k → ok a = ok' a) → (∀ a, a < k → ok a = true → val a = val' a) → pickTo ok val k = pickTo ok' val' k
  | 0, _, _ => rfl
  | k + 1, h1, h2 => by
    have ih := pick_congr k (fun a ha => h1 a (by omega)) (fun a ha => h2 a (by omega))
    show (if _ then _ else _) = (if _ then _ else _)
    rw [ih, ← h1 k (by omega)]
    by_cases h : ok k = true
    · rw [h2 k (by omega) h]
    · have : ok k = false := by simpa using h
      simp [this]

/-- Which sites may be put into a set. -/
def okF (may : List Int → Bool) (S : List Int) (a : Nat) : Bool := !(S.any fun x => x == (a : Int)) && may (putL S a)
/-- The site that is taken next, and what it adds. -/
def nextTo (F : Fld) (worth : Int) (may : List Int → Bool) (S : List Int) (k : Nat) : Int × Int := pickTo (okF may S) (fun a => moreF F worth S a) k
def nextF (F : Fld) (worth : Int) (may : List Int → Bool) (S : List Int) : Int × Int := nextTo F worth may S F.op.length
/-- At most j more sites, each one with the greatest marginal gain. -/
def grd (F : Fld) (worth : Int) (may : List Int → Bool) : Nat → List Int → List Int → List Int
  | 0, out, _ => out
  | j + 1, out, S => if (nextF F worth may S).1 < 0 then out else grd F worth may j (out ++ [(nextF F worth may S).1]) (putL S (nextF F worth may S).1)
theorem grd_zero {F : Fld} {worth : Int} {may : List Int → Bool} {out S : List Int} : grd F worth may 0 out S = out := rfl
theorem grd_stop {F : Fld} {worth : Int} {may : List Int → Bool} {j : Nat} {out S : List Int} (h : (nextF F worth may S).1 < 0) : grd F worth may j out S = out := by
  cases j with
  | zero => rfl
  | succ j => exact if_pos h
theorem grd_go {F : Fld} {worth : Int} {may : List Int → Bool} {j : Nat} {out S : List Int} (h : ¬ (nextF F worth may S).1 < 0) : grd F worth may (j + 1) out S = grd F worth may j (out ++ [(nextF F worth may S).1]) (putL S (nextF F worth may S).1) := if_neg h
theorem okF_out {may : List Int → Bool} {S : List Int} {a : Nat} (h : okF may S a = true) : (a : Int) ∉ S := by
  simp only [okF, Bool.and_eq_true] at h
  intro hm
  have h1 := h.1
  rw [List.any_eq_true.2 ⟨_, hm, by simp⟩] at h1
  simp at h1
theorem next_new {F : Fld} {worth : Int} {may : List Int → Bool} {S : List Int} (h : ¬ (nextF F worth may S).1 < 0) : (nextF F worth may S).1 ∉ S ∧ (nextF F worth may S).1 < F.op.length := by
  rcases pick_inv (okF may S) (fun a => moreF F worth S a) F.op.length with e | ⟨a, h1, h2, _, e⟩
  · refine absurd ?_ h
    show (pickTo _ _ _).1 < 0
    rw [e]; simp
  · show (pickTo _ _ _).1 ∉ S ∧ (pickTo _ _ _).1 < _
    rw [e]
    exact ⟨okF_out h2, by simpa using h1⟩
theorem grd_len {F : Fld} {worth : Int} {may : List Int → Bool} : ∀ (j : Nat) (out S : List Int), (grd F worth may j out S).length ≤ out.length + j
  | 0, out, S => Nat.le_refl _
  | j + 1, out, S => by
    by_cases h : (nextF F worth may S).1 < 0
    · rw [grd_stop h]; omega
    · rw [grd_go h]
      have := grd_len (F := F) (worth := worth) (may := may) j (out ++ [(nextF F worth may S).1]) (putL S (nextF F worth may S).1)
      simp at this; omega
/-- A set of all sites has no next one. -/
theorem next_full {F : Fld} {worth : Int} {may : List Int → Bool} {S : List Int} (hs : setB F S = true) (hl : S.length = F.op.length) : (nextF F worth may S).1 < 0 := by
  by_cases h : (nextF F worth may S).1 < 0
  · exact h
  · obtain ⟨h1, h2⟩ := next_new h
    have h3 := setB_len (setB_put hs (by omega) h2)
    rw [putL_new h1] at h3
    omega
end Go.Proofs.Ytinpcfhgcilmoaa

namespace Go.Proofs.Ytinpcfhgcilmoaa
open Go.RowKit Go.Sort

theorem fold_min {F : Fld} {i : Nat} : ∀ (L : List Int) (b : Int), dAt F i (L.foldl (stepS F i) b) ≤ dAt F i b ∧ ∀ a ∈ L, dAt F i (L.foldl (stepS F i) b) ≤ dAt F i a
  | [], b => ⟨Int.le_refl _, by simp⟩
  | x :: L, b => by
    have h := fold_min (F := F) (i := i) L (stepS F i b x)
    have hb : dAt F i (stepS F i b x) ≤ dAt F i b ∧ dAt F i (stepS F i b x) ≤ dAt F i x := by
      unfold stepS; split <;> constructor <;> omega
    refine ⟨Int.le_trans h.1 hb.1, fun a ha => ?_⟩
    rcases List.mem_cons.1 ha with rfl | ha
    · exact Int.le_trans h.1 hb.2
    · exact h.2 a ha
/-- What a client is worth for a set, 0 for the set without sites. -/
def topF (F : Fld) (worth : Int) (S : List Int) (i : Nat) : Int := if S = [] then 0 else gainAt F worth S i
theorem gainF_top (F : Fld) (worth : Int) (S : List Int) : gainF F worth S = sumTo (topF F worth S) F.di.length := by
  by_cases h : S = []
  · subst h
    rw [gainF_nil]
    have : ∀ k, sumTo (topF F worth []) k = 0 := fun k => by
      induction k with
      | zero => rfl
      | succ k ih => rw [sumTo_succ, ih]; simp [topF]
    exact (this _).symm
  · rw [gainF_cons h]
    have : topF F worth S = gainAt F worth S := by funext i; simp [topF, h]
    rw [this]
theorem near_le {F : Fld} {i : Nat} {S : List Int} {x : Int} (hx : x ∈ S) : nearF F i S ≤ dAt F i x := by
  cases S with
  | nil => cases hx
  | cons y t =>
    have h := fold_min (F := F) (i := i) (y :: t) y
    exact h.2 x hx
theorem near_is {F : Fld} {i : Nat} {S : List Int} (hne : S ≠ []) : ∃ x ∈ S, nearF F i S = dAt F i x := ⟨siteF F i S, siteF_mem hne, rfl⟩
theorem top_le {F : Fld} {worth c : Int} {S : List Int} {i : Nat} : topF F worth S i ≤ c ↔ (S = [] → 0 ≤ c) ∧ (S ≠ [] → 0 ≤ c) ∧ ∀ x ∈ S, worth - dAt F i x ≤ c := by
  by_cases h : S = []
  · subst h
    simp [topF]
  · have e : topF F worth S i = max 0 (worth - nearF F i S) := by simp [topF, h, gainAt]
    rw [e]
    constructor
    · intro h1
      refine ⟨fun h2 => absurd h2 h, fun _ => by omega, fun x hx => ?_⟩
      have := near_le (F := F) (i := i) hx
      omega
    · rintro ⟨_, h2, h3⟩
      obtain ⟨x, hx, e2⟩ := near_is (F := F) (i := i) h
      have := h3 x hx
      have := h2 h
      omega
theorem top_le' {F : Fld} {worth c : Int} {S : List Int} {i : Nat} (h0 : 0 ≤ c) (h : ∀ x ∈ S, worth - dAt F i x ≤ c) : topF F worth S i ≤ c := top_le.2 ⟨fun _ => h0, fun _ => h0, h⟩
theorem top_nn (F : Fld) (worth : Int) (S : List Int) (i : Nat) : 0 ≤ topF F worth S i := by
  by_cases h : S = []
  · simp [topF, h]
  · simp [topF, h, gainAt]; omega
theorem le_top {F : Fld} {worth : Int} {S : List Int} {i : Nat} {x : Int} (hx : x ∈ S) : worth - dAt F i x ≤ topF F worth S i := (top_le.1 (Int.le_refl _)).2.2 x hx
theorem top_mono {F : Fld} {worth : Int} {S T : List Int} (h : ∀ x ∈ S, x ∈ T) (i : Nat) : topF F worth S i ≤ topF F worth T i :=
  top_le' (top_nn _ _ _ _) (fun x hx => le_top (h x hx))
theorem sumTo_mono {g h : Nat → Int} (e : ∀ i, g i ≤ h i) : ∀ k, sumTo g k ≤ sumTo h k
  | 0 => by simp [sumTo_zero]
  | k + 1 => by rw [sumTo_succ, sumTo_succ]; have := sumTo_mono e k; have := e k; omega
theorem sumTo_add (g h : Nat → Int) : ∀ k, sumTo (fun i => g i + h i) k = sumTo g k + sumTo h k
  | 0 => by simp [sumTo_zero]
  | k + 1 => by rw [sumTo_succ, sumTo_succ, sumTo_succ, sumTo_add g h k]; omega
/-- More sites do not make the gain less. -/
theorem gain_mono {F : Fld} {worth : Int} {S T : List Int} (h : ∀ x ∈ S, x ∈ T) : gainF F worth S ≤ gainF F worth T := by
  rw [gainF_top, gainF_top]
  exact sumTo_mono (top_mono h) _
/-- Two sets have at least the gain of what is in both and of what is in one of them. -/
theorem gain_submod {F : Fld} {worth : Int} {S T U V : List Int} (hU : ∀ x ∈ U, x ∈ S ∧ x ∈ T) (hV : ∀ x ∈ V, x ∈ S ∨ x ∈ T) : gainF F worth U + gainF F worth V ≤ gainF F worth S + gainF F worth T := by
  rw [gainF_top, gainF_top, gainF_top, gainF_top, ← sumTo_add, ← sumTo_add]
  refine sumTo_mono (fun i => ?_) _
  have h1 := top_mono (F := F) (worth := worth) (fun x hx => (hU x hx).1) i
  have h2 := top_mono (F := F) (worth := worth) (fun x hx => (hU x hx).2) i
  have n1 := top_nn F worth S i
  have n2 := top_nn F worth T i
  have h3 : topF F worth V i ≤ max (topF F worth S i) (topF F worth T i) := top_le' (by omega) (fun x hx => by
    rcases hV x hx with h | h
    · have := le_top (F := F) (worth := worth) (i := i) h; omega
    · have := le_top (F := F) (worth := worth) (i := i) h; omega)
  omega
end Go.Proofs.Ytinpcfhgcilmoaa

namespace Go.Proofs.Ytinpcfhgcilmoaa
open Go.RowKit

def okS (xs : List Int) (a b : Nat) : Bool := !decide (xs.getD a 0 + xs.getD b 0 < xs.getD (a &&& b) 0 + xs.getD (a ||| b) 0)
def subB (xs : List Int) : Bool := (List.range xs.length).all fun a => (List.range xs.length).all (okS xs a)
theorem okS_val {xs : List Int} {a b : Nat} (ha : a < xs.length) (hb : b < xs.length) (h1 : a &&& b < xs.length) (h2 : a ||| b < xs.length) : okS xs a b = !decide (xs[a] + xs[b] < xs[a &&& b] + xs[a ||| b]) := by
  simp [okS, List.getD, ha, hb, h1, h2]
theorem not_sub {xs : List Int} {a b n : Nat} (hn : Hid (xs.length = n)) (ha : a < n) (hb : b < n) (h : okS xs a b = false) : subB xs = false := by
  have e := hn.out; subst e; exact not_all2 ha hb h
theorem is_sub {xs : List Int} {a n : Nat} (hn : Hid (xs.length = n)) (hk : a ≤ n) (hge : ¬ a < n) (h : Hid (((List.range a).all fun a => (List.range n).all (okS xs a)) = true)) : subB xs = true := by
  have e := hn.out; subst e
  have : a = xs.length := by omega
  subst this; exact h
theorem isTab_or {n : Int} {xs : List Int} (h : isTab n xs = true) {a b : Nat} (ha : a < xs.length) (hb : b < xs.length) : a ||| b < xs.length := by
  simp only [isTab, Bool.and_eq_true, beq_iff_eq, inB_iff] at h
  rw [h.1.2] at ha hb ⊢
  exact Nat.or_lt_two_pow ha hb
theorem sum_bd {xs : List Int} (h : ∀ x ∈ xs, -1000000 ≤ x ∧ x ≤ 1000000) {a b : Nat} (ha : a < xs.length) (hb : b < xs.length) : IntKind.i64.wrap (xs[a] + xs[b]) = xs[a] + xs[b] := by
  have h1 := h _ (List.getElem_mem ha)
  have h2 := h _ (List.getElem_mem hb)
  exact IntWalk.i64_in _ (by omega)

set_option maxHeartbeats 1000000 in
theorem specSub_any (A : Option Addr) (xs : List Int) (m c : Nat) (n : Int) (w : World) (hx : IntsAt w A xs) (hnx : xs.length = m) :
    Calls Try.prog 11 #[.int .i64 n, .slice A m c] w fun e w' => e = .returned (.tuple #[.bool (isTab n xs && subB xs), .bool (isTab n xs)]) ∧ Kp w w' := by
  have hm : m ≤ 9223372036854775807 := hnx ▸ hx.1
  have Hx := Lib.hid hnx; clear hnx
  cases hT : isTab n xs
  · have HT := Lib.hid hT; clear hT
    go_enter Try.func11, Try.ntmps11
    go_wp2_with fail
    refine (l8Table_any A xs m c n _ hx Hx.out).mono ?_
    rintro e w' ⟨rfl, rfl⟩
    rw [HT.out]
    go_wp2
    go_ret2
    exact ⟨rfl, Kp.refl _⟩
  · have HT := Lib.hid hT; clear hT
    go_enter Try.func11, Try.ntmps11
    go_wp2_with fail
    refine (l8Table_any A xs m c n _ hx Hx.out).mono ?_
    rintro e w' ⟨rfl, rfl⟩
    rw [HT.out]
    go_wp2_with fail
    go_loopw [6, 7] (fun i j wr => ∃ a : Nat, a ≤ m ∧ i = .int .i64 a ∧ Hid (((List.range a).all fun a => (List.range m).all (okS xs a)) = true) ∧ Kp w wr) (fun i _ _ => m - (intOf i).toNat)
    case atStart => exact ⟨0, by omega, rfl, rfl, Kp.refl _⟩
    case round =>
      obtain ⟨a, ha, rfl, Hp, hkp⟩ := hrel
      by_cases hlt : a < m
      · have lx : a < xs.length := by rw [Hx.out]; exact hlt
        go_wp2_with fail
        go_loopw [7] (fun j wi => ∃ b : Nat, b ≤ m ∧ j = .int .i64 b ∧ Hid ((List.range b).all (okS xs a) = true) ∧ Kp w wi) (fun j _ => m - (intOf j).toNat)
        case atStart => exact ⟨0, by omega, rfl, rfl, hkp⟩
        case round =>
          obtain ⟨b, hb, rfl, Hq, hkq⟩ := hrel
          by_cases hlb : b < m
          · have ly : b < xs.length := by rw [Hx.out]; exact hlb
            obtain ⟨ad, rfl, hc⟩ := (hx.kp hkq).at_ lx
            have hd := (hx.kp hkq).some_ ly
            have la : a &&& b < xs.length := Nat.lt_of_le_of_lt Nat.and_le_left lx
            have lo : a ||| b < xs.length := isTab_or HT.out lx ly
            have l1 : a &&& b < m := by rw [← Hx.out]; exact la
            have l2 : a ||| b < m := by rw [← Hx.out]; exact lo
            have hand := i64_and_nat a b (by omega) (by omega)
            have hor := i64_or_nat a b (by omega) (by omega)
            have hc1 := (hx.kp hkq).some_ la
            have hc2 := (hx.kp hkq).some_ lo
            have s1 := sum_bd (isTab_mem HT.out) lx ly
            have s2 := sum_bd (isTab_mem HT.out) la lo
            have hok := Lib.hid (okS_val lx ly la lo)
            go_wp2_with fail
            go_quiet (fail)
            go_wp2_with fail
            · have hlt2 : xs[a] + xs[b] < xs[a &&& b] + xs[a ||| b] := by assumption
              go_ret2
              refine ⟨?_, hkq.drewN _⟩
              rw [not_sub Hx hlt hlb (by rw [hok.out]; simp [hlt2])]
              rfl
            · have hlt2 : xs[a &&& b] + xs[a ||| b] ≤ xs[a] + xs[b] := by assumption
              go_roundw
              case rel => exact ⟨b + 1, by omega, by go_num, all_next Hq (by rw [hok.out]; simp; omega), hkq.drewN _⟩
              case measure => simp [intOf]; omega
          · go_wp2_with fail
            go_roundw
            case rel => exact ⟨a + 1, by omega, by go_num, all_next Hp (row_done hb hlb Hq), hkq⟩
            case measure => simp [intOf]; omega
      · go_wp2_with fail
        go_ret2
        rw [is_sub Hx ha hlt Hp]
        exact ⟨rfl, hkp⟩

set_option maxHeartbeats 1000000 in
theorem implSub_any (A : Option Addr) (xs : List Int) (m c : Nat) (n : Int) (w : World) (hx : IntsAt w A xs) (hnx : xs.length = m) :
    Calls Try.prog 10 #[.int .i64 n, .slice A m c] w fun e w' => e = .returned (.tuple #[.bool (isTab n xs && subB xs), .bool (isTab n xs)]) ∧ Kp w w' := by
  have hm : m ≤ 9223372036854775807 := hnx ▸ hx.1
  have Hx := Lib.hid hnx; clear hnx
  cases hT : isTab n xs
  · have HT := Lib.hid hT; clear hT
    go_enter Try.func10, Try.ntmps10
    go_wp2_with fail
    refine (isTable_any A xs m c n _ hx Hx.out).mono ?_
    rintro e w1 ⟨rfl, hk1⟩
    rw [HT.out]
    go_wp2
    go_ret2
    exact ⟨rfl, hk1⟩
  · have HT := Lib.hid hT; clear hT
    go_enter Try.func10, Try.ntmps10
    go_wp2_with fail
    refine (isTable_any A xs m c n _ hx Hx.out).mono ?_
    rintro e w1 ⟨rfl, hk1⟩
    rw [HT.out]
    go_wp2_with fail
    go_loopw [16] (fun i wr => ∃ a : Nat, a ≤ m ∧ i = .int .i64 a ∧ Hid (((List.range a).all fun a => (List.range m).all (okS xs a)) = true) ∧ Kp w wr) (fun i _ => m - (intOf i).toNat)
    case atStart => exact ⟨0, by omega, rfl, rfl, hk1⟩
    case round =>
      obtain ⟨a, ha, rfl, Hp, hkp⟩ := hrel
      by_cases hlt : a < m
      · have lx : a < xs.length := by rw [Hx.out]; exact hlt
        obtain ⟨ad, rfl, hc⟩ := (hx.kp hkp).at_ lx
        go_wp2_with fail
        go_loopw [23] (fun j wi => ∃ b : Nat, b ≤ m ∧ j = .int .i64 b ∧ Hid ((List.range b).all (okS xs a) = true) ∧ Kp w wi) (fun j _ => m - (intOf j).toNat)
        case atStart => exact ⟨0, by omega, rfl, rfl, hkp⟩
        case round =>
          obtain ⟨b, hb, rfl, Hq, hkq⟩ := hrel
          by_cases hlb : b < m
          · have ly : b < xs.length := by rw [Hx.out]; exact hlb
            have hd := (hx.kp hkq).some_ ly
            have la : a &&& b < xs.length := Nat.lt_of_le_of_lt Nat.and_le_left lx
            have lo : a ||| b < xs.length := isTab_or HT.out lx ly
            have l1 : a &&& b < m := by rw [← Hx.out]; exact la
            have l2 : a ||| b < m := by rw [← Hx.out]; exact lo
            have hand := i64_and_nat a b (by omega) (by omega)
            have hor := i64_or_nat a b (by omega) (by omega)
            have hc1 := (hx.kp hkq).some_ la
            have hc2 := (hx.kp hkq).some_ lo
            have s1 := sum_bd (isTab_mem HT.out) lx ly
            have s2 := sum_bd (isTab_mem HT.out) la lo
            have hok := Lib.hid (okS_val lx ly la lo)
            go_wp2_with fail
            go_quiet (fail)
            go_wp2_with fail
            · have hlt2 : xs[a] + xs[b] < xs[a &&& b] + xs[a ||| b] := by assumption
              go_ret2
              refine ⟨?_, hkq.drewN _⟩
              rw [not_sub Hx hlt hlb (by rw [hok.out]; simp [hlt2])]
              rfl
            · have hlt2 : xs[a &&& b] + xs[a ||| b] ≤ xs[a] + xs[b] := by assumption
              go_roundw
              case rel => exact ⟨b + 1, by omega, by go_num, all_next Hq (by rw [hok.out]; simp; omega), hkq.drewN _⟩
              case measure => simp [intOf]; omega
          · go_wp2_with fail
            go_roundw
            case rel => exact ⟨a + 1, by omega, by go_num, all_next Hp (row_done hb hlb Hq), hkq⟩
            case measure => simp [intOf]; omega
      · go_wp2_with fail
        go_ret2
        rw [is_sub Hx ha hlt Hp]
        exact ⟨rfl, hkp⟩
end Go.Proofs.Ytinpcfhgcilmoaa

namespace Go.Proofs.Ytinpcfhgcilmoaa
open Go.RowKit Go.Sort

def openedB (F : Fld) (S : List Int) : Bool := goodF F && setB F S && decide (0 < S.length)
theorem openedB_parts {F : Fld} {S : List Int} (h : openedB F S = true) : goodF F = true ∧ setB F S = true ∧ S ≠ [] := by
  simp only [openedB, Bool.and_eq_true, decide_eq_true_eq] at h
  exact ⟨h.1.1, h.1.2, List.length_pos_iff.1 h.2⟩
theorem l2Two_any (f : Value) (F : Fld) (A0 : Option Addr) (S : List Int) (n c0 : Nat) (w : World) (hf : FldAt w f F) (hS : IntsAt w A0 S) (hn : S.length = n) :
    Calls Try.prog 48 #[f, .slice A0 n c0] w fun e w' => e = .returned (.bool (openedB F S)) ∧ Kp w w' := by
  obtain ⟨A, c, B, d, rfl, hA, hB⟩ := hf
  have hk0 : Kp w (w.alloc (.cells #[.slice A F.op.length c, .slice B F.di.length d] 27)) := (Kp.refl w).alloc _
  obtain ⟨d0, d1⟩ := box2 w (.slice A F.op.length c) (.slice B F.di.length d) 27
  have hFA := FldAt.kp (show FldAt w (.agg #[.slice A F.op.length c, .slice B F.di.length d]) F from ⟨A, c, B, d, rfl, hA, hB⟩) hk0
  have Hn := Lib.hid hn; clear hn
  go_enter Try.func48, Try.ntmps48
  go_wp2_with fail
  generalize w.alloc (.cells #[.slice A F.op.length c, .slice B F.di.length d] 27) = wb at *
  have CC := Lib.hid (l2Good_any _ F _ hFA)
  with_reducible refine Calls.mono CC.out ?_
  rintro e w1 ⟨rfl, hk1⟩
  clear CC
  have e0 := hk1.get d0; have e1 := hk1.get d1
  have K := hk0.trans hk1
  cases hg : goodF F
  · have Hg := Lib.hid hg; clear hg
    go_wp2_with fail
    go_ret
    exact ⟨ret_bool (by simp [openedB, Hg.out, Array.getD]), K⟩
  have Hg := Lib.hid hg; clear hg
  go_wp2_with fail
  have CC := Lib.hid (l2Set_any _ F A0 S n c0 _ (hFA.kp hk1) (hS.kp K) Hn.out)
  with_reducible refine Calls.mono CC.out ?_
  rintro e w2 ⟨rfl, hk2⟩
  clear CC
  cases h2 : setB F S
  · have H2 := Lib.hid h2; clear h2
    go_wp2_with fail
    go_ret
    exact ⟨ret_bool (by simp [openedB, H2.out, Array.getD]), K.trans hk2⟩
  have H2 := Lib.hid h2; clear h2
  go_wp2_with fail
  go_ret
  refine ⟨ret_bool ?_, K.trans hk2⟩
  rw [openedB, Hg.out, H2.out, Hn.out, Bool.eq_iff_iff]
  simp [Array.getD]
theorem isSet_any (f : Value) (F : Fld) (A0 : Option Addr) (S : List Int) (n c0 : Nat) (w : World) (hf : FldAt w f F) (hS : IntsAt w A0 S) (hn : S.length = n) :
    Calls Try.prog 64 #[f, .slice A0 n c0] w fun e w' => e = .returned (.bool (setB F S && decide (0 < S.length))) ∧ Kp w w' := by
  obtain ⟨A, c, B, d, rfl, hA, hB⟩ := hf
  have hk0 : Kp w (w.alloc (.cells #[.slice A F.op.length c, .slice B F.di.length d] 27)) := (Kp.refl w).alloc _
  have hAl := hA.1
  have Hn := Lib.hid hn; clear hn
  by_cases hp : 0 < n
  · have t1 : decide ((0 : Int) < (n : Int)) = true := by simp; omega
    go_enter Try.func64, Try.ntmps64
    go_wp2_with fail
    have CC := Lib.hid (isRising_any A0 S n c0 F.op.length _ (hS.kp hk0) Hn.out (by omega) (by omega))
    with_reducible refine Calls.mono CC.out ?_
    rintro e w2 ⟨rfl, hw2⟩
    obtain rfl := hw2
    clear CC
    go_wp2_with fail
    go_ret
    refine ⟨ret_bool ?_, hk0⟩
    rw [Hn.out]
    simp [setB, Array.getD, hp]
  · have t1 : decide ((0 : Int) < (n : Int)) = false := by simp; omega
    have t2 : n ≤ 0 := by omega
    go_enter Try.func64, Try.ntmps64
    go_wp2_with fail
    go_ret
    refine ⟨ret_bool ?_, hk0⟩
    rw [Hn.out]
    simp [Array.getD, hp]
theorem isOpened_any (f : Value) (F : Fld) (A0 : Option Addr) (S : List Int) (n c0 : Nat) (w : World) (hf : FldAt w f F) (hS : IntsAt w A0 S) (hn : S.length = n) :
    Calls Try.prog 47 #[f, .slice A0 n c0] w fun e w' => e = .returned (.bool (openedB F S)) ∧ Kp w w' := by
  obtain ⟨A, c, B, d, rfl, hA, hB⟩ := hf
  have hk0 : Kp w (w.alloc (.cells #[.slice A F.op.length c, .slice B F.di.length d] 27)) := (Kp.refl w).alloc _
  obtain ⟨d0, d1⟩ := box2 w (.slice A F.op.length c) (.slice B F.di.length d) 27
  have hFA := FldAt.kp (show FldAt w (.agg #[.slice A F.op.length c, .slice B F.di.length d]) F from ⟨A, c, B, d, rfl, hA, hB⟩) hk0
  have Hn := Lib.hid hn; clear hn
  go_enter Try.func47, Try.ntmps47
  go_wp2_with fail
  generalize w.alloc (.cells #[.slice A F.op.length c, .slice B F.di.length d] 27) = wb at *
  have CC := Lib.hid (isField_any _ F _ hFA)
  with_reducible refine Calls.mono CC.out ?_
  rintro e w1 ⟨rfl, hk1⟩
  clear CC
  have e0 := hk1.get d0; have e1 := hk1.get d1
  have K := hk0.trans hk1
  cases hg : goodF F
  · have Hg := Lib.hid hg; clear hg
    go_wp2_with fail
    go_ret
    exact ⟨ret_bool (by simp [openedB, Hg.out, Array.getD]), K⟩
  have Hg := Lib.hid hg; clear hg
  go_wp2_with fail
  have CC := Lib.hid (isSet_any _ F A0 S n c0 _ (hFA.kp hk1) (hS.kp K) Hn.out)
  with_reducible refine Calls.mono CC.out ?_
  rintro e w2 ⟨rfl, hk2⟩
  clear CC
  go_wp2_with fail
  go_ret
  exact ⟨ret_bool (by rw [openedB, Hg.out, Bool.true_and]), K.trans hk2⟩
end Go.Proofs.Ytinpcfhgcilmoaa

namespace Go.Proofs.Ytinpcfhgcilmoaa
open Go.RowKit Go.Sort

def reachB (F : Fld) (S : List Int) (part : Int) (j : Nat) : Bool := decide (part ≤ gainF F (j : Int) S)
def worthAt (F : Fld) (S : List Int) (part : Int) : Option Nat := (List.range 1000).find? (reachB F S part)
def worthOk0 (F : Fld) (S : List Int) (part : Int) : Bool := openedB F S && inB part 0 1000
def worthV (F : Fld) (S : List Int) (part : Int) : Int := if worthOk0 F S part = true then ((worthAt F S part).getD 0 : Nat) else 0
def worthOk (F : Fld) (S : List Int) (part : Int) : Bool := worthOk0 F S part && (worthAt F S part).isSome
theorem worth_bad {F : Fld} {S : List Int} {part : Int} (h : worthOk0 F S part = false) : Ending.returned (.tuple #[.int .i64 (worthV F S part), .bool (worthOk F S part)]) = .returned (.tuple #[.int .i64 0, .bool false]) := by simp [worthV, worthOk, h]
theorem worth_hit {F : Fld} {S : List Int} {part : Int} {k : Nat} (h : worthOk0 F S part = true) (hk : k < 1000) (ha : Hid ((List.range k).all (fun j => !reachB F S part j) = true)) (hr : reachB F S part k = true) :
    Ending.returned (.tuple #[.int .i64 (worthV F S part), .bool (worthOk F S part)]) = .returned (.tuple #[.int .i64 k, .bool true]) := by
  have e : worthAt F S part = some k := by
    unfold worthAt
    rw [List.find?_range_eq_some]
    refine ⟨hr, by simpa using hk, fun j hj => ?_⟩
    have := List.all_eq_true.1 ha j (by simpa using hj)
    simpa using this
  simp [worthV, worthOk, h, e]
theorem worth_none {F : Fld} {S : List Int} {part : Int} {k : Nat} (h : worthOk0 F S part = true) (hk : k ≤ 1000) (hge : ¬ k < 1000) (ha : Hid ((List.range k).all (fun j => !reachB F S part j) = true)) :
    Ending.returned (.tuple #[.int .i64 (worthV F S part), .bool (worthOk F S part)]) = .returned (.tuple #[.int .i64 0, .bool false]) := by
  have hk' : k = 1000 := by omega
  subst hk'
  have e : worthAt F S part = none := by
    unfold worthAt
    rw [List.find?_eq_none]
    intro j hj
    have := List.all_eq_true.1 ha j hj
    simpa using this
  simp [worthV, worthOk, e]

set_option maxRecDepth 100000 in
set_option maxHeartbeats 1000000 in
theorem specWorth_any (f : Value) (F : Fld) (A0 : Option Addr) (S : List Int) (n c0 : Nat) (part : Int) (w : World) (hf : FldAt w f F) (hS : IntsAt w A0 S) (hn : S.length = n) :
    Calls Try.prog 22 #[f, .slice A0 n c0, .int .i64 part] w fun e w' => e = .returned (.tuple #[.int .i64 (worthV F S part), .bool (worthOk F S part)]) ∧ Kp w w' := by
  obtain ⟨A, c, B, d, rfl, hA, hB⟩ := hf
  have hk0 : Kp w (w.alloc (.cells #[.slice A F.op.length c, .slice B F.di.length d] 27)) := (Kp.refl w).alloc _
  obtain ⟨d0, d1⟩ := box2 w (.slice A F.op.length c) (.slice B F.di.length d) 27
  have hFA := FldAt.kp (show FldAt w (.agg #[.slice A F.op.length c, .slice B F.di.length d]) F from ⟨A, c, B, d, rfl, hA, hB⟩) hk0
  have Hn := Lib.hid hn; clear hn
  go_enter Try.func22, Try.ntmps22
  go_wp2_with fail
  generalize w.alloc (.cells #[.slice A F.op.length c, .slice B F.di.length d] 27) = wb at *
  have CC := Lib.hid (l2Two_any _ F A0 S n c0 _ hFA (hS.kp hk0) Hn.out)
  with_reducible refine Calls.mono CC.out ?_
  rintro e w1 ⟨rfl, hk1⟩
  clear CC
  have e0 := hk1.get d0; have e1 := hk1.get d1
  have K := hk0.trans hk1
  cases hg : openedB F S
  · have Hg := Lib.hid hg; clear hg
    go_wp2_with fail
    go_ret2
    exact ⟨(worth_bad (by simp [worthOk0, Hg.out])).symm, K⟩
  have Hg := Lib.hid hg; clear hg
  go_wp2_with fail
  refine (l1In_any _ _ _ _).mono ?_
  rintro e w' ⟨rfl, rfl⟩
  cases h2 : inB part 0 1000
  · have H2 := Lib.hid h2; clear h2
    go_wp2_with fail
    go_ret2
    exact ⟨(worth_bad (by simp [worthOk0, H2.out])).symm, K⟩
  have H2 := Lib.hid h2; clear h2
  have HO : Hid (worthOk0 F S part = true) := by show worthOk0 F S part = true; rw [worthOk0, Hg.out, H2.out]; rfl
  have HP := Lib.hid (openedB_parts Hg.out)
  go_wp2_with fail
  go_loopw [8] (fun iv wr => ∃ k : Nat, k ≤ 1000 ∧ iv = .int .i64 k ∧ Hid ((List.range k).all (fun j => !reachB F S part j) = true) ∧ Kp w1 wr) (fun iv _ => 1000 - (intOf iv).toNat)
  case atStart => exact ⟨0, by omega, rfl, rfl, Kp.refl _⟩
  case round =>
    obtain ⟨k, hk, rfl, Ha, hkp⟩ := hrel
    have f0 := hkp.get e0; have f1 := hkp.get e1
    by_cases hlt : k < 1000
    · go_wp2_with fail
      have CC := Lib.hid (l8Gain_any _ F (k : Int) A0 S n c0 _ ((hFA.kp hk1).kp hkp) (hS.kp (K.trans hkp)) Hn.out HP.out.1 HP.out.2.1 (by omega) (by omega))
      with_reducible refine Calls.mono CC.out ?_
      rintro e w2 ⟨rfl, hk2⟩
      clear CC
      go_wp2_with fail
      · have h1 : part ≤ gainF F (k : Int) S := by assumption
        go_ret2
        exact ⟨(worth_hit HO.out hlt Ha (by simpa [reachB] using h1)).symm, (K.trans hkp).trans hk2⟩
      · have h1 : gainF F (k : Int) S < part := by assumption
        go_roundw
        case rel => exact ⟨k + 1, by omega, by go_num, all_next Ha (by simp [reachB]; omega), hkp.trans hk2⟩
        case measure => simp [intOf]; omega
    · go_wp2_with fail
      go_ret2
      exact ⟨(worth_none HO.out hk hlt Ha).symm, K.trans hkp⟩

set_option maxRecDepth 100000 in
set_option maxHeartbeats 1000000 in
theorem implWorth_any (f : Value) (F : Fld) (A0 : Option Addr) (S : List Int) (n c0 : Nat) (part : Int) (w : World) (hf : FldAt w f F) (hS : IntsAt w A0 S) (hn : S.length = n) :
    Calls Try.prog 21 #[f, .slice A0 n c0, .int .i64 part] w fun e w' => e = .returned (.tuple #[.int .i64 (worthV F S part), .bool (worthOk F S part)]) ∧ Kp w w' := by
  obtain ⟨A, c, B, d, rfl, hA, hB⟩ := hf
  have hk0 : Kp w (w.alloc (.cells #[.slice A F.op.length c, .slice B F.di.length d] 27)) := (Kp.refl w).alloc _
  obtain ⟨d0, d1⟩ := box2 w (.slice A F.op.length c) (.slice B F.di.length d) 27
  have hFA := FldAt.kp (show FldAt w (.agg #[.slice A F.op.length c, .slice B F.di.length d]) F from ⟨A, c, B, d, rfl, hA, hB⟩) hk0
  have Hn := Lib.hid hn; clear hn
  go_enter Try.func21, Try.ntmps21
  go_wp2_with fail
  generalize w.alloc (.cells #[.slice A F.op.length c, .slice B F.di.length d] 27) = wb at *
  have CC := Lib.hid (isOpened_any _ F A0 S n c0 _ hFA (hS.kp hk0) Hn.out)
  with_reducible refine Calls.mono CC.out ?_
  rintro e w1 ⟨rfl, hk1⟩
  clear CC
  have e0 := hk1.get d0; have e1 := hk1.get d1
  have K := hk0.trans hk1
  cases hg : openedB F S
  · have Hg := Lib.hid hg; clear hg
    go_wp2_with fail
    go_ret2
    exact ⟨(worth_bad (by simp [worthOk0, Hg.out])).symm, K⟩
  have Hg := Lib.hid hg; clear hg
  go_wp2_with fail
  refine (between_any _ _ _ _).mono ?_
  rintro e w' ⟨rfl, rfl⟩
  cases h2 : inB part 0 1000
  · have H2 := Lib.hid h2; clear h2
    go_wp2_with fail
    go_ret2
    exact ⟨(worth_bad (by simp [worthOk0, H2.out])).symm, K⟩
  have H2 := Lib.hid h2; clear h2
  have HO : Hid (worthOk0 F S part = true) := by show worthOk0 F S part = true; rw [worthOk0, Hg.out, H2.out]; rfl
  have HP := Lib.hid (openedB_parts Hg.out)
  go_wp2_with fail
  go_loopw [18] (fun iv wr => ∃ k : Nat, k ≤ 1000 ∧ iv = .int .i64 k ∧ Hid ((List.range k).all (fun j => !reachB F S part j) = true) ∧ Kp w1 wr) (fun iv _ => 1000 - (intOf iv).toNat)
  case atStart => exact ⟨0, by omega, rfl, rfl, Kp.refl _⟩
  case round =>
    obtain ⟨k, hk, rfl, Ha, hkp⟩ := hrel
    have f0 := hkp.get e0; have f1 := hkp.get e1
    by_cases hlt : k < 1000
    · go_wp2_with fail
      have CC := Lib.hid (gain_any _ F (k : Int) A0 S n c0 _ ((hFA.kp hk1).kp hkp) (hS.kp (K.trans hkp)) Hn.out HP.out.1 HP.out.2.1 (by omega) (by omega))
      with_reducible refine Calls.mono CC.out ?_
      rintro e w2 ⟨rfl, hk2⟩
      clear CC
      go_wp2_with fail
      · have h1 : part ≤ gainF F (k : Int) S := by assumption
        go_ret2
        exact ⟨(worth_hit HO.out hlt Ha (by simpa [reachB] using h1)).symm, (K.trans hkp).trans hk2⟩
      · have h1 : gainF F (k : Int) S < part := by assumption
        go_roundw
        case rel => exact ⟨k + 1, by omega, by go_num, all_next Ha (by simp [reachB]; omega), hkp.trans hk2⟩
        case measure => simp [intOf]; omega
    · go_wp2_with fail
      go_ret2
      exact ⟨(worth_none HO.out hk hlt Ha).symm, K.trans hkp⟩
end Go.Proofs.Ytinpcfhgcilmoaa

namespace Go.Proofs.Ytinpcfhgcilmoaa
open Go.RowKit Go.Sort

theorem IntsAt.take {w : World} {ad : Addr} {xs : List Int} (h : IntsAt w (some ad) xs) (k : Nat) : IntsAt w (some ad) (xs.take k) :=
  ⟨Nat.le_trans (by simp; omega) h.1, fun j hj => by
    have h1 : j < xs.length := by simp at hj; omega
    refine ⟨ad, rfl, ?_⟩
    rw [h.some_ h1]
    have h2 : j < k := by simp at hj; omega
    simp [List.getD, h1, h2, List.getElem?_take]⟩
theorem IntsAt.drop {w : World} {ad : Addr} {xs : List Int} (h : IntsAt w (some ad) xs) (k : Nat) : IntsAt w (some (ad.add k)) (xs.drop k) :=
  ⟨Nat.le_trans (by simp) h.1, fun j hj => by
    have h1 : k + j < xs.length := by simp at hj; omega
    refine ⟨ad.add k, rfl, ?_⟩
    have := h.some_ h1
    have e : (ad.add k).add j = ad.add (k + j) := by
      unfold Addr.add
      by_cases hk : k = 0 <;> by_cases hj0 : j = 0 <;> simp [hk, hj0, Nat.add_assoc]
    rw [e, this]
    simp [List.getD, h1]⟩
theorem Own.cap {w : World} {base n c : Nat} {v : Value} {A : Option Addr} {xs : List Int} (h : Own w base v xs) (e : v = .slice A n c) : xs.length ≤ c := by
  rcases h.2 with ⟨rfl, h0⟩ | ⟨g, cap, cur, rfl, _, _, h4, _⟩
  · omega
  · simp only [Value.slice.injEq] at e
    omega
theorem IntsAt.tail {w : World} {ad : Addr} {xs : List Int} {c : Nat} (h : IntsAt w (some ad) xs) (hc : xs.length ≤ c) (k : Nat) : IntsAt w (if c = k then some ad else some (ad.add k)) (xs.drop k) := by
  by_cases e : c = k
  · rw [if_pos e, List.drop_eq_nil_of_le (by omega)]; exact IntsAt.nil _ _
  · rw [if_neg e]; exact h.drop k
theorem own_ab (w : World) (a : Int) : Own ((w.alloc (.cells #[] 3)).alloc (.cells #[.int .i64 a] 3)) w.heap.size (.slice (some ⟨w.heap.size, 0, none⟩) 0 0) [] :=
  (own_new0 w _ (Nat.le_refl _)).kp ((Kp.refl _).alloc _)
theorem own_ba (w : World) (a : Int) : Own ((w.alloc (.cells #[.int .i64 a] 3)).alloc (.cells #[] 3)) w.heap.size (.slice (some ⟨w.heap.size + 1, 0, none⟩) 0 0) [] := by
  have := own_new0 (w.alloc (.cells #[.int .i64 a] 3)) w.heap.size (by simp)
  simpa using this
theorem Own.drew {w : World} {base : Nat} {v : Value} {xs : List Int} (h : Own w base v xs) : Own w.drew base v xs := h.kp (Kp.refl w).drew
theorem one_ab (w : World) (a : Int) : IntsAt ((w.alloc (.cells #[] 3)).alloc (.cells #[.int .i64 a] 3)) (some ⟨w.heap.size + 1, 0, none⟩) [a] := by
  have := one_new (w.alloc (.cells #[] 3)) a
  simpa using this
theorem one_ba (w : World) (a : Int) : IntsAt ((w.alloc (.cells #[.int .i64 a] 3)).alloc (.cells #[] 3)) (some ⟨w.heap.size, 0, none⟩) [a] :=
  (one_new w a).kp ((Kp.refl _).alloc _)
set_option maxRecDepth 100000 in
set_option maxHeartbeats 2000000 in
theorem l1Put_some (ad : Addr) (S : List Int) (n c0 : Nat) (a : Int) (w : World) (hS : IntsAt w (some ad) S) (hn : S.length = n) (hs : S.Pairwise (· < ·)) (hc : n ≤ c0) (hb : n < 1048576) :
    Calls Try.prog 62 #[.slice (some ad) n c0, .int .i64 a] w fun e w' => ∃ v, e = .returned v ∧ ((a ∈ S ∧ v = .slice (some ad) n c0) ∨ Own w' w.heap.size v (putL S a)) ∧ Kp w w' := by
  have hm : n ≤ 9223372036854775807 := hn ▸ hS.1
  have hnc : S.length ≤ c0 := by omega
  have Hn := Lib.hid hn; clear hn
  have Hs := Lib.hid hs; clear hs
  go_enter Try.func62, Try.ntmps62
  go_wp2_with fail
  go_loop [5] (fun iv => ∃ k : Nat, k ≤ n ∧ iv = .int .i64 k ∧ Hid (∀ x ∈ S.take k, x < a)) (fun iv => n - (intOf iv).toNat)
  case atStart => exact ⟨0, by omega, rfl, by show ∀ x ∈ S.take 0, x < a; simp⟩
  case round =>
    obtain ⟨k, hk, rfl, Hp⟩ := hrel
    have hkc : k ≤ c0 := by omega
    by_cases hlt : k < n
    · have lx : k < S.length := by rw [Hn.out]; exact hlt
      have hck := hS.some_ lx
      by_cases h1 : S[k] < a
      · go_wp2_with fail
        go_round
        case rel =>
          refine ⟨k + 1, by omega, by go_num, ?_⟩
          show ∀ x ∈ S.take (k + 1), x < a
          intro x hx
          rw [List.take_succ_eq_append_getElem lx, List.mem_append] at hx
          rcases hx with hx | hx
          · exact Hp.out x hx
          · have : x = S[k] := by simpa using hx
            omega
        case measure => simp [intOf]; omega
      · by_cases h2 : S[k] = a
        · have hin : Hid (a ∈ S) := h2 ▸ List.getElem_mem lx
          go_wp2_with fail
          go_ret
          exact ⟨_, rfl, .inl ⟨hin.out, rfl⟩, Kp.refl _⟩
        · have hlk : (S.take k).length = k := by rw [List.length_take, Hn.out]; omega
          have hld : (S.drop k).length = n - k := by rw [List.length_drop, Hn.out]
          have hl1 : ([] : List Int).length + (S.take k).length ≤ 4194304 := by rw [hlk]; simp; omega
          have hl2 : (([] : List Int) ++ S.take k).length + [a].length ≤ 4194304 := by rw [List.length_append, hlk]; simp; omega
          have hl3 : (([] : List Int) ++ S.take k).length < 1048576 := by rw [List.length_append, hlk]; simp; omega
          have hl4 : (([] : List Int) ++ S.take k ++ [a]).length + (S.drop k).length ≤ 4194304 := by rw [List.length_append, List.length_append, hlk, hld]; simp; omega
          have hput := Lib.hid (put_at Hs.out Hp.out (fun _ => by omega))
          have hA := Lib.hid ((own_new0 w _ (Nat.le_refl _)).drew)
          have hAB := Lib.hid ((own_ab w a).drew)
          have hBA := Lib.hid ((own_ba w a).drew)
          go_wp2_with fail
          go_region_held3 (fun w' => Kp w w')
            (first | exact (by repeat (first | with_reducible assumption | with_reducible exact Kp.refl _ | with_reducible refine Kp.drew ?_ | with_reducible refine Kp.alloc ?_ _ | with_reducible refine Kp.drewN ?_ _ | refine Kp.setCell ?_ (by dsimp only; omega) _)) | exact hkA | exact hkA.alloc _ | exact hkB | exact hkC)
            (first
              | (refine step_app_all (by rfl) (.tmp 33) (.tmp 36) (by rfl) w.heap.size _ [] (S.take k) (some ad) k c0 (by rfl) (by rfl) hA.out ((hS.take k).kp (by repeat (first | with_reducible assumption | with_reducible exact Kp.refl _ | with_reducible refine Kp.drew ?_ | with_reducible refine Kp.alloc ?_ _ | with_reducible refine Kp.drewN ?_ _ | refine Kp.setCell ?_ (by dsimp only; omega) _))) hlk (by simp) hl1 ?_; intro v1 w1 ho1 ht1 h41; have hkA : Kp w w1 := hA.out.kp_turn (by repeat (first | with_reducible assumption | with_reducible exact Kp.refl _ | with_reducible refine Kp.drew ?_ | with_reducible refine Kp.alloc ?_ _ | with_reducible refine Kp.drewN ?_ _ | refine Kp.setCell ?_ (by dsimp only; omega) _)) (Nat.le_refl _) ht1)
              | (refine step_app_all (by rfl) (.tmp 33) (.tmp 36) (by rfl) w.heap.size _ [] (S.take k) (some ad) k c0 (by rfl) (by rfl) hAB.out ((hS.take k).kp (by repeat (first | with_reducible assumption | with_reducible exact Kp.refl _ | with_reducible refine Kp.drew ?_ | with_reducible refine Kp.alloc ?_ _ | with_reducible refine Kp.drewN ?_ _ | refine Kp.setCell ?_ (by dsimp only; omega) _))) hlk (by simp; omega) hl1 ?_; intro v1 w1 ho1 ht1 h41; have hkA : Kp w w1 := hAB.out.kp_turn (by repeat (first | with_reducible assumption | with_reducible exact Kp.refl _ | with_reducible refine Kp.drew ?_ | with_reducible refine Kp.alloc ?_ _ | with_reducible refine Kp.drewN ?_ _ | refine Kp.setCell ?_ (by dsimp only; omega) _)) (Nat.le_refl _) ht1; have h1n := one_turn (g := w.heap.size + 1) ((one_ab w a).kp (Kp.refl _).drew) ht1 (by simp [Value.ownBlock]) (by simp; try omega))
              | (refine step_app_all (by rfl) (.tmp 33) (.tmp 36) (by rfl) w.heap.size _ [] (S.take k) (some ad) k c0 (by rfl) (by rfl) hBA.out ((hS.take k).kp (by repeat (first | with_reducible assumption | with_reducible exact Kp.refl _ | with_reducible refine Kp.drew ?_ | with_reducible refine Kp.alloc ?_ _ | with_reducible refine Kp.drewN ?_ _ | refine Kp.setCell ?_ (by dsimp only; omega) _))) hlk (by simp; omega) hl1 ?_; intro v1 w1 ho1 ht1 h41; have hkA : Kp w w1 := hBA.out.kp_turn (by repeat (first | with_reducible assumption | with_reducible exact Kp.refl _ | with_reducible refine Kp.drew ?_ | with_reducible refine Kp.alloc ?_ _ | with_reducible refine Kp.drewN ?_ _ | refine Kp.setCell ?_ (by dsimp only; omega) _)) (Nat.le_refl _) ht1; have h1n := one_turn (g := w.heap.size) ((one_ba w a).kp (Kp.refl _).drew) ht1 (by simp [Value.ownBlock]) (by simp; try omega))
              | (refine step_app_all (by rfl) (.tmp 37) (.tmp 39) (by rfl) w.heap.size v1 ([] ++ S.take k) [a] (some ⟨w.heap.size + 1, 0, none⟩) 1 1 (by rfl) (by rfl) ho1 h1n rfl hkA.le hl2 ?_; intro v2 w2 ho2 ht2 h42; have hkB : Kp w w2 := ho1.kp_turn hkA (Nat.le_refl _) ht2)
              | (refine step_app_all (by rfl) (.tmp 37) (.tmp 39) (by rfl) w.heap.size v1 ([] ++ S.take k) [a] (some ⟨w.heap.size, 0, none⟩) 1 1 (by rfl) (by rfl) ho1 h1n rfl hkA.le hl2 ?_; intro v2 w2 ho2 ht2 h42; have hkB : Kp w w2 := ho1.kp_turn hkA (Nat.le_refl _) ht2)
              | (refine step_app (by rfl) (.tmp 37) (.tmp 39) (by rfl) w.heap.size v1 ([] ++ S.take k) a _ (by rfl) (by rfl) (by rfl) ho1 hkA.le hl3 ?_; intro v2 w2 ho2 ht2 h42; have hkB : Kp w w2 := ho1.kp_turn hkA (Nat.le_refl _) ht2)
              | (refine step_app_all (by rfl) (.tmp 40) (.tmp 43) (by rfl) w.heap.size v2 ([] ++ S.take k ++ [a]) (S.drop k) (if c0 = k then some ad else some (ad.add k)) (n - k) (c0 - k) (by rfl) (by rfl) ho2 ((hS.tail hnc k).kp hkB) hld hkB.le hl4 ?_; intro v3 w3 ho3 ht3 h43; have hkC : Kp w w3 := ho2.kp_turn hkB (Nat.le_refl _) ht3))
          all_goals
            go_wp2_with fail
            all_goals
              go_ret
              have e4 : [] ++ S.take k ++ [a] ++ S.drop k = putL S a := by rw [hput.out]; simp
              rw [e4] at ho3
              exact ⟨_, rfl, .inr ho3, hkC⟩
    · have hlk : (S.take k).length = k := by rw [List.length_take, Hn.out]; omega
      have hld : (S.drop k).length = n - k := by rw [List.length_drop, Hn.out]
      have hl1 : ([] : List Int).length + (S.take k).length ≤ 4194304 := by rw [hlk]; simp; omega
      have hl2 : (([] : List Int) ++ S.take k).length + [a].length ≤ 4194304 := by rw [List.length_append, hlk]; simp; omega
      have hl3 : (([] : List Int) ++ S.take k).length < 1048576 := by rw [List.length_append, hlk]; simp; omega
      have hl4 : (([] : List Int) ++ S.take k ++ [a]).length + (S.drop k).length ≤ 4194304 := by rw [List.length_append, List.length_append, hlk, hld]; simp; omega
      have hput := Lib.hid (put_at Hs.out Hp.out (fun h => absurd h (by rw [Hn.out]; omega)))
      have hA := Lib.hid ((own_new0 w _ (Nat.le_refl _)).drew)
      have hAB := Lib.hid ((own_ab w a).drew)
      have hBA := Lib.hid ((own_ba w a).drew)
      go_wp2_with fail
      go_region_held3 (fun w' => Kp w w')
        (first | exact (by repeat (first | with_reducible assumption | with_reducible exact Kp.refl _ | with_reducible refine Kp.drew ?_ | with_reducible refine Kp.alloc ?_ _ | with_reducible refine Kp.drewN ?_ _ | refine Kp.setCell ?_ (by dsimp only; omega) _)) | exact hkA | exact hkA.alloc _ | exact hkB | exact hkC)
        (first
          | (refine step_app_all (by rfl) (.tmp 33) (.tmp 36) (by rfl) w.heap.size _ [] (S.take k) (some ad) k c0 (by rfl) (by rfl) hA.out ((hS.take k).kp (by repeat (first | with_reducible assumption | with_reducible exact Kp.refl _ | with_reducible refine Kp.drew ?_ | with_reducible refine Kp.alloc ?_ _ | with_reducible refine Kp.drewN ?_ _ | refine Kp.setCell ?_ (by dsimp only; omega) _))) hlk (by simp) hl1 ?_; intro v1 w1 ho1 ht1 h41; have hkA : Kp w w1 := hA.out.kp_turn (by repeat (first | with_reducible assumption | with_reducible exact Kp.refl _ | with_reducible refine Kp.drew ?_ | with_reducible refine Kp.alloc ?_ _ | with_reducible refine Kp.drewN ?_ _ | refine Kp.setCell ?_ (by dsimp only; omega) _)) (Nat.le_refl _) ht1)
          | (refine step_app_all (by rfl) (.tmp 33) (.tmp 36) (by rfl) w.heap.size _ [] (S.take k) (some ad) k c0 (by rfl) (by rfl) hAB.out ((hS.take k).kp (by repeat (first | with_reducible assumption | with_reducible exact Kp.refl _ | with_reducible refine Kp.drew ?_ | with_reducible refine Kp.alloc ?_ _ | with_reducible refine Kp.drewN ?_ _ | refine Kp.setCell ?_ (by dsimp only; omega) _))) hlk (by simp; omega) hl1 ?_; intro v1 w1 ho1 ht1 h41; have hkA : Kp w w1 := hAB.out.kp_turn (by repeat (first | with_reducible assumption | with_reducible exact Kp.refl _ | with_reducible refine Kp.drew ?_ | with_reducible refine Kp.alloc ?_ _ | with_reducible refine Kp.drewN ?_ _ | refine Kp.setCell ?_ (by dsimp only; omega) _)) (Nat.le_refl _) ht1; have h1n := one_turn (g := w.heap.size + 1) ((one_ab w a).kp (Kp.refl _).drew) ht1 (by simp [Value.ownBlock]) (by simp; try omega))
          | (refine step_app_all (by rfl) (.tmp 33) (.tmp 36) (by rfl) w.heap.size _ [] (S.take k) (some ad) k c0 (by rfl) (by rfl) hBA.out ((hS.take k).kp (by repeat (first | with_reducible assumption | with_reducible exact Kp.refl _ | with_reducible refine Kp.drew ?_ | with_reducible refine Kp.alloc ?_ _ | with_reducible refine Kp.drewN ?_ _ | refine Kp.setCell ?_ (by dsimp only; omega) _))) hlk (by simp; omega) hl1 ?_; intro v1 w1 ho1 ht1 h41; have hkA : Kp w w1 := hBA.out.kp_turn (by repeat (first | with_reducible assumption | with_reducible exact Kp.refl _ | with_reducible refine Kp.drew ?_ | with_reducible refine Kp.alloc ?_ _ | with_reducible refine Kp.drewN ?_ _ | refine Kp.setCell ?_ (by dsimp only; omega) _)) (Nat.le_refl _) ht1; have h1n := one_turn (g := w.heap.size) ((one_ba w a).kp (Kp.refl _).drew) ht1 (by simp [Value.ownBlock]) (by simp; try omega))
          | (refine step_app_all (by rfl) (.tmp 37) (.tmp 39) (by rfl) w.heap.size v1 ([] ++ S.take k) [a] (some ⟨w.heap.size + 1, 0, none⟩) 1 1 (by rfl) (by rfl) ho1 h1n rfl hkA.le hl2 ?_; intro v2 w2 ho2 ht2 h42; have hkB : Kp w w2 := ho1.kp_turn hkA (Nat.le_refl _) ht2)
          | (refine step_app_all (by rfl) (.tmp 37) (.tmp 39) (by rfl) w.heap.size v1 ([] ++ S.take k) [a] (some ⟨w.heap.size, 0, none⟩) 1 1 (by rfl) (by rfl) ho1 h1n rfl hkA.le hl2 ?_; intro v2 w2 ho2 ht2 h42; have hkB : Kp w w2 := ho1.kp_turn hkA (Nat.le_refl _) ht2)
          | (refine step_app (by rfl) (.tmp 37) (.tmp 39) (by rfl) w.heap.size v1 ([] ++ S.take k) a _ (by rfl) (by rfl) (by rfl) ho1 hkA.le hl3 ?_; intro v2 w2 ho2 ht2 h42; have hkB : Kp w w2 := ho1.kp_turn hkA (Nat.le_refl _) ht2)
          | (refine step_app_all (by rfl) (.tmp 40) (.tmp 43) (by rfl) w.heap.size v2 ([] ++ S.take k ++ [a]) (S.drop k) (if c0 = k then some ad else some (ad.add k)) (n - k) (c0 - k) (by rfl) (by rfl) ho2 ((hS.tail hnc k).kp hkB) hld hkB.le hl4 ?_; intro v3 w3 ho3 ht3 h43; have hkC : Kp w w3 := ho2.kp_turn hkB (Nat.le_refl _) ht3))
      all_goals
        go_wp2_with fail
        all_goals
          go_ret
          have e4 : [] ++ S.take k ++ [a] ++ S.drop k = putL S a := by rw [hput.out]; simp
          rw [e4] at ho3
          exact ⟨_, rfl, .inr ho3, hkC⟩
end Go.Proofs.Ytinpcfhgcilmoaa
