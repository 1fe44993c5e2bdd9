/- FnVotes, plain: in the field of a tree the median is unbeaten; FnVotes, plain: votes of two sites are no more than all; what a search over all sites finds; The library's striking out of rows of a slice, at this program; slices.DeleteFunc of rows of the call's own: the rows of which something is so are struck out; FnVotes: the program's median; A slice of the call's own: one slot read and written; one that was made; A table of numbers of the call's own, read and written. No condition. -/
import Derived.Test.YtcccmndkolmboaaQAd
import Derived.Test.YtcccmndkolmboaaQAe
import Derived.Shelf.SlicesE.DeleteFunc
import Derived.Test.YtcccmndkolmboaaQAa
namespace Go.Proofs.Ytcccmndkolmboaa

/-- The length between two nodes of a tree. -/
def tD (par : Nat → Nat) (l : Nat → Int) (x y : Nat) : Int :=
  if x = y then 0
  else if y < x then (if par x < x then l x + tD par l (par x) y else 0)
  else (if par y < y then l y + tD par l x (par y) else 0)
termination_by x + y
/-- Whether a node is another one or above it. -/
def tB (par : Nat → Nat) (v i : Nat) : Bool :=
  if i = v then true
  else if v < i then (if par i < i then tB par v (par i) else false)
  else false
termination_by i
section
variable {par : Nat → Nat} {l : Nat → Int}
theorem tD_self (x : Nat) : tD par l x x = 0 := by rw [tD, if_pos rfl]
theorem tB_self (x : Nat) : tB par x x = true := by rw [tB, if_pos rfl]
theorem tB_lt {v i : Nat} (h : i < v) : tB par v i = false := by rw [tB, if_neg (by omega), if_neg (by omega)]
variable (hp : ∀ x, 0 < x → par x < x)
include hp
theorem tD_gt {x y : Nat} (h : y < x) : tD par l x y = l x + tD par l (par x) y := by
  rw [tD, if_neg (by omega), if_pos h, if_pos (hp x (by omega))]
theorem tD_lt {x y : Nat} (h : x < y) : tD par l x y = l y + tD par l x (par y) := by
  rw [tD, if_neg (by omega), if_neg (by omega), if_pos (hp y (by omega))]
theorem tB_gt {v i : Nat} (h : v < i) : tB par v i = tB par v (par i) := by
  rw [tB, if_neg (by omega), if_pos h, if_pos (hp i (by omega))]
theorem tD_bd (hl : ∀ x, 0 ≤ l x ∧ l x ≤ 99) : ∀ k x y : Nat, x + y ≤ k → 0 ≤ tD par l x y ∧ tD par l x y ≤ 99 * ((x + y : Nat) : Int)
  | 0, x, y, h => by
    obtain rfl : x = 0 := by omega
    obtain rfl : y = 0 := by omega
    rw [tD_self]; simp
  | k + 1, x, y, h => by
    by_cases e : x = y
    · subst e; rw [tD_self]; omega
    · by_cases g : y < x
      · have h1 := hp x (by omega)
        have := tD_bd hl k (par x) y (by omega)
        have := hl x
        rw [tD_gt hp g]; omega
      · have h1 := hp y (by omega)
        have := tD_bd hl k x (par y) (by omega)
        have := hl y
        rw [tD_lt hp (by omega)]; omega
theorem tD_comm : ∀ k x y : Nat, x + y ≤ k → tD par l x y = tD par l y x
  | 0, x, y, h => by
    obtain rfl : x = 0 := by omega
    obtain rfl : y = 0 := by omega
    rfl
  | k + 1, x, y, h => by
    by_cases e : x = y
    · subst e; rfl
    · by_cases g : y < x
      · have h1 := hp x (by omega)
        rw [tD_gt hp g, tD_lt hp g, tD_comm k _ _ (by omega)]
      · have h1 := hp y (by omega)
        have g' : x < y := by omega
        rw [tD_lt hp g', tD_gt hp g', tD_comm k _ _ (by omega)]
/-- One step up. -/
theorem tD_par {x : Nat} (hx : 0 < x) : ∀ k i : Nat, i ≤ k → tD par l i x = tD par l i (par x) + if tB par x i = true then - l x else l x
  | k, i, hi => by
    have hpx := hp x hx
    by_cases h1 : i < x
    · rw [tD_lt hp h1, tB_lt h1]; simp; omega
    · by_cases h2 : i = x
      · subst h2
        rw [tD_self, tD_gt hp hpx, tD_self, tB_self, if_pos rfl]; omega
      · have h3 : x < i := by omega
        have hpi := hp i (by omega)
        obtain _ | k := k
        · omega
        rw [tD_gt hp h3, tD_gt hp (show par x < i by omega), tB_gt hp h3, tD_par hx k (par i) (by omega)]; omega
/-- The way out of what lies below a node leads through it. -/
theorem tD_through {m y : Nat} (hy : y < m) : ∀ k i : Nat, i ≤ k → tB par m i = true → tD par l i y = tD par l i m + tD par l m y
  | k, i, hi, hb => by
    by_cases h1 : i < m
    · rw [tB_lt h1] at hb; cases hb
    · by_cases h2 : i = m
      · subst h2; rw [tD_self]; omega
      · have h3 : m < i := by omega
        have hpi := hp i (by omega)
        obtain _ | k := k
        · omega
        rw [tB_gt hp h3] at hb
        rw [tD_gt hp (show y < i by omega), tD_gt hp h3, tD_through hy k (par i) (by omega) hb]; omega
/-- Between two nodes: either nothing, or a step whose one side is the nearer to the one node. -/
theorem tree_step (hl : ∀ x, 0 ≤ l x ∧ l x ≤ 99) (n : Nat) : ∀ k m y : Nat, m + y ≤ k → m < n → y < n →
    (∀ i, tD par l i m = tD par l i y) ∨ ∃ (M : Nat → Bool) (z : Nat) (s : Int), z < n ∧ 0 < s ∧ 0 < tD par l m y ∧ (∀ i, tD par l i z = tD par l i m + if M i = true then s else - s) ∧ ∀ i, M i = true → tD par l i y = tD par l i m + tD par l m y
  | k, m, y, hk, hm, hy => by
    by_cases e : m = y
    · subst e; exact .inl fun _ => rfl
    by_cases g : y < m
    · have hpm := hp m (by omega)
      by_cases h0 : l m = 0
      · have he : ∀ i, tD par l i m = tD par l i (par m) := fun i => by
          have := tD_par (l := l) hp (x := m) (by omega) i i (Nat.le_refl _)
          rw [h0] at this
          rw [this]; split <;> omega
        have hmy : tD par l m y = tD par l (par m) y := by rw [tD_gt hp g, h0]; omega
        obtain _ | k := k
        · omega
        rcases tree_step hl n k (par m) y (by omega) (by omega) hy with h | ⟨M, z, s, h1, h2, h3, h4, h5⟩
        · exact .inl fun i => by rw [he i]; exact h i
        · refine .inr ⟨M, z, s, h1, h2, by rw [hmy]; exact h3, fun i => by rw [he i]; exact h4 i, fun i hi => ?_⟩
          rw [he i, hmy]; exact h5 i hi
      · have hl1 := hl m
        have hb := tD_bd hp hl _ (par m) y (Nat.le_refl _)
        refine .inr ⟨fun i => tB par m i, par m, l m, by omega, by omega, by rw [tD_gt hp g]; omega, fun i => ?_, fun i hi => tD_through hp g i i (Nat.le_refl _) hi⟩
        have := tD_par (l := l) hp (x := m) (by omega) i i (Nat.le_refl _)
        cases hb2 : tB par m i
        · rw [hb2, if_neg (by simp)] at this
          show _ = _ + if tB par m i = true then _ else _
          rw [hb2, if_neg (by simp)]; omega
        · rw [hb2, if_pos rfl] at this
          show _ = _ + if tB par m i = true then _ else _
          rw [hb2, if_pos rfl]; omega
    · have g' : m < y := by omega
      have hpy := hp y (by omega)
      have hl1 := hl y
      have hmy := tD_lt (l := l) hp g'
      obtain _ | k := k
      · omega
      rcases tree_step hl n k m (par y) (by omega) hm (by omega) with h | ⟨M, z, s, h1, h2, h3, h4, h5⟩
      · have h0 : tD par l m (par y) = 0 := by rw [← h m, tD_self]
        by_cases hz : l y = 0
        · refine .inl fun i => ?_
          have := tD_par (l := l) hp (x := y) (by omega) i i (Nat.le_refl _)
          rw [this, ← h i, hz]; split <;> omega
        · refine .inr ⟨fun i => !tB par y i, y, l y, hy, by omega, by omega, fun i => ?_, fun i hi => ?_⟩
          · have := tD_par (l := l) hp (x := y) (by omega) i i (Nat.le_refl _)
            rw [← h i] at this
            cases hb2 : tB par y i
            · rw [hb2, if_neg (by simp)] at this
              show _ = _ + if (!tB par y i) = true then _ else _
              rw [hb2, if_pos (by simp)]; omega
            · rw [hb2, if_pos rfl] at this
              show _ = _ + if (!tB par y i) = true then _ else _
              rw [hb2, if_neg (by simp)]; omega
          · have := tD_par (l := l) hp (x := y) (by omega) i i (Nat.le_refl _)
            have hi' : tB par y i = false := by simpa using hi
            rw [this, ← h i, hi', hmy, h0]; simp
      · refine .inr ⟨M, z, s, h1, h2, by omega, h4, fun i hi => ?_⟩
        have h6 := tD_par (l := l) hp (x := y) (by omega) i i (Nat.le_refl _)
        have h7 := h5 i hi
        by_cases hb : tB par y i = true
        · exfalso
          rw [if_pos hb] at h6
          have h8 := tD_through (l := l) hp g' i i (Nat.le_refl _) hb
          have h9 := tD_comm (l := l) hp _ y m (Nat.le_refl _)
          omega
        · rw [if_neg hb] at h6; omega
end
/-- How many of the first numbers are so. -/
theorem sum_sides (M : Nat → Bool) (s : Int) (g : Nat → Int) : ∀ n : Nat, sumTo (fun i => g i + if M i = true then s else - s) n = sumTo g n + s * (2 * ((List.range n).countP M : Int) - n)
  | 0 => by simp [sumTo_zero]
  | n + 1 => by
    rw [sumTo_succ, sumTo_succ, sum_sides M s g n, List.range_succ, List.countP_append]
    cases h : M n
    · have e : ([n] : List Nat).countP M = 0 := by simp [h]
      rw [e]
      have : s * (2 * (((List.range n).countP M + 0 : Nat) : Int) - ((n + 1 : Nat) : Int)) = s * (2 * ((List.range n).countP M : Int) - n) - s := by
        push_cast; rw [show (2 * (((List.range n).countP M : Nat) + 0 : Int) - ((n : Int) + 1)) = (2 * ((List.range n).countP M : Int) - n) - 1 by omega, Int.mul_sub]; omega
      rw [this]; simp; omega
    · have e : ([n] : List Nat).countP M = 1 := by simp [h]
      rw [e]
      have : s * (2 * (((List.range n).countP M + 1 : Nat) : Int) - ((n + 1 : Nat) : Int)) = s * (2 * ((List.range n).countP M : Int) - n) + s := by
        push_cast; rw [show (2 * (((List.range n).countP M : Nat) + 1 : Int) - ((n : Int) + 1)) = (2 * ((List.range n).countP M : Int) - n) + 1 by omega, Int.mul_add]; omega
      rw [this]; simp; omega
theorem count_imp {p q : Nat → Bool} (n : Nat) (h : ∀ i, p i = true → q i = true) : (List.range n).countP p ≤ (List.range n).countP q := List.countP_mono_left (fun i _ => h i)
theorem count_not (p : Nat → Bool) : ∀ n : Nat, (List.range n).countP (fun i => !p i) + (List.range n).countP p = n
  | 0 => rfl
  | n + 1 => by
    have ih := count_not p n
    rw [List.range_succ, List.countP_append, List.countP_append]
    cases h : p n <;> simp [h] <;> omega
/-- The node with the least sum of lengths is not beaten. -/
theorem median_votes {par : Nat → Nat} {l : Nat → Int} (hp : ∀ x, 0 < x → par x < x) (hl : ∀ x, 0 ≤ l x ∧ l x ≤ 99) {n m y : Nat} (hm : m < n) (hy : y < n)
    (hmin : ∀ z, z < n → sumTo (fun i => tD par l i m) n ≤ sumTo (fun i => tD par l i z) n) :
    (List.range n).countP (fun i => decide (tD par l i y < tD par l i m)) ≤ (List.range n).countP (fun i => decide (tD par l i m < tD par l i y)) := by
  rcases tree_step hp hl n _ m y (Nat.le_refl _) hm hy with h | ⟨M, z, s, hz, hs, hd, h4, h5⟩
  · refine count_imp n fun i hi => ?_
    have := h i
    rw [decide_eq_true_eq] at hi ⊢
    omega
  · have h1 := hmin z hz
    have h2 : sumTo (fun i => tD par l i z) n = _ := (by
      show sumTo (fun i => tD par l i z) n = sumTo (fun i => tD par l i m + if M i = true then s else - s) n
      congr 1
      funext i; exact h4 i)
    rw [sum_sides] at h2
    have h3 : 0 ≤ 2 * ((List.range n).countP M : Int) - n := by
      by_cases h : 0 ≤ 2 * ((List.range n).countP M : Int) - n
      · exact h
      · have := Int.mul_neg_of_pos_of_neg hs (Int.lt_of_not_ge h)
        omega
    have c1 : (List.range n).countP (fun i => decide (tD par l i y < tD par l i m)) ≤ (List.range n).countP (fun i => !M i) := count_imp n fun i hi => by
      rw [decide_eq_true_eq] at hi
      cases hM : M i
      · rfl
      · have := h5 i hM; omega
    have c2 : (List.range n).countP M ≤ (List.range n).countP (fun i => decide (tD par l i m < tD par l i y)) := count_imp n fun i hi => by
      have := h5 i hi
      rw [decide_eq_true_eq]; omega
    have c3 := count_not M n
    omega
/-- A list of parents. -/
def TreeP (ps : List Int) : Prop := (1 ≤ ps.length ∧ ps.length ≤ 7) ∧ ∀ i, 0 < i → i < ps.length → 0 ≤ ps.getD i 0 ∧ ps.getD i 0 < i
/-- A list of lengths. -/
def LenP (ls : List Int) : Prop := ∀ i, 0 ≤ ls.getD i 0 ∧ ls.getD i 0 ≤ 99
def parOf (ps : List Int) (x : Nat) : Nat := (ps.getD x 0).toNat
def lenOf (ls : List Int) (x : Nat) : Int := ls.getD x 0
theorem parOf_lt {ps : List Int} (h : TreeP ps) : ∀ x, 0 < x → parOf ps x < x := fun x hx => by
  unfold parOf
  by_cases hl : x < ps.length
  · have := h.2 x hx hl; omega
  · have : ps.getD x 0 = 0 := by simp [List.getD, List.getElem?_eq_none (by omega : ps.length ≤ x)]
    rw [this]; simpa using hx
/-- The lengths of a tree's nodes. -/
def treeT (ps ls : List Int) (i a : Nat) : Int := tD (parOf ps) (lenOf ls) i a
def treeF (ps ls : List Int) : Fld := ⟨List.replicate ps.length 0, (List.range ps.length).map fun i => mapTo (treeT ps ls i) ps.length⟩
theorem treeF_votes {ps ls : List Int} {a b : Nat} (ha : a < ps.length) (hb : b < ps.length) : votesN (treeF ps ls) a b = (List.range ps.length).countP (fun i => decide (treeT ps ls i a < treeT ps ls i b)) := by
  unfold votesN treeF
  rw [List.countP_map]
  congr 1
  funext i
  simp only [Function.comp, nearB, mapTo]
  simp [List.getD, ha, hb]
theorem treeF_serve {ps ls : List Int} {m : Nat} (hm : m < ps.length) : serveF (treeF ps ls) [(m : Int)] = sumTo (fun i => treeT ps ls i m) ps.length := by
  unfold serveF
  have e : (treeF ps ls).di.length = ps.length := by simp [treeF]
  rw [e]
  refine sumTo_congr fun i hi => ?_
  have hs : siteF (treeF ps ls) i [(m : Int)] = m := by
    unfold siteF stepS
    simp
  unfold nearF
  rw [hs]
  unfold dAt
  simp [treeF, List.getD, hi, mapTo, hm]
theorem tree_unb {ps ls : List Int} (ht : TreeP ps) (hl : LenP ls) {m : Nat} (hm : m < ps.length) (hmin : ∀ z, z < ps.length → serveF (treeF ps ls) [(m : Int)] ≤ serveF (treeF ps ls) [(z : Int)]) : unbB (treeF ps ls) m = true := by
  have e : (treeF ps ls).op.length = ps.length := by simp [treeF]
  unfold unbB
  rw [e]
  simp only [Bool.not_eq_true', List.any_eq_false, List.mem_range, beatsB, decide_eq_true_eq]
  intro y hy
  rw [treeF_votes hm hy, treeF_votes hy hm]
  have := median_votes (par := parOf ps) (l := lenOf ls) (parOf_lt ht) hl hm hy (fun z hz => by
    have := hmin z hz
    rw [treeF_serve hm, treeF_serve hz] at this
    exact this)
  unfold treeT
  omega
/-- The first median of one site. -/
def medL (F : Fld) (k : Int) : List Int := bestL (serveF F) ((setsL F.op.length).filter fun s => !((s.length : Int) != k))
theorem med_in {F : Fld} (z : Nat) (hz : z < F.op.length) : [(z : Int)] ∈ (setsL F.op.length).filter fun s => !((s.length : Int) != 1) := by
  rw [List.mem_filter]
  refine ⟨mem_setsL.2 ⟨by simp, ris_iff.2 ⟨by simp, fun x hx => ?_⟩⟩, by simp⟩
  have : x = z := by simpa using hx
  omega
theorem med_pos {F : Fld} (hg : goodF F = true) : 0 < ((setsL F.op.length).filter fun s => !((s.length : Int) != 1)).length :=
  List.length_pos_of_mem (med_in 0 (by have := (goodF_iff.1 hg).1.1; omega))
theorem med_one {F : Fld} (hg : goodF F = true) : ∃ m : Nat, m < F.op.length ∧ medL F 1 = [(m : Int)] ∧ ∀ z : Nat, z < F.op.length → serveF F [(m : Int)] ≤ serveF F [(z : Int)] := by
  have hin := med_in (F := F)
  have h1 := (goodF_iff.1 hg).1.1
  have h0 : 0 < ((setsL F.op.length).filter fun s => !((s.length : Int) != 1)).length := List.length_pos_of_mem (hin 0 (by omega))
  have hmem := bestL_mem (v := serveF F) h0
  rw [List.mem_filter] at hmem
  have hl1 : (bestL (serveF F) ((setsL F.op.length).filter fun s => !((s.length : Int) != 1))).length = 1 := by
    have := hmem.2
    simp at this
    omega
  obtain ⟨x, hx⟩ := List.length_eq_one_iff.1 hl1
  have hset := (mem_setsL.1 hmem.1).2
  rw [hx] at hset
  have hb := set_mem (F := F) hset x (by simp)
  refine ⟨x.toNat, by omega, ?_, fun z hz => ?_⟩
  · unfold medL; rw [hx]; congr 1; omega
  · have := bestL_le (v := serveF F) _ (hin z hz)
    rw [hx] at this
    rw [show ((x.toNat : Nat) : Int) = x by omega]; exact this
end Go.Proofs.Ytcccmndkolmboaa

namespace Go.Proofs.Ytcccmndkolmboaa
open Go.RowKit Go.Sort

theorem votes_two (a b : Nat) : ∀ l : List (List Int), l.countP (nearB a b) + l.countP (nearB b a) ≤ l.length
  | [] => by simp
  | r :: t => by
    have ih := votes_two a b t
    rw [List.countP_cons, List.countP_cons, List.length_cons]
    have h : ¬ (nearB a b r = true ∧ nearB b a r = true) := by
      unfold nearB
      rw [decide_eq_true_eq, decide_eq_true_eq]
      omega
    cases h1 : nearB a b r <;> cases h2 : nearB b a r <;> simp [h1, h2] at h ⊢ <;> omega
theorem votesN_two (F : Fld) (a b : Nat) : votesN F a b + votesN F b a ≤ F.di.length := votes_two a b F.di
theorem votes_sum {F : Fld} {a b : Int} (h : votesOk F a b = true) : goodF F = true ∧ votes1 F a b + votes2 F a b ≤ F.di.length := by
  have hg : goodF F = true := by
    unfold votesOk at h
    rw [Bool.and_eq_true, Bool.and_eq_true] at h
    exact h.1.1
  refine ⟨hg, ?_⟩
  unfold votes1 votes2
  rw [if_pos h, if_pos h]
  exact votesN_two F _ _
/-- Whether none of the first sites has more votes. -/
def freeB (F : Fld) (x k : Nat) : Bool := !(List.range k).any (beatsB F x)
theorem freeB_zero (F : Fld) (x : Nat) : freeB F x 0 = true := rfl
theorem freeB_succ (F : Fld) (x k : Nat) : freeB F x (k + 1) = (freeB F x k && decide (votesN F k x ≤ votesN F x k)) := by
  unfold freeB
  rw [any_range_succ, Bool.not_or]
  congr 1
  unfold beatsB
  rw [Bool.eq_iff_iff, Bool.not_eq_true', decide_eq_false_iff_not, decide_eq_true_eq]
  omega
theorem freeB_all (F : Fld) (x : Nat) : freeB F x F.op.length = unbB F x := rfl
theorem votes_at {F : Fld} {x y : Nat} (hg : goodF F = true) (hx : x < F.op.length) (hy : y < F.op.length) : votesOk F (y : Int) (x : Int) = true ∧ votes1 F (y : Int) (x : Int) = votesN F y x ∧ votes2 F (y : Int) (x : Int) = votesN F x y := by
  have h : votesOk F (y : Int) (x : Int) = true := by
    unfold votesOk
    rw [hg, siteB_iff.2 (by omega), siteB_iff.2 (by omega)]; rfl
  refine ⟨h, ?_, ?_⟩
  · unfold votes1; rw [if_pos h]; simp
  · unfold votes2; rw [if_pos h]; simp
theorem unbL_has {F : Fld} (hg : goodF F = true) {x : Nat} (hx : x < F.op.length) : ((unbL F).any fun y => y == (x : Int)) = unbB F x := by
  rw [unbL_yes hg]
  unfold unbTo
  rw [Bool.eq_iff_iff, List.any_eq_true]
  constructor
  · rintro ⟨y, hy, e⟩
    rw [List.mem_map] at hy
    obtain ⟨i, hi, rfl⟩ := hy
    have e2 : i = x := by have : (i : Int) = (x : Int) := by simpa using e
                          omega
    rw [← e2]
    exact (List.mem_filter.1 hi).2
  · intro h
    exact ⟨(x : Int), List.mem_map.2 ⟨x, List.mem_filter.2 ⟨List.mem_range.2 hx, h⟩, rfl⟩, by simp⟩
/-- The median of a tree is found. -/
theorem tree_has {ps ls : List Int} (ht : TreeP ps) (hl : LenP ls) (hg : goodF (treeF ps ls) = true) {m : Nat} (hm : m < (treeF ps ls).op.length) (hmin : ∀ z : Nat, z < (treeF ps ls).op.length → serveF (treeF ps ls) [(m : Int)] ≤ serveF (treeF ps ls) [(z : Int)]) :
    ((unbL (treeF ps ls)).any fun y => y == (m : Int)) = true := by
  have e : (treeF ps ls).op.length = ps.length := by simp [treeF]
  rw [unbL_has hg hm]
  rw [e] at hm hmin
  exact tree_unb ht hl hm hmin
end Go.Proofs.Ytcccmndkolmboaa

namespace Go.Proofs.Ytcccmndkolmboaa
open Go.RowKit Go.Sort Go.Shelf

def delL_ren : Go.Shelf.Ren := ⟨fun | 10 => 44 | 6 => 53 | n => n, fun | 22 => 25 | 23 => 24 | 25 => 56 | 3 => 3 | 4 => 4 | 0 => 0 | n => n, fun | n => n⟩
theorem delL : Go.Proofs.SlLaysH.n10 Try.prog delL_ren := {
  mixed := by kernel_rfl
  f6 := ⟨Try.f53.name, by decide, Try.func53.trans (congrArg some (by kernel_rfl))⟩
  f10 := ⟨Try.f44.name, by decide, Try.func44.trans (congrArg some (by kernel_rfl))⟩
  t0 := Try.underlying0
  a0 := Try.isAgg0
  z0 := Try.sizeOf0
  v0 := Try.zeroValue0
  t3 := Try.underlying3
  a3 := Try.isAgg3
  z3 := Try.sizeOf3
  v3 := Try.zeroValue3
  t4 := Try.underlying4
  a4 := Try.isAgg4
  z4 := Try.sizeOf4
  v4 := Try.zeroValue4
  t22 := Try.underlying25
  a22 := Try.isAgg25
  z22 := Try.sizeOf25
  v22 := Try.zeroValue25
  a23 := Try.isAgg24
  z23 := Try.sizeOf24
  t25 := Try.underlying56
  a25 := Try.isAgg56
  z25 := Try.sizeOf56
  v25 := Try.zeroValue56 }
end Go.Proofs.Ytcccmndkolmboaa

namespace Go.Proofs.Ytcccmndkolmboaa
open Go.RowKit Go.Sort Go.Shelf

theorem rows_map (rows : List (List Int)) : (List.range rows.length).map (rowD rows) = rows := by
  apply List.ext_getElem
  · simp
  · intro i hi hi2
    simp [rowD, List.getD, hi2]
theorem rowD_lt {rows : List (List Int)} {i : Nat} (h : i < rows.length) : rowD rows i = rows[i] := by simp [rowD, List.getD, h]
theorem fil_map (rows : List (List Int)) (q : List Int → Bool) : ((List.range rows.length).filter fun i => q (rowD rows i)).map (rowD rows) = rows.filter q := by
  conv => rhs; rw [← rows_map rows]
  rw [List.filter_map]; rfl
theorem fil_get {rows : List (List Int)} {q : List Int → Bool} {k : Nat} (hk : k < (rows.filter q).length) : ∃ h : k < ((List.range rows.length).filter fun i => q (rowD rows i)).length, (rows.filter q)[k] = rowD rows ((List.range rows.length).filter fun i => q (rowD rows i))[k] ∧ ((List.range rows.length).filter fun i => q (rowD rows i))[k] < rows.length := by
  have e := fil_map rows q
  have hl : ((List.range rows.length).filter fun i => q (rowD rows i)).length = (rows.filter q).length := by rw [← e, List.length_map]
  have h : k < ((List.range rows.length).filter fun i => q (rowD rows i)).length := by omega
  refine ⟨h, ?_, ?_⟩
  · have : ((((List.range rows.length).filter fun i => q (rowD rows i)).map (rowD rows)))[k]'(by rw [List.length_map]; exact h) = (rows.filter q)[k] := by simp only [e]
    rw [← this, List.getElem_map]
  · have := List.getElem_mem h
    rw [List.mem_filter] at this
    simpa using this.1
set_option maxHeartbeats 1000000 in
theorem del_any {base : Nat} {lo : Option Nat} {v : Value} {rows : List (List Int)} {w : World} (h : GOwn w lo base v rows) (hv : v ≠ .slice none 0 0) (h0 : rows ≠ []) (hl : rows.length ≤ 1000000)
    (FN : Nat) (lb : Array Value) (p : List Int → Bool) (Q : List Int → Prop) (eg : ∀ args w, (callFunc FN args).run Try.prog w = .ok (.enter FN args) w) (hq : ∀ S ∈ rows, Q S) (hq0 : Q [])
    (hC : ∀ (W : World) (A : Option Addr) (xs : List Int) (n c : Nat), Turn (fun i => v.ownBlock = some i) w W → Q xs → IntsAt W A xs → xs.length = n → Calls Try.prog FN (#[.slice A n c] ++ lb) W fun e w' => e = .returned (.bool (p xs)) ∧ ∃ q, w' = W.drewN q) :
    Calls Try.prog 44 #[v, .func (.func FN) #[] lb] w fun e w' => ∃ ad c, e = .returned (.slice (some ad) (rows.filter fun s => !p s).length c) ∧ RowsAt w' lo (some ad) (rows.filter fun s => !p s) ∧ Turn (fun i => v.ownBlock = some i) w w' := by
  obtain ⟨hs, h1, h2⟩ := h
  have hlen : hs.length = rows.length := by rw [h1.1]; omega
  rcases id h1.2 with ⟨rfl, _⟩ | ⟨g, cap, cur, rfl, hb, hg, hn, hm, hsz, ht⟩
  · exact absurd rfl hv
  have hblk : g < w.heap.size := (World.ownsRow.lt h1 g rfl).2
  have hs0 : hs = (List.range rows.length).map (hdD hs) := by
    apply List.ext_getElem
    · simp [hlen]
    · intro i hi hi2
      simp [hdD, List.getD, hi]
  have h1' : w.ownsRow base 24 1 (.slice (some ⟨g, 0, none⟩) rows.length cap) rows.length ((List.range rows.length).map (hdD hs)) := by rw [← hs0]; exact h1
  obtain ⟨g2, cap2, e2, _, hcap, _, _, _, hH⟩ := Lib.holds_of_ownsRow h1' (by simp)
  simp only [Value.slice.injEq, Option.some.injEq, Addr.mk.injEq] at e2
  obtain ⟨⟨rfl, _, _⟩, _, rfl⟩ := e2
  have one : OneCell (hdD hs) := fun i => by
    by_cases hi : i < rows.length
    · obtain ⟨u, e1, e2, _⟩ := h2 i hi
      have := e2.one
      simp [hdD, List.getD, e1, this]
    · simp [hdD, List.getD, List.getElem?_eq_none (show hs.length ≤ i by omega), Value.oneCell']
  have key : ∀ (W : World), Turn (fun i => i = g) w W → ∀ i, FnGives Try.prog FN lb #[hdD hs i] (.bool (p (rowD rows i))) W := fun W hT i => by
    have hT2 : Turn (fun i => (Value.slice (some ⟨g, 0, none⟩) rows.length cap).ownBlock = some i) w W := hT.mono (fun i hi => by rw [hi]; rfl)
    unfold FnGives
    by_cases hi : i < rows.length
    · obtain ⟨u, e1, e2, e3⟩ := h2 i hi
      have er : rowD rows i = rows[i] := by simp [rowD, List.getD, hi]
      obtain ⟨A, c, rfl, _, e5⟩ := (e2.turn hT (fun hn g' hg' hh => e3 hn g' hg' (by rw [hh]; rfl))).read
      have eh : hdD hs i = .slice A rows[i].length c := by simp [hdD, List.getD, e1]
      rw [eh, er]
      exact hC W A rows[i] _ c hT2 (hq _ (List.getElem_mem hi)) e5 rfl
    · have eh : hdD hs i = .slice none 0 0 := by simp [hdD, List.getD, List.getElem?_eq_none (show hs.length ≤ i by omega)]
      have er : rowD rows i = [] := by simp [rowD, List.getD, List.getElem?_eq_none (show rows.length ≤ i by omega)]
      rw [eh, er]
      exact hC W none [] 0 0 hT2 hq0 (IntsAt.nil _ _) rfl
  have hH' : Holds (hdD hs) w g 0 (Array.range rows.length) := by
    have e : (List.range rows.length).toArray = Array.range rows.length := by simp
    rw [← e]; exact hH
  have hcon := AnyE.slices_DeleteFunc delL (hdD hs) one (fun i => p (rowD rows i)) FN lb eg rows.length (fun w => by
      have e : hdD hs rows.length = .slice none 0 0 := by simp [hdD, List.getD, List.getElem?_eq_none (show hs.length ≤ rows.length by omega)]
      rw [e]; exact Try.zeroValue24 w) g 0 cap (Array.range rows.length) w
    (fun W x hb => key W ⟨hb.os, hb.tape, hb.output, hb.size, fun k hk _ => hb.block k hk⟩ x)
    (fun n os dk x _ => key (sortWorld (hdD hs) w g 0 n dk os) ⟨rfl, rfl, rfl, by simp [sortWorld], fun i hi hn => by
      unfold sortWorld
      rw [heap_grow_old _ _ (by simpa using hi)]
      simp [putRow, mapBlock, Sort.ahead, Array.getElem?_modify, Ne.symm hn]⟩ x) hH' (by rw [Array.size_range]; omega) (by rw [Array.size_range]; omega)
  have el : ((Array.range rows.length).toList.filter fun x => !p (rowD rows x)) = (List.range rows.length).filter fun x => !p (rowD rows x) := by simp
  have ell : ((List.range rows.length).filter fun x => !p (rowD rows x)).length = (rows.filter fun s => !p s).length := by
    rw [← fil_map rows (fun s => !p s), List.length_map]
  have hle : (rows.filter fun s => !p s).length ≤ rows.length := List.length_filter_le _ _
  rw [el, Array.size_range] at hcon
  refine Calls.mono hcon ?_
  rintro e w' ⟨rfl, q, rfl⟩
  have hT : Turn (fun i => i = g) w (putRow (hdD hs) (Sort.ahead w q) g 0 (((List.range rows.length).filter fun x => !p (rowD rows x)) ++ List.replicate (rows.length - ((List.range rows.length).filter fun x => !p (rowD rows x)).length) rows.length).toArray) := ⟨rfl, rfl, rfl, by simp [putRow, mapBlock, Sort.ahead], fun i hi hn => by
    simp [putRow, mapBlock, Sort.ahead, Array.getElem?_modify, Ne.symm hn]⟩
  have hHd := holds_putRow (hdD hs) (Sort.ahead w q) g 0 (Array.range rows.length) (((List.range rows.length).filter fun x => !p (rowD rows x)) ++ List.replicate (rows.length - ((List.range rows.length).filter fun x => !p (rowD rows x)).length) rows.length).toArray (holds_ahead _ w q g 0 _ hH') (by simp; omega)
  refine ⟨⟨g, 0, none⟩, cap, by rw [ell], ⟨by omega, fun k hk => ?_⟩, hT.mono (fun i hi => by rw [hi]; rfl)⟩
  obtain ⟨hk2, ek, hlt⟩ := fil_get hk
  obtain ⟨u, e1, e2, e3⟩ := h2 _ hlt
  have er : rowD rows ((List.range rows.length).filter fun i => !p (rowD rows i))[k] = rows[((List.range rows.length).filter fun i => !p (rowD rows i))[k]] := rowD_lt hlt
  refine ⟨⟨g, 0, none⟩, u, rfl, ?_, ?_⟩
  · have hc := (hHd k (by simp; omega)).1
    have ea : (Addr.mk g 0 none).add k = ⟨g, 0 + k, none⟩ := by simp [Addr.add]; exact fun h => h.symm
    rw [ea, hc]
    congr 1
    rw [getElem!_pos _ k (by simp; omega)]
    simp only [List.getElem_toArray]
    rw [List.getElem_append_left hk2]
    simp [hdD, List.getD, e1]
  · rw [ek, er]
    exact e2.turn hT (fun hn g' hg' hh => e3 hn g' hg' (by rw [hh]; rfl))
end Go.Proofs.Ytcccmndkolmboaa

namespace Go.Proofs.Ytcccmndkolmboaa
open Go.RowKit Go.Sort

def medB (F : Fld) (k : Int) : Bool := goodF F && inB k 1 F.op.length
set_option maxRecDepth 100000 in
set_option maxHeartbeats 1000000 in
theorem isMedC_any (f : Value) (F : Fld) (k : Int) (w : World) (hf : FldAt w f F) :
    Calls Try.prog 30 #[f, .int .i64 k] w fun e w' => e = .returned (.bool (medB F k)) ∧ Kp w w' := by
  obtain ⟨A, c, B, d, rfl, hA, hB⟩ := hf
  have hk0 : Kp w (w.alloc (.cells #[.slice A F.op.length c, .slice B F.di.length d] 27)) := (Kp.refl w).alloc _
  obtain ⟨d0, d1⟩ := box2 w (.slice A F.op.length c) (.slice B F.di.length d) 27
  have hFA := FldAt.kp (show FldAt w (.agg #[.slice A F.op.length c, .slice B F.di.length d]) F from ⟨A, c, B, d, rfl, hA, hB⟩) hk0
  clear hA hB
  have CC := Lib.hid (isField_any _ F _ hFA)
  go_enter Try.func30, Try.ntmps30
  go_wp2_with fail
  have hsz : Hid ((w.alloc (.cells #[.slice A F.op.length c, .slice B F.di.length d] 27)).heap.size = w.heap.size + 1) := by show _ = _; simp
  generalize w.alloc (.cells #[.slice A F.op.length c, .slice B F.di.length d] 27) = wb at *
  have hkb : Kp wb wb := Kp.refl _
  have hkw := hk0
  with_reducible refine Calls.mono CC.out ?_
  rintro e w1 ⟨rfl, hk1⟩
  clear CC
  replace hkb := hkb.trans hk1
  cases hg_ : goodF F
  · have Hno : Hid (medB F k = false) := by show _ = _; rw [medB, hg_]; rfl
    clear hg_
    have q_d0 := hkb.get d0
    have q_d1 := hkb.get d1
    go_wp2_with fail
    go_ret
    exact ⟨by rw [Hno.out]; rfl, hkw.trans hkb⟩
  have Hg := Lib.hid hg_; clear hg_
  have q_d0 := hkb.get d0
  have q_d1 := hkb.get d1
  go_wp2_with fail
  have CC := Lib.hid (between_any k 1 (F.op.length : Int) w1)
  with_reducible refine Calls.mono CC.out ?_
  rintro e w2 ⟨rfl, rfl⟩
  clear CC
  have He : Hid (medB F k = inB k 1 (F.op.length : Int)) := by show _ = _; rw [medB, Hg.out, Bool.true_and]
  clear q_d0 q_d1
  have q_d0 := hkb.get d0
  have q_d1 := hkb.get d1
  go_wp2_with fail
  go_ret
  exact ⟨by rw [He.out]; rfl, hkw.trans hkb⟩
set_option maxHeartbeats 400000 in
theorem medClo_any (k : Int) (p : Addr) (w : World) (h : w.cell? p = some (.int .i64 k)) (A : Option Addr) (S : List Int) (n c : Nat) (hn : S.length = n) :
    Calls Try.prog 46 #[.slice A n c, .pointer (some p)] w fun e w' => e = .returned (.bool ((S.length : Int) != k)) ∧ ∃ q, w' = w.drewN q := by
  rw [hn]
  go_enter Try.func46, Try.ntmps46
  go_wp2_with fail
  go_ret
  exact ⟨rfl, 0, rfl⟩
theorem serve_val {f : Value} {F : Fld} {w : World} (hf : FldAt w f F) (hg : goodF F = true) : Val 48 #[f] #[] (serveF F) (isSet F) w :=
  ⟨callFunc_of Try.func48 (by kernel_rfl) (by kernel_rfl), fun S Av cv w' hk hq hi _ => service_any f F Av S S.length cv w' (hf.kp hk) hi rfl hg hq.1 hq.2⟩
set_option maxRecDepth 100000 in
set_option maxHeartbeats 1000000 in
theorem median_any (f : Value) (F : Fld) (k : Int) (w : World) (hf : FldAt w f F) (hg : goodF F = true) (hp : 0 < ((setsL F.op.length).filter fun s => !((s.length : Int) != k)).length) :
    Calls Try.prog 31 #[f, .int .i64 k] w fun e w' => ∃ u, e = .returned u ∧ RowP w' (some w.heap.size) u (medL F k) ∧ Kp w w' := by
  obtain ⟨A, c, B, d, rfl, hA, hB⟩ := hf
  have hk0 : Kp w (w.alloc (.cells #[.slice A F.op.length c, .slice B F.di.length d] 27)) := (Kp.refl w).alloc _
  obtain ⟨d0, d1⟩ := box2 w (.slice A F.op.length c) (.slice B F.di.length d) 27
  have hFA := FldAt.kp (show FldAt w (.agg #[.slice A F.op.length c, .slice B F.di.length d]) F from ⟨A, c, B, d, rfl, hA, hB⟩) hk0
  have hk1 := hk0.alloc (.cells #[.int .i64 k] 3)
  have hFB := hFA.kp ((Kp.refl _).alloc (.cells #[.int .i64 k] 3))
  replace d0 := ((Kp.refl _).alloc (.cells #[.int .i64 k] 3)).get d0
  replace d1 := ((Kp.refl _).alloc (.cells #[.int .i64 k] 3)).get d1
  have d2 : ((w.alloc (.cells #[.slice A F.op.length c, .slice B F.di.length d] 27)).alloc (.cells #[.int .i64 k] 3)).cell? ⟨w.heap.size + 1, 0, none⟩ = some (.int .i64 k) := by
    rw [World.cell?_alloc_at _ _ _ _ (by simp)]; rfl
  have hsz : Hid (((w.alloc (.cells #[.slice A F.op.length c, .slice B F.di.length d] 27)).alloc (.cells #[.int .i64 k] 3)).heap.size = w.heap.size + 1 + 1) := by show _ = _; simp
  have hg7 := (goodF_iff.1 hg).1.2
  have HG := Lib.hid hg
  have HP := Lib.hid hp
  clear hA hB hk0 hFA hg hp
  go_enter Try.func31, Try.ntmps31
  go_wp2_with fail
  generalize (w.alloc (.cells #[.slice A F.op.length c, .slice B F.di.length d] 27)).alloc (.cells #[.int .i64 k] 3) = wc at *
  have CC := Lib.hid (sets_any F.op.length wc hg7)
  with_reducible refine Calls.mono CC.out ?_
  rintro e w1 ⟨v, rfl, hvn, hgo, hkc⟩
  clear CC
  have e0 := hkc.get d0; have e1 := hkc.get d1; have e2 := hkc.get d2
  have hgl := hgo.lt
  have hap : ∀ i, i < wc.heap.size → ¬ v.ownBlock = some i := fun i hi e => by have := (hgl i e).1; omega
  have hsl := sets_most HG.out
  have hne0 : setsL F.op.length ≠ [] := fun e => by have := sets_pos HG.out; rw [e] at this; simp at this
  have hsz3 := hsz.out
  have CD := Lib.hid (del_any hgo hvn hne0 (by omega) 46 #[.pointer (some ⟨w.heap.size + 1, 0, none⟩)] (fun S => (S.length : Int) != k) (fun _ => True)
    (callFunc_of Try.func46 (by kernel_rfl) (by kernel_rfl)) (fun _ _ => trivial) trivial
    (fun W Av S n cv hT hq hi hn => medClo_any k _ W (cell_turn e2 hT (hap _ (by show w.heap.size + 1 < _; omega))) Av S n cv hn))
  clear hne0 hgo
  go_wp2_with fail
  with_reducible refine Calls.mono CD.out ?_
  rintro e w2 ⟨ad, cc, rfl, hrows, hT⟩
  clear CD
  have hk2 : Kp wc w2 := hkc.turn hT (fun i hi => (hgl i hi).1)
  have g0 := hk2.get d0; have g1 := hk2.get d1; have g2 := hk2.get d2
  have CL := Lib.hid (least_any 48 #[.agg #[.slice A F.op.length c, .slice B F.di.length d]] #[] (serveF F) (isSet F) _ (some ad) _ _ cc w2 hrows rfl HP.out (serve_val (hFB.kp hk2) HG.out)
    (fun S hS => sets_set S (List.mem_filter.1 hS).1))
  clear hrows hvn hap hgl e0 e1 e2 d0 d1 d2
  go_wp2_with fail
  with_reducible refine Calls.mono CL.out ?_
  rintro e w3 ⟨u, rfl, hu, hk3⟩
  clear CL
  go_wp2_with fail
  go_ret
  exact ⟨u, rfl, hu.mono (by omega), hk1.trans (hk2.trans hk3)⟩
set_option maxRecDepth 100000 in
set_option maxHeartbeats 1000000 in
/-- The median of one site. -/
theorem medianOf_any (f : Value) (F : Fld) (w : World) (hf : FldAt w f F) (hg : goodF F = true) :
    Calls Try.prog 16 #[f, .int .i64 1] w fun e w' => ∃ (m : Nat) (A' : Option Addr) (c' : Nat), e = .returned (.tuple #[.slice A' 1 c', .bool true]) ∧ IntsAt w' A' [(m : Int)] ∧ m < F.op.length ∧ Hid (∀ z : Nat, z < F.op.length → serveF F [(m : Int)] ≤ serveF F [(z : Int)]) ∧ Kp w w' := by
  obtain ⟨m, hm, hme, hmin⟩ := med_one hg
  have Hmin := Lib.hid hmin
  have Hme := Lib.hid hme
  have HP := Lib.hid (med_pos hg)
  have HM : Hid (medB F 1 = true) := by show _ = _; rw [medB, hg, Bool.true_and]; exact inB_iff.2 (by omega)
  have HG := Lib.hid hg
  obtain ⟨A, c, B, d, rfl, hA, hB⟩ := hf
  have hk0 : Kp w (w.alloc (.cells #[.slice A F.op.length c, .slice B F.di.length d] 27)) := (Kp.refl w).alloc _
  obtain ⟨d0, d1⟩ := box2 w (.slice A F.op.length c) (.slice B F.di.length d) 27
  have hFA := FldAt.kp (show FldAt w (.agg #[.slice A F.op.length c, .slice B F.di.length d]) F from ⟨A, c, B, d, rfl, hA, hB⟩) hk0
  clear hA hB hg hmin hme
  go_enter Try.func16, Try.ntmps16
  go_wp2_with fail
  have hsz : Hid ((w.alloc (.cells #[.slice A F.op.length c, .slice B F.di.length d] 27)).heap.size = w.heap.size + 1) := by show _ = _; simp
  generalize w.alloc (.cells #[.slice A F.op.length c, .slice B F.di.length d] 27) = wb at *
  have hkb : Kp wb wb := Kp.refl _
  have hkw := hk0
  have CC := Lib.hid (isMedC_any _ F 1 _ (hFA.kp hkb))
  with_reducible refine Calls.mono CC.out ?_
  rintro e w1 ⟨rfl, hk1⟩
  clear CC
  replace hkb := hkb.trans hk1
  rw [HM.out]
  have q_d0 := hkb.get d0
  have q_d1 := hkb.get d1
  go_wp2_with fail
  have CC := Lib.hid (median_any _ F 1 _ (hFA.kp hkb) HG.out HP.out)
  with_reducible refine Calls.mono CC.out ?_
  rintro e w2 ⟨u, rfl, hu, hk2⟩
  clear CC q_d0 q_d1
  replace hkb := hkb.trans hk2
  rw [Hme.out] at hu
  obtain ⟨Av, cv, rfl, hcv, hiv⟩ := hu.read
  have q_d0 := hkb.get d0
  have q_d1 := hkb.get d1
  go_wp2_with fail
  go_ret2
  exact ⟨m, Av, cv, rfl, hiv, hm, Hmin, hkw.trans hkb⟩
end Go.Proofs.Ytcccmndkolmboaa

namespace Go.Proofs.Ytcccmndkolmboaa
open Go.RowKit Go.Sort

/-- A slot of a slice of the call's own: read and written. -/
theorem Own.slot {w : World} {base g n cap j : Nat} {xs : List Int} (h : Own w base (.slice (some ⟨g, 0, none⟩) n cap) xs) (hn : xs.length = n) (hj : j < n) :
    w.cell? ⟨g, j, none⟩ = some (.int .i64 (xs.getD j 0)) ∧ w.frozen? ⟨g, j, none⟩ = false ∧
    ∀ z : Int, Own (w.setCell ⟨g, j, none⟩ (.int .i64 z)) base (.slice (some ⟨g, 0, none⟩) n cap) (xs.set j z) ∧ Turn (fun i => i = g) w (w.setCell ⟨g, j, none⟩ (.int .i64 z)) := by
  have h' : w.ownsRow base 3 1 (.slice (some ⟨g, 0, none⟩) n cap) n (xs.map (Value.int .i64)) := by
    have := h; unfold Own at this; rw [hn] at this; exact this
  refine ⟨?_, h'.frozenAt j, fun z => ?_⟩
  · rw [h'.cellAt j (by omega), List.getElem?_map]
    have : j < xs.length := by omega
    simp [List.getD, this]
  · have hs := h'.stored j (.int .i64 z)
    refine ⟨?_, (Turn.of_grown hs.2).mono (fun i hi => by simpa using hi.symm)⟩
    have h2 := hs.1
    rw [← List.map_set] at h2
    unfold Own
    rw [List.length_set, hn]; exact h2
/-- A slot of a slice of the call's own: read, written, and written while another such slice stays. -/
theorem Own.slotL {w : World} {base g n cap j : Nat} {xs : List Int} (h : Own w base (.slice (some ⟨g, 0, none⟩) n cap) xs) (hn : xs.length = n) (hj : j < n) :
    w.cell? ⟨g, j, none⟩ = some (.int .i64 (lget xs j)) ∧ w.frozen? ⟨g, j, none⟩ = false ∧
    ∀ z : Int, Own (w.setCell ⟨g, j, none⟩ (.int .i64 z)) base (.slice (some ⟨g, 0, none⟩) n cap) (xs.set j z) ∧ Turn (fun i => i = g) w (w.setCell ⟨g, j, none⟩ (.int .i64 z)) := h.slot hn hj
theorem Own.not_block {w w' : World} {base g n cap : Nat} {v : Value} {xs : List Int} (h : Own w base v xs) (ha : Apart v (.slice (some ⟨g, 0, none⟩) n cap)) (ht : Turn (fun i => i = g) w w') : Own w' base v xs :=
  h.turn ht (fun k hk e => ha k hk (by subst e; rfl))
theorem Own.at0 {w : World} {base n : Nat} {v : Value} {xs : List Int} (h : Own w base v xs) (hn : xs.length = n) (hp : 0 < n) : ∃ g cap, v = .slice (some ⟨g, 0, none⟩) n cap := by
  rcases h.2 with ⟨_, h0⟩ | ⟨g, cap, cur, e, _⟩
  · omega
  · exact ⟨g, cap, by rw [e, hn]⟩
def sLen : Value → Nat
  | .slice _ n _ => n
  | _ => 0
theorem own_made (w : World) (base n : Nat) (hb : base ≤ w.heap.size) (hn : n ≤ 1048576) : Own (w.alloc (.cells (madeCells #[.int .i64 0] n) 3)) base (.slice (some ⟨w.heap.size, 0, none⟩) n n) (List.replicate n 0) := by
  have hr : IntRow (w.alloc (.cells (madeCells #[.int .i64 0] n) 3)) w.heap.size (List.replicate n 0) := by
    unfold IntRow
    rw [List.length_replicate]
    exact (World.rowIs_made w (.int .i64 0) n 3).congr (fun i hi => by simp [List.getD, hi])
  have := Own.of_row hr hb (by simp; omega)
  rw [List.length_replicate] at this
  exact this
end Go.Proofs.Ytcccmndkolmboaa

namespace Go.Proofs.Ytcccmndkolmboaa
open Go.RowKit Go.Sort

/-- Block g holds J headers; row j lies in block B j and reads as f j. -/
structure Mat (w : World) (base g cap J M : Nat) (B Cp : Nat → Nat) (f : Nat → Nat → Int) : Prop where
  hd : w.ownsRow base 24 1 (.slice (some ⟨g, 0, none⟩) J cap) J ((List.range J).map fun j => Value.slice (some ⟨B j, 0, none⟩) M (Cp j))
  row : ∀ j, j < J → Own w base (.slice (some ⟨B j, 0, none⟩) M (Cp j)) (mapTo (f j) M)
  apart : ∀ i j, i < J → j < J → i ≠ j → B i ≠ B j
theorem Mat.kp {w w' : World} {base g cap J M : Nat} {B Cp : Nat → Nat} {f : Nat → Nat → Int} (h : Mat w base g cap J M B Cp f) (hk : Kp w w') : Mat w' base g cap J M B Cp f :=
  ⟨hk.own h.hd, fun j hj => (h.row j hj).kp hk, h.apart⟩
theorem Mat.turn {S : Nat → Prop} {w w' : World} {base g cap J M : Nat} {B Cp : Nat → Nat} {f : Nat → Nat → Int} (h : Mat w base g cap J M B Cp f) (ht : Turn S w w') (h1 : ¬ S g) (h2 : ∀ j, j < J → ¬ S (B j)) : Mat w' base g cap J M B Cp f :=
  ⟨own_turn h.hd ht (fun k hk hs => by have : g = k := by simpa [Value.ownBlock] using hk
                                       subst this; exact h1 hs),
   fun j hj => (h.row j hj).turn ht (fun k hk hs => by have : B j = k := by simpa [Value.ownBlock] using hk
                                                       subst this; exact h2 j hj hs), h.apart⟩
theorem Mat.congr {w : World} {base g cap J M : Nat} {B Cp : Nat → Nat} {f f' : Nat → Nat → Int} (h : Mat w base g cap J M B Cp f) (e : ∀ j a, j < J → a < M → f j a = f' j a) : Mat w base g cap J M B Cp f' :=
  ⟨h.hd, fun j hj => by
    have : mapTo (f j) M = mapTo (f' j) M := by unfold mapTo; exact List.map_congr_left (fun a ha => e j a hj (List.mem_range.1 ha))
    rw [← this]; exact h.row j hj, h.apart⟩
theorem Mat.lt {w : World} {base g cap J M : Nat} {B Cp : Nat → Nat} {f : Nat → Nat → Int} (h : Mat w base g cap J M B Cp f) {j : Nat} (hj : j < J) : base ≤ B j ∧ B j < w.heap.size := (h.row j hj).lt (B j) rfl
theorem Mat.glt {w : World} {base g cap J M : Nat} {B Cp : Nat → Nat} {f : Nat → Nat → Int} (h : Mat w base g cap J M B Cp f) : base ≤ g ∧ g < w.heap.size := World.ownsRow.lt h.hd g rfl
theorem Mat.gne {w : World} {base g cap J M : Nat} {B Cp : Nat → Nat} {f : Nat → Nat → Int} (h : Mat w base g cap J M B Cp f) {j : Nat} (hj : j < J) : B j ≠ g := fun e =>
  own_blocks_ne (h.row j hj) h.hd (by decide) (g := B j) rfl (by rw [e]; rfl)
theorem own_ne_hd {w : World} {base base' g n cap J : Nat} {A : Value} {xs : List Int} {hs : List Value} (h : Own w base A xs) (h2 : w.ownsRow base' 24 1 (.slice (some ⟨g, 0, none⟩) n cap) J hs) {k : Nat} (hk : A.ownBlock = some k) : k ≠ g := fun e =>
  own_blocks_ne h h2 (by decide) hk (by subst e; rfl)
theorem Mat.hcell {w : World} {base g cap J M : Nat} {B Cp : Nat → Nat} {f : Nat → Nat → Int} (h : Mat w base g cap J M B Cp f) {j : Nat} (hj : j < J) : w.cell? ⟨g, j, none⟩ = some (.slice (some ⟨B j, 0, none⟩) M (Cp j)) := by
  have := World.ownsRow.cells h.hd (g := g) rfl j (Value.slice (some ⟨B j, 0, none⟩) M (Cp j)) (by simp [hj])
  rwa [add0] at this
theorem mapTo_lget {g : Nat → Int} {M a : Nat} (h : a < M) : lget (mapTo g M) a = g a := by
  rw [lget_at (by rw [mapTo_len]; exact h), mapTo_get h]
theorem mapTo_set {g : Nat → Int} {M a : Nat} {z : Int} : (mapTo g M).set a z = mapTo (upd g a z) M := by
  unfold mapTo
  apply List.ext_getElem
  · simp
  · intro i h1 h2
    rw [List.getElem_set]
    by_cases e : a = i
    · subst e; simp [upd]
    · have e2 : ¬ i = a := fun h => e h.symm
      simp [e, upd, e2]
theorem Mat.cell {w : World} {base g cap J M : Nat} {B Cp : Nat → Nat} {f : Nat → Nat → Int} (h : Mat w base g cap J M B Cp f) {j a : Nat} (hj : j < J) (ha : a < M) :
    w.cell? ⟨B j, a, none⟩ = some (.int .i64 (f j a)) ∧ w.frozen? ⟨B j, a, none⟩ = false ∧
    ∀ z : Int, Mat (w.setCell ⟨B j, a, none⟩ (.int .i64 z)) base g cap J M B Cp (upd2 f j a z) ∧ Turn (fun i => i = B j) w (w.setCell ⟨B j, a, none⟩ (.int .i64 z)) := by
  obtain ⟨c1, c2, c3⟩ := (h.row j hj).slotL (mapTo_len _ _) ha
  rw [mapTo_lget ha] at c1
  refine ⟨c1, c2, fun z => ?_⟩
  obtain ⟨o1, t1⟩ := c3 z
  refine ⟨⟨own_turn h.hd t1 (fun k hk hs => ?_), fun i hi => ?_, h.apart⟩, t1⟩
  · have e : g = k := by simpa [Value.ownBlock] using hk
    subst e; exact h.gne hj hs.symm
  · by_cases e : i = j
    · subst e
      rw [mapTo_set] at o1
      have : upd2 f i a z i = upd (f i) a z := by funext b; unfold upd2; rw [if_pos rfl]
      rw [this]; exact o1
    · have : upd2 f j a z i = f i := by funext b; unfold upd2; rw [if_neg e]
      rw [this]
      exact (h.row i hi).turn t1 (fun k hk hs => by
        have e2 : B i = k := by simpa [Value.ownBlock] using hk
        subst e2; exact h.apart i j hi hj e hs)
theorem Mat.ints {w : World} {base g cap J M : Nat} {B Cp : Nat → Nat} {f : Nat → Nat → Int} (h : Mat w base g cap J M B Cp f) (hM : M ≤ 1048576) {j : Nat} (hj : j < J) : IntsAt w (some ⟨B j, 0, none⟩) (mapTo (f j) M) := by
  obtain ⟨A, c, e, hi⟩ := (h.row j hj).ints (by rw [mapTo_len]; omega)
  rw [mapTo_len] at e
  simp only [Value.slice.injEq] at e
  rw [e.1]; exact hi
/-- The rows of it. -/
def matL (J M : Nat) (f : Nat → Nat → Int) : List (List Int) := (List.range J).map fun j => mapTo (f j) M
theorem matL_len (J M : Nat) (f : Nat → Nat → Int) : (matL J M f).length = J := by simp [matL]
theorem matL_at {J M : Nat} {f : Nat → Nat → Int} {j : Nat} (hj : j < J) : (matL J M f).getD j [] = mapTo (f j) M := by simp [matL, List.getD, hj]
theorem Mat.grid {w : World} {base g cap J M : Nat} {B Cp : Nat → Nat} {f : Nat → Nat → Int} (h : Mat w base g cap J M B Cp f) (hJ : J ≤ 1048576) (hM : M ≤ 1048576) : GridAt w (some ⟨g, 0, none⟩) (matL J M f) :=
  ⟨by rw [matL_len]; omega, fun k hk => by
    rw [matL_len] at hk
    rw [matL_at hk]
    exact ⟨_, _, _, rfl, by rw [add0, mapTo_len]; exact h.hcell hk, h.ints hM hk⟩⟩
theorem Mat.ownGrid {w : World} {base g cap J M : Nat} {B Cp : Nat → Nat} {f : Nat → Nat → Int} (h : Mat w base g cap J M B Cp f) : OwnGrid w base (.slice (some ⟨g, 0, none⟩) J cap) J (fun j => mapTo (f j) M) :=
  ⟨fun j => Value.slice (some ⟨B j, 0, none⟩) M (Cp j), h.hd, h.row, fun i j k hij hj e1 e2 => by
    have e3 : B i = k := by simpa [Value.ownBlock] using e1
    have e4 : B j = k := by simpa [Value.ownBlock] using e2
    exact h.apart i j (by omega) hj (by omega) (by omega)⟩
end Go.Proofs.Ytcccmndkolmboaa
