/- WholeFlow: plain words; Whole flows cost no less than flows, and as much where nobody needs more than one: plain words; Bytes of the call's own: append of bytes; Small functions of the laws on costs: too many bytes, equal lists, a sum, a part of the bytes; Small functions of the law on least flows: a copy of a list, the greatest number, equal tables; The answers of the law on least flows, as it compares them. No condition. -/
import Derived.Test.YtgdicmeabppngaaQAq
import Derived.Test.YtgdicmeabppngaaQAt
import Derived.Test.YtgdicmeabppngaaQAb
import Derived.Test.YtgdicmeabppngaaQAg
import Derived.Test.YtgdicmeabppngaaQAa
import Derived.Test.YtgdicmeabppngaaQAv
import Derived.Test.YtgdicmeabppngaaQAs
import Derived.Test.YtgdicmeabppngaaQAu
namespace Go.Proofs.Ytgdicmeabppngaa
open Go.RowKit Go.Sort

/-- What one site adds to a client's list. -/
def whAdd (F : Fld) (needs : List Int) (j : Nat) (a : Int) : Int := lget needs j * dAt F j a
/-- The best list of those that begin so; pr: a list that costs no less than the best one is given up at once. -/
def whGo (F : Fld) (needs S : List Int) (pr : Bool) : Nat → (Nat → Int) → List Int → Int → Option (List Int × Int) → Option (List Int × Int)
  | 0, _, begun, cost, best => match best with
    | none => some (begun, cost)
    | some (l, c) => if c ≤ cost then some (l, c) else some (begun, cost)
  | n + 1, left, begun, cost, best =>
    let go := S.foldl (fun b a => if left a.toNat < lget needs begun.length then b else whGo F needs S pr n (upd left a.toNat (left a.toNat - lget needs begun.length)) (begun ++ [a]) (cost + whAdd F needs begun.length a) b) best
    if pr = true then match best with
      | none => go
      | some (l, c) => if c ≤ cost then some (l, c) else go
    else go
/-- The best so far, with the first k sites of the set tried. -/
def whTo (F : Fld) (needs S : List Int) (pr : Bool) (n : Nat) (left : Nat → Int) (begun : List Int) (cost : Int) (best : Option (List Int × Int)) (k : Nat) : Option (List Int × Int) :=
  (S.take k).foldl (fun b a => if left a.toNat < lget needs begun.length then b else whGo F needs S pr n (upd left a.toNat (left a.toNat - lget needs begun.length)) (begun ++ [a]) (cost + whAdd F needs begun.length a) b) best
theorem whTo_zero {F : Fld} {needs S : List Int} {pr : Bool} {n : Nat} {left : Nat → Int} {begun : List Int} {cost : Int} {best : Option (List Int × Int)} : whTo F needs S pr n left begun cost best 0 = best := rfl
theorem whTo_succ {F : Fld} {needs S : List Int} {pr : Bool} {n : Nat} {left : Nat → Int} {begun : List Int} {cost : Int} {best : Option (List Int × Int)} {k : Nat} (hk : k < S.length) :
    whTo F needs S pr n left begun cost best (k + 1) = if left S[k].toNat < lget needs begun.length then whTo F needs S pr n left begun cost best k else whGo F needs S pr n (upd left S[k].toNat (left S[k].toNat - lget needs begun.length)) (begun ++ [S[k]]) (cost + whAdd F needs begun.length S[k]) (whTo F needs S pr n left begun cost best k) := by
  unfold whTo
  rw [List.take_succ_eq_append_getElem hk, List.foldl_append]
  rfl
theorem whGo_no {F : Fld} {needs S : List Int} {n : Nat} {left : Nat → Int} {begun : List Int} {cost : Int} {best : Option (List Int × Int)} : whGo F needs S false (n + 1) left begun cost best = whTo F needs S false n left begun cost best S.length := by
  unfold whTo; rw [List.take_length]; rfl
theorem whGo_some {F : Fld} {needs S : List Int} {n : Nat} {left : Nat → Int} {begun : List Int} {cost : Int} {l : List Int} {c : Int} : whGo F needs S true (n + 1) left begun cost (some (l, c)) = if c ≤ cost then some (l, c) else whTo F needs S true n left begun cost (some (l, c)) S.length := by
  unfold whTo; rw [List.take_length]; rfl
theorem whGo_yes {F : Fld} {needs S : List Int} {n : Nat} {left : Nat → Int} {begun : List Int} {cost : Int} {best : Option (List Int × Int)} (h : ∀ l c, best = some (l, c) → cost < c) : whGo F needs S true (n + 1) left begun cost best = whTo F needs S true n left begun cost best S.length := by
  cases best with
  | none => unfold whTo; rw [List.take_length]; rfl
  | some p =>
    obtain ⟨l, c⟩ := p
    have := h l c rfl
    rw [whGo_some, if_neg (by omega)]
theorem whGo_cut {F : Fld} {needs S : List Int} {n : Nat} {left : Nat → Int} {begun : List Int} {cost : Int} {l : List Int} {c : Int} (h : c ≤ cost) : whGo F needs S true n left begun cost (some (l, c)) = some (l, c) := by
  cases n with
  | zero => show (if c ≤ cost then some (l, c) else some (begun, cost)) = _; rw [if_pos h]
  | succ n => rw [whGo_some, if_pos h]
/-- Costs never fall: what costs no less than the best one gives nothing better. -/
theorem wh_keep {F : Fld} {needs S : List Int} (h0 : ∀ j a, 0 ≤ whAdd F needs j a) : ∀ (n : Nat) (left : Nat → Int) (begun : List Int) (cost : Int) (l : List Int) (c : Int), c ≤ cost → whGo F needs S false n left begun cost (some (l, c)) = some (l, c)
  | 0, _, begun, cost, l, c, h => by show (if c ≤ cost then some (l, c) else some (begun, cost)) = _; rw [if_pos h]
  | n + 1, left, begun, cost, l, c, h => by
    rw [whGo_no]
    have key : ∀ k, k ≤ S.length → whTo F needs S false n left begun cost (some (l, c)) k = some (l, c) := by
      intro k
      induction k with
      | zero => intro _; rfl
      | succ k ih =>
        intro hk
        rw [whTo_succ (by omega), ih (by omega)]
        split
        · rfl
        · exact wh_keep h0 n _ _ _ _ _ (by have := h0 begun.length S[k]; omega)
    exact key _ (Nat.le_refl _)
/-- To give up early makes no difference. -/
theorem wh_same {F : Fld} {needs S : List Int} (h0 : ∀ j a, 0 ≤ whAdd F needs j a) : ∀ (n : Nat) (left : Nat → Int) (begun : List Int) (cost : Int) (best : Option (List Int × Int)), whGo F needs S true n left begun cost best = whGo F needs S false n left begun cost best
  | 0, _, _, _, _ => rfl
  | n + 1, left, begun, cost, best => by
    have key : ∀ k, k ≤ S.length → whTo F needs S true n left begun cost best k = whTo F needs S false n left begun cost best k := by
      intro k
      induction k with
      | zero => intro _; rfl
      | succ k ih =>
        intro hk
        rw [whTo_succ (by omega), whTo_succ (by omega), ih (by omega), wh_same h0 n]
    by_cases hc : ∃ l c, best = some (l, c) ∧ c ≤ cost
    · obtain ⟨l, c, rfl, hle⟩ := hc
      rw [whGo_cut hle, wh_keep h0 (n + 1) left begun cost l c hle]
    · rw [whGo_yes (fun l c e => Int.not_le.1 (fun hle => hc ⟨l, c, e, hle⟩)), whGo_no]
      exact key _ (Nat.le_refl _)
/-- The whole. -/
def whR (F : Fld) (rooms needs S : List Int) : Option (List Int × Int) := whGo F needs S true F.di.length (lget rooms) [] 0 none
def whF (F : Fld) (rooms needs S : List Int) : Bool := lfOk F rooms needs S && (whR F rooms needs S).isSome
def whL (F : Fld) (rooms needs S : List Int) : List Int := if lfOk F rooms needs S = true then (match whR F rooms needs S with | none => [] | some (l, _) => l) else []
def whC (F : Fld) (rooms needs S : List Int) : Int := if lfOk F rooms needs S = true then (match whR F rooms needs S with | none => 0 | some (_, c) => c) else 0
/-- Lists that come out are as long as there are clients, and small. -/
structure WhOk (J : Nat) (best : Option (List Int × Int)) : Prop where
  len : ∀ l c, best = some (l, c) → l.length = J
  cost : ∀ l c, best = some (l, c) → 0 ≤ c ∧ c ≤ 1000000
theorem wh_ok {F : Fld} {needs S : List Int} {pr : Bool} (h0 : ∀ j a, 0 ≤ whAdd F needs j a ∧ whAdd F needs j a ≤ 495) : ∀ (n : Nat) (left : Nat → Int) (begun : List Int) (cost : Int) (best : Option (List Int × Int)) (J : Nat), begun.length + n = J → 0 ≤ cost → cost + 495 * (n : Int) ≤ 1000000 → WhOk J best → WhOk J (whGo F needs S pr n left begun cost best)
  | 0, left, begun, cost, best, J, hn, hc0, hc, hb => by
    cases best with
    | none =>
      show WhOk J (some (begun, cost))
      exact ⟨fun l c e => by cases e; omega, fun l c e => by cases e; omega⟩
    | some p =>
      obtain ⟨l, c⟩ := p
      show WhOk J (if c ≤ cost then some (l, c) else some (begun, cost))
      split
      · exact hb
      · exact ⟨fun l c e => by cases e; omega, fun l c e => by cases e; omega⟩
  | n + 1, left, begun, cost, best, J, hn, hc0, hc, hb => by
    have key : ∀ k, k ≤ S.length → WhOk J (whTo F needs S pr n left begun cost best k) := by
      intro k
      induction k with
      | zero => intro _; exact hb
      | succ k ih =>
        intro hk
        rw [whTo_succ (by omega)]
        split
        · exact ih (by omega)
        · have := h0 begun.length S[k]
          exact wh_ok h0 n _ _ _ _ J (by rw [List.length_append]; simp; omega) (by omega) (by push_cast at hc; omega) (ih (by omega))
    cases pr with
    | false => rw [whGo_no]; exact key _ (Nat.le_refl _)
    | true =>
      by_cases hcc : ∃ l c, best = some (l, c) ∧ c ≤ cost
      · obtain ⟨l, c, rfl, hle⟩ := hcc
        rw [whGo_cut hle]; exact hb
      · rw [whGo_yes (fun l c e => Int.not_le.1 (fun hle => hcc ⟨l, c, e, hle⟩))]
        exact key _ (Nat.le_refl _)
end Go.Proofs.Ytgdicmeabppngaa

namespace Go.Proofs.Ytgdicmeabppngaa
open Go.RowKit Go.Sort

/-- What the clients from k on (n of them) send to site a, and what they cost, when client j goes to s j. -/
def useS (nd : Nat → Int) (s : Nat → Nat) (a : Nat) : Nat → Nat → Int
  | _, 0 => 0
  | k, n + 1 => (if s k = a then nd k else 0) + useS nd s a (k + 1) n
def cstS (F : Fld) (nd : List Int) (s : Nat → Nat) : Nat → Nat → Int
  | _, 0 => 0
  | k, n + 1 => whAdd F nd k (s k : Int) + cstS F nd s (k + 1) n
structure Fits (S : List Int) (nd : Nat → Int) (left : Nat → Int) (s : Nat → Nat) (k n : Nat) : Prop where
  mem : ∀ j, k ≤ j → j < k + n → ((s j : Nat) : Int) ∈ S
  room : ∀ a, useS nd s a k n ≤ left a
theorem use_nn {nd : Nat → Int} (h : ∀ j, 0 ≤ nd j) (s : Nat → Nat) (a : Nat) : ∀ n k, 0 ≤ useS nd s a k n
  | 0, _ => Int.le_refl _
  | n + 1, k => by
    have h1 := use_nn h s a n (k + 1)
    have h2 := h k
    unfold useS
    split <;> omega
theorem use_congr {nd : Nat → Int} {s s' : Nat → Nat} {a : Nat} : ∀ n k, (∀ j, k ≤ j → j < k + n → s j = s' j) → useS nd s a k n = useS nd s' a k n
  | 0, _, _ => rfl
  | n + 1, k, h => by
    unfold useS
    rw [h k (Nat.le_refl _) (by omega), use_congr n (k + 1) (fun j h1 h2 => h j (by omega) (by omega))]
theorem cst_congr {F : Fld} {nd : List Int} {s s' : Nat → Nat} : ∀ n k, (∀ j, k ≤ j → j < k + n → s j = s' j) → cstS F nd s k n = cstS F nd s' k n
  | 0, _, _ => rfl
  | n + 1, k, h => by
    unfold cstS
    rw [h k (Nat.le_refl _) (by omega), cst_congr n (k + 1) (fun j h1 h2 => h j (by omega) (by omega))]
/-- What is better stays. -/
theorem wh_mono {F : Fld} {needs S : List Int} : ∀ (n : Nat) (left : Nat → Int) (begun : List Int) (cost : Int) (l : List Int) (c : Int), ∃ l' c', whGo F needs S false n left begun cost (some (l, c)) = some (l', c') ∧ c' ≤ c
  | 0, _, begun, cost, l, c => by
    show ∃ l' c', (if c ≤ cost then some (l, c) else some (begun, cost)) = some (l', c') ∧ c' ≤ c
    by_cases h : c ≤ cost
    · rw [if_pos h]; exact ⟨l, c, rfl, Int.le_refl _⟩
    · rw [if_neg h]; exact ⟨begun, cost, rfl, by omega⟩
  | n + 1, left, begun, cost, l, c => by
    rw [whGo_no]
    have key : ∀ k, k ≤ S.length → ∃ l' c', whTo F needs S false n left begun cost (some (l, c)) k = some (l', c') ∧ c' ≤ c := by
      intro k
      induction k with
      | zero => intro _; exact ⟨l, c, rfl, Int.le_refl _⟩
      | succ k ih =>
        intro hk
        obtain ⟨l1, c1, e1, h1⟩ := ih (by omega)
        rw [whTo_succ (by omega), e1]
        split
        · exact ⟨l1, c1, rfl, h1⟩
        · obtain ⟨l2, c2, e2, h2⟩ := wh_mono n (upd left S[k].toNat (left S[k].toNat - lget needs begun.length)) (begun ++ [S[k]]) (cost + whAdd F needs begun.length S[k]) l1 c1
          exact ⟨l2, c2, e2, by omega⟩
    exact key _ (Nat.le_refl _)
/-- No list that fits costs less than what is found. -/
theorem wh_all {F : Fld} {needs S : List Int} (hS : ∀ x ∈ S, 0 ≤ x) (hn : ∀ j, 0 ≤ lget needs j) : ∀ (n : Nat) (left : Nat → Int) (begun : List Int) (cost : Int) (best : Option (List Int × Int)) (s : Nat → Nat), Fits S (lget needs) left s begun.length n →
    ∃ l c, whGo F needs S false n left begun cost best = some (l, c) ∧ c ≤ cost + cstS F needs s begun.length n
  | 0, _, begun, cost, best, s, _ => by
    cases best with
    | none => exact ⟨begun, cost, rfl, by unfold cstS; omega⟩
    | some p =>
      obtain ⟨l, c⟩ := p
      show ∃ l' c', (if c ≤ cost then some (l, c) else some (begun, cost)) = some (l', c') ∧ _
      by_cases h : c ≤ cost
      · rw [if_pos h]; exact ⟨l, c, rfl, by unfold cstS; omega⟩
      · rw [if_neg h]; exact ⟨begun, cost, rfl, by unfold cstS; omega⟩
  | n + 1, left, begun, cost, best, s, hf => by
    rw [whGo_no]
    obtain ⟨i, hi, he⟩ := List.mem_iff_getElem.1 (hf.mem begun.length (Nat.le_refl _) (by omega))
    have hto : S[i].toNat = s begun.length := by rw [he]; exact Int.toNat_natCast _
    have hroom : ¬ left S[i].toNat < lget needs begun.length := by
      rw [hto]
      have h1 := hf.room (s begun.length)
      unfold useS at h1
      rw [if_pos rfl] at h1
      have h2 := use_nn hn s (s begun.length) n (begun.length + 1)
      omega
    have key : ∀ k, i < k → k ≤ S.length → ∃ l c, whTo F needs S false n left begun cost best k = some (l, c) ∧ c ≤ cost + cstS F needs s begun.length (n + 1) := by
      intro k
      induction k with
      | zero => intro h; omega
      | succ k ih =>
        intro hk hk2
        rw [whTo_succ (by omega)]
        by_cases e : i = k
        · subst e
          rw [if_neg hroom]
          have hlen : (begun ++ [S[i]]).length = begun.length + 1 := by simp
          obtain ⟨l, c, e1, h1⟩ := wh_all hS hn n (upd left S[i].toNat (left S[i].toNat - lget needs begun.length)) (begun ++ [S[i]]) (cost + whAdd F needs begun.length S[i]) (whTo F needs S false n left begun cost best i) s ⟨fun j h1 h2 => by rw [hlen] at h1 h2; exact hf.mem j (by omega) (by omega), fun a => by
            rw [hlen]
            have h1 := hf.room a
            unfold useS at h1
            unfold upd
            rw [hto]
            by_cases ea : a = s begun.length
            · rw [if_pos ea]; rw [if_pos ea.symm] at h1; subst ea; omega
            · rw [if_neg ea]; rw [if_neg (Ne.symm ea)] at h1; omega⟩
          rw [hlen] at h1
          refine ⟨l, c, e1, ?_⟩
          have e2 : cstS F needs s begun.length (n + 1) = whAdd F needs begun.length (s begun.length : Int) + cstS F needs s (begun.length + 1) n := rfl
          rw [e2]
          rw [he] at h1
          omega
        · obtain ⟨l, c, e1, h1⟩ := ih (by omega) (by omega)
          rw [e1]
          split
          · exact ⟨l, c, rfl, h1⟩
          · obtain ⟨l2, c2, e2, h2⟩ := wh_mono (F := F) (needs := needs) (S := S) n (upd left S[k].toNat (left S[k].toNat - lget needs begun.length)) (begun ++ [S[k]]) (cost + whAdd F needs begun.length S[k]) l c
            exact ⟨l2, c2, e2, by omega⟩
    exact key _ hi (Nat.le_refl _)
/-- What is found is a list that fits. -/
theorem wh_some {F : Fld} {needs S : List Int} (hS : ∀ x ∈ S, 0 ≤ x) : ∀ (n : Nat) (left : Nat → Int) (begun : List Int) (cost : Int) (best : Option (List Int × Int)), (∀ a, 0 ≤ left a) →
    whGo F needs S false n left begun cost best = best ∨ ∃ s l, Fits S (lget needs) left s begun.length n ∧ whGo F needs S false n left begun cost best = some (l, cost + cstS F needs s begun.length n)
  | 0, left, begun, cost, best, hl => by
    have hfit : Fits S (lget needs) left (fun _ => 0) begun.length 0 := ⟨fun j h1 h2 => by omega, fun a => hl a⟩
    have e0 : cost + cstS F needs (fun _ => 0) begun.length 0 = cost := by unfold cstS; omega
    cases best with
    | none => exact .inr ⟨_, begun, hfit, by rw [e0]; rfl⟩
    | some p =>
      obtain ⟨l, c⟩ := p
      show (if c ≤ cost then some (l, c) else some (begun, cost)) = some (l, c) ∨ ∃ s l', Fits S (lget needs) left s begun.length 0 ∧ (if c ≤ cost then some (l, c) else some (begun, cost)) = some (l', cost + cstS F needs s begun.length 0)
      by_cases h : c ≤ cost
      · rw [if_pos h]; exact .inl rfl
      · rw [if_neg h]; exact .inr ⟨_, begun, hfit, by rw [e0]⟩
  | n + 1, left, begun, cost, best, hl => by
    rw [whGo_no]
    have key : ∀ k, k ≤ S.length → whTo F needs S false n left begun cost best k = best ∨ ∃ s l, Fits S (lget needs) left s begun.length (n + 1) ∧ whTo F needs S false n left begun cost best k = some (l, cost + cstS F needs s begun.length (n + 1)) := by
      intro k
      induction k with
      | zero => intro _; exact .inl rfl
      | succ k ih =>
        intro hk
        rw [whTo_succ (by omega)]
        by_cases hr : left S[k].toNat < lget needs begun.length
        · rw [if_pos hr]; exact ih (by omega)
        · rw [if_neg hr]
          have hlen : (begun ++ [S[k]]).length = begun.length + 1 := by simp
          have hx := hS _ (List.getElem_mem (show k < S.length by omega))
          rcases wh_some (F := F) (needs := needs) hS n (upd left S[k].toNat (left S[k].toNat - lget needs begun.length)) (begun ++ [S[k]]) (cost + whAdd F needs begun.length S[k]) (whTo F needs S false n left begun cost best k) (fun a => by
            unfold upd; have := hl a; split
            · omega
            · exact this) with h1 | ⟨s, l, h1, h2⟩
          · rw [h1]; exact ih (by omega)
          · right
            rw [hlen] at h1 h2
            have hs2 : ∀ j, begun.length + 1 ≤ j → j < begun.length + 1 + n → s j = upd s begun.length S[k].toNat j := fun j g1 g2 => (upd_ne (by omega)).symm
            refine ⟨upd s begun.length S[k].toNat, l, ⟨fun j g1 g2 => ?_, fun a => ?_⟩, ?_⟩
            · by_cases e : j = begun.length
              · subst e
                rw [upd_at, Int.toNat_of_nonneg hx]
                exact List.getElem_mem (by omega)
              · rw [upd_ne e]; exact h1.mem j (by omega) (by omega)
            · have h3 := h1.room a
              unfold useS
              rw [upd_at, ← use_congr n (begun.length + 1) hs2]
              unfold upd at h3
              by_cases ea : S[k].toNat = a
              · rw [if_pos ea]; rw [if_pos ea.symm] at h3; rw [ea] at h3; omega
              · rw [if_neg ea]; rw [if_neg (Ne.symm ea)] at h3; omega
            · rw [h2]
              have e2 : cstS F needs (upd s begun.length S[k].toNat) begun.length (n + 1) = whAdd F needs begun.length ((upd s begun.length S[k].toNat begun.length : Nat) : Int) + cstS F needs (upd s begun.length S[k].toNat) (begun.length + 1) n := rfl
              rw [e2, upd_at, ← cst_congr n (begun.length + 1) hs2, Int.toNat_of_nonneg hx]
              congr 2
              omega
    exact key _ (Nat.le_refl _)
theorem sumTo_front (g : Nat → Int) : ∀ n, sumTo g (n + 1) = g 0 + sumTo (fun i => g (i + 1)) n
  | 0 => by rw [sumTo_succ, sumTo_zero, sumTo_zero]; omega
  | n + 1 => by
    rw [sumTo_succ, sumTo_front g n, sumTo_succ]; omega
theorem use_sum (nd : Nat → Int) (s : Nat → Nat) (a : Nat) : ∀ n k, useS nd s a k n = sumTo (fun i => if s (k + i) = a then nd (k + i) else 0) n
  | 0, _ => by rw [sumTo_zero]; rfl
  | n + 1, k => by
    have e : useS nd s a k (n + 1) = (if s k = a then nd k else 0) + useS nd s a (k + 1) n := rfl
    rw [e, use_sum nd s a n (k + 1), sumTo_front]
    congr 1
    exact sumTo_congr (fun i _ => by rw [show k + 1 + i = k + (i + 1) by omega])
theorem cst_sum (F : Fld) (nd : List Int) (s : Nat → Nat) : ∀ n k, cstS F nd s k n = sumTo (fun i => whAdd F nd (k + i) (s (k + i) : Int)) n
  | 0, _ => by rw [sumTo_zero]; rfl
  | n + 1, k => by
    have e : cstS F nd s k (n + 1) = whAdd F nd k (s k : Int) + cstS F nd s (k + 1) n := rfl
    rw [e, cst_sum F nd s n (k + 1), sumTo_front]
    congr 1
    exact sumTo_congr (fun i _ => by rw [show k + 1 + i = k + (i + 1) by omega])
theorem use_sum0 (nd : Nat → Int) (s : Nat → Nat) (a n : Nat) : useS nd s a 0 n = sumTo (fun j => if s j = a then nd j else 0) n := by
  rw [use_sum]; exact sumTo_congr (fun i _ => by rw [Nat.zero_add])
theorem cst_sum0 (F : Fld) (nd : List Int) (s : Nat → Nat) (n : Nat) : cstS F nd s 0 n = sumTo (fun j => lget nd j * dF F j (s j)) n := by
  rw [cst_sum]; exact sumTo_congr (fun i _ => by rw [Nat.zero_add]; rfl)
theorem set_ex' {F : Fld} {rooms needs S : List Int} (hP : HaulP F rooms needs S) : ∃ a, a < F.op.length ∧ flHas S a = true := by
  obtain ⟨s, hs⟩ := List.exists_mem_of_ne_nil _ hP.ne
  have := set_mem hP.set_ s hs
  obtain ⟨n, rfl⟩ := Int.eq_ofNat_of_zero_le this.1
  exact ⟨n, by omega, flHas_iff.2 hs⟩
theorem whAdd_nn {F : Fld} {rooms needs S : List Int} (hP : HaulP F rooms needs S) (j : Nat) (a : Int) : 0 ≤ whAdd F needs j a := by
  unfold whAdd
  by_cases hj : j < F.di.length
  · exact Int.mul_nonneg (hP.nb j).1 (dAt_bd hP.good hj a).1
  · have e : lget needs j = 0 := by
      unfold lget; rw [List.getD_eq_getElem?_getD, List.getElem?_eq_none (by have := hP.nl; omega)]; rfl
    rw [e, Int.zero_mul]; exact Int.le_refl _
theorem wh_val {F : Fld} {rooms needs S : List Int} (h : whF F rooms needs S = true) : lfOk F rooms needs S = true ∧ ∃ s, Fits S (lget needs) (lget rooms) s 0 F.di.length ∧ whC F rooms needs S = cstS F needs s 0 F.di.length := by
  unfold whF at h
  rw [Bool.and_eq_true] at h
  have h0 := h.1
  unfold lfOk at h0
  rw [Bool.and_eq_true, decide_eq_true_eq] at h0
  have hP := haul_p h0.1
  refine ⟨h.1, ?_⟩
  have e := wh_same (F := F) (needs := needs) (S := S) (whAdd_nn hP) F.di.length (lget rooms) [] 0 none
  rcases wh_some (F := F) (needs := needs) (S := S) (fun x hx => (hP.mem x hx).1) F.di.length (lget rooms) [] 0 none (fun a => (hP.rb a).1) with h1 | ⟨s, l, h1, h2⟩
  · have h3 : whR F rooms needs S = none := by unfold whR; rw [e, h1]
    rw [h3] at h; exact absurd h.2 (by simp)
  · refine ⟨s, h1, ?_⟩
    have h3 : whR F rooms needs S = some (l, 0 + cstS F needs s 0 F.di.length) := by unfold whR; rw [e, h2]; rfl
    unfold whC
    rw [if_pos h.1, h3]
    show 0 + _ = _
    omega
/-- Whole flows are hauls. -/
theorem whole_ge {F : Fld} {rooms needs S : List Int} (h : whF F rooms needs S = true) : lfOk F rooms needs S = true ∧ lfV F rooms needs S ≤ whC F rooms needs S := by
  obtain ⟨hok, s, hf, e⟩ := wh_val h
  refine ⟨hok, ?_⟩
  have h0 := hok
  unfold lfOk at h0
  rw [Bool.and_eq_true, decide_eq_true_eq] at h0
  have hP := haul_p h0.1
  have hsM : ∀ j, j < F.di.length → s j < F.op.length ∧ flHas S (s j) = true := fun j hj => by
    have h1 := hf.mem j (by omega) (by omega)
    have h2 := set_mem hP.set_ _ h1
    exact ⟨by omega, flHas_iff.2 h1⟩
  have hx : Haul F.di.length F.op.length (openM S) (lget needs) (lget rooms) (fun j a => if s j = a then lget needs j else 0) := by
    refine ⟨fun j a hj ha => ?_, fun j a hj ha hp => ?_, fun j hj => ?_, fun a ha => ?_⟩
    · have := (hP.nb j).1
      show 0 ≤ if s j = a then lget needs j else 0
      split <;> omega
    · replace hp : 0 < if s j = a then lget needs j else 0 := hp
      by_cases e : s j = a
      · subst e; exact (hsM j hj).2
      · rw [if_neg e] at hp; omega
    · show sumTo (fun a => if s j = a then lget needs j else 0) F.op.length = _
      rw [sumTo_single (p := s j) (hsM j hj).1 (fun i _ hi => if_neg (fun e => hi e.symm)), if_pos rfl]
    · have h1 := hf.room a
      rw [use_sum0] at h1
      exact h1
  have h1 := (lf_lstF hok).all_ _ hx
  rw [e, cst_sum0]
  refine Int.le_trans h1 (Int.le_of_eq ?_)
  refine sumTo_congr (fun j hj => ?_)
  show sumTo (fun a => (if s j = a then lget needs j else 0) * dF F j a) F.op.length = _
  rw [sumTo_single (p := s j) (hsM j hj).1 (fun i _ hi => by rw [if_neg (fun e => hi e.symm), Int.zero_mul]), if_pos rfl]
/-- Where nobody needs more than one, they cost no more. -/
theorem whole_le {F : Fld} {rooms needs S : List Int} (hok : lfOk F rooms needs S = true) (h1 : ∀ j, lget needs j ≤ 1) : whF F rooms needs S = true ∧ whC F rooms needs S ≤ lfV F rooms needs S := by
  have h0 := hok
  unfold lfOk at h0
  rw [Bool.and_eq_true, decide_eq_true_eq] at h0
  have hP := haul_p h0.1
  obtain ⟨x, hx, hc⟩ := (lf_lstF hok).some_
  obtain ⟨b0, hb0, hs0⟩ := set_ex' hP
  have hex : ∀ j, ∃ a, a < F.op.length ∧ flHas S a = true ∧ (j < F.di.length → lget needs j ≤ x j a) := fun j => by
    by_cases hj : j < F.di.length
    · by_cases hz : lget needs j ≤ 0
      · exact ⟨b0, hb0, hs0, fun _ => by have := hx.nn j b0 hj hb0; omega⟩
      · have hr := hx.row j hj
        obtain ⟨a, ha, hp⟩ := sumTo_pos' (g := x j) (k := F.op.length) (fun i hi => hx.nn j i hj hi) (by
          show 0 < rowS F.op.length x j; omega)
        exact ⟨a, ha, hx.may j a hj ha hp, fun _ => by have := h1 j; omega⟩
    · exact ⟨b0, hb0, hs0, fun h => absurd h hj⟩
  obtain ⟨s, hs⟩ : ∃ s : Nat → Nat, ∀ j, s j < F.op.length ∧ flHas S (s j) = true ∧ (j < F.di.length → lget needs j ≤ x j (s j)) := ⟨fun j => Classical.choose (hex j), fun j => Classical.choose_spec (hex j)⟩
  have hfit : Fits S (lget needs) (lget rooms) s 0 F.di.length := by
    refine ⟨fun j _ _ => flHas_iff.1 (hs j).2.1, fun a => ?_⟩
    rw [use_sum0]
    by_cases ha : a < F.op.length
    · refine Int.le_trans (sumTo_mono' (h := fun j => x j a) (fun j hj => ?_)) (hx.col a ha)
      by_cases e : s j = a
      · rw [if_pos e, ← e]; exact (hs j).2.2 hj
      · rw [if_neg e]; exact hx.nn j a hj ha
    · have e : sumTo (fun j => if s j = a then lget needs j else 0) F.di.length = sumTo (fun _ => 0) F.di.length := sumTo_congr (fun j _ => if_neg (fun e => by have := (hs j).1; omega))
      rw [e, sumTo_c0]; exact (hP.rb a).1
  have e := wh_same (F := F) (needs := needs) (S := S) (whAdd_nn hP) F.di.length (lget rooms) [] 0 none
  obtain ⟨l, c, e1, h2⟩ := wh_all (F := F) (needs := needs) (S := S) (fun x hx => (hP.mem x hx).1) (fun j => (hP.nb j).1) F.di.length (lget rooms) [] 0 none s hfit
  have h3 : whR F rooms needs S = some (l, c) := by unfold whR; rw [e, e1]
  refine ⟨by unfold whF; rw [hok, h3]; rfl, ?_⟩
  have h4 : whC F rooms needs S = c := by unfold whC; rw [if_pos hok, h3]
  rw [h4, ← hc]
  have h5 : c ≤ 0 + cstS F needs s 0 F.di.length := h2
  rw [cst_sum0] at h5
  refine Int.le_trans (by omega : c ≤ sumTo (fun j => lget needs j * dF F j (s j)) F.di.length) (sumTo_mono' (fun j hj => ?_))
  have hd : ∀ a, 0 ≤ dF F j a := fun a => (dAt_bd hP.good hj (a : Int)).1
  refine Int.le_trans (Int.mul_le_mul_of_nonneg_right ((hs j).2.2 hj) (hd (s j))) ?_
  exact sumTo_ge (g := fun a => x j a * dF F j a) (fun a ha => Int.mul_nonneg (hx.nn j a hj ha) (hd a)) (hs j).1
end Go.Proofs.Ytgdicmeabppngaa

namespace Go.Proofs.Ytgdicmeabppngaa
open Go.RowKit Go.Sort

theorem infoByte : (Try.prog.info? 5).map (fun i => (i.zero, i.size, i.bytes)) = some (some (.int .u8 0), 1, 1) := by kernel_rfl
/-- A slice of bytes of the call's own. -/
def OwnB (w : World) (base : Nat) (v : Value) (xs : List Int) : Prop := w.ownsRow base 5 1 v xs.length (xs.map (Value.int .u8)) ∧ ∀ x ∈ xs, 0 ≤ x ∧ x < 256
/-- What the bytes read as. -/
theorem BytesAt.list {w : World} {A : Option Addr} {n : Nat} (h : BytesAt w A n) : ∃ ys : List Int, ys.length = n ∧ (∀ y ∈ ys, 0 ≤ y ∧ y < 256) ∧ ∀ k (hk : k < ys.length), ∃ ad, A = some ad ∧ w.cell? (ad.add k) = some (.int .u8 ys[k]) := by
  refine ⟨(List.range n).map fun k => if hk : k < n then (h.2 k hk).choose_spec.choose else 0, by simp, ?_, ?_⟩
  · intro y hy
    rw [List.mem_map] at hy
    obtain ⟨k, hk, rfl⟩ := hy
    have hk2 := List.mem_range.1 hk
    rw [dif_pos hk2]
    exact (h.2 k hk2).choose_spec.choose_spec.2.2
  · intro k hk
    have hk2 : k < n := by simpa using hk
    simp only [List.getElem_map, List.getElem_range]
    rw [dif_pos hk2]
    exact ⟨_, (h.2 k hk2).choose_spec.choose_spec.1, (h.2 k hk2).choose_spec.choose_spec.2.1⟩
/-- A part of the bytes. -/
theorem BytesAt.cut {w : World} {ad : Addr} {n k : Nat} (h : BytesAt w (some ad) n) (hk : k ≤ n) : BytesAt w (some (ad.add k)) (n - k) :=
  ⟨by have := h.1; omega, fun j hj => by
    obtain ⟨a, b, e, hc, hb⟩ := h.2 (k + j) (by omega)
    cases e
    refine ⟨ad.add k, b, rfl, ?_, hb⟩
    rw [Addr.add_add]; exact hc⟩
theorem OwnB.bytes {w : World} {base : Nat} {v : Value} {xs : List Int} (h : OwnB w base v xs) (hl : xs.length ≤ 9223372036854775807) : ∃ A c, v = .slice A xs.length c ∧ BytesAt w A xs.length := by
  rcases h.1.2 with ⟨rfl, h0⟩ | ⟨g, cap, cur, rfl, _, _, _⟩
  · refine ⟨none, 0, by rw [h0], hl, fun k hk => ?_⟩
    rw [h0] at hk; omega
  · refine ⟨_, cap, rfl, hl, fun k hk => ⟨_, xs[k], rfl, ?_, h.2 _ (List.getElem_mem hk)⟩⟩
    exact World.ownsRow.cells h.1 (g := g) rfl k (.int .u8 xs[k]) (by simp [hk])
theorem OwnB.kp {w w' : World} {base : Nat} {v : Value} {xs : List Int} (h : OwnB w base v xs) (hk : Kp w w') : OwnB w' base v xs := ⟨hk.own h.1, h.2⟩
theorem OwnB.lt {w : World} {base : Nat} {v : Value} {xs : List Int} (h : OwnB w base v xs) : ∀ i, v.ownBlock = some i → base ≤ i ∧ i < w.heap.size := h.1.lt
theorem ownB_new0 (w : World) (base : Nat) (hb : base ≤ w.heap.size) : OwnB (w.alloc (.cells #[] 5)) base (.slice (some ⟨w.heap.size, 0, none⟩) 0 0) [] :=
  ⟨World.ownsRow_lit w #[] 0 hb (by unfold maxLen; omega) (by simp), by simp⟩
theorem run_appB {W : World} (ty : TypeId) (base : Nat) (v : Value) (xs ys : List Int) (A : Option Addr) (m c : Nat)
    (hown : OwnB W base v xs) (hm : ys.length = m) (hb : ∀ y ∈ ys, 0 ≤ y ∧ y < 256) (hy : ∀ k (hk : k < ys.length), ∃ ad, A = some ad ∧ W.cell? (ad.add k) = some (.int .u8 ys[k])) (hbase : base ≤ W.heap.size) (hlen : xs.length + ys.length ≤ 4194304) :
    ∃ v' w', (Builtin.append_ #[22, 22] ty #[v, .slice A m c]).run Try.prog W = .ok v' w' ∧ OwnB w' base v' (xs ++ ys) ∧ W.grownBy w' v.ownBlock ∧ (v'.ownBlock = v.ownBlock ∨ ∀ g, v'.ownBlock = some g → W.heap.size ≤ g) := by
  obtain ⟨i0, hi, hz0, hz1, hz2⟩ := info_parts infoByte
  have hb2 : ∀ x ∈ xs ++ ys, 0 ≤ x ∧ x < 256 := fun x hx => (List.mem_append.1 hx).elim (hown.2 x) (hb x)
  rcases A with _ | ad
  · have hys : ys = [] := by
      rcases ys with _ | ⟨y, ys⟩
      · rfl
      · obtain ⟨ad, h, _⟩ := hy 0 (by simp)
        cases h
    subst hys
    obtain rfl : m = 0 := by simpa using hm.symm
    refine ⟨v, W, ?_, by simpa using hown, World.grownBy.refl W _, .inl rfl⟩
    rcases hown.1.2 with ⟨rfl, hn0⟩ | ⟨g, cap, cur, rfl, _, _, hnc, _⟩
    · simp [Builtin.append_, run_underlying Try.underlying22, sizeOf, typeInfo, hi, Builtin.lenOf, Builtin.firstCells]
    · simp [Builtin.append_, run_underlying Try.underlying22, sizeOf, typeInfo, hi, Builtin.lenOf, Builtin.firstCells, hnc, storeCells]
  · obtain ⟨v', w', hrun, h2, h3, _, h5⟩ := run_append_own_at (P := Try.prog) W base 22 ty 5 i0 (.int .u8 0) 1 1 Try.underlying22 hi hz0 hz1 hz2 rfl (by decide) v xs.length (xs.map (Value.int .u8)) hown.1 ad m c (ys.map (Value.int .u8)) (by simp [hm]) (by
      intro j u hj
      by_cases hlt : j < ys.length
      · rw [List.getElem?_map, List.getElem?_eq_getElem hlt] at hj
        have e : u = .int .u8 ys[j] := by simpa using hj.symm
        obtain ⟨ad', e', hc⟩ := hy j hlt
        cases e'
        rw [e]; exact hc
      · rw [List.getElem?_eq_none (by simpa using hlt)] at hj; cases hj) (ints_oneCell _ _) (by unfold maxLen; omega) (by omega) hbase
    refine ⟨v', w', hrun, ⟨?_, hb2⟩, h3, ?_⟩
    · rw [List.length_append, List.map_append, hm]
      exact h2
    · rcases h5 with e | e
      · exact .inl e
      · exact .inr (fun g hg => by rw [e] at hg; simp at hg; omega)
theorem step_appB {ops : Array Oper} {o : Oper} {a : Act} {K : Act → World → Prop} {Q : Exit → Act → World → Prop} {E : Prop} {W : World} (hgd : o.guard = none) (s x : Operand)
    (ho : o.op = .call { callee := .builtin .append, args := #[s, x], argTypes := #[22, 22] }) (base : Nat) (v : Value) (xs ys : List Int) (A : Option Addr) (m c : Nat)
    (hs : a.eval s = v) (hx : a.eval x = .slice A m c) (hown : OwnB W base v xs) (hm : ys.length = m) (hb : ∀ y ∈ ys, 0 ≤ y ∧ y < 256) (hy : ∀ k (hk : k < ys.length), ∃ ad, A = some ad ∧ W.cell? (ad.add k) = some (.int .u8 ys[k])) (hbase : base ≤ W.heap.size) (hlen : xs.length + ys.length ≤ 4194304)
    (h : ∀ v' w', OwnB w' base v' (xs ++ ys) → Turn (fun i => v.ownBlock = some i) W w' → (v'.ownBlock = v.ownBlock ∨ ∀ g, v'.ownBlock = some g → W.heap.size ≤ g) → K (a.put o.dst v') w') :
    if Region.wanted o (yielded ops a.tmps) = true then Oper.wp Try.prog o a W K Q else E := by
  have hw : Region.wanted o (yielded ops a.tmps) = true := by simp [Region.wanted, hgd]
  rw [if_pos hw]
  obtain ⟨v', w', hrun, h2, h3, h4⟩ := run_appB (W := W) o.type base v xs ys A m c hown hm hb hy hbase hlen
  unfold Oper.wp execOp
  simp only [ho, resolve, invoke, builtin, Sem.run_bind, Sem.run_pure, Result.andThen_ok, List.map_toArray, List.map_cons, List.map_nil, hs, hx, hrun]
  exact h v' w' h2 (Turn.of_grown h3) h4
theorem wpl_appB {ops : Array Oper} {rest : List Oper} {o : Oper} {a : Act} {Q : Exit → Act → World → Prop} {W : World} (hgd : o.guard = none) (s x : Operand)
    (ho : o.op = .call { callee := .builtin .append, args := #[s, x], argTypes := #[22, 22] }) (base : Nat) (v : Value) (xs ys : List Int) (A : Option Addr) (m c : Nat)
    (hs : a.eval s = v) (hx : a.eval x = .slice A m c) (hown : OwnB W base v xs) (hm : ys.length = m) (hb : ∀ y ∈ ys, 0 ≤ y ∧ y < 256) (hy : ∀ k (hk : k < ys.length), ∃ ad, A = some ad ∧ W.cell? (ad.add k) = some (.int .u8 ys[k])) (hbase : base ≤ W.heap.size) (hlen : xs.length + ys.length ≤ 4194304)
    (h : ∀ v' w', OwnB w' base v' (xs ++ ys) → Turn (fun i => v.ownBlock = some i) W w' → (v'.ownBlock = v.ownBlock ∨ ∀ g, v'.ownBlock = some g → W.heap.size ≤ g) → wpList Try.prog ops Q rest (a.put o.dst v') w') :
    wpList Try.prog ops Q (o :: rest) a W := by
  obtain ⟨v', w', hrun, h2, h3, h4⟩ := run_appB (W := W) o.type base v xs ys A m c hown hm hb hy hbase hlen
  exact Lib.wpList_append_run _ hgd s x _ _ ho _ _ hs hx v' w' hrun (h v' w' h2 (Turn.of_grown h3) h4)
theorem wpl_appB1 {ops : Array Oper} {rest : List Oper} {o : Oper} {a : Act} {Q : Exit → Act → World → Prop} {W : World} (hgd : o.guard = none) (s x : Operand)
    (ho : o.op = .call { callee := .builtin .append, args := #[s, x], argTypes := #[22, 22] }) (base : Nat) (v : Value) (xs : List Int) (z : Int)
    (hs : a.eval s = v) (hx : a.eval x = .slice (some ⟨W.heap.size, 0, none⟩) 1 1) (hown : OwnB W base v xs) (hz : 0 ≤ z ∧ z < 256) (hbase : base ≤ W.heap.size) (hlen : xs.length < 1048576)
    (h : ∀ v' w', OwnB w' base v' (xs ++ [z]) → Turn (fun i => v.ownBlock = some i) W w' → wpList Try.prog ops Q rest (a.put o.dst v') w') :
    wpList Try.prog ops Q (o :: rest) a (W.alloc (.cells #[.int .u8 z] 5)) := by
  have hka : Kp W (W.alloc (.cells #[.int .u8 z] 5)) := (Kp.refl W).alloc _
  refine wpl_appB hgd s x ho base v xs [z] _ 1 1 hs hx (hown.kp hka) rfl (fun y hy => by rw [List.mem_singleton.1 hy]; exact hz) (fun k hk => ?_) (by simp; omega) (by simp; omega) (fun v' w' h1 h2 _ => h v' w' h1 ((Turn.of_kp hka).trans h2))
  obtain rfl : k = 0 := by simpa using hk
  exact ⟨_, rfl, by rw [add0, World.cell?_alloc_at _ _ _ _ rfl]; rfl⟩
theorem wrap_u8_bd (x : Int) : 0 ≤ IntKind.u8.wrap x ∧ IntKind.u8.wrap x < 256 := by
  have : IntKind.u8.wrap x = x % 256 := by simp [IntKind.wrap, IntKind.bits, IntKind.signed]
  omega
end Go.Proofs.Ytgdicmeabppngaa

namespace Go.Proofs.Ytgdicmeabppngaa
open Go.RowKit Go.Sort

theorem vBig_any (A : Option Addr) (n c : Nat) (w : World) :
    Calls Try.prog 4 #[.slice A n c] w fun e w' => e = .returned (.bool (decide (65536 < (n : Int)))) ∧ w = w' := by
  go_enter Try.func4, Try.ntmps4
  go_wp2_with fail
  go_ret
  exact ⟨rfl, rfl⟩
set_option maxRecDepth 100000 in
set_option maxHeartbeats 1000000 in
/-- Two slices that read as the same list. -/
theorem vInts_same (A B : Option Addr) (xs : List Int) (n c d : Nat) (w : World) (hA : IntsAt w A xs) (hB : IntsAt w B xs) (hn : xs.length = n) :
    Calls Try.prog 15 #[.slice A n c, .slice B n d] w fun e w' => e = .returned (.bool true) ∧ Kp w w' := by
  have Hn := Lib.hid hn
  have hn63 : n ≤ 9223372036854775807 := hn ▸ hA.1
  clear hn
  have e0 : ((n : Int) != (n : Int)) = false := by simp
  go_enter Try.func15, Try.ntmps15
  go_wp2_with fail
  go_loopw [5] (fun iv wr => ∃ i : Nat, iv = .int .i64 i ∧ i ≤ n ∧ Kp w wr) (fun iv _ => n - (intOf iv).toNat)
  case atStart => exact ⟨0, rfl, by omega, Kp.refl _⟩
  case round =>
    obtain ⟨i, rfl, hi, hkr⟩ := hrel
    by_cases hlt : i < n
    · have lx : i < xs.length := by rw [Hn.out]; exact hlt
      obtain ⟨a, rfl, h1⟩ := (hA.kp hkr).at_ lx
      obtain ⟨b, rfl, h2⟩ := (hB.kp hkr).at_ lx
      obtain ⟨z, hz⟩ : ∃ z, xs[i] = z := ⟨_, rfl⟩
      rw [hz] at h1 h2
      have e1 : (z != z) = false := by simp
      have hkd : Kp w wr.drew := hkr.trans (Kp.refl wr).drew
      have iI : (i : Int) < (n : Int) := by omega
      go_wp2_with fail
      go_still (by kernel_rfl)
      change Exit.then _ _ _ _ wr.drew
      generalize wr.drew = wd at *
      go_wp2_with fail
      go_roundw
      case rel => exact ⟨i + 1, by go_num, by omega, hkd⟩
      case measure => simp [intOf]; omega
    · obtain rfl : i = n := by omega
      go_wp2_with fail
      go_ret
      exact ⟨rfl, hkr⟩
theorem OwnB.cap {w : World} {base n c : Nat} {v : Value} {A : Option Addr} {xs : List Int} (h : OwnB w base v xs) (e : v = .slice A n c) : xs.length ≤ c := by
  rcases h.1.2 with ⟨rfl, h0⟩ | ⟨g, cap, cur, rfl, _, _, h4, _⟩
  · omega
  · cases e; exact h4
set_option maxRecDepth 100000 in
set_option maxHeartbeats 1000000 in
/-- A part of the bytes and one more. -/
theorem vCut_any (A : Option Addr) (n c k : Nat) (w : World) (hA : BytesAt w A n) (hn : n ≤ 65536) (hc : n ≤ c) (hk : k ≤ n) :
    Calls Try.prog 11 #[.slice A n c, .int .i64 k] w fun e w' => ∃ A' n' c', e = .returned (.slice A' n' c') ∧ (BytesAt w' A' n' ∧ n' ≤ c' ∧ n' ≤ 65537) ∧ Kp w w' := by
  have hd : decide ((n : Int) < (k : Int)) = false := decide_eq_false (by omega)
  have hkI : (k : Int) ≤ (n : Int) := by omega
  have hk0 : (0 : Int) ≤ (k : Int) := by omega
  have ho := ownB_new0 w w.heap.size (Nat.le_refl _)
  have hka : Kp w (w.alloc (.cells #[] 5)) := (Kp.refl w).alloc _
  have hbs : w.heap.size ≤ (w.alloc (.cells #[] 5)).heap.size := hka.le
  rcases A with _ | ad
  · obtain rfl : n = 0 := by
      rcases Nat.eq_zero_or_pos n with h | h
      · exact h
      · obtain ⟨a, b, e, _⟩ := hA.2 0 h
        cases e
    obtain rfl : k = 0 := by omega
    obtain ⟨ys, hm, hb, hy⟩ := (hA.kp hka).list
    have hlen : ([] : List Int).length + ys.length ≤ 4194304 := by simp; omega
    have hlen1 : (([] : List Int) ++ ys).length < 1048576 := by simp; omega
    go_enter Try.func11, Try.ntmps11
    go_wp2_with (first | (at_builtin; refine wpl_appB rfl (.tmp 11) (.tmp 14) rfl w.heap.size _ [] ys (none) (0) (c) rfl rfl ho hm hb hy hbs hlen ?_; intro v1 w1 ho1 ht1 h41; have kk := hka.turn ht1 (fun i e => (ho.lt i e).1); have hbs1 := kk.le) | (at_builtin; refine wpl_appB1 rfl (.tmp 15) (.tmp 18) rfl w.heap.size _ ([] ++ ys) _ rfl rfl ho1 (show (0 : Int) ≤ 0 ∧ (0 : Int) < 256 from by omega) hbs1 hlen1 ?_; intro v2 w2 ho2 ht2; have k2 := kk.turn ht2 (fun i e => (ho1.lt i e).1); obtain ⟨A2, c2, hv2, hb2⟩ := ho2.bytes (by simp; omega); have hcl := ho2.cap hv2; subst hv2) | fail)
    go_ret
    exact ⟨_, _, _, rfl, ⟨by simpa [hm] using hb2, by simpa [hm] using hcl, by omega⟩, k2⟩
  · by_cases hck : c = k
    · obtain rfl : n = k := by omega
      subst hck
      obtain ⟨ys, hm, hb, hy⟩ : ∃ ys : List Int, ys.length = 0 ∧ (∀ y ∈ ys, 0 ≤ y ∧ y < 256) ∧ ∀ k (hk : k < ys.length), ∃ a, some ad = some a ∧ (w.alloc (.cells #[] 5)).cell? (a.add k) = some (.int .u8 ys[k]) := ⟨[], rfl, by simp, fun k hk => by simp at hk⟩
      have hlen : ([] : List Int).length + ys.length ≤ 4194304 := by simp; omega
      have hlen1 : (([] : List Int) ++ ys).length < 1048576 := by simp; omega
      go_enter Try.func11, Try.ntmps11
      go_wp2_with (first | (at_builtin; refine wpl_appB rfl (.tmp 11) (.tmp 14) rfl w.heap.size _ [] ys (some ad) (0) (0) rfl rfl ho hm hb hy hbs hlen ?_; intro v1 w1 ho1 ht1 h41; have kk := hka.turn ht1 (fun i e => (ho.lt i e).1); have hbs1 := kk.le) | (at_builtin; refine wpl_appB1 rfl (.tmp 15) (.tmp 18) rfl w.heap.size _ ([] ++ ys) _ rfl rfl ho1 (wrap_u8_bd _) hbs1 hlen1 ?_; intro v2 w2 ho2 ht2; have k2 := kk.turn ht2 (fun i e => (ho1.lt i e).1); obtain ⟨A2, c2, hv2, hb2⟩ := ho2.bytes (by simp; omega); have hcl := ho2.cap hv2; subst hv2) | fail)
      go_ret
      exact ⟨_, _, _, rfl, ⟨by simpa [hm] using hb2, by simpa [hm] using hcl, by omega⟩, k2⟩
    · have hck2 : ((c : Int) == (k : Int)) = false := by simp; omega
      obtain ⟨ys, hm, hb, hy⟩ := ((hA.kp hka).cut hk).list
      have hlen : ([] : List Int).length + ys.length ≤ 4194304 := by simp; omega
      have hlen1 : (([] : List Int) ++ ys).length < 1048576 := by simp; omega
      go_enter Try.func11, Try.ntmps11
      go_wp2_with (first | (at_builtin; refine wpl_appB rfl (.tmp 11) (.tmp 14) rfl w.heap.size _ [] ys (some (ad.add k)) (n - k) (c - k) rfl rfl ho hm hb hy hbs hlen ?_; intro v1 w1 ho1 ht1 h41; have kk := hka.turn ht1 (fun i e => (ho.lt i e).1); have hbs1 := kk.le) | (at_builtin; refine wpl_appB1 rfl (.tmp 15) (.tmp 18) rfl w.heap.size _ ([] ++ ys) _ rfl rfl ho1 (wrap_u8_bd _) hbs1 hlen1 ?_; intro v2 w2 ho2 ht2; have k2 := kk.turn ht2 (fun i e => (ho1.lt i e).1); obtain ⟨A2, c2, hv2, hb2⟩ := ho2.bytes (by simp; omega); have hcl := ho2.cap hv2; subst hv2) | fail)
      go_ret
      exact ⟨_, _, _, rfl, ⟨by simpa [hm] using hb2, by simpa [hm] using hcl, by omega⟩, k2⟩
set_option maxRecDepth 100000 in
set_option maxHeartbeats 1000000 in
theorem vCut_over (A : Option Addr) (n c k : Nat) (w : World) (hA : BytesAt w A n) (hn : n ≤ 65536) (hc : n ≤ c) (hk : n < k) :
    Calls Try.prog 11 #[.slice A n c, .int .i64 k] w fun e w' => ∃ A' n' c', e = .returned (.slice A' n' c') ∧ (BytesAt w' A' n' ∧ n' ≤ c' ∧ n' ≤ 65537) ∧ Kp w w' := by
  have hd : decide ((n : Int) < (k : Int)) = true := decide_eq_true (by omega)
  have ho := ownB_new0 w w.heap.size (Nat.le_refl _)
  have hka : Kp w (w.alloc (.cells #[] 5)) := (Kp.refl w).alloc _
  have hbs : w.heap.size ≤ (w.alloc (.cells #[] 5)).heap.size := hka.le
  rcases A with _ | ad
  · obtain rfl : n = 0 := by
      rcases Nat.eq_zero_or_pos n with h | h
      · exact h
      · obtain ⟨a, b, e, _⟩ := hA.2 0 h
        cases e
    obtain ⟨ys, hm, hb, hy⟩ := (hA.kp hka).list
    have hlen : ([] : List Int).length + ys.length ≤ 4194304 := by simp; omega
    have hlen1 : (([] : List Int) ++ ys).length < 1048576 := by simp; omega
    go_enter Try.func11, Try.ntmps11
    go_wp2_with (first | (at_builtin; refine wpl_appB rfl (.tmp 11) (.tmp 14) rfl w.heap.size _ [] ys (none) (0) (c) rfl rfl ho hm hb hy hbs hlen ?_; intro v1 w1 ho1 ht1 h41; have kk := hka.turn ht1 (fun i e => (ho.lt i e).1); have hbs1 := kk.le) | (at_builtin; refine wpl_appB1 rfl (.tmp 15) (.tmp 18) rfl w.heap.size _ ([] ++ ys) _ rfl rfl ho1 (show (0 : Int) ≤ 0 ∧ (0 : Int) < 256 from by omega) hbs1 hlen1 ?_; intro v2 w2 ho2 ht2; have k2 := kk.turn ht2 (fun i e => (ho1.lt i e).1); obtain ⟨A2, c2, hv2, hb2⟩ := ho2.bytes (by simp; omega); have hcl := ho2.cap hv2; subst hv2) | fail)
    go_ret
    exact ⟨_, _, _, rfl, ⟨by simpa [hm] using hb2, by simpa [hm] using hcl, by omega⟩, k2⟩
  · have hkI : (n : Int) ≤ (n : Int) := by omega
    have hk0 : (0 : Int) ≤ (n : Int) := by omega
    have hkc : (n : Int) ≤ (c : Int) := by omega
    obtain ⟨ys, hm, hb, hy⟩ : ∃ ys : List Int, ys.length = 0 ∧ (∀ y ∈ ys, 0 ≤ y ∧ y < 256) ∧ ∀ (B : Option Addr), ∀ k (hk : k < ys.length), ∃ a, B = some a ∧ (w.alloc (.cells #[] 5)).cell? (a.add k) = some (.int .u8 ys[k]) := ⟨[], rfl, by simp, fun B k hk => by simp at hk⟩
    have hlen : ([] : List Int).length + ys.length ≤ 4194304 := by simp; omega
    have hlen1 : (([] : List Int) ++ ys).length < 1048576 := by simp; omega
    by_cases hck : c = n
    · subst hck
      replace hy := hy (some ad)
      go_enter Try.func11, Try.ntmps11
      go_wp2_with (first | (at_builtin; refine wpl_appB rfl (.tmp 11) (.tmp 14) rfl w.heap.size _ [] ys (some ad) (0) (0) rfl rfl ho hm hb hy hbs hlen ?_; intro v1 w1 ho1 ht1 h41; have kk := hka.turn ht1 (fun i e => (ho.lt i e).1); have hbs1 := kk.le) | (at_builtin; refine wpl_appB1 rfl (.tmp 15) (.tmp 18) rfl w.heap.size _ ([] ++ ys) _ rfl rfl ho1 (wrap_u8_bd _) hbs1 hlen1 ?_; intro v2 w2 ho2 ht2; have k2 := kk.turn ht2 (fun i e => (ho1.lt i e).1); obtain ⟨A2, c2, hv2, hb2⟩ := ho2.bytes (by simp; omega); have hcl := ho2.cap hv2; subst hv2) | fail)
      go_ret
      exact ⟨_, _, _, rfl, ⟨by simpa [hm] using hb2, by simpa [hm] using hcl, by omega⟩, k2⟩
    · have hck2 : ((c : Int) == (n : Int)) = false := by simp; omega
      replace hy := hy (some (ad.add n))
      go_enter Try.func11, Try.ntmps11
      go_wp2_with (first | (at_builtin; refine wpl_appB rfl (.tmp 11) (.tmp 14) rfl w.heap.size _ [] ys (some (ad.add n)) (0) (c - n) rfl rfl ho hm hb hy hbs hlen ?_; intro v1 w1 ho1 ht1 h41; have kk := hka.turn ht1 (fun i e => (ho.lt i e).1); have hbs1 := kk.le) | (at_builtin; refine wpl_appB1 rfl (.tmp 15) (.tmp 18) rfl w.heap.size _ ([] ++ ys) _ rfl rfl ho1 (wrap_u8_bd _) hbs1 hlen1 ?_; intro v2 w2 ho2 ht2; have k2 := kk.turn ht2 (fun i e => (ho1.lt i e).1); obtain ⟨A2, c2, hv2, hb2⟩ := ho2.bytes (by simp; omega); have hcl := ho2.cap hv2; subst hv2) | fail)
      go_ret
      exact ⟨_, _, _, rfl, ⟨by simpa [hm] using hb2, by simpa [hm] using hcl, by omega⟩, k2⟩
/-- A part of the bytes and one more, for any k. -/
theorem vCut_all (A : Option Addr) (n c k : Nat) (w : World) (hA : BytesAt w A n) (hn : n ≤ 65536) (hc : n ≤ c) :
    Calls Try.prog 11 #[.slice A n c, .int .i64 k] w fun e w' => ∃ A' n' c', e = .returned (.slice A' n' c') ∧ (BytesAt w' A' n' ∧ n' ≤ c' ∧ n' ≤ 65537) ∧ Kp w w' := by
  by_cases hk : k ≤ n
  · exact vCut_any A n c k w hA hn hc hk
  · exact vCut_over A n c k w hA hn hc (by omega)
end Go.Proofs.Ytgdicmeabppngaa

namespace Go.Proofs.Ytgdicmeabppngaa
open Go.RowKit Go.Sort

/-- The greatest number of a list, 0 at least. -/
def mostT (xs : List Int) (k : Nat) : Int := (xs.take k).foldl (fun m x => if m < x then x else m) 0
theorem mostT_succ {xs : List Int} {k : Nat} (h : k < xs.length) : mostT xs (k + 1) = if mostT xs k < xs[k] then xs[k] else mostT xs k := by
  unfold mostT
  rw [List.take_succ_eq_append_getElem h, List.foldl_append]; rfl
theorem mostT_ge {xs : List Int} : ∀ k, k ≤ xs.length → 0 ≤ mostT xs k ∧ ∀ j (_ : j < k) (hl : j < xs.length), xs[j] ≤ mostT xs k
  | 0, _ => ⟨Int.le_refl _, fun j hj => by omega⟩
  | k + 1, hk => by
    obtain ⟨h1, h2⟩ := mostT_ge (xs := xs) k (by omega)
    rw [mostT_succ (by omega)]
    refine ⟨by split <;> omega, fun j hj hl => ?_⟩
    by_cases e : j = k
    · subst e; split <;> omega
    · have := h2 j (by omega) hl
      split <;> omega
set_option maxRecDepth 100000 in
set_option maxHeartbeats 1000000 in
theorem vMost_any (A : Option Addr) (xs : List Int) (n c : Nat) (w : World) (hA : IntsAt w A xs) (hn : xs.length = n) :
    Calls Try.prog 17 #[.slice A n c] w fun e w' => e = .returned (.int .i64 (mostT xs n)) ∧ w = w' := by
  have Hn := Lib.hid hn
  have hn63 : n ≤ 9223372036854775807 := hn ▸ hA.1
  clear hn
  go_enter Try.func17, Try.ntmps17
  go_wp2_with fail
  go_loopw [3, 4] (fun sv iv wr => ∃ i : Nat, sv = .int .i64 (mostT xs i) ∧ iv = .int .i64 i ∧ i ≤ n ∧ w = wr) (fun _ iv _ => n - (intOf iv).toNat)
  case atStart => exact ⟨0, rfl, rfl, by omega, rfl⟩
  case round =>
    obtain ⟨i, rfl, rfl, hi, rfl⟩ := hrel
    by_cases hlt : i < n
    · have lx : i < xs.length := by rw [Hn.out]; exact hlt
      obtain ⟨ad, rfl, hc⟩ := hA.at_ lx
      have hm := Lib.hid (mostT_succ lx)
      obtain ⟨z, hz⟩ : ∃ z, xs[i] = z := ⟨_, rfl⟩
      obtain ⟨y, hy⟩ : ∃ y, mostT xs i = y := ⟨_, rfl⟩
      rw [hz] at hc hm
      rw [hy] at hm ⊢
      have iI : (i : Int) < (n : Int) := by omega
      by_cases hgt : y < z
      · have p1 : decide (y < z) = true := decide_eq_true hgt
        go_wp2_with fail
        go_roundw
        case rel => exact ⟨i + 1, by rw [hm.out, if_pos hgt], by go_num, by omega, (by first | trivial | rfl)⟩
        case measure => simp [intOf]; omega
      · have p1 : decide (y < z) = false := decide_eq_false hgt
        go_wp2_with fail
        go_roundw
        case rel => exact ⟨i + 1, by rw [hm.out, if_neg hgt], by go_num, by omega, (by first | trivial | rfl)⟩
        case measure => simp [intOf]; omega
    · obtain rfl : i = n := by omega
      go_wp2_with fail
      go_ret
      exact ⟨rfl, rfl⟩
theorem wpl_app_allW {ops : Array Oper} {rest : List Oper} {o : Oper} {a : Act} {Q : Exit → Act → World → Prop} {W : World} (hgd : o.guard = none) (s x : Operand)
    (ho : o.op = .call { callee := .builtin .append, args := #[s, x], argTypes := #[24, 24] }) (base : Nat) (v : Value) (xs ys : List Int) (A : Option Addr) (m c : Nat)
    (hs : a.eval s = v) (hx : a.eval x = .slice A m c) (hown : Own W base v xs) (hy : IntsAt W A ys) (hym : ys.length = m) (hbase : base ≤ W.heap.size) (hlen : xs.length + ys.length ≤ 4194304)
    (h : ∀ v' w', Own w' base v' (xs ++ ys) → Turn (fun i => v.ownBlock = some i) W w' → (v'.ownBlock = v.ownBlock ∨ ∀ g, v'.ownBlock = some g → W.heap.size ≤ g) → wpList Try.prog ops Q rest (a.put o.dst v') w') :
    wpList Try.prog ops Q (o :: rest) a W := by
  obtain ⟨v', w', hrun, h2, h3, h4⟩ := run_app_all (W := W) o.type base v xs ys A m c hown hy hym hbase hlen
  exact Lib.wpList_append_run _ hgd s x _ _ ho _ _ hs hx v' w' hrun (h v' w' h2 (Turn.of_grown h3) h4)
set_option maxRecDepth 100000 in
set_option maxHeartbeats 1000000 in
theorem vOwn_any (A : Option Addr) (xs : List Int) (n c : Nat) (w : World) (hA : IntsAt w A xs) (hn : xs.length = n) (hl : n ≤ 1048576) :
    Calls Try.prog 20 #[.slice A n c] w fun e w' => ∃ v, e = .returned v ∧ Own w' w.heap.size v xs ∧ Kp w w' := by
  have ho := own_new0 w w.heap.size (Nat.le_refl _)
  have hka : Kp w (w.alloc (.cells #[] 3)) := (Kp.refl w).alloc _
  have hb : w.heap.size ≤ (w.alloc (.cells #[] 3)).heap.size := hka.le
  have hA2 := hA.kp hka
  have hlen : ([] : List Int).length + xs.length ≤ 4194304 := by simp; omega
  have Hn := Lib.hid hn
  clear hn
  go_enter Try.func20, Try.ntmps20
  go_wp2_with (first | (at_builtin; go_loud (refine wpl_app_allW rfl (.tmp 3) (.tmp 4) rfl w.heap.size _ [] xs A n c rfl rfl ho hA2 Hn.out hb hlen ?_); intro v1 w1 ho1 ht1 h41; have hk1 := ho.kp_turn hka (Nat.le_refl _) ht1) | fail)
  go_ret
  exact ⟨_, rfl, by simpa using ho1, hk1⟩
set_option maxRecDepth 100000 in
set_option maxHeartbeats 1000000 in
/-- Two tables that read as the same rows. -/
theorem vTable_same (A B : Option Addr) (L : List (List Int)) (n c d : Nat) (w : World) (hA : GridAt w A L) (hB : GridAt w B L) (hn : L.length = n) :
    Calls Try.prog 14 #[.slice A n c, .slice B n d] w fun e w' => e = .returned (.bool true) ∧ Kp w w' := by
  have Hn := Lib.hid hn
  have hn63 : n ≤ 9223372036854775807 := hn ▸ hA.1
  clear hn
  have e0 : ((n : Int) != (n : Int)) = false := by simp
  go_enter Try.func14, Try.ntmps14
  go_wp2_with fail
  go_loopw [5] (fun iv wr => ∃ i : Nat, iv = .int .i64 i ∧ i ≤ n ∧ Kp w wr) (fun iv _ => n - (intOf iv).toNat)
  case atStart => exact ⟨0, rfl, by omega, Kp.refl _⟩
  case round =>
    obtain ⟨i, rfl, hi, hkr⟩ := hrel
    by_cases hlt : i < n
    · have lx : i < L.length := by rw [Hn.out]; exact hlt
      obtain ⟨bd, Ai, ci, rfl, hcA, hiA⟩ := (hA.kp hkr).at_ lx
      obtain ⟨be, Bi, di, rfl, hcB, hiB⟩ := (hB.kp hkr).at_ lx
      obtain ⟨row, hrow⟩ : ∃ row, L[i] = row := ⟨_, rfl⟩
      rw [hrow] at hcA hiA hcB hiB
      obtain ⟨l, hl⟩ : ∃ l, row.length = l := ⟨_, rfl⟩
      rw [hl] at hcA hcB
      have HL := Lib.hid hl
      clear hl hrow
      have iI : (i : Int) < (n : Int) := by omega
      have KT : Kp wr wr := Kp.refl _
      have q_hcA := KT.get hcA
      have q_hcB := KT.get hcB
      have tok1 : True := trivial
      go_wp2_with fail
      go_region_held3 (fun w' => w'.cell? (bd.add i) = some (.slice Ai l ci) ∧ w'.cell? (be.add i) = some (.slice Bi l di) ∧ Kp wr w')
        (first | (refine keepc2 hcA hcB ?_; exact (by repeat (first | with_reducible assumption | with_reducible exact Kp.refl _ | with_reducible refine Kp.drew ?_ | with_reducible refine Kp.alloc ?_ _ | with_reducible refine Kp.drewN ?_ _ | refine Kp.setCell ?_ (by dsimp only; omega) _))) | fail)
        (first
          | (have _t := tok1; go_at_call 15; with_reducible refine Calls.mono (vInts_same Ai Bi row l ci di _ (hiA.kp (by repeat (first | with_reducible assumption | with_reducible exact Kp.refl _ | with_reducible refine Kp.drew ?_ | with_reducible refine Kp.alloc ?_ _ | with_reducible refine Kp.drewN ?_ _ | refine Kp.setCell ?_ (by dsimp only; omega) _))) (hiB.kp (by repeat (first | with_reducible assumption | with_reducible exact Kp.refl _ | with_reducible refine Kp.drew ?_ | with_reducible refine Kp.alloc ?_ _ | with_reducible refine Kp.drewN ?_ _ | refine Kp.setCell ?_ (by dsimp only; omega) _))) HL.out) ?_; rintro e wr1 ⟨rfl, hka⟩; have hr1 : Kp wr wr1 := Kp.trans (by repeat (first | with_reducible assumption | with_reducible exact Kp.refl _ | with_reducible refine Kp.drew ?_ | with_reducible refine Kp.alloc ?_ _ | with_reducible refine Kp.drewN ?_ _ | refine Kp.setCell ?_ (by dsimp only; omega) _)) hka; have tok2 : True := trivial; clear tok1 _t)
          | fail)
      go_wp2_with fail
      go_roundw
      case rel => exact ⟨i + 1, by go_num, by omega, hkr.trans hr1⟩
      case measure => simp [intOf]; omega
    · obtain rfl : i = n := by omega
      go_wp2_with fail
      go_ret
      exact ⟨rfl, hkr⟩
end Go.Proofs.Ytgdicmeabppngaa

namespace Go.Proofs.Ytgdicmeabppngaa
open Go.RowKit Go.Sort

/-- A flow with prices, as the reference finds one. -/
theorem opt_ex (f : Value) (F : Fld) (A1 : Option Addr) (rooms : List Int) (n1 c1 : Nat) (A2 : Option Addr) (needs : List Int) (n2 c2 : Nat) (A3 : Option Addr) (S : List Int) (n3 c3 : Nat) (w : World) (hf : FldAt w f F) (h1 : IntsAt w A1 rooms) (hn1 : rooms.length = n1) (h2 : IntsAt w A2 needs) (hn2 : needs.length = n2) (h3 : IntsAt w A3 S) (hn3 : S.length = n3) (hok : lfOk F rooms needs S = true) : ∃ fl, OptN F rooms needs S fl := by
  have h0 := hok
  unfold lfOk at h0
  rw [Bool.and_eq_true, decide_eq_true_eq] at h0
  have hP := haul_p h0.1
  obtain ⟨e, w', fr, ⟨L, nl, lf, fl, _, _, hNN, hor, _⟩, _⟩ := l7Any_any f F A1 rooms n1 c1 A2 needs n2 c2 A3 S n3 c3 w hf h1 hn1 h2 hn2 h3 hn3 hP []
  rcases hor with hz | ⟨_, hno⟩
  · exact ⟨fl, opt_spec hP.good hNN.net (fun j hj => by have := hNN.row j hj; have := hz j hj; omega)⟩
  · obtain ⟨x, hx⟩ := any_full hP h0.2
    exact absurd hx (hno x)
/-- What is said of whole flows. -/
structure WhP (wf lk : Bool) (wc lv mo : Int) : Prop where
  a : wf = true → lk = true ∧ lv ≤ wc ∧ (mo ≤ 1 → wc = lv)
theorem wh_parts (F : Fld) (R N S : List Int) {n : Nat} (hn : N.length = n) : WhP (whF F R N S) (lfOk F R N S) (whC F R N S) (lfV F R N S) (mostT N n) := by
  refine ⟨fun h => ?_⟩
  obtain ⟨h1, h2⟩ := whole_ge h
  refine ⟨h1, h2, fun hm => ?_⟩
  have h3 := whole_le h1 (fun j => by
    by_cases hj : j < N.length
    · rw [lget_at hj]
      have := (mostT_ge (xs := N) n (by omega)).2 j (by omega) hj
      omega
    · unfold lget; rw [List.getD_eq_getElem?_getD, List.getElem?_eq_none (by omega)]; simp)
  omega
end Go.Proofs.Ytgdicmeabppngaa
