/- The lazy choice: plain words; LazyGain: the reference's walk; The dual ascent of the reference: what it keeps, and that it ends; The dual ascent of the reference: the next step of a price; The dual ascent of the reference: it ends with fair prices; A table of numbers of the call's own, read and written. No condition. -/
import Derived.Test.YtffpdebjjcbenaaGreatQAi
import Derived.Test.YtffpdebjjcbenaaGreatQAe
import Derived.Test.YtffpdebjjcbenaaGreatQAh
import Derived.Deep.DeepCutAuto
import Derived.StillTailTactics
namespace Go.Proofs.YtffpdebjjcbenaaGreat
open Go.RowKit Go.Sort

/-- Of the first sites that are not in a set, the first one with the greatest number told. -/
def lzTo (S told : List Int) : Nat → Int
  | 0 => -1
  | a + 1 => if !(S.any fun x => x == (a : Int)) && (decide (lzTo S told a < 0) || decide (lget told (lzTo S told a).toNat < lget told a)) then (a : Int) else lzTo S told a
theorem lz_in {S told : List Int} {a : Nat} (h : (S.any fun x => x == (a : Int)) = true) : lzTo S told (a + 1) = lzTo S told a := by
  show (if _ then _ else _) = _
  rw [if_neg (by simp [h])]
theorem lz_first {S told : List Int} {a : Nat} (h : (S.any fun x => x == (a : Int)) = false) (h1 : lzTo S told a < 0) : lzTo S told (a + 1) = (a : Int) := by
  show (if _ then _ else _) = _
  rw [if_pos (by simp [h, h1])]
theorem lz_more {S told : List Int} {a : Nat} (h : (S.any fun x => x == (a : Int)) = false) (h1 : lget told (lzTo S told a).toNat < lget told a) : lzTo S told (a + 1) = (a : Int) := by
  show (if _ then _ else _) = _
  rw [if_pos (by simp only [h, Bool.not_false, Bool.true_and, Bool.or_eq_true, decide_eq_true_eq]; exact .inr h1)]
theorem lz_less {S told : List Int} {a : Nat} (h0 : ¬ lzTo S told a < 0) (h1 : ¬ lget told (lzTo S told a).toNat < lget told a) : lzTo S told (a + 1) = lzTo S told a := by
  show (if _ then _ else _) = _
  rw [if_neg (by simp only [Bool.and_eq_true, Bool.or_eq_true, decide_eq_true_eq]; rintro ⟨_, h | h⟩; exact h0 h; exact h1 h)]
theorem lz_bd (S told : List Int) : ∀ a : Nat, -1 ≤ lzTo S told a ∧ lzTo S told a < a
  | 0 => by simp [lzTo]
  | a + 1 => by
    have ih := lz_bd S told a
    show _ ≤ (if _ then _ else _) ∧ (if _ then _ else _) < _
    split <;> omega
theorem lz_new (S told : List Int) : ∀ a : Nat, ¬ lzTo S told a < 0 → lzTo S told a ∉ S
  | 0, h => by simp [lzTo] at h
  | a + 1, h => by
    by_cases hc : (!(S.any fun x => x == (a : Int)) && (decide (lzTo S told a < 0) || decide (lget told (lzTo S told a).toNat < lget told a))) = true
    · have e : lzTo S told (a + 1) = (a : Int) := if_pos hc
      rw [e]
      simp only [Bool.and_eq_true, Bool.not_eq_true', List.any_eq_false] at hc
      intro hm
      have := hc.1 _ hm
      simp at this
    · have e : lzTo S told (a + 1) = lzTo S told a := if_neg hc
      rw [e] at h ⊢
      exact lz_new S told a h

/-- The lazy loop, with a bound on its rounds. -/
def lzRun (F : Fld) (worth : Int) (K : Nat) : Nat → List Int → List Int → List Int → List Int → Int → List Int × Int
  | 0, out, _, _, _, many => (out, many)
  | f + 1, out, S, told, att, many =>
    if K ≤ out.length then (out, many) else
    if lzTo S told F.op.length < 0 ∨ lget told (lzTo S told F.op.length).toNat = 0 then (out, many) else
    if lget att (lzTo S told F.op.length).toNat = (out.length : Int) then lzRun F worth K f (out ++ [lzTo S told F.op.length]) (putL S (lzTo S told F.op.length)) told att many
    else lzRun F worth K f out S (told.set (lzTo S told F.op.length).toNat (moreF F worth S (lzTo S told F.op.length))) (att.set (lzTo S told F.op.length).toNat out.length) (many + 1)
theorem lzRun_done {F : Fld} {worth : Int} {K f : Nat} {out S told att : List Int} {many : Int} (h : K ≤ out.length) : lzRun F worth K f out S told att many = (out, many) := by
  cases f with
  | zero => rfl
  | succ f => exact if_pos h
theorem lzRun_stop {F : Fld} {worth : Int} {K f : Nat} {out S told att : List Int} {many : Int} (h : lzTo S told F.op.length < 0 ∨ lget told (lzTo S told F.op.length).toNat = 0) : lzRun F worth K f out S told att many = (out, many) := by
  cases f with
  | zero => rfl
  | succ f =>
    show (if _ then _ else if _ then _ else _) = _
    by_cases hk : K ≤ out.length
    · rw [if_pos hk]
    · rw [if_neg hk, if_pos h]
theorem lzRun_out {F : Fld} {worth : Int} {K f : Nat} {out S told att : List Int} {many : Int} (hk : ¬ K ≤ out.length) (h : ¬ (lzTo S told F.op.length < 0 ∨ lget told (lzTo S told F.op.length).toNat = 0)) (h2 : lget att (lzTo S told F.op.length).toNat = (out.length : Int)) :
    lzRun F worth K (f + 1) out S told att many = lzRun F worth K f (out ++ [lzTo S told F.op.length]) (putL S (lzTo S told F.op.length)) told att many := by
  show (if _ then _ else if _ then _ else if _ then _ else _) = _
  rw [if_neg hk, if_neg h, if_pos h2]
theorem lzRun_set {F : Fld} {worth : Int} {K f : Nat} {out S told att : List Int} {many : Int} (hk : ¬ K ≤ out.length) (h : ¬ (lzTo S told F.op.length < 0 ∨ lget told (lzTo S told F.op.length).toNat = 0)) (h2 : ¬ lget att (lzTo S told F.op.length).toNat = (out.length : Int)) :
    lzRun F worth K (f + 1) out S told att many = lzRun F worth K f out S (told.set (lzTo S told F.op.length).toNat (moreF F worth S (lzTo S told F.op.length))) (att.set (lzTo S told F.op.length).toNat out.length) (many + 1) := by
  show (if _ then _ else if _ then _ else if _ then _ else _) = _
  rw [if_neg hk, if_neg h, if_neg h2]
theorem lzRun_len {F : Fld} {worth : Int} {K : Nat} : ∀ (f : Nat) (out S told att : List Int) (many : Int), out.length ≤ K → (lzRun F worth K f out S told att many).1.length ≤ K
  | 0, _, _, _, _, _, h => h
  | f + 1, out, S, told, att, many, h => by
    by_cases hk : K ≤ out.length
    · rw [lzRun_done hk]; exact h
    by_cases h1 : lzTo S told F.op.length < 0 ∨ lget told (lzTo S told F.op.length).toNat = 0
    · rw [lzRun_stop h1]; exact h
    by_cases h2 : lget att (lzTo S told F.op.length).toNat = (out.length : Int)
    · rw [lzRun_out hk h1 h2]; exact lzRun_len f _ _ _ _ _ (by simp; omega)
    · rw [lzRun_set hk h1 h2]; exact lzRun_len f _ _ _ _ _ h
/-- What bounds the rounds. -/
def lzMu (n K : Nat) (out att : List Int) : Nat := (K - out.length) * (n + 1) + att.countP (fun x => x != (out.length : Int))
theorem lzMu_out {n K : Nat} {out att : List Int} {x : Int} (hk : ¬ K ≤ out.length) (ha : att.length = n) : lzMu n K (out ++ [x]) att < lzMu n K out att := by
  unfold lzMu
  have h1 : att.countP (fun y => y != ((out ++ [x]).length : Int)) ≤ n := by rw [← ha]; exact List.countP_le_length
  have e : K - out.length = (K - (out ++ [x]).length) + 1 := by simp; omega
  rw [e, Nat.add_mul]
  omega
theorem count_set {p : Int → Bool} {v : Int} (hv : p v = false) : ∀ {xs : List Int} {k : Nat}, (hk : k < xs.length) → p xs[k] = true → (xs.set k v).countP p + 1 = xs.countP p
  | x :: xs, 0, _, h => by
    have h' : p x = true := h
    simp [List.countP_cons, hv, h']
  | x :: xs, k + 1, hk, h => by
    have ih := count_set (p := p) hv (xs := xs) (k := k) (by simpa using hk) (by simpa using h)
    simp only [List.set_cons_succ, List.countP_cons]
    omega
theorem lzMu_set {n K k : Nat} {out att : List Int} (hk : k < att.length) (h : ¬ lget att k = (out.length : Int)) : lzMu n K out (att.set k out.length) < lzMu n K out att := by
  unfold lzMu
  have := count_set (p := fun x => x != (out.length : Int)) (v := (out.length : Int)) (by simp) hk (by
    have e : lget att k = att[k] := lget_at hk
    rw [e] at h; simpa using h)
  omega
theorem lzMu_first (n K : Nat) : lzMu n K [] (List.replicate n 0) = K * (n + 1) := by
  have h : (List.replicate n (0 : Int)).countP (fun x => x != 0) = 0 := by
    rw [List.countP_eq_zero]
    intro x hx
    have := List.eq_of_mem_replicate hx
    subst this; simp
  show (K - 0) * (n + 1) + (List.replicate n (0 : Int)).countP (fun x => x != 0) = _
  rw [h]; rfl
/-- The state of the lazy loop: it leads to the result, and the rounds that are left are bounded. -/
def lzSt (F : Fld) (worth : Int) (K : Nat) (R : List Int × Int) (out S told att : List Int) (many : Int) : Prop :=
  ∃ f, lzMu F.op.length K out att ≤ f ∧ 0 ≤ many ∧ many + f ≤ 100 ∧ lzRun F worth K f out S told att many = R
theorem lzSt_done {F : Fld} {worth : Int} {K : Nat} {R : List Int × Int} {out S told att : List Int} {many : Int} (h : lzSt F worth K R out S told att many) (hk : K ≤ out.length) : R = (out, many) := by
  obtain ⟨f, _, _, _, e⟩ := h
  rw [← e, lzRun_done hk]
theorem lzSt_stop {F : Fld} {worth : Int} {K : Nat} {R : List Int × Int} {out S told att : List Int} {many : Int} (h : lzSt F worth K R out S told att many) (h1 : lzTo S told F.op.length < 0 ∨ lget told (lzTo S told F.op.length).toNat = 0) : R = (out, many) := by
  obtain ⟨f, _, _, _, e⟩ := h
  rw [← e, lzRun_stop h1]
theorem lzSt_out {F : Fld} {worth : Int} {K : Nat} {R : List Int × Int} {out S told att : List Int} {many : Int} (h : lzSt F worth K R out S told att many) (hk : ¬ K ≤ out.length) (ha : att.length = F.op.length) (h1 : ¬ (lzTo S told F.op.length < 0 ∨ lget told (lzTo S told F.op.length).toNat = 0)) (h2 : lget att (lzTo S told F.op.length).toNat = (out.length : Int)) :
    lzSt F worth K R (out ++ [lzTo S told F.op.length]) (putL S (lzTo S told F.op.length)) told att many := by
  obtain ⟨f, e1, e2, e3, e⟩ := h
  have hm := lzMu_out (x := lzTo S told F.op.length) hk ha
  obtain ⟨g, rfl⟩ : ∃ g, f = g + 1 := ⟨f - 1, by omega⟩
  rw [lzRun_out hk h1 h2] at e
  exact ⟨g, by omega, e2, by omega, e⟩
theorem lzSt_set {F : Fld} {worth : Int} {K : Nat} {R : List Int × Int} {out S told att : List Int} {many : Int} (h : lzSt F worth K R out S told att many) (hk : ¬ K ≤ out.length) (ha : att.length = F.op.length) (h1 : ¬ (lzTo S told F.op.length < 0 ∨ lget told (lzTo S told F.op.length).toNat = 0)) (h2 : ¬ lget att (lzTo S told F.op.length).toNat = (out.length : Int)) :
    lzSt F worth K R out S (told.set (lzTo S told F.op.length).toNat (moreF F worth S (lzTo S told F.op.length))) (att.set (lzTo S told F.op.length).toNat out.length) (many + 1) := by
  obtain ⟨f, e1, e2, e3, e⟩ := h
  have hb := lz_bd S told F.op.length
  have hm := lzMu_set (n := F.op.length) (K := K) (out := out) (att := att) (k := (lzTo S told F.op.length).toNat) (by omega) h2
  obtain ⟨g, rfl⟩ : ∃ g, f = g + 1 := ⟨f - 1, by omega⟩
  rw [lzRun_set hk h1 h2] at e
  exact ⟨g, by omega, by omega, by omega, e⟩
theorem lzSt_many {F : Fld} {worth : Int} {K : Nat} {R : List Int × Int} {out S told att : List Int} {many : Int} (h : lzSt F worth K R out S told att many) : 0 ≤ many ∧ many ≤ 100 := by
  obtain ⟨f, _, e2, e3, _⟩ := h
  omega
def lzTold (F : Fld) (worth : Int) : List Int := mapTo (fun a => moreF F worth [] (a : Int)) F.op.length
def lzAll (F : Fld) (worth : Int) (K : Nat) : List Int × Int := lzRun F worth K (K * (F.op.length + 1)) [] [] (lzTold F worth) (List.replicate F.op.length 0) F.op.length
theorem lzSt_first {F : Fld} {worth : Int} {K : Nat} (hn : F.op.length ≤ 7) (hK : K ≤ 7) : lzSt F worth K (lzAll F worth K) [] [] (lzTold F worth) (List.replicate F.op.length 0) F.op.length := by
  refine ⟨_, by rw [lzMu_first]; exact Nat.le_refl _, by omega, ?_, rfl⟩
  have : K * (F.op.length + 1) ≤ 7 * 8 := Nat.mul_le_mul hK (by omega)
  omega
end Go.Proofs.YtffpdebjjcbenaaGreat

namespace Go.Proofs.YtffpdebjjcbenaaGreat
open Go.RowKit Go.Sort

theorem Apart.symm {v u : Value} (h : Apart v u) : Apart u v := fun g hu hv => h g hv hu
theorem two_new (w : World) (base : Nat) (hb : base ≤ w.heap.size) :
    Own ((w.alloc (.cells #[] 3)).alloc (.cells #[] 3)).drew base (.slice (some ⟨w.heap.size, 0, none⟩) 0 0) [] ∧
    Own ((w.alloc (.cells #[] 3)).alloc (.cells #[] 3)).drew base (.slice (some ⟨w.heap.size + 1, 0, none⟩) 0 0) [] := by
  refine ⟨((own_new0 w base hb).kp ((Kp.refl _).alloc _)).drew, Own.drew ?_⟩
  have := own_new0 (w.alloc (.cells #[] 3)) base (by simp; omega)
  simpa using this
def lzOk (F : Fld) (worth k : Int) : Bool := grdOk F worth k
def lzL (F : Fld) (worth k : Int) : List Int := if grdOk F worth k = true then (lzAll F worth k.toNat).1 else []
def lzM (F : Fld) (worth k : Int) : Int := if grdOk F worth k = true then (lzAll F worth k.toNat).2 else 0
theorem lzL_len (F : Fld) (worth k : Int) : (lzL F worth k).length ≤ 1048576 := by
  unfold lzL
  by_cases h : grdOk F worth k = true
  · rw [if_pos h]
    have h1 := lzRun_len (F := F) (worth := worth) (K := k.toNat) (k.toNat * (F.op.length + 1)) [] [] (lzTold F worth) (List.replicate F.op.length 0) F.op.length (by simp)
    have h2 := (grdOk_parts h).2.2
    unfold lzAll; omega
  · rw [if_neg h]; simp
theorem lz_no {F : Fld} {worth k : Int} {w : World} {v : Value} {base : Nat} (h : grdOk F worth k = false) (ho : Own w base v []) : ∃ v', Ending.returned (.tuple #[v, .int .i64 0, .bool false]) = .returned (.tuple #[v', .int .i64 (lzM F worth k), .bool (lzOk F worth k)]) ∧ Own w base v' (lzL F worth k) := by
  refine ⟨v, ?_, ?_⟩
  · simp [lzM, lzOk, h]
  · simpa [lzL, h] using ho
theorem lz_yes {F : Fld} {worth k : Int} {K : Nat} {w : World} {v : Value} {base : Nat} {out : List Int} {many : Int} (h : grdOk F worth k = true) (hk : k.toNat = K) (hR : lzAll F worth K = (out, many)) (ho : Own w base v out) : ∃ v', Ending.returned (.tuple #[v, .int .i64 many, .bool true]) = .returned (.tuple #[v', .int .i64 (lzM F worth k), .bool (lzOk F worth k)]) ∧ Own w base v' (lzL F worth k) := by
  refine ⟨v, ?_, ?_⟩
  · simp [lzM, lzOk, h, hk, hR]
  · simpa [lzL, h, hk, hR] using ho
end Go.Proofs.YtffpdebjjcbenaaGreat

namespace Go.Proofs.YtffpdebjjcbenaaGreat
open Go.RowKit Go.Sort

def lowT (F : Fld) (j : Nat) : Nat → Int
  | 0 => dAt F j ((0 : Nat) : Int)
  | a + 1 => min (lowT F j a) (dAt F j (a : Int))
def lowF (F : Fld) (j : Nat) : Int := lowT F j F.op.length
theorem lowT_le {F : Fld} {j : Nat} : ∀ k, ∀ a, a < k → lowT F j k ≤ dAt F j (a : Int)
  | 0, a, h => by omega
  | k + 1, a, h => by
    have ih := lowT_le (F := F) (j := j) k
    show min _ _ ≤ _
    by_cases e : a = k
    · subst e; omega
    · have := ih a (by omega); omega
theorem lowT_is {F : Fld} {j : Nat} (hn : 0 < F.op.length) : ∀ k, k ≤ F.op.length → ∃ a, a < F.op.length ∧ lowT F j k = dAt F j (a : Int)
  | 0, _ => ⟨0, hn, rfl⟩
  | k + 1, hk => by
    obtain ⟨a, h1, h2⟩ := lowT_is (F := F) (j := j) hn k (by omega)
    show ∃ a, _ ∧ min _ _ = _
    by_cases e : lowT F j k ≤ dAt F j (k : Int)
    · exact ⟨a, h1, by omega⟩
    · exact ⟨k, by omega, by omega⟩
/-- By how much the price of client j may grow at site a. -/
def gapV (F : Fld) (P : List Int) (j a : Nat) : Int := if dAt F j (a : Int) ≤ lget P j then opAt F (a : Int) - bidF F P (a : Int) else dAt F j (a : Int) - lget P j
/-- Fair prices of at least the least lengths. -/
structure AscP (F : Fld) (P : List Int) : Prop where
  good : goodF F = true
  len : P.length = F.di.length
  lo : ∀ j, j < F.di.length → lowF F j ≤ lget P j
  hi : ∀ j, j < F.di.length → lget P j ≤ 198
  fair : ∀ a, a < F.op.length → bidF F P (a : Int) ≤ opAt F (a : Int)
theorem AscP.nn {F : Fld} {P : List Int} (h : AscP F P) {j : Nat} (hj : j < F.di.length) : 0 ≤ lget P j := by
  obtain ⟨a, _, e⟩ := lowT_is (F := F) (j := j) (goodF_iff.1 h.good).1.1 F.op.length (Nat.le_refl _)
  have h1 := dAt_bd h.good hj (a : Int)
  have h2 := h.lo j hj
  unfold lowF at h2
  omega
theorem AscP.priced {F : Fld} {P : List Int} (h : AscP F P) : pricedB F P = true := by
  refine pricedB_iff.2 ⟨h.good, h.len, fun x hx => ?_⟩
  obtain ⟨j, hj, rfl⟩ := List.getElem_of_mem hx
  have h1 := h.nn (show j < F.di.length by rw [← h.len]; exact hj)
  have h2 := h.hi j (by rw [← h.len]; exact hj)
  rw [lget_at hj] at h1 h2
  omega
theorem AscP.gap_nn {F : Fld} {P : List Int} (h : AscP F P) {j a : Nat} (ha : a < F.op.length) : 0 ≤ gapV F P j a := by
  have := h.fair a ha
  unfold gapV
  split <;> omega
theorem sum_one {f g : Nat → Int} {b M : Nat} (hb : b < M) (h1 : ∀ a, a < M → a ≠ b → f a = g a) : sumTo f M = sumTo g M + (f b - g b) := by
  have h := sumTo_single (g := fun a => f a - g a) hb (fun a ha hne => by rw [h1 a ha hne]; omega)
  rw [sumTo_sub] at h
  omega
theorem lget_setA {xs : List Int} {k b : Nat} {z : Int} (hk : k < xs.length) : lget (xs.set k z) b = if b = k then z else lget xs b := by
  by_cases e : b = k
  · subst e
    rw [if_pos rfl, lget_at (by rw [List.length_set]; exact hk), List.getElem_set_self]
  · rw [if_neg e]
    unfold lget
    rw [List.getD_eq_getElem?_getD, List.getD_eq_getElem?_getD, List.getElem?_set_ne (by omega)]
theorem asc_step {F : Fld} {P : List Int} (h : AscP F P) {j : Nat} (hj : j < F.di.length) {z : Int} (hz : 0 < z) (hg : ∀ a, a < F.op.length → z ≤ gapV F P j a) : AscP F (P.set j (lget P j + z)) ∧ sumTo (lget (P.set j (lget P j + z))) F.di.length = sumTo (lget P) F.di.length + z := by
  have hl : j < P.length := by rw [h.len]; exact hj
  have hset : ∀ i, lget (P.set j (lget P j + z)) i = if i = j then lget P j + z else lget P i := fun i => lget_setA hl
  obtain ⟨a0, ha0, e0⟩ := lowT_is (F := F) (j := j) (goodF_iff.1 h.good).1.1 F.op.length (Nat.le_refl _)
  have hbid : ∀ a : Nat, bidF F (P.set j (lget P j + z)) (a : Int) = bidF F P (a : Int) + (max 0 (lget P j + z - dAt F j (a : Int)) - max 0 (lget P j - dAt F j (a : Int))) := fun a => by
    have h1 := sum_one (f := clv F (P.set j (lget P j + z)) a) (g := clv F P a) hj (fun i _ hne => by
      show max 0 (lget (P.set j (lget P j + z)) i - _) = max 0 (lget P i - _)
      rw [hset, if_neg hne])
    have h2 : clv F (P.set j (lget P j + z)) a j = max 0 (lget P j + z - dAt F j (a : Int)) := by
      show max 0 (lget (P.set j (lget P j + z)) j - _) = _
      rw [hset, if_pos rfl]
    rw [h2] at h1
    exact h1
  refine ⟨⟨h.good, by rw [List.length_set]; exact h.len, fun i hi => ?_, fun i hi => ?_, fun a ha => ?_⟩, ?_⟩
  · rw [hset]
    split
    · rename_i e; subst e; have := h.lo i hi; omega
    · exact h.lo i hi
  · rw [hset]
    split
    · have h1 := hg a0 ha0
      have h2 := h.lo j hj
      unfold lowF at h2
      unfold gapV at h1
      rw [if_pos (by omega)] at h1
      have h3 := sumTo_ge (g := clv F P a0) (a := j) (k := F.di.length) (fun i _ => by unfold clv; omega) hj
      have h4 : clv F P a0 j = max 0 (lget P j - dAt F j (a0 : Int)) := rfl
      have h5 : bidF F P (a0 : Int) = sumTo (clv F P a0) F.di.length := rfl
      have h6 := dAt_bd h.good hj (a0 : Int)
      have h7 := op_bdC h.good ha0
      omega
    · exact h.hi i hi
  · rw [hbid]
    have h1 := hg a ha
    have h2 := h.fair a ha
    unfold gapV at h1
    split at h1 <;> omega
  · have := sum_one (f := lget (P.set j (lget P j + z))) (g := lget P) hj (fun i _ hne => by rw [hset, if_neg hne])
    rw [this, hset, if_pos rfl]; omega
theorem asc_first {F : Fld} (hg : goodF F = true) : AscP F (mapTo (lowF F) F.di.length) := by
  have hn := (goodF_iff.1 hg).1.1
  have hl : ∀ j, j < F.di.length → lget (mapTo (lowF F) F.di.length) j = lowF F j := fun j hj => mapTo_lgetC hj
  refine ⟨hg, mapTo_len _ _, fun j hj => by rw [hl j hj]; exact Int.le_refl _, fun j hj => ?_, fun a ha => ?_⟩
  · rw [hl j hj]
    obtain ⟨a, _, e⟩ := lowT_is (F := F) (j := j) hn F.op.length (Nat.le_refl _)
    have := dAt_bd hg hj (a : Int)
    unfold lowF; omega
  · have h0 : bidF F (mapTo (lowF F) F.di.length) (a : Int) = sumTo (fun _ => 0) F.di.length := sumTo_congr (fun i hi => by
      show max 0 (lget (mapTo (lowF F) F.di.length) i - _) = 0
      rw [hl i hi]
      have := lowT_le (F := F) (j := i) F.op.length a ha
      unfold lowF; omega)
    rw [h0, sumTo_c0]
    exact (op_bdC hg ha).2.1
theorem asc_sum {F : Fld} {P : List Int} (h : AscP F P) : 0 ≤ sumTo (lget P) F.di.length ∧ sumTo (lget P) F.di.length ≤ 1386 := by
  have h7 := (goodF_iff.1 h.good).2.2.1
  have h1 := sumTo_nn (g := lget P) (k := F.di.length) (fun i hi => h.nn hi)
  have h2 := sumTo_mono' (g := lget P) (h := fun _ => 1 * 198) (k := F.di.length) (fun i hi => by have := h.hi i hi; omega)
  rw [sumTo_mulc (fun _ => 1), sumTo_ones] at h2
  omega
set_option maxRecDepth 100000 in
set_option maxHeartbeats 1000000 in
theorem l3Claim_any (f : Value) (F : Fld) (A1 : Option Addr) (xs : List Int) (n1 c1 a : Nat) (w : World) (hf : FldAt w f F) (h1 : IntsAt w A1 xs) (hn1 : xs.length = n1) (hp : pricedB F xs = true) (ha : a < F.op.length) :
    Calls Tryz.prog 88 #[f, .slice A1 n1 c1, .int .i64 a, .int .i64 1] w fun e w' => e = .returned (.int .i64 (bidF F xs (a : Int))) ∧ Kp w w' := by
  obtain ⟨A, c, B, d, rfl, hA, hB⟩ := hf
  have hk0 : Kp w (w.alloc (.cells #[.slice A F.op.length c, .slice B F.di.length d] 27)) := (Kp.refl w).alloc _
  obtain ⟨d0, d1⟩ := box2 w (.slice A F.op.length c) (.slice B F.di.length d) 27
  have hFA := FldAt.kp (show FldAt w (.agg #[.slice A F.op.length c, .slice B F.di.length d]) F from ⟨A, c, B, d, rfl, hA, hB⟩) hk0
  replace h1 := h1.kp hk0
  replace hB := hB.kp hk0
  have Hn1 := Lib.hid hn1
  have HP := Lib.hid hp
  have HQ := Lib.hid (pricedB_iff.1 hp)
  have HF := Lib.hid (goodF_iff.1 HQ.out.1)
  have h7n := HF.out.1.2
  have h7d := HF.out.2.2.1
  have Hd1 : Hid (n1 = F.di.length) := by show _ = _; rw [← Hn1.out]; exact HQ.out.2.1
  clear hA hn1 hp
  go_enter Tryz.func88, Tryz.ntmps88
  go_wp2_with fail
  have hsz : Hid ((w.alloc (.cells #[.slice A F.op.length c, .slice B F.di.length d] 27)).heap.size = w.heap.size + 1) := by show _ = _; simp
  generalize w.alloc (.cells #[.slice A F.op.length c, .slice B F.di.length d] 27) = wb at *
  have hkb : Kp wb wb := Kp.refl _
  have hkw := hk0
  have haI : (a : Int) < (F.op.length : Int) := by omega
  go_loopw [9, 10] (fun sv iv wr => ∃ i : Nat, i ≤ n1 ∧ iv = .int .i64 i ∧ sv = .int .i64 (sumTo (clv F xs a) i) ∧ Kp wb wr) (fun _ iv _ => n1 - (intOf iv).toNat)
  case atStart => exact ⟨0, by omega, rfl, rfl, Kp.refl _⟩
  case round =>
    obtain ⟨i, hi, rfl, rfl, hkr⟩ := hrel
    by_cases hlt : i < n1
    · have hid : i < F.di.length := by rw [← Hd1.out]; exact hlt
      have hidI : (i : Int) < (F.di.length : Int) := by omega
      obtain ⟨pd, A4, ca, hPe, hcp, hrp⟩ := hB.at_ hid
      subst hPe
      have Hrl := Lib.hid (HF.out.2.2.2 _ (List.getElem_mem hid)).2
      have lx : i < xs.length := by rw [Hn1.out]; exact hlt
      obtain ⟨xd, rfl, hxc⟩ := h1.at_ lx
      have Hnum : Hid (xs[i] = numAt xs (i : Int)) := by show _ = _; simp [numAt, List.getD, lx]
      rw [Hnum.out] at hxc
      have lr : a < F.di[i].length := by rw [Hrl.out]; exact ha
      obtain ⟨rd, rfl, hrc⟩ := hrp.at_ lr
      rw [dAt_atC hid lr] at hrc
      rw [Hrl.out] at hcp
      obtain ⟨b1, b2, b3, b4, b5, b6⟩ := clv_bd HP.out hid a
      obtain ⟨b7, b8⟩ := sum_clv HP.out a i (by omega)
      have hnx : Hid (sumTo (clv F xs a) (i + 1) = sumTo (clv F xs a) i + max 0 (numAt xs (i : Int) - dAt F i (a : Int))) := sumTo_succ _ _
      have Hcv : Hid (clv F xs a i = max 0 (numAt xs (i : Int) - dAt F i (a : Int))) := rfl
      have q0 := hkr.get d0
      have q1 := hkr.get d1
      have q2 := hkr.get hcp
      have q3 := hkr.get hxc
      have q4 := hkr.get hrc
      rw [Hcv.out] at b1 b2
      generalize sumTo (clv F xs a) i = sm at *
      generalize numAt xs (i : Int) = pv at *
      generalize dAt F i (a : Int) = dv at *
      have e0 : IntKind.i64.wrap (1 * dv) = dv := by rw [Int.one_mul]; exact IntWalk.i64_in _ (by omega)
      have e1 : IntKind.i64.wrap (pv - dv) = pv - dv := IntWalk.i64_in _ (by omega)
      have e2 : IntKind.i64.wrap (sm + max 0 (pv - dv)) = sm + max 0 (pv - dv) := IntWalk.i64_in _ (by omega)
      have CM := Lib.hid (fun (wx : World) => l1Most_any 0 (pv - dv) wx)
      go_wp2_with fail
      go_quiet ((go_at_call 30; exact Calls.same_quiet (CM.out _)))
      go_wp2_with fail
      go_roundw
      case rel => exact ⟨i + 1, by omega, by go_num, by rw [hnx.out], hkr.drewN _⟩
      case measure => simp [intOf]; omega
    · obtain rfl : i = n1 := by omega
      go_wp2_with fail
      go_ret
      exact ⟨ret_int (by rw [Hd1.out]; rfl), hkw.trans hkr⟩
end Go.Proofs.YtffpdebjjcbenaaGreat

namespace Go.Proofs.YtffpdebjjcbenaaGreat
open Go.RowKit Go.Sort

def NxP (F : Fld) (P : List Int) (j k : Nat) (z : Int) : Prop := (k = 0 ∧ z = -1) ∨ (0 < k ∧ 0 ≤ z ∧ z ≤ 99 ∧ ∀ a, a < k → z ≤ gapV F P j a)
theorem gap_hi {F : Fld} {P : List Int} (h : AscP F P) {j a : Nat} (hj : j < F.di.length) (ha : a < F.op.length) : gapV F P j a ≤ 99 := by
  have h1 := op_bdC h.good ha
  have h2 := bid_bd h.priced a
  have h3 := dAt_bd h.good hj (a : Int)
  have h4 := h.nn hj
  unfold gapV
  split <;> omega
theorem nx_new {F : Fld} {P : List Int} {j k : Nat} {z : Int} (h : AscP F P) (hj : j < F.di.length) (hk : k < F.op.length) (hn : NxP F P j k z) (hz : z < 0 ∨ gapV F P j k < z) : NxP F P j (k + 1) (gapV F P j k) := by
  refine .inr ⟨by omega, h.gap_nn hk, gap_hi h hj hk, fun a ha => ?_⟩
  by_cases e : a = k
  · subst e; exact Int.le_refl _
  · rcases hn with ⟨rfl, _⟩ | ⟨_, h0, _, h1⟩
    · omega
    · have := h1 a (by omega); omega
theorem nx_old {F : Fld} {P : List Int} {j k : Nat} {z : Int} (hn : NxP F P j k z) (h0 : 0 ≤ z) (hz : z ≤ gapV F P j k) : NxP F P j (k + 1) z := by
  rcases hn with ⟨_, e⟩ | ⟨_, h1, h2, h3⟩
  · omega
  · refine .inr ⟨by omega, h1, h2, fun a ha => ?_⟩
    by_cases e : a = k
    · subst e; exact hz
    · exact h3 a (by omega)
set_option maxRecDepth 100000 in
set_option maxHeartbeats 2000000 in
theorem l3Next_any (f : Value) (F : Fld) (A1 : Option Addr) (P : List Int) (n1 c1 j : Nat) (w : World) (hf : FldAt w f F) (h1 : IntsAt w A1 P) (hn1 : P.length = n1) (hp : AscP F P) (hj : j < F.di.length) :
    Calls Tryz.prog 70 #[f, .slice A1 n1 c1, .int .i64 j] w fun e w' => ∃ z : Int, e = .returned (.int .i64 z) ∧ 0 ≤ z ∧ z ≤ 99 ∧ (∀ a, a < F.op.length → z ≤ gapV F P j a) ∧ Kp w w' := by
  obtain ⟨A, c, B, d, rfl, hA, hB⟩ := hf
  have hk0 : Kp w (w.alloc (.cells #[.slice A F.op.length c, .slice B F.di.length d] 27)) := (Kp.refl w).alloc _
  obtain ⟨d0, d1⟩ := box2 w (.slice A F.op.length c) (.slice B F.di.length d) 27
  have hFA := FldAt.kp (show FldAt w (.agg #[.slice A F.op.length c, .slice B F.di.length d]) F from ⟨A, c, B, d, rfl, hA, hB⟩) hk0
  replace h1 := h1.kp hk0
  replace hA := hA.kp hk0
  replace hB := hB.kp hk0
  have Hn1 := Lib.hid hn1
  have HA := Lib.hid hp
  have HF := Lib.hid (goodF_iff.1 hp.good)
  have h1n := HF.out.1.1
  have h7n := HF.out.1.2
  have h7d := HF.out.2.2.1
  have Hd1 : Hid (n1 = F.di.length) := by show _ = _; rw [← Hn1.out]; exact hp.len
  have lx : j < P.length := by rw [hp.len]; exact hj
  obtain ⟨xd, rfl, hxc⟩ := h1.at_ lx
  rw [← lget_at lx] at hxc
  have hjn : (j : Int) < (n1 : Int) := by have := Hd1.out; omega
  have hjd : (j : Int) < (F.di.length : Int) := by omega
  have hv0 := hp.nn hj
  have hv1 := hp.hi j hj
  clear hn1 hp
  obtain ⟨pv, Hpv⟩ : ∃ z, Hid (lget P j = z) := ⟨_, Lib.hid rfl⟩
  rw [Hpv.out] at hxc hv0 hv1
  go_enter Tryz.func70, Tryz.ntmps70
  go_wp2_with fail
  have hsz : Hid ((w.alloc (.cells #[.slice A F.op.length c, .slice B F.di.length d] 27)).heap.size = w.heap.size + 1) := by show _ = _; simp
  generalize w.alloc (.cells #[.slice A F.op.length c, .slice B F.di.length d] 27) = wb at *
  have hkb : Kp wb wb := Kp.refl _
  have hkw := hk0
  obtain ⟨pd, A4, ca, hPe, hcp, hrp⟩ := hB.at_ hj
  subst hPe
  have Hrl := Lib.hid (HF.out.2.2.2 _ (List.getElem_mem hj)).2
  rw [Hrl.out] at hcp
  clear hB
  go_loopw [8, 9] (fun sv iv wr => ∃ (k : Nat) (z : Int), k ≤ F.op.length ∧ iv = .int .i64 k ∧ sv = .int .i64 z ∧ Hid (NxP F P j k z) ∧ Kp wb wr) (fun _ iv _ => F.op.length - (intOf iv).toNat)
  case atStart => exact ⟨0, -1, by omega, rfl, rfl, .inl ⟨rfl, rfl⟩, Kp.refl _⟩
  case round =>
    obtain ⟨k, z, hk, rfl, rfl, HN, hkr⟩ := hrel
    by_cases hla : k < F.op.length
    · obtain ⟨e1, b1, b2⟩ := op_bdC HA.out.good hla
      obtain ⟨b3, b4⟩ := bid_bd HA.out.priced k
      obtain ⟨od, rfl, hoc⟩ := hA.at_ hla
      rw [e1] at hoc
      have lr : k < F.di[j].length := by rw [Hrl.out]; exact hla
      obtain ⟨rd, rfl, hrc⟩ := hrp.at_ lr
      rw [dAt_atC hj lr] at hrc
      have hdb := dAt_bd HA.out.good hj (k : Int)
      have CC := Lib.hid (fun (wx : World) (hx : Kp wr wx) => l3Claim_any _ F (some xd) P n1 c1 k wx (hFA.kp (hkr.trans hx)) (h1.kp (hkr.trans hx)) Hn1.out HA.out.priced hla)
      obtain ⟨gv, Hgv⟩ : ∃ z, Hid (gapV F P j k = z) := ⟨_, Lib.hid rfl⟩
      have hgp := Hgv.out
      unfold gapV at hgp
      rw [Hpv.out] at hgp
      have q0 := hkr.get d0
      have q1 := hkr.get d1
      have q2 := hkr.get hcp
      have q3 := hkr.get hrc
      have q4 := hkr.get hoc
      clear hoc hrc
      generalize opAt F (k : Int) = ov at *
      generalize bidF F P (k : Int) = bv at *
      generalize dAt F j (k : Int) = dv at *
      have e2 : IntKind.i64.wrap (dv - pv) = dv - pv := IntWalk.i64_in _ (by omega)
      have e3 : wrap64 (dv - pv) = dv - pv := IntWalk.wrap64_in _ (by omega)
      by_cases hle : dv ≤ pv
      · rw [if_pos hle] at hgp
        have p0 : decide (dv ≤ pv) = true := decide_eq_true hle
        have e4 : IntKind.i64.wrap (ov - bv) = gv := by rw [hgp]; exact IntWalk.i64_in _ (by omega)
        have e5 : wrap64 (ov - bv) = gv := by rw [hgp]; exact IntWalk.wrap64_in _ (by omega)
        clear hgp hle
        have KT : Kp wr wr := Kp.refl _
        have q_q0 := KT.get q0
        have q_q1 := KT.get q1
        have q_q4 := KT.get q4
        have tok1 : True := trivial
        go_wp2_with fail
        go_region_held3 (fun w' => w'.cell? ⟨w.heap.size, 0, none⟩ = some (.slice (some od) F.op.length c) ∧ w'.cell? ⟨w.heap.size, 1, none⟩ = some (.slice (some pd) F.di.length d) ∧ w'.cell? (od.add k) = some (.int .i64 ov) ∧ Kp wr w')
          (first | (refine keepc3 q0 q1 q4 ?_; exact (by repeat (first | with_reducible assumption | with_reducible exact Kp.refl _ | with_reducible refine Kp.drew ?_ | with_reducible refine Kp.alloc ?_ _ | with_reducible refine Kp.drewN ?_ _ | refine Kp.setCell ?_ (by dsimp only; omega) _))) | fail)
          (first
            | (have _t := tok1; go_at_call 88; with_reducible refine Calls.mono (CC.out _ (by repeat (first | with_reducible assumption | with_reducible exact Kp.refl _ | with_reducible refine Kp.drew ?_ | with_reducible refine Kp.alloc ?_ _ | with_reducible refine Kp.drewN ?_ _ | refine Kp.setCell ?_ (by dsimp only; omega) _))) ?_; rintro e wr1 ⟨rfl, hka⟩; have hr1 : Kp wr wr1 := Kp.trans (by repeat (first | with_reducible assumption | with_reducible exact Kp.refl _ | with_reducible refine Kp.drew ?_ | with_reducible refine Kp.alloc ?_ _ | with_reducible refine Kp.drewN ?_ _ | refine Kp.setCell ?_ (by dsimp only; omega) _)) hka; have tok2 : True := trivial; clear tok1 _t)
            | fail)
        by_cases hz0 : z < 0
        · have p1 : decide (z < 0) = true := decide_eq_true hz0
          have HN2 := Lib.hid (nx_new HA.out hj hla HN.out (.inl hz0))
          rw [Hgv.out] at HN2
          clear hz0
          go_wp2_with fail
          go_roundw
          case rel => exact ⟨k + 1, gv, by omega, by go_num, rfl, HN2, (hkr.trans hr1)⟩
          case measure => simp [intOf]; omega
        · have p1 : decide (z < 0) = false := decide_eq_false hz0
          by_cases hzg : gv < z
          · have p2 : decide (gv < z) = true := decide_eq_true hzg
            have HN2 := Lib.hid (nx_new HA.out hj hla HN.out (.inr (by rw [Hgv.out]; exact hzg)))
            rw [Hgv.out] at HN2
            clear hz0 hzg
            go_wp2_with fail
            go_roundw
            case rel => exact ⟨k + 1, gv, by omega, by go_num, rfl, HN2, (hkr.trans hr1)⟩
            case measure => simp [intOf]; omega
          · have p2 : decide (gv < z) = false := decide_eq_false hzg
            have HN2 := Lib.hid (nx_old HN.out (by omega) (by rw [Hgv.out]; omega))
            clear hz0 hzg
            go_wp2_with fail
            go_roundw
            case rel => exact ⟨k + 1, z, by omega, by go_num, rfl, HN2, (hkr.trans hr1)⟩
            case measure => simp [intOf]; omega
      · rw [if_neg hle] at hgp
        have p0 : decide (dv ≤ pv) = false := decide_eq_false hle
        have e4 : IntKind.i64.wrap (dv - pv) = gv := by rw [e2, hgp]
        have e5 : wrap64 (dv - pv) = gv := by rw [e3, hgp]
        clear hgp hle CC e2 e3
        by_cases hz0 : z < 0
        · have p1 : decide (z < 0) = true := decide_eq_true hz0
          have HN2 := Lib.hid (nx_new HA.out hj hla HN.out (.inl hz0))
          rw [Hgv.out] at HN2
          clear hz0
          go_wp2_with fail
          go_roundw
          case rel => exact ⟨k + 1, gv, by omega, by go_num, rfl, HN2, hkr⟩
          case measure => simp [intOf]; omega
        · have p1 : decide (z < 0) = false := decide_eq_false hz0
          by_cases hzg : gv < z
          · have p2 : decide (gv < z) = true := decide_eq_true hzg
            have HN2 := Lib.hid (nx_new HA.out hj hla HN.out (.inr (by rw [Hgv.out]; exact hzg)))
            rw [Hgv.out] at HN2
            clear hz0 hzg
            go_wp2_with fail
            go_roundw
            case rel => exact ⟨k + 1, gv, by omega, by go_num, rfl, HN2, hkr⟩
            case measure => simp [intOf]; omega
          · have p2 : decide (gv < z) = false := decide_eq_false hzg
            have HN2 := Lib.hid (nx_old HN.out (by omega) (by rw [Hgv.out]; omega))
            clear hz0 hzg
            go_wp2_with fail
            go_roundw
            case rel => exact ⟨k + 1, z, by omega, by go_num, rfl, HN2, hkr⟩
            case measure => simp [intOf]; omega
    · obtain rfl : k = F.op.length := by omega
      have hpost : Hid (0 ≤ z ∧ z ≤ 99 ∧ ∀ a, a < F.op.length → z ≤ gapV F P j a) := by
        rcases HN.out with ⟨h0, _⟩ | ⟨_, h2⟩
        · omega
        · exact h2
      have q0 := hkr.get d0
      have q1 := hkr.get d1
      go_wp2_with fail
      go_ret
      exact ⟨z, rfl, hpost.out.1, hpost.out.2.1, hpost.out.2.2, hkw.trans hkr⟩
end Go.Proofs.YtffpdebjjcbenaaGreat

namespace Go.Proofs.YtffpdebjjcbenaaGreat
open Go.RowKit Go.Sort

def psW (w : World) (A : Option Addr) (J : Nat) : Int := sumTo (fun j => match A with | some ad => intOf ((w.cell? (ad.add j)).getD undef) | none => 0) J
theorem psW_is {w : World} {A : Option Addr} {P : List Int} {J : Nat} (h : IntsAt w A P) (hl : P.length = J) : psW w A J = sumTo (lget P) J := by
  unfold psW
  refine sumTo_congr (fun j hj => ?_)
  have lx : j < P.length := by omega
  obtain ⟨ad, rfl, hc⟩ := h.at_ lx
  rw [← lget_at lx] at hc
  simp only [hc]; rfl
def bitV (v : Value) : Nat := match v with | .bool true => 1 | _ => 0
set_option maxRecDepth 100000 in
set_option maxHeartbeats 2000000 in
theorem l3Ascent_any (f : Value) (F : Fld) (w : World) (hf : FldAt w f F) (hg : goodF F = true) :
    Calls Tryz.prog 45 #[f] w fun e w' => ∃ v P, e = .returned v ∧ Own w' w.heap.size v P ∧ AscP F P ∧ Kp w w' := by
  obtain ⟨A, c, B, d, rfl, hA, hB⟩ := hf
  have hk0 : Kp w (w.alloc (.cells #[.slice A F.op.length c, .slice B F.di.length d] 27)) := (Kp.refl w).alloc _
  obtain ⟨d0, d1⟩ := box2 w (.slice A F.op.length c) (.slice B F.di.length d) 27
  have hFA := FldAt.kp (show FldAt w (.agg #[.slice A F.op.length c, .slice B F.di.length d]) F from ⟨A, c, B, d, rfl, hA, hB⟩) hk0
  replace hA := hA.kp hk0
  replace hB := hB.kp hk0
  have HG := Lib.hid hg
  have HF := Lib.hid (goodF_iff.1 hg)
  have h1n := HF.out.1.1
  have h7n := HF.out.1.2
  have h7d := HF.out.2.2.1
  clear hg
  go_enter Tryz.func45, Tryz.ntmps45
  go_wp2_with fail
  have hsz : Hid ((w.alloc (.cells #[.slice A F.op.length c, .slice B F.di.length d] 27)).heap.size = w.heap.size + 1) := by show _ = _; simp
  generalize w.alloc (.cells #[.slice A F.op.length c, .slice B F.di.length d] 27) = wb at *
  have hkb : Kp wb wb := Kp.refl _
  have hkw := hk0
  have ho := own_new0 wb wb.heap.size (Nat.le_refl _)
  have hkn := (Kp.refl wb).alloc (.cells #[] 3)
  rw [show (Value.slice (some ⟨wb.heap.size, 0, none⟩) 0 0) = .slice (some ⟨w.heap.size + 1, 0, none⟩) 0 0 from by rw [hsz.out]] at ho
  have ho2 : Own (wb.alloc (.cells #[] 3)) wb.heap.size (.slice (some ⟨w.heap.size + 1, 0, none⟩) 0 0) (mapTo (lowF F) 0) := ho
  clear ho
  go_loopw [3, 4] (fun pv iv wr => ∃ j : Nat, j ≤ F.di.length ∧ iv = .int .i64 j ∧ Own wr wb.heap.size pv (mapTo (lowF F) j) ∧ Kp wb wr) (fun _ iv _ => F.di.length - (intOf iv).toNat)
  case atStart => exact ⟨0, by omega, rfl, ho2, hkn⟩
  case round =>
    clear ho2 hkn hkb
    obtain ⟨j, hj, rfl, hown, hkb⟩ := hrel
    obtain ⟨A9, c9, e9⟩ := hown.shape
    rw [mapTo_len] at e9
    subst e9
    have q0 := hkb.get d0
    have q1 := hkb.get d1
    by_cases hlt : j < F.di.length
    · obtain ⟨pd, A4, ca, hPe, hcp, hrp⟩ := (hB.kp hkb).at_ hlt
      subst hPe
      have Hrl := Lib.hid (HF.out.2.2.2 _ (List.getElem_mem hlt)).2
      have lr0 : 0 < F.di[j].length := by rw [Hrl.out]; exact h1n
      obtain ⟨rd, rfl, hrc0⟩ := hrp.at_ lr0
      rw [dAt_atC hlt lr0, show rd.add 0 = rd from rfl] at hrc0
      rw [Hrl.out] at hcp
      have hz0 : (0 : Int) < (F.op.length : Int) := by omega
      go_wp2_with fail
      go_loop [5, 6] (fun lv iv => ∃ a : Nat, a ≤ F.op.length ∧ iv = .int .i64 a ∧ lv = .int .i64 (lowT F j a)) (fun _ iv => F.op.length - (intOf iv).toNat)
      case atStart => exact ⟨0, by omega, rfl, rfl⟩
      case round =>
        clear hrc0
        obtain ⟨a, ha, rfl, rfl⟩ := hrel
        by_cases hla : a < F.op.length
        · have lr : a < F.di[j].length := by rw [Hrl.out]; exact hla
          have hrc := hrp.some_ lr
          rw [dAt_atC hlt lr] at hrc
          have Hlo : Hid (lowT F j (a + 1) = min (lowT F j a) (dAt F j (a : Int))) := rfl
          generalize dAt F j (a : Int) = dv at *
          generalize lowT F j a = lv at *
          have CL := Lib.hid (l1Least_any lv dv wr)
          go_wp2_with fail
          with_reducible refine Calls.mono CL.out ?_
          rintro e wx ⟨rfl, rfl⟩
          clear CL
          go_wp2_with fail
          go_round
          case rel => exact ⟨a + 1, by omega, by go_num, by rw [Hlo.out]⟩
          case measure => simp [intOf]; omega
        · obtain rfl : a = F.op.length := by omega
          have Hlow : Hid (lowT F j F.op.length = lowF F j) := rfl
          rw [Hlow.out]
          have hl9 : (mapTo (lowF F) j).length ≤ 1000 := by rw [mapTo_len]; omega
          have hnx : Hid (mapTo (lowF F) (j + 1) = mapTo (lowF F) j ++ [lowF F j]) := mapTo_succ _ _
          generalize lowF F j = lv at *
          go_wp2_with (at_builtin; go_loud (refine wpl_app rfl (.tmp 42) (.tmp 44) rfl (wb.heap.size) _ (mapTo (lowF F) j) (lv) rfl rfl hown hkb.le (by omega) ?_; intro v' w' ho' ht' h4'; have hkb' := hown.kp_turn hkb (Nat.le_refl _) ht'))
          go_roundw
          case rel => exact ⟨j + 1, by omega, by go_num, by rw [hnx.out]; exact ho', hkb'⟩
          case measure => simp [intOf]; omega
    · obtain rfl : j = F.di.length := by omega
      have HA0 := Lib.hid (asc_first HG.out)
      obtain ⟨P0, HP0⟩ : ∃ P, Hid (mapTo (lowF F) F.di.length = P) := ⟨_, Lib.hid rfl⟩
      rw [HP0.out] at HA0 hown
      clear HP0
      go_wp2_with fail
      go_loopw [7] (fun rv wr => ∃ (r : Bool) (P : List Int), rv = .bool r ∧ Hid (AscP F P) ∧ Own wr wb.heap.size (.slice A9 F.di.length c9) P ∧ Kp wb wr) (fun rv wr => 2 * (1386 - psW wr A9 F.di.length).toNat + bitV rv)
      case atStart => exact ⟨true, P0, rfl, HA0, hown, hkb⟩
      case round =>
        clear HA0 hown hkb q0 q1
        obtain ⟨r, P, rfl, HA, hown, hkb⟩ := hrel
        obtain ⟨wo, rfl⟩ : ∃ wo : World, wo = wr := ⟨_, rfl⟩
        have HPs := Lib.hid (psW_is (hown.intsOf (by rw [HA.out.len]; omega)) HA.out.len)
        have HSm := Lib.hid (asc_sum HA.out)
        cases r
        · go_wp2_with fail
          go_ret
          exact ⟨_, P, rfl, hown.mono hkw.le, HA.out, hkw.trans hkb⟩
        · go_wp2_with fail
          go_loopw [7, 8] (fun rv iv wr => ∃ (r : Bool) (j : Nat) (Q : List Int), rv = .bool r ∧ iv = .int .i64 j ∧ j ≤ F.di.length ∧ Hid (AscP F Q) ∧ Own wr wb.heap.size (.slice A9 F.di.length c9) Q ∧ Hid (sumTo (lget P) F.di.length + bitV (.bool r) ≤ sumTo (lget Q) F.di.length) ∧ Kp wb wr) (fun _ iv _ => F.di.length - (intOf iv).toNat)
          case atStart => exact ⟨false, 0, P, rfl, rfl, by omega, HA, hown, by show _ + ((0 : Nat) : Int) ≤ _; omega, hkb⟩
          case round =>
            clear hown hkb
            obtain ⟨r, j, Q, rfl, rfl, hj, HQ, hown, HS, hkb⟩ := hrel
            have hq1 := HQ.out.len
            have hql : Q.length ≤ 9223372036854775807 := by omega
            by_cases hlt : j < F.di.length
            · obtain ⟨g, cp, e0⟩ := hown.at0 hq1 (by omega)
              injection e0 with e1 e2 e3
              subst e1 e3
              clear e2
              have hgs := (hown.lt g rfl).1
              have hI := hown.intsOf hql
              obtain ⟨t1, tf, tp⟩ := hown.slotL hq1 hlt
              have hn0 := HQ.out.nn hlt
              have hn1 := HQ.out.hi j hlt
              have q0 := hkb.get d0
              have q1 := hkb.get d1
              have CN := Lib.hid (l3Next_any _ F (some ⟨g, 0, none⟩) Q F.di.length c9 j wr (hFA.kp hkb) hI hq1 HQ.out hlt)
              go_wp2_with fail
              with_reducible refine Calls.mono CN.out ?_
              rintro e wx ⟨z, rfl, z0, z1, hz, hkx⟩
              clear CN
              have HZ := Lib.hid hz
              clear hz
              by_cases hzp : 0 < z
              · have p1 : decide (0 < z) = true := decide_eq_true hzp
                obtain ⟨s1, s2⟩ := asc_step HQ.out hlt hzp HZ.out
                have HQ2 := Lib.hid s1
                have HS2 : Hid (sumTo (lget P) F.di.length + bitV (.bool true) ≤ sumTo (lget (Q.set j (lget Q j + z))) F.di.length) := by
                  show _ ≤ _
                  have h1 := HS.out
                  rw [s2]
                  have h2 : bitV (.bool true) = 1 := rfl
                  rw [h2]
                  omega
                clear s1 s2
                obtain ⟨u1, uf, up⟩ := (hown.kp hkx).slotL hq1 hlt
                obtain ⟨o5, t5⟩ := up (lget Q j + z)
                clear up t1 tf tp t5
                have hks : Kp wb (wx.setCell ⟨g, j, none⟩ (.int .i64 (lget Q j + z))) := (hkb.trans hkx).setCell (p := ⟨g, j, none⟩) hgs (.int .i64 (lget Q j + z))
                have e2 : IntKind.i64.wrap (lget Q j + z) = lget Q j + z := IntWalk.i64_in _ (by omega)
                have e3 : wrap64 (lget Q j + z) = lget Q j + z := IntWalk.wrap64_in _ (by omega)
                go_wp2_with fail
                go_roundw
                case rel => exact ⟨true, j + 1, _, rfl, by go_num, by omega, HQ2, o5, HS2, hks⟩
                case measure => simp [intOf]; omega
              · have p1 : decide (0 < z) = false := decide_eq_false hzp
                go_wp2_with fail
                go_roundw
                case rel => exact ⟨r, j + 1, Q, rfl, by go_num, by omega, HQ, hown.kp hkx, HS, hkb.trans hkx⟩
                case measure => simp [intOf]; omega
            · obtain rfl : j = F.di.length := by omega
              have HPr := Lib.hid (psW_is (hown.intsOf hql) hq1)
              have HSq := Lib.hid (asc_sum HQ.out)
              go_wp2_with fail
              go_roundw
              case rel => exact ⟨r, Q, rfl, HQ, hown, hkb⟩
              case measure =>
                rw [HPr.out, HPs.out]
                have h1 := HS.out
                have h2 := HSq.out
                have h3 := HSm.out
                have h4 : bitV (.bool true) = 1 := rfl
                rw [h4]
                cases r
                · have h5 : bitV (.bool false) = 0 := rfl
                  rw [h5] at h1 ⊢
                  omega
                · rw [h4] at h1 ⊢
                  omega
end Go.Proofs.YtffpdebjjcbenaaGreat

namespace Go.Proofs.YtffpdebjjcbenaaGreat
open Go.RowKit Go.Sort

/-- Block g holds J headers; row j lies in block B j and reads as f j. -/
structure Mat (w : World) (base g cap J M : Nat) (B Cp : Nat → Nat) (f : Nat → Nat → Int) : Prop where
  hd : w.ownsRow base 24 1 (.slice (some ⟨g, 0, none⟩) J cap) J ((List.range J).map fun j => Value.slice (some ⟨B j, 0, none⟩) M (Cp j))
  row : ∀ j, j < J → Own w base (.slice (some ⟨B j, 0, none⟩) M (Cp j)) (mapTo (f j) M)
  apart : ∀ i j, i < J → j < J → i ≠ j → B i ≠ B j
theorem Mat.kp {w w' : World} {base g cap J M : Nat} {B Cp : Nat → Nat} {f : Nat → Nat → Int} (h : Mat w base g cap J M B Cp f) (hk : Kp w w') : Mat w' base g cap J M B Cp f :=
  ⟨hk.own h.hd, fun j hj => (h.row j hj).kp hk, h.apart⟩
theorem Mat.turn {S : Nat → Prop} {w w' : World} {base g cap J M : Nat} {B Cp : Nat → Nat} {f : Nat → Nat → Int} (h : Mat w base g cap J M B Cp f) (ht : Turn S w w') (h1 : ¬ S g) (h2 : ∀ j, j < J → ¬ S (B j)) : Mat w' base g cap J M B Cp f :=
  ⟨own_turn h.hd ht (fun k hk hs => by have : g = k := by simpa [Value.ownBlock] using hk
                                       subst this; exact h1 hs),
   fun j hj => (h.row j hj).turn ht (fun k hk hs => by have : B j = k := by simpa [Value.ownBlock] using hk
                                                       subst this; exact h2 j hj hs), h.apart⟩
theorem Mat.congr {w : World} {base g cap J M : Nat} {B Cp : Nat → Nat} {f f' : Nat → Nat → Int} (h : Mat w base g cap J M B Cp f) (e : ∀ j a, j < J → a < M → f j a = f' j a) : Mat w base g cap J M B Cp f' :=
  ⟨h.hd, fun j hj => by
    have : mapTo (f j) M = mapTo (f' j) M := by unfold mapTo; exact List.map_congr_left (fun a ha => e j a hj (List.mem_range.1 ha))
    rw [← this]; exact h.row j hj, h.apart⟩
theorem Mat.lt {w : World} {base g cap J M : Nat} {B Cp : Nat → Nat} {f : Nat → Nat → Int} (h : Mat w base g cap J M B Cp f) {j : Nat} (hj : j < J) : base ≤ B j ∧ B j < w.heap.size := (h.row j hj).lt (B j) rfl
theorem Mat.glt {w : World} {base g cap J M : Nat} {B Cp : Nat → Nat} {f : Nat → Nat → Int} (h : Mat w base g cap J M B Cp f) : base ≤ g ∧ g < w.heap.size := World.ownsRow.lt h.hd g rfl
theorem Mat.gne {w : World} {base g cap J M : Nat} {B Cp : Nat → Nat} {f : Nat → Nat → Int} (h : Mat w base g cap J M B Cp f) {j : Nat} (hj : j < J) : B j ≠ g := fun e =>
  own_blocks_ne (h.row j hj) h.hd (by decide) (g := B j) rfl (by rw [e]; rfl)
theorem own_ne_hd {w : World} {base base' g n cap J : Nat} {A : Value} {xs : List Int} {hs : List Value} (h : Own w base A xs) (h2 : w.ownsRow base' 24 1 (.slice (some ⟨g, 0, none⟩) n cap) J hs) {k : Nat} (hk : A.ownBlock = some k) : k ≠ g := fun e =>
  own_blocks_ne h h2 (by decide) hk (by subst e; rfl)
theorem Mat.hcell {w : World} {base g cap J M : Nat} {B Cp : Nat → Nat} {f : Nat → Nat → Int} (h : Mat w base g cap J M B Cp f) {j : Nat} (hj : j < J) : w.cell? ⟨g, j, none⟩ = some (.slice (some ⟨B j, 0, none⟩) M (Cp j)) := by
  have := World.ownsRow.cells h.hd (g := g) rfl j (Value.slice (some ⟨B j, 0, none⟩) M (Cp j)) (by simp [hj])
  rwa [add0] at this
theorem mapTo_lget {g : Nat → Int} {M a : Nat} (h : a < M) : lget (mapTo g M) a = g a := by
  rw [lget_at (by rw [mapTo_len]; exact h), mapTo_get h]
theorem mapTo_set {g : Nat → Int} {M a : Nat} {z : Int} : (mapTo g M).set a z = mapTo (upd g a z) M := by
  unfold mapTo
  apply List.ext_getElem
  · simp
  · intro i h1 h2
    rw [List.getElem_set]
    by_cases e : a = i
    · subst e; simp [upd]
    · have e2 : ¬ i = a := fun h => e h.symm
      simp [e, upd, e2]
theorem Mat.cell {w : World} {base g cap J M : Nat} {B Cp : Nat → Nat} {f : Nat → Nat → Int} (h : Mat w base g cap J M B Cp f) {j a : Nat} (hj : j < J) (ha : a < M) :
    w.cell? ⟨B j, a, none⟩ = some (.int .i64 (f j a)) ∧ w.frozen? ⟨B j, a, none⟩ = false ∧
    ∀ z : Int, Mat (w.setCell ⟨B j, a, none⟩ (.int .i64 z)) base g cap J M B Cp (upd2 f j a z) ∧ Turn (fun i => i = B j) w (w.setCell ⟨B j, a, none⟩ (.int .i64 z)) := by
  obtain ⟨c1, c2, c3⟩ := (h.row j hj).slotL (mapTo_len _ _) ha
  rw [mapTo_lget ha] at c1
  refine ⟨c1, c2, fun z => ?_⟩
  obtain ⟨o1, t1⟩ := c3 z
  refine ⟨⟨own_turn h.hd t1 (fun k hk hs => ?_), fun i hi => ?_, h.apart⟩, t1⟩
  · have e : g = k := by simpa [Value.ownBlock] using hk
    subst e; exact h.gne hj hs.symm
  · by_cases e : i = j
    · subst e
      rw [mapTo_set] at o1
      have : upd2 f i a z i = upd (f i) a z := by funext b; unfold upd2; rw [if_pos rfl]
      rw [this]; exact o1
    · have : upd2 f j a z i = f i := by funext b; unfold upd2; rw [if_neg e]
      rw [this]
      exact (h.row i hi).turn t1 (fun k hk hs => by
        have e2 : B i = k := by simpa [Value.ownBlock] using hk
        subst e2; exact h.apart i j hi hj e hs)
theorem Mat.ints {w : World} {base g cap J M : Nat} {B Cp : Nat → Nat} {f : Nat → Nat → Int} (h : Mat w base g cap J M B Cp f) (hM : M ≤ 1048576) {j : Nat} (hj : j < J) : IntsAt w (some ⟨B j, 0, none⟩) (mapTo (f j) M) := by
  obtain ⟨A, c, e, hi⟩ := (h.row j hj).ints (by rw [mapTo_len]; omega)
  rw [mapTo_len] at e
  simp only [Value.slice.injEq] at e
  rw [e.1]; exact hi
/-- The rows of it. -/
def matL (J M : Nat) (f : Nat → Nat → Int) : List (List Int) := (List.range J).map fun j => mapTo (f j) M
theorem matL_len (J M : Nat) (f : Nat → Nat → Int) : (matL J M f).length = J := by simp [matL]
theorem matL_at {J M : Nat} {f : Nat → Nat → Int} {j : Nat} (hj : j < J) : (matL J M f).getD j [] = mapTo (f j) M := by simp [matL, List.getD, hj]
theorem Mat.grid {w : World} {base g cap J M : Nat} {B Cp : Nat → Nat} {f : Nat → Nat → Int} (h : Mat w base g cap J M B Cp f) (hJ : J ≤ 1048576) (hM : M ≤ 1048576) : GridAt w (some ⟨g, 0, none⟩) (matL J M f) :=
  ⟨by rw [matL_len]; omega, fun k hk => by
    rw [matL_len] at hk
    rw [matL_at hk]
    exact ⟨_, _, _, rfl, by rw [add0, mapTo_len]; exact h.hcell hk, h.ints hM hk⟩⟩
theorem Mat.ownGrid {w : World} {base g cap J M : Nat} {B Cp : Nat → Nat} {f : Nat → Nat → Int} (h : Mat w base g cap J M B Cp f) : OwnGrid w base (.slice (some ⟨g, 0, none⟩) J cap) J (fun j => mapTo (f j) M) :=
  ⟨fun j => Value.slice (some ⟨B j, 0, none⟩) M (Cp j), h.hd, h.row, fun i j k hij hj e1 e2 => by
    have e3 : B i = k := by simpa [Value.ownBlock] using e1
    have e4 : B j = k := by simpa [Value.ownBlock] using e2
    exact h.apart i j (by omega) hj (by omega) (by omega)⟩
end Go.Proofs.YtffpdebjjcbenaaGreat
