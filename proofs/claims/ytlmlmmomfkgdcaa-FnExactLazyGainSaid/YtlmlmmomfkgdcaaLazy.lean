/- The lazy choice: plain words. No condition. -/
import Derived.Test.YtlmlmmomfkgdcaaGrd
import Derived.Test.YtlmlmmomfkgdcaaAllow
namespace Go.Proofs.Ytlmlmmomfkgdcaa
open Go.RowKit Go.Sort

def lget (xs : List Int) (k : Nat) : Int := xs.getD k 0
theorem lget_at {xs : List Int} {k : Nat} (h : k < xs.length) : lget xs k = xs[k] := by simp [lget, List.getD, h]
/-- Of the first sites that are not in a set, the first one with the greatest number told. -/
def lzTo (S told : List Int) : Nat → Int
  | 0 => -1
  | a + 1 => if !(S.any fun x => x == (a : Int)) && (decide (lzTo S told a < 0) || decide (lget told (lzTo S told a).toNat < lget told a)) then (a : Int) else lzTo S told a
theorem lz_in {S told : List Int} {a : Nat} (h : (S.any fun x => x == (a : Int)) = true) : lzTo S told (a + 1) = lzTo S told a := by
  show (if _ then _ else _) = _
  rw [if_neg (by simp [h])]
theorem lz_first {S told : List Int} {a : Nat} (h : (S.any fun x => x == (a : Int)) = false) (h1 : lzTo S told a < 0) : lzTo S told (a + 1) = (a : Int) := by
  show (if _ then _ else _) = _
  rw [if_pos (by simp [h, h1])]
theorem lz_more {S told : List Int} {a : Nat} (h : (S.any fun x => x == (a : Int)) = false) (h1 : lget told (lzTo S told a).toNat < lget told a) : lzTo S told (a + 1) = (a : Int) := by
  show (if _ then _ else _) = _
  rw [if_pos (by simp only [h, Bool.not_false, Bool.true_and, Bool.or_eq_true, decide_eq_true_eq]; exact .inr h1)]
theorem lz_less {S told : List Int} {a : Nat} (h0 : ¬ lzTo S told a < 0) (h1 : ¬ lget told (lzTo S told a).toNat < lget told a) : lzTo S told (a + 1) = lzTo S told a := by
  show (if _ then _ else _) = _
  rw [if_neg (by simp only [Bool.and_eq_true, Bool.or_eq_true, decide_eq_true_eq]; rintro ⟨_, h | h⟩; exact h0 h; exact h1 h)]
theorem lz_bd (S told : List Int) : ∀ a : Nat, -1 ≤ lzTo S told a ∧ lzTo S told a < a
  | 0 => by simp [lzTo]
  | a + 1 => by
    have ih := lz_bd S told a
    show _ ≤ (if _ then _ else _) ∧ (if _ then _ else _) < _
    split <;> omega
theorem lz_new (S told : List Int) : ∀ a : Nat, ¬ lzTo S told a < 0 → lzTo S told a ∉ S
  | 0, h => by simp [lzTo] at h
  | a + 1, h => by
    by_cases hc : (!(S.any fun x => x == (a : Int)) && (decide (lzTo S told a < 0) || decide (lget told (lzTo S told a).toNat < lget told a))) = true
    · have e : lzTo S told (a + 1) = (a : Int) := if_pos hc
      rw [e]
      simp only [Bool.and_eq_true, Bool.not_eq_true', List.any_eq_false] at hc
      intro hm
      have := hc.1 _ hm
      simp at this
    · have e : lzTo S told (a + 1) = lzTo S told a := if_neg hc
      rw [e] at h ⊢
      exact lz_new S told a h

/-- The lazy loop, with a bound on its rounds. -/
def lzRun (F : Fld) (worth : Int) (K : Nat) : Nat → List Int → List Int → List Int → List Int → Int → List Int × Int
  | 0, out, _, _, _, many => (out, many)
  | f + 1, out, S, told, att, many =>
    if K ≤ out.length then (out, many) else
    if lzTo S told F.op.length < 0 ∨ lget told (lzTo S told F.op.length).toNat = 0 then (out, many) else
    if lget att (lzTo S told F.op.length).toNat = (out.length : Int) then lzRun F worth K f (out ++ [lzTo S told F.op.length]) (putL S (lzTo S told F.op.length)) told att many
    else lzRun F worth K f out S (told.set (lzTo S told F.op.length).toNat (moreF F worth S (lzTo S told F.op.length))) (att.set (lzTo S told F.op.length).toNat out.length) (many + 1)
theorem lzRun_done {F : Fld} {worth : Int} {K f : Nat} {out S told att : List Int} {many : Int} (h : K ≤ out.length) : lzRun F worth K f out S told att many = (out, many) := by
  cases f with
  | zero => rfl
  | succ f => exact if_pos h
theorem lzRun_stop {F : Fld} {worth : Int} {K f : Nat} {out S told att : List Int} {many : Int} (h : lzTo S told F.op.length < 0 ∨ lget told (lzTo S told F.op.length).toNat = 0) : lzRun F worth K f out S told att many = (out, many) := by
  cases f with
  | zero => rfl
  | succ f =>
    show (if _ then _ else if _ then _ else _) = _
    by_cases hk : K ≤ out.length
    · rw [if_pos hk]
    · rw [if_neg hk, if_pos h]
theorem lzRun_out {F : Fld} {worth : Int} {K f : Nat} {out S told att : List Int} {many : Int} (hk : ¬ K ≤ out.length) (h : ¬ (lzTo S told F.op.length < 0 ∨ lget told (lzTo S told F.op.length).toNat = 0)) (h2 : lget att (lzTo S told F.op.length).toNat = (out.length : Int)) :
    lzRun F worth K (f + 1) out S told att many = lzRun F worth K f (out ++ [lzTo S told F.op.length]) (putL S (lzTo S told F.op.length)) told att many := by
  show (if _ then _ else if _ then _ else if _ then _ else _) = _
  rw [if_neg hk, if_neg h, if_pos h2]
theorem lzRun_set {F : Fld} {worth : Int} {K f : Nat} {out S told att : List Int} {many : Int} (hk : ¬ K ≤ out.length) (h : ¬ (lzTo S told F.op.length < 0 ∨ lget told (lzTo S told F.op.length).toNat = 0)) (h2 : ¬ lget att (lzTo S told F.op.length).toNat = (out.length : Int)) :
    lzRun F worth K (f + 1) out S told att many = lzRun F worth K f out S (told.set (lzTo S told F.op.length).toNat (moreF F worth S (lzTo S told F.op.length))) (att.set (lzTo S told F.op.length).toNat out.length) (many + 1) := by
  show (if _ then _ else if _ then _ else if _ then _ else _) = _
  rw [if_neg hk, if_neg h, if_neg h2]
theorem lzRun_len {F : Fld} {worth : Int} {K : Nat} : ∀ (f : Nat) (out S told att : List Int) (many : Int), out.length ≤ K → (lzRun F worth K f out S told att many).1.length ≤ K
  | 0, _, _, _, _, _, h => h
  | f + 1, out, S, told, att, many, h => by
    by_cases hk : K ≤ out.length
    · rw [lzRun_done hk]; exact h
    by_cases h1 : lzTo S told F.op.length < 0 ∨ lget told (lzTo S told F.op.length).toNat = 0
    · rw [lzRun_stop h1]; exact h
    by_cases h2 : lget att (lzTo S told F.op.length).toNat = (out.length : Int)
    · rw [lzRun_out hk h1 h2]; exact lzRun_len f _ _ _ _ _ (by simp; omega)
    · rw [lzRun_set hk h1 h2]; exact lzRun_len f _ _ _ _ _ h
/-- What bounds the rounds. -/
def lzMu (n K : Nat) (out att : List Int) : Nat := (K - out.length) * (n + 1) + att.countP (fun x => x != (out.length : Int))
theorem lzMu_out {n K : Nat} {out att : List Int} {x : Int} (hk : ¬ K ≤ out.length) (ha : att.length = n) : lzMu n K (out ++ [x]) att < lzMu n K out att := by
  unfold lzMu
  have h1 : att.countP (fun y => y != ((out ++ [x]).length : Int)) ≤ n := by rw [← ha]; exact List.countP_le_length
  have e : K - out.length = (K - (out ++ [x]).length) + 1 := by simp; omega
  rw [e, Nat.add_mul]
  omega
theorem count_set {p : Int → Bool} {v : Int} (hv : p v = false) : ∀ {xs : List Int} {k : Nat}, (hk : k < xs.length) → p xs[k] = true → (xs.set k v).countP p + 1 = xs.countP p
  | x :: xs, 0, _, h => by
    have h' : p x = true := h
    simp [List.countP_cons, hv, h']
  | x :: xs, k + 1, hk, h => by
    have ih := count_set (p := p) hv (xs := xs) (k := k) (by simpa using hk) (by simpa using h)
    simp only [List.set_cons_succ, List.countP_cons]
    omega
theorem lzMu_set {n K k : Nat} {out att : List Int} (hk : k < att.length) (h : ¬ lget att k = (out.length : Int)) : lzMu n K out (att.set k out.length) < lzMu n K out att := by
  unfold lzMu
  have := count_set (p := fun x => x != (out.length : Int)) (v := (out.length : Int)) (by simp) hk (by
    have e : lget att k = att[k] := lget_at hk
    rw [e] at h; simpa using h)
  omega
theorem lzMu_first (n K : Nat) : lzMu n K [] (List.replicate n 0) = K * (n + 1) := by
  have h : (List.replicate n (0 : Int)).countP (fun x => x != 0) = 0 := by
    rw [List.countP_eq_zero]
    intro x hx
    have := List.eq_of_mem_replicate hx
    subst this; simp
  show (K - 0) * (n + 1) + (List.replicate n (0 : Int)).countP (fun x => x != 0) = _
  rw [h]; rfl
/-- The state of the lazy loop: it leads to the result, and the rounds that are left are bounded. -/
def lzSt (F : Fld) (worth : Int) (K : Nat) (R : List Int × Int) (out S told att : List Int) (many : Int) : Prop :=
  ∃ f, lzMu F.op.length K out att ≤ f ∧ 0 ≤ many ∧ many + f ≤ 100 ∧ lzRun F worth K f out S told att many = R
theorem lzSt_done {F : Fld} {worth : Int} {K : Nat} {R : List Int × Int} {out S told att : List Int} {many : Int} (h : lzSt F worth K R out S told att many) (hk : K ≤ out.length) : R = (out, many) := by
  obtain ⟨f, _, _, _, e⟩ := h
  rw [← e, lzRun_done hk]
theorem lzSt_stop {F : Fld} {worth : Int} {K : Nat} {R : List Int × Int} {out S told att : List Int} {many : Int} (h : lzSt F worth K R out S told att many) (h1 : lzTo S told F.op.length < 0 ∨ lget told (lzTo S told F.op.length).toNat = 0) : R = (out, many) := by
  obtain ⟨f, _, _, _, e⟩ := h
  rw [← e, lzRun_stop h1]
theorem lzSt_out {F : Fld} {worth : Int} {K : Nat} {R : List Int × Int} {out S told att : List Int} {many : Int} (h : lzSt F worth K R out S told att many) (hk : ¬ K ≤ out.length) (ha : att.length = F.op.length) (h1 : ¬ (lzTo S told F.op.length < 0 ∨ lget told (lzTo S told F.op.length).toNat = 0)) (h2 : lget att (lzTo S told F.op.length).toNat = (out.length : Int)) :
    lzSt F worth K R (out ++ [lzTo S told F.op.length]) (putL S (lzTo S told F.op.length)) told att many := by
  obtain ⟨f, e1, e2, e3, e⟩ := h
  have hm := lzMu_out (x := lzTo S told F.op.length) hk ha
  obtain ⟨g, rfl⟩ : ∃ g, f = g + 1 := ⟨f - 1, by omega⟩
  rw [lzRun_out hk h1 h2] at e
  exact ⟨g, by omega, e2, by omega, e⟩
theorem lzSt_set {F : Fld} {worth : Int} {K : Nat} {R : List Int × Int} {out S told att : List Int} {many : Int} (h : lzSt F worth K R out S told att many) (hk : ¬ K ≤ out.length) (ha : att.length = F.op.length) (h1 : ¬ (lzTo S told F.op.length < 0 ∨ lget told (lzTo S told F.op.length).toNat = 0)) (h2 : ¬ lget att (lzTo S told F.op.length).toNat = (out.length : Int)) :
    lzSt F worth K R out S (told.set (lzTo S told F.op.length).toNat (moreF F worth S (lzTo S told F.op.length))) (att.set (lzTo S told F.op.length).toNat out.length) (many + 1) := by
  obtain ⟨f, e1, e2, e3, e⟩ := h
  have hb := lz_bd S told F.op.length
  have hm := lzMu_set (n := F.op.length) (K := K) (out := out) (att := att) (k := (lzTo S told F.op.length).toNat) (by omega) h2
  obtain ⟨g, rfl⟩ : ∃ g, f = g + 1 := ⟨f - 1, by omega⟩
  rw [lzRun_set hk h1 h2] at e
  exact ⟨g, by omega, by omega, by omega, e⟩
theorem lzSt_many {F : Fld} {worth : Int} {K : Nat} {R : List Int × Int} {out S told att : List Int} {many : Int} (h : lzSt F worth K R out S told att many) : 0 ≤ many ∧ many ≤ 100 := by
  obtain ⟨f, _, e2, e3, _⟩ := h
  omega
def lzTold (F : Fld) (worth : Int) : List Int := mapTo (fun a => moreF F worth [] (a : Int)) F.op.length
def lzAll (F : Fld) (worth : Int) (K : Nat) : List Int × Int := lzRun F worth K (K * (F.op.length + 1)) [] [] (lzTold F worth) (List.replicate F.op.length 0) F.op.length
theorem lzSt_first {F : Fld} {worth : Int} {K : Nat} (hn : F.op.length ≤ 7) (hK : K ≤ 7) : lzSt F worth K (lzAll F worth K) [] [] (lzTold F worth) (List.replicate F.op.length 0) F.op.length := by
  refine ⟨_, by rw [lzMu_first]; exact Nat.le_refl _, by omega, ?_, rfl⟩
  have : K * (F.op.length + 1) ≤ 7 * 8 := Nat.mul_le_mul hK (by omega)
  omega
end Go.Proofs.Ytlmlmmomfkgdcaa
