/- The lazy choice: plain words; The lazy choice takes the sites that the greedy one takes, and looks at few; UpperGain: plain words: the marginal gains in falling order, put in one after the other, and sorted; No set of at most as many sites gains more than the upper gain of any set tells; l1Put: the reference's walk. No condition. -/
import Derived.Test.YtgfbjgdofhcmaaaGreatQAd
import Derived.Deep.RegionHeld3
namespace Go.Proofs.YtgfbjgdofhcmaaaGreat
open Go.RowKit Go.Sort

/-- Of the first sites that are not in a set, the first one with the greatest number told. -/
def lzTo (S told : List Int) : Nat → Int
  | 0 => -1
  | a + 1 => if !(S.any fun x => x == (a : Int)) && (decide (lzTo S told a < 0) || decide (lget told (lzTo S told a).toNat < lget told a)) then (a : Int) else lzTo S told a
theorem lz_in {S told : List Int} {a : Nat} (h : (S.any fun x => x == (a : Int)) = true) : lzTo S told (a + 1) = lzTo S told a := by
  show (if _ then _ else _) = _
  rw [if_neg (by simp [h])]
theorem lz_first {S told : List Int} {a : Nat} (h : (S.any fun x => x == (a : Int)) = false) (h1 : lzTo S told a < 0) : lzTo S told (a + 1) = (a : Int) := by
  show (if _ then _ else _) = _
  rw [if_pos (by simp [h, h1])]
theorem lz_more {S told : List Int} {a : Nat} (h : (S.any fun x => x == (a : Int)) = false) (h1 : lget told (lzTo S told a).toNat < lget told a) : lzTo S told (a + 1) = (a : Int) := by
  show (if _ then _ else _) = _
  rw [if_pos (by simp only [h, Bool.not_false, Bool.true_and, Bool.or_eq_true, decide_eq_true_eq]; exact .inr h1)]
theorem lz_less {S told : List Int} {a : Nat} (h0 : ¬ lzTo S told a < 0) (h1 : ¬ lget told (lzTo S told a).toNat < lget told a) : lzTo S told (a + 1) = lzTo S told a := by
  show (if _ then _ else _) = _
  rw [if_neg (by simp only [Bool.and_eq_true, Bool.or_eq_true, decide_eq_true_eq]; rintro ⟨_, h | h⟩; exact h0 h; exact h1 h)]
theorem lz_bd (S told : List Int) : ∀ a : Nat, -1 ≤ lzTo S told a ∧ lzTo S told a < a
  | 0 => by simp [lzTo]
  | a + 1 => by
    have ih := lz_bd S told a
    show _ ≤ (if _ then _ else _) ∧ (if _ then _ else _) < _
    split <;> omega
theorem lz_new (S told : List Int) : ∀ a : Nat, ¬ lzTo S told a < 0 → lzTo S told a ∉ S
  | 0, h => by simp [lzTo] at h
  | a + 1, h => by
    by_cases hc : (!(S.any fun x => x == (a : Int)) && (decide (lzTo S told a < 0) || decide (lget told (lzTo S told a).toNat < lget told a))) = true
    · have e : lzTo S told (a + 1) = (a : Int) := if_pos hc
      rw [e]
      simp only [Bool.and_eq_true, Bool.not_eq_true', List.any_eq_false] at hc
      intro hm
      have := hc.1 _ hm
      simp at this
    · have e : lzTo S told (a + 1) = lzTo S told a := if_neg hc
      rw [e] at h ⊢
      exact lz_new S told a h

/-- The lazy loop, with a bound on its rounds. -/
def lzRun (F : Fld) (worth : Int) (K : Nat) : Nat → List Int → List Int → List Int → List Int → Int → List Int × Int
  | 0, out, _, _, _, many => (out, many)
  | f + 1, out, S, told, att, many =>
    if K ≤ out.length then (out, many) else
    if lzTo S told F.op.length < 0 ∨ lget told (lzTo S told F.op.length).toNat = 0 then (out, many) else
    if lget att (lzTo S told F.op.length).toNat = (out.length : Int) then lzRun F worth K f (out ++ [lzTo S told F.op.length]) (putL S (lzTo S told F.op.length)) told att many
    else lzRun F worth K f out S (told.set (lzTo S told F.op.length).toNat (moreF F worth S (lzTo S told F.op.length))) (att.set (lzTo S told F.op.length).toNat out.length) (many + 1)
theorem lzRun_done {F : Fld} {worth : Int} {K f : Nat} {out S told att : List Int} {many : Int} (h : K ≤ out.length) : lzRun F worth K f out S told att many = (out, many) := by
  cases f with
  | zero => rfl
  | succ f => exact if_pos h
theorem lzRun_stop {F : Fld} {worth : Int} {K f : Nat} {out S told att : List Int} {many : Int} (h : lzTo S told F.op.length < 0 ∨ lget told (lzTo S told F.op.length).toNat = 0) : lzRun F worth K f out S told att many = (out, many) := by
  cases f with
  | zero => rfl
  | succ f =>
    show (if _ then _ else if _ then _ else _) = _
    by_cases hk : K ≤ out.length
    · rw [if_pos hk]
    · rw [if_neg hk, if_pos h]
theorem lzRun_out {F : Fld} {worth : Int} {K f : Nat} {out S told att : List Int} {many : Int} (hk : ¬ K ≤ out.length) (h : ¬ (lzTo S told F.op.length < 0 ∨ lget told (lzTo S told F.op.length).toNat = 0)) (h2 : lget att (lzTo S told F.op.length).toNat = (out.length : Int)) :
    lzRun F worth K (f + 1) out S told att many = lzRun F worth K f (out ++ [lzTo S told F.op.length]) (putL S (lzTo S told F.op.length)) told att many := by
  show (if _ then _ else if _ then _ else if _ then _ else _) = _
  rw [if_neg hk, if_neg h, if_pos h2]
theorem lzRun_set {F : Fld} {worth : Int} {K f : Nat} {out S told att : List Int} {many : Int} (hk : ¬ K ≤ out.length) (h : ¬ (lzTo S told F.op.length < 0 ∨ lget told (lzTo S told F.op.length).toNat = 0)) (h2 : ¬ lget att (lzTo S told F.op.length).toNat = (out.length : Int)) :
    lzRun F worth K (f + 1) out S told att many = lzRun F worth K f out S (told.set (lzTo S told F.op.length).toNat (moreF F worth S (lzTo S told F.op.length))) (att.set (lzTo S told F.op.length).toNat out.length) (many + 1) := by
  show (if _ then _ else if _ then _ else if _ then _ else _) = _
  rw [if_neg hk, if_neg h, if_neg h2]
theorem lzRun_len {F : Fld} {worth : Int} {K : Nat} : ∀ (f : Nat) (out S told att : List Int) (many : Int), out.length ≤ K → (lzRun F worth K f out S told att many).1.length ≤ K
  | 0, _, _, _, _, _, h => h
  | f + 1, out, S, told, att, many, h => by
    by_cases hk : K ≤ out.length
    · rw [lzRun_done hk]; exact h
    by_cases h1 : lzTo S told F.op.length < 0 ∨ lget told (lzTo S told F.op.length).toNat = 0
    · rw [lzRun_stop h1]; exact h
    by_cases h2 : lget att (lzTo S told F.op.length).toNat = (out.length : Int)
    · rw [lzRun_out hk h1 h2]; exact lzRun_len f _ _ _ _ _ (by simp; omega)
    · rw [lzRun_set hk h1 h2]; exact lzRun_len f _ _ _ _ _ h
/-- What bounds the rounds. -/
def lzMu (n K : Nat) (out att : List Int) : Nat := (K - out.length) * (n + 1) + att.countP (fun x => x != (out.length : Int))
theorem lzMu_out {n K : Nat} {out att : List Int} {x : Int} (hk : ¬ K ≤ out.length) (ha : att.length = n) : lzMu n K (out ++ [x]) att < lzMu n K out att := by
  unfold lzMu
  have h1 : att.countP (fun y => y != ((out ++ [x]).length : Int)) ≤ n := by rw [← ha]; exact List.countP_le_length
  have e : K - out.length = (K - (out ++ [x]).length) + 1 := by simp; omega
  rw [e, Nat.add_mul]
  omega
theorem count_set {p : Int → Bool} {v : Int} (hv : p v = false) : ∀ {xs : List Int} {k : Nat}, (hk : k < xs.length) → p xs[k] = true → (xs.set k v).countP p + 1 = xs.countP p
  | x :: xs, 0, _, h => by
    have h' : p x = true := h
    simp [List.countP_cons, hv, h']
  | x :: xs, k + 1, hk, h => by
    have ih := count_set (p := p) hv (xs := xs) (k := k) (by simpa using hk) (by simpa using h)
    simp only [List.set_cons_succ, List.countP_cons]
    omega
theorem lzMu_set {n K k : Nat} {out att : List Int} (hk : k < att.length) (h : ¬ lget att k = (out.length : Int)) : lzMu n K out (att.set k out.length) < lzMu n K out att := by
  unfold lzMu
  have := count_set (p := fun x => x != (out.length : Int)) (v := (out.length : Int)) (by simp) hk (by
    have e : lget att k = att[k] := lget_at hk
    rw [e] at h; simpa using h)
  omega
theorem lzMu_first (n K : Nat) : lzMu n K [] (List.replicate n 0) = K * (n + 1) := by
  have h : (List.replicate n (0 : Int)).countP (fun x => x != 0) = 0 := by
    rw [List.countP_eq_zero]
    intro x hx
    have := List.eq_of_mem_replicate hx
    subst this; simp
  show (K - 0) * (n + 1) + (List.replicate n (0 : Int)).countP (fun x => x != 0) = _
  rw [h]; rfl
/-- The state of the lazy loop: it leads to the result, and the rounds that are left are bounded. -/
def lzSt (F : Fld) (worth : Int) (K : Nat) (R : List Int × Int) (out S told att : List Int) (many : Int) : Prop :=
  ∃ f, lzMu F.op.length K out att ≤ f ∧ 0 ≤ many ∧ many + f ≤ 100 ∧ lzRun F worth K f out S told att many = R
theorem lzSt_done {F : Fld} {worth : Int} {K : Nat} {R : List Int × Int} {out S told att : List Int} {many : Int} (h : lzSt F worth K R out S told att many) (hk : K ≤ out.length) : R = (out, many) := by
  obtain ⟨f, _, _, _, e⟩ := h
  rw [← e, lzRun_done hk]
theorem lzSt_stop {F : Fld} {worth : Int} {K : Nat} {R : List Int × Int} {out S told att : List Int} {many : Int} (h : lzSt F worth K R out S told att many) (h1 : lzTo S told F.op.length < 0 ∨ lget told (lzTo S told F.op.length).toNat = 0) : R = (out, many) := by
  obtain ⟨f, _, _, _, e⟩ := h
  rw [← e, lzRun_stop h1]
theorem lzSt_out {F : Fld} {worth : Int} {K : Nat} {R : List Int × Int} {out S told att : List Int} {many : Int} (h : lzSt F worth K R out S told att many) (hk : ¬ K ≤ out.length) (ha : att.length = F.op.length) (h1 : ¬ (lzTo S told F.op.length < 0 ∨ lget told (lzTo S told F.op.length).toNat = 0)) (h2 : lget att (lzTo S told F.op.length).toNat = (out.length : Int)) :
    lzSt F worth K R (out ++ [lzTo S told F.op.length]) (putL S (lzTo S told F.op.length)) told att many := by
  obtain ⟨f, e1, e2, e3, e⟩ := h
  have hm := lzMu_out (x := lzTo S told F.op.length) hk ha
  obtain ⟨g, rfl⟩ : ∃ g, f = g + 1 := ⟨f - 1, by omega⟩
  rw [lzRun_out hk h1 h2] at e
  exact ⟨g, by omega, e2, by omega, e⟩
theorem lzSt_set {F : Fld} {worth : Int} {K : Nat} {R : List Int × Int} {out S told att : List Int} {many : Int} (h : lzSt F worth K R out S told att many) (hk : ¬ K ≤ out.length) (ha : att.length = F.op.length) (h1 : ¬ (lzTo S told F.op.length < 0 ∨ lget told (lzTo S told F.op.length).toNat = 0)) (h2 : ¬ lget att (lzTo S told F.op.length).toNat = (out.length : Int)) :
    lzSt F worth K R out S (told.set (lzTo S told F.op.length).toNat (moreF F worth S (lzTo S told F.op.length))) (att.set (lzTo S told F.op.length).toNat out.length) (many + 1) := by
  obtain ⟨f, e1, e2, e3, e⟩ := h
  have hb := lz_bd S told F.op.length
  have hm := lzMu_set (n := F.op.length) (K := K) (out := out) (att := att) (k := (lzTo S told F.op.length).toNat) (by omega) h2
  obtain ⟨g, rfl⟩ : ∃ g, f = g + 1 := ⟨f - 1, by omega⟩
  rw [lzRun_set hk h1 h2] at e
  exact ⟨g, by omega, by omega, by omega, e⟩
theorem lzSt_many {F : Fld} {worth : Int} {K : Nat} {R : List Int × Int} {out S told att : List Int} {many : Int} (h : lzSt F worth K R out S told att many) : 0 ≤ many ∧ many ≤ 100 := by
  obtain ⟨f, _, e2, e3, _⟩ := h
  omega
def lzTold (F : Fld) (worth : Int) : List Int := mapTo (fun a => moreF F worth [] (a : Int)) F.op.length
def lzAll (F : Fld) (worth : Int) (K : Nat) : List Int × Int := lzRun F worth K (K * (F.op.length + 1)) [] [] (lzTold F worth) (List.replicate F.op.length 0) F.op.length
theorem lzSt_first {F : Fld} {worth : Int} {K : Nat} (hn : F.op.length ≤ 7) (hK : K ≤ 7) : lzSt F worth K (lzAll F worth K) [] [] (lzTold F worth) (List.replicate F.op.length 0) F.op.length := by
  refine ⟨_, by rw [lzMu_first]; exact Nat.le_refl _, by omega, ?_, rfl⟩
  have : K * (F.op.length + 1) ≤ 7 * 8 := Nat.mul_le_mul hK (by omega)
  omega
end Go.Proofs.YtgfbjgdofhcmaaaGreat

namespace Go.Proofs.YtgfbjgdofhcmaaaGreat
open Go.RowKit Go.Sort

theorem any_memS {S : List Int} {a : Int} : (S.any fun x => x == a) = true ↔ a ∈ S := by
  rw [List.any_eq_true]
  constructor
  · rintro ⟨x, hx, e⟩
    have : x = a := by simpa using e
    exact this ▸ hx
  · intro h; exact ⟨a, h, by simp⟩
theorem lz_facts (S told : List Int) : ∀ k, (lzTo S told k < 0 → ∀ b, b < k → (b : Int) ∈ S) ∧ (¬ lzTo S told k < 0 → ∀ b, b < k → (b : Int) ∉ S → lget told b ≤ lget told (lzTo S told k).toNat) ∧ (∀ b : Nat, (b : Int) < lzTo S told k → (b : Int) ∉ S → lget told b < lget told (lzTo S told k).toNat)
  | 0 => ⟨fun _ b hb => by omega, fun h => absurd (show lzTo S told 0 < 0 from (by decide : (-1 : Int) < 0)) h, fun b hb => by
      have e : lzTo S told 0 = -1 := rfl
      rw [e] at hb; omega⟩
  | k + 1 => by
    obtain ⟨h1, h2, h3⟩ := lz_facts S told k
    have hbd := lz_bd S told k
    by_cases hin : (S.any fun x => x == (k : Int)) = true
    · rw [lz_in hin]
      have hk : (k : Int) ∈ S := any_memS.1 hin
      refine ⟨fun h b hb => ?_, fun h b hb hn => ?_, h3⟩
      · by_cases e : b = k
        · subst e; exact hk
        · exact h1 h b (by omega)
      · by_cases e : b = k
        · subst e; exact absurd hk hn
        · exact h2 h b (by omega) hn
    · have hin' : (S.any fun x => x == (k : Int)) = false := Bool.eq_false_iff.mpr hin
      by_cases hneg : lzTo S told k < 0
      · rw [lz_first hin' hneg]
        have e0 : ((k : Int)).toNat = k := by omega
        rw [e0]
        refine ⟨fun h => by omega, fun _ b hb hn => ?_, fun b hb hn => ?_⟩
        · by_cases e : b = k
          · subst e; exact Int.le_refl _
          · exact absurd (h1 hneg b (by omega)) hn
        · exact absurd (h1 hneg b (by omega)) hn
      · by_cases hlt : lget told (lzTo S told k).toNat < lget told k
        · rw [lz_more hin' hlt]
          have e0 : ((k : Int)).toNat = k := by omega
          rw [e0]
          refine ⟨fun h => by omega, fun _ b hb hn => ?_, fun b hb hn => ?_⟩
          · by_cases e : b = k
            · subst e; exact Int.le_refl _
            · have := h2 hneg b (by omega) hn; omega
          · have := h2 hneg b (by omega) hn; omega
        · rw [lz_less hneg hlt]
          refine ⟨fun h => absurd h hneg, fun h b hb hn => ?_, h3⟩
          by_cases e : b = k
          · subst e; omega
          · exact h2 h b (by omega) hn
structure LzI (F : Fld) (worth : Int) (out S told att : List Int) : Prop where
  tl : told.length = F.op.length
  al : att.length = F.op.length
  ub : ∀ a, a < F.op.length → (a : Int) ∉ S → moreF F worth S a ≤ lget told a
  ex : ∀ a, a < F.op.length → (a : Int) ∉ S → lget att a = (out.length : Int) → lget told a = moreF F worth S a
  le : ∀ a, a < F.op.length → lget att a ≤ (out.length : Int)
theorem lget_setN {xs : List Int} {k b : Nat} {z : Int} (hk : k < xs.length) : lget (xs.set k z) b = if b = k then z else lget xs b := by
  by_cases e : b = k
  · subst e
    rw [if_pos rfl, lget_at (by rw [List.length_set]; exact hk), List.getElem_set_self]
  · rw [if_neg e]
    unfold lget
    rw [List.getD_eq_getElem?_getD, List.getD_eq_getElem?_getD, List.getElem?_set_ne (by omega)]
theorem next_le0 {F : Fld} {worth : Int} {S : List Int} (h : ∀ a, a < F.op.length → (a : Int) ∉ S → moreF F worth S a ≤ 0) : (nextF F worth (fun _ => true) S).1 < 0 := by
  have e : nextF F worth (fun _ => true) S = (-1, 0) := pick_none (fun b hb ho => h b hb (okF_out ho))
  rw [e]; decide
theorem lz_grd {F : Fld} {worth : Int} {K : Nat} : ∀ (f : Nat) (out S told att : List Int) (many : Int), LzI F worth out S told att → lzMu F.op.length K out att ≤ f →
    (lzRun F worth K f out S told att many).1 = grd F worth (fun _ => true) (K - out.length) out S
  | 0, out, S, told, att, many, _, hf => by
    have : K - out.length = 0 := by
      unfold lzMu at hf
      rcases Nat.eq_zero_or_pos (K - out.length) with h | h
      · exact h
      · have : 1 * (F.op.length + 1) ≤ (K - out.length) * (F.op.length + 1) := Nat.mul_le_mul_right _ h
        omega
    rw [this]; rfl
  | f + 1, out, S, told, att, many, hI, hf => by
    by_cases hk : K ≤ out.length
    · rw [lzRun_done hk, show K - out.length = 0 from by omega]; rfl
    obtain ⟨L1, L2, L3⟩ := lz_facts S told F.op.length
    have hbd := lz_bd S told F.op.length
    by_cases h1 : lzTo S told F.op.length < 0 ∨ lget told (lzTo S told F.op.length).toNat = 0
    · rw [lzRun_stop h1, grd_stop (next_le0 (fun a ha hn => ?_))]
      by_cases h2 : lzTo S told F.op.length < 0
      · exact absurd (L1 h2 a ha) hn
      · have h3 := h1.resolve_left h2
        have h4 := L2 h2 a ha hn
        have h5 := hI.ub a ha hn
        omega
    · have hneg : ¬ lzTo S told F.op.length < 0 := fun h => h1 (.inl h)
      have hnew := lz_new S told F.op.length hneg
      obtain ⟨z, hz⟩ := Int.eq_ofNat_of_zero_le (show 0 ≤ lzTo S told F.op.length by omega)
      have hzn : z < F.op.length := by omega
      by_cases h2 : lget att (lzTo S told F.op.length).toNat = (out.length : Int)
      · rw [lzRun_out hk h1 h2]
        rw [hz] at h1 h2 hnew L2 L3 ⊢
        rw [Int.toNat_natCast] at h1 h2 L2 L3
        have hex := hI.ex z hzn hnew h2
        have hnn := more_nn F worth S (z : Int)
        have hpos : 0 < moreF F worth S (z : Int) := by
          have : lget told z ≠ 0 := fun e => h1 (.inr e)
          omega
        have hnx : nextF F worth (fun _ => true) S = ((z : Int), moreF F worth S (z : Int)) := by
          refine pick_is (ok := okF (fun _ => true) S) (val := fun a => moreF F worth S (a : Int)) hzn (anyS_ok hnew rfl) hpos (fun b hb ho => ?_) (fun b hb ho => ?_)
          · have h4 := L2 (by omega) b hb (okF_out ho)
            have h5 := hI.ub b hb (okF_out ho)
            show moreF F worth S (b : Int) ≤ moreF F worth S (z : Int)
            omega
          · have h4 := L3 b (by omega) (okF_out ho)
            have h5 := hI.ub b (by omega) (okF_out ho)
            show moreF F worth S (b : Int) < moreF F worth S (z : Int)
            omega
        have hI2 : LzI F worth (out ++ [(z : Int)]) (putL S (z : Int)) told att := by
          refine ⟨hI.tl, hI.al, fun a ha hn => ?_, fun a ha hn he => ?_, fun a ha => ?_⟩
          · have h4 := hI.ub a ha (fun h => hn (mem_putL.2 (.inl h)))
            have h5 := more_anti (F := F) (worth := worth) (S := S) (S' := putL S (z : Int)) (a := (a : Int)) (fun x hx => mem_putL.2 (.inl hx))
            omega
          · have := hI.le a ha
            simp at he; omega
          · have := hI.le a ha
            simp; omega
        have hm := lzMu_out (n := F.op.length) (x := (z : Int)) hk hI.al
        rw [lz_grd f _ _ _ _ many hI2 (by omega)]
        have e : K - out.length = (K - (out ++ [(z : Int)]).length) + 1 := by simp; omega
        have hgo : ¬ (nextF F worth (fun _ => true) S).1 < 0 := by rw [hnx]; show ¬ (z : Int) < 0; omega
        rw [e, grd_go hgo, hnx]
      · rw [lzRun_set hk h1 h2]
        have hm := lzMu_set (n := F.op.length) (K := K) (out := out) (att := att) (k := (lzTo S told F.op.length).toNat) (by rw [hI.al]; omega) h2
        rw [hz] at hm ⊢
        rw [Int.toNat_natCast] at hm ⊢
        have hzt : z < told.length := by rw [hI.tl]; exact hzn
        have hza : z < att.length := by rw [hI.al]; exact hzn
        have hI2 : LzI F worth out S (told.set z (moreF F worth S (z : Int))) (att.set z (out.length : Int)) := by
          refine ⟨by rw [List.length_set]; exact hI.tl, by rw [List.length_set]; exact hI.al, fun a ha hn => ?_, fun a ha hn he => ?_, fun a ha => ?_⟩
          · rw [lget_setN hzt]
            split
            · rename_i e; subst e; exact Int.le_refl _
            · exact hI.ub a ha hn
          · rw [lget_setN hzt]
            split
            · rename_i e; subst e; rfl
            · rename_i e
              rw [lget_setN hza, if_neg e] at he
              exact hI.ex a ha hn he
          · rw [lget_setN hza]
            split
            · exact Int.le_refl _
            · exact hI.le a ha
        exact lz_grd f _ _ _ _ _ hI2 (by omega)
theorem lz_many {F : Fld} {worth : Int} {K : Nat} : ∀ (f : Nat) (out S told att : List Int) (many : Int), att.length = F.op.length → out.length ≤ K →
    many ≤ (lzRun F worth K f out S told att many).2 ∧ (lzRun F worth K f out S told att many).2 ≤ many + (att.countP (fun x => x != (out.length : Int)) : Nat) + ((K - out.length) * F.op.length : Nat)
  | 0, out, S, told, att, many, _, _ => by
    show many ≤ many ∧ many ≤ _
    omega
  | f + 1, out, S, told, att, many, ha, ho => by
    by_cases hk : K ≤ out.length
    · rw [lzRun_done hk]
      show many ≤ many ∧ many ≤ _
      omega
    by_cases h1 : lzTo S told F.op.length < 0 ∨ lget told (lzTo S told F.op.length).toNat = 0
    · rw [lzRun_stop h1]
      show many ≤ many ∧ many ≤ _
      omega
    · have hbd := lz_bd S told F.op.length
      have hneg : ¬ lzTo S told F.op.length < 0 := fun h => h1 (.inl h)
      by_cases h2 : lget att (lzTo S told F.op.length).toNat = (out.length : Int)
      · rw [lzRun_out hk h1 h2]
        obtain ⟨i1, i2⟩ := lz_many (F := F) (worth := worth) (K := K) f (out ++ [lzTo S told F.op.length]) (putL S (lzTo S told F.op.length)) told att many ha (by simp; omega)
        have hc : att.countP (fun x => x != ((out ++ [lzTo S told F.op.length]).length : Int)) ≤ F.op.length := by rw [← ha]; exact List.countP_le_length
        have e : K - out.length = (K - (out ++ [lzTo S told F.op.length]).length) + 1 := by simp; omega
        rw [e, Nat.add_mul, Nat.one_mul]
        generalize (K - (out ++ [lzTo S told F.op.length]).length) * F.op.length = p at *
        omega
      · rw [lzRun_set hk h1 h2]
        have hz : (lzTo S told F.op.length).toNat < att.length := by omega
        obtain ⟨i1, i2⟩ := lz_many (F := F) (worth := worth) (K := K) f out S (told.set (lzTo S told F.op.length).toNat (moreF F worth S (lzTo S told F.op.length))) (att.set (lzTo S told F.op.length).toNat out.length) (many + 1) (by rw [List.length_set]; exact ha) ho
        have hc := count_set (p := fun x => x != (out.length : Int)) (v := (out.length : Int)) (by simp) hz (by
          have e : lget att (lzTo S told F.op.length).toNat = att[(lzTo S told F.op.length).toNat] := lget_at hz
          rw [e] at h2; simpa using h2)
        omega
theorem lzI_first {F : Fld} {worth : Int} : LzI F worth [] [] (lzTold F worth) (List.replicate F.op.length 0) := by
  have ht : ∀ a, a < F.op.length → lget (lzTold F worth) a = moreF F worth [] (a : Int) := fun a ha => by
    unfold lzTold
    rw [lget_at (by rw [mapTo_len]; exact ha), mapTo_get ha]
  refine ⟨mapTo_len _ _, List.length_replicate, fun a ha _ => by rw [ht a ha]; exact Int.le_refl _, fun a ha _ _ => ht a ha, fun a ha => ?_⟩
  rw [lget_at (by rw [List.length_replicate]; exact ha), List.getElem_replicate]
  simp
/-- The lazy sites are the greedy ones, and few marginal gains are counted. -/
theorem lz_is {F : Fld} {worth : Int} {K : Nat} : (lzAll F worth K).1 = grd F worth (fun _ => true) K [] [] ∧ (F.op.length : Int) ≤ (lzAll F worth K).2 ∧ (lzAll F worth K).2 ≤ (F.op.length : Int) + F.op.length * K := by
  have h1 := lz_grd (K := K) (K * (F.op.length + 1)) [] [] (lzTold F worth) (List.replicate F.op.length 0) F.op.length lzI_first (by rw [lzMu_first]; exact Nat.le_refl _)
  obtain ⟨h2, h3⟩ := lz_many (K := K) (worth := worth) (K * (F.op.length + 1)) [] [] (lzTold F worth) (List.replicate F.op.length 0) F.op.length List.length_replicate (Nat.zero_le _)
  have hc : (List.replicate F.op.length (0 : Int)).countP (fun x => x != 0) = 0 := by
    rw [List.countP_eq_zero]
    intro x hx
    have := List.eq_of_mem_replicate hx
    subst this; simp
  refine ⟨h1, h2, ?_⟩
  have e : ((([] : List Int).length : Nat) : Int) = 0 := rfl
  rw [e, hc] at h3
  have e2 : (((K - ([] : List Int).length) * F.op.length : Nat) : Int) = (F.op.length : Int) * K := by
    rw [Int.natCast_mul, Int.mul_comm]; rfl
  rw [e2] at h3
  show (lzRun _ _ _ _ _ _ _ _ _).2 ≤ _
  omega
end Go.Proofs.YtgfbjgdofhcmaaaGreat

namespace Go.Proofs.YtgfbjgdofhcmaaaGreat
open Go.RowKit Go.Sort

def insD (m : Int) (L : List Int) : List Int := L.takeWhile (fun x => decide (m ≤ x)) ++ m :: L.dropWhile (fun x => decide (m ≤ x))
theorem insD_at {L : List Int} {m : Int} {k : Nat} (h1 : ∀ x ∈ L.take k, m ≤ x) (h2 : ∀ h : k < L.length, L[k] < m) : insD m L = L.take k ++ m :: L.drop k := by
  have e : L = L.take k ++ L.drop k := (List.take_append_drop k L).symm
  have hd : (L.drop k).takeWhile (fun x => decide (m ≤ x)) = [] ∧ (L.drop k).dropWhile (fun x => decide (m ≤ x)) = L.drop k := by
    by_cases hk : k < L.length
    · have := h2 hk
      rw [List.drop_eq_getElem_cons hk, List.takeWhile_cons, List.dropWhile_cons, if_neg (by simp; omega), if_neg (by simp; omega)]
      exact ⟨rfl, rfl⟩
    · rw [List.drop_eq_nil_of_le (by omega)]; exact ⟨rfl, rfl⟩
  have e1 : L.takeWhile (fun x => decide (m ≤ x)) = L.take k := by
    conv => lhs; rw [e]
    rw [List.takeWhile_append_of_pos (by intro x hx; simpa using h1 x hx), hd.1, List.append_nil]
  have e2 : L.dropWhile (fun x => decide (m ≤ x)) = L.drop k := by
    conv => lhs; rw [e]
    rw [List.dropWhile_append_of_pos (by intro x hx; simpa using h1 x hx), hd.2]
  rw [insD, e1, e2]
theorem insD_perm (m : Int) (L : List Int) : (insD m L).Perm (m :: L) := by
  have h : (insD m L).Perm (m :: (L.takeWhile (fun x => decide (m ≤ x)) ++ L.dropWhile (fun x => decide (m ≤ x)))) := List.perm_middle
  rwa [List.takeWhile_append_dropWhile] at h
theorem insD_len (m : Int) (L : List Int) : (insD m L).length = L.length + 1 := (insD_perm m L).length_eq
theorem insD_drop {m : Int} : ∀ {L : List Int}, L.Pairwise (fun a b => b ≤ a) → ∀ x ∈ L.dropWhile (fun x => decide (m ≤ x)), x < m
  | [], _, x, hx => by simp at hx
  | y :: t, hs, x, hx => by
    rw [List.pairwise_cons] at hs
    rw [List.dropWhile_cons] at hx
    by_cases h : m ≤ y
    · rw [if_pos (by simpa using h)] at hx
      exact insD_drop hs.2 x hx
    · rw [if_neg (by simpa using h)] at hx
      rcases List.mem_cons.1 hx with rfl | hx
      · omega
      · have := hs.1 x hx; omega
theorem insD_take {m : Int} : ∀ {L : List Int}, ∀ x ∈ L.takeWhile (fun x => decide (m ≤ x)), m ≤ x
  | [], x, hx => by simp at hx
  | y :: t, x, hx => by
    rw [List.takeWhile_cons] at hx
    by_cases h : m ≤ y
    · rw [if_pos (by simpa using h)] at hx
      rcases List.mem_cons.1 hx with rfl | hx
      · exact h
      · exact insD_take x hx
    · rw [if_neg (by simpa using h)] at hx
      simp at hx
theorem insD_sorted {m : Int} {L : List Int} (hs : L.Pairwise (fun a b => b ≤ a)) : (insD m L).Pairwise (fun a b => b ≤ a) := by
  unfold insD
  rw [List.pairwise_append, List.pairwise_cons]
  have hd := insD_drop (m := m) hs
  refine ⟨hs.sublist (List.takeWhile_sublist _), ⟨fun x hx => by have := hd x hx; omega, hs.sublist (List.dropWhile_sublist _)⟩, fun x hx y hy => ?_⟩
  have h1 := insD_take x hx
  rcases List.mem_cons.1 hy with rfl | hy
  · exact h1
  · have := hd y hy; omega
def desc (M : List Int) : List Int := M.foldl (fun L m => insD m L) []
theorem desc_snoc (M : List Int) (m : Int) : desc (M ++ [m]) = insD m (desc M) := by rw [desc, List.foldl_append]; rfl
theorem desc_both (M : List Int) : (desc M).Perm M ∧ (desc M).Pairwise (fun a b => b ≤ a) := by
  have key : ∀ (M L : List Int), L.Pairwise (fun a b => b ≤ a) → (M.foldl (fun L m => insD m L) L).Perm (M ++ L) ∧ (M.foldl (fun L m => insD m L) L).Pairwise (fun a b => b ≤ a) := by
    intro M
    induction M with
    | nil => intro L h; exact ⟨List.Perm.refl _, h⟩
    | cons m t ih =>
      intro L h
      have := ih (insD m L) (insD_sorted h)
      refine ⟨this.1.trans ?_, this.2⟩
      exact ((insD_perm m L).append_left t).trans List.perm_middle
  have := key M [] List.Pairwise.nil
  rw [List.append_nil] at this
  exact this
theorem desc_len (M : List Int) : (desc M).length = M.length := (desc_both M).1.length_eq
theorem desc_mem {M : List Int} {x : Int} (h : x ∈ desc M) : x ∈ M := (desc_both M).1.subset h
theorem desc_sort (M : List Int) : (M.mergeSort fun x y => decide (x ≤ y)).reverse = desc M := by
  have h1 := List.pairwise_mergeSort (le := fun (x y : Int) => decide (x ≤ y)) (fun a b c h h' => by simp at *; omega) (fun a b => by simp; omega) M
  have h2 : ((M.mergeSort fun x y => decide (x ≤ y)).reverse).Pairwise (fun a b => b ≤ a) := by
    rw [List.pairwise_reverse]
    exact h1.imp (by intro a b h; simpa using h)
  exact List.Perm.eq_of_pairwise (fun a b _ _ h h' => by omega) h2 (desc_both M).2 (((List.reverse_perm _).trans (List.mergeSort_perm _ _)).trans (desc_both M).1.symm)
/-- The marginal gains of the sites below k that are not in the set. -/
def margsTo (F : Fld) (worth : Int) (S : List Int) (k : Nat) : List Int := ((List.range k).filter fun (a : Nat) => !(S.any fun x => x == (a : Int))).map fun (a : Nat) => moreF F worth S (a : Int)
theorem margs_no {F : Fld} {worth : Int} {S : List Int} {k : Nat} (h : (S.any fun x => x == (k : Int)) = true) : margsTo F worth S (k + 1) = margsTo F worth S k := by
  simp only [margsTo, List.range_succ, List.filter_append, List.map_append]
  rw [show [k].filter (fun (a : Nat) => !(S.any fun x => x == (a : Int))) = [] from by simp [List.filter, h]]
  simp
theorem margs_yes {F : Fld} {worth : Int} {S : List Int} {k : Nat} (h : (S.any fun x => x == (k : Int)) = false) : margsTo F worth S (k + 1) = margsTo F worth S k ++ [moreF F worth S k] := by
  simp only [margsTo, List.range_succ, List.filter_append, List.map_append]
  rw [show [k].filter (fun (a : Nat) => !(S.any fun x => x == (a : Int))) = [k] from by simp [List.filter, h]]
  simp
theorem margs_len (F : Fld) (worth : Int) (S : List Int) (k : Nat) : (margsTo F worth S k).length ≤ k := by
  rw [margsTo, List.length_map]
  exact Nat.le_trans (List.length_filter_le _ _) (by simp)
theorem margs_bd {F : Fld} (hg : goodF F = true) {worth : Int} (h0 : 0 ≤ worth) (h1 : worth ≤ 999) (S : List Int) (k : Nat) : ∀ x ∈ margsTo F worth S k, -6993 ≤ x ∧ x ≤ 6993 := by
  intro x hx
  rw [margsTo, List.mem_map] at hx
  obtain ⟨a, _, rfl⟩ := hx
  exact moreF_bd hg h0 h1 S a
theorem sum_bd {b : Int} : ∀ {L : List Int}, (∀ x ∈ L, -b ≤ x ∧ x ≤ b) → -(L.length * b) ≤ L.sum ∧ L.sum ≤ L.length * b
  | [], _ => by simp
  | x :: t, h => by
    have h1 := sum_bd (L := t) fun y hy => h y (List.mem_cons_of_mem _ hy)
    have h2 := h x (by simp)
    have e : (((x :: t).length : Nat) : Int) * b = t.length * b + b := by rw [List.length_cons, Int.natCast_add, Int.add_mul]; simp
    rw [List.sum_cons, e]; omega
def allM (F : Fld) (worth : Int) (S : List Int) : List Int := desc (margsTo F worth S F.op.length)
theorem allM_facts {F : Fld} (hg : goodF F = true) {worth : Int} (h0 : 0 ≤ worth) (h1 : worth ≤ 999) (S : List Int) : (allM F worth S).length ≤ 7 ∧ (∀ x ∈ allM F worth S, -6993 ≤ x ∧ x ≤ 6993) ∧ ∀ q : Nat, -48951 ≤ ((allM F worth S).take q).sum ∧ ((allM F worth S).take q).sum ≤ 48951 := by
  have h7 := (goodF_iff.1 hg).1.2
  have hl : (allM F worth S).length ≤ 7 := by rw [allM, desc_len]; have := margs_len F worth S F.op.length; omega
  have hm : ∀ x ∈ allM F worth S, -6993 ≤ x ∧ x ≤ 6993 := fun x hx => margs_bd hg h0 h1 S _ x (desc_mem hx)
  refine ⟨hl, hm, fun q => ?_⟩
  have := sum_bd (b := 6993) (L := (allM F worth S).take q) fun x hx => hm x (List.mem_of_mem_take hx)
  have hq : ((allM F worth S).take q).length ≤ 7 := by rw [List.length_take]; omega
  omega
def upF (F : Fld) (worth : Int) (S : List Int) (K : Nat) : Int := gainF F worth S + ((allM F worth S).take K).sum
theorem upF_bd {F : Fld} (hg : goodF F = true) {worth : Int} (h0 : 0 ≤ worth) (h1 : worth ≤ 999) (S : List Int) (K : Nat) : -48951 ≤ upF F worth S K ∧ upF F worth S K ≤ 55944 := by
  have a := gainF_bd hg h0 h1 S
  have b := (allM_facts hg h0 h1 S).2.2 K
  unfold upF; omega
end Go.Proofs.YtgfbjgdofhcmaaaGreat

namespace Go.Proofs.YtgfbjgdofhcmaaaGreat
open Go.RowKit Go.Sort

theorem perm_sumG {L M : List Int} (h : L.Perm M) : L.sum = M.sum := by
  induction h with
  | nil => rfl
  | cons x _ ih => rw [List.sum_cons, List.sum_cons, ih]
  | swap x y l => simp only [List.sum_cons]; omega
  | trans _ _ h1 h2 => rw [h1, h2]
theorem sum_nnG {l : List Int} (h : ∀ x ∈ l, 0 ≤ x) : 0 ≤ l.sum := by
  induction l with
  | nil => simp
  | cons a t ih =>
    rw [List.sum_cons]
    have := h a List.mem_cons_self
    have := ih (fun x hx => h x (List.mem_cons_of_mem _ hx))
    omega
theorem sum_subG {g : Int → Int} (hg : ∀ x, 0 ≤ g x) : ∀ (L T : List Int), L.Nodup → (∀ x ∈ L, x ∈ T ∨ g x = 0) → (L.map g).sum ≤ (T.map g).sum
  | [], T, _, _ => by
    rw [List.map_nil, List.sum_nil]
    exact sum_nnG (fun x hx => by obtain ⟨y, _, rfl⟩ := List.mem_map.1 hx; exact hg y)
  | a :: t, T, hn, hs => by
    rw [List.nodup_cons] at hn
    rcases hs a List.mem_cons_self with ha | ha
    · obtain ⟨T1, T2, rfl⟩ := List.append_of_mem ha
      have ih := sum_subG hg t (T1 ++ T2) hn.2 (fun x hx => by
        have := hs x (List.mem_cons_of_mem _ hx)
        rw [List.mem_append, List.mem_cons] at this
        rw [List.mem_append]
        rcases this with (h | h | h) | h
        · exact .inl (.inl h)
        · exact absurd (h ▸ hx) hn.1
        · exact .inl (.inr h)
        · exact .inr h)
      rw [List.map_append, List.sum_append] at ih
      rw [List.map_cons, List.sum_cons, List.map_append, List.sum_append, List.map_cons, List.sum_cons]
      omega
    · have ih := sum_subG hg t T hn.2 (fun x hx => hs x (List.mem_cons_of_mem _ hx))
      rw [List.map_cons, List.sum_cons, ha]
      omega
theorem map_leG {g h : Int → Int} {C : List Int} (hl : ∀ x ∈ C, g x ≤ h x) : (C.map g).sum ≤ (C.map h).sum := by
  induction C with
  | nil => simp
  | cons a t ih =>
    rw [List.map_cons, List.map_cons, List.sum_cons, List.sum_cons]
    have := hl a List.mem_cons_self
    have := ih (fun x hx => hl x (List.mem_cons_of_mem _ hx))
    omega
theorem sum_addG (g h : Int → Int) : ∀ C : List Int, (C.map fun x => g x + h x).sum = (C.map g).sum + (C.map h).sum
  | [] => by simp
  | a :: t => by
    have := sum_addG g h t
    rw [List.map_cons, List.map_cons, List.map_cons, List.sum_cons, List.sum_cons, List.sum_cons, this]
    omega
theorem sum_constG (c : Int) : ∀ C : List Int, (C.map fun _ => c).sum = C.length * c
  | [] => by simp
  | a :: t => by
    have := sum_constG c t
    rw [List.map_cons, List.sum_cons, this, List.length_cons, Int.natCast_add, Int.add_mul]
    omega
/-- In a falling list the first ones exceed a bound together as much as all do. -/
theorem over_take {L : List Int} {K : Nat} {t : Int} (h1 : ∀ x ∈ L.take K, t ≤ x) (h2 : ∀ x ∈ L.drop K, x ≤ t) : (L.map fun x => max 0 (x - t)).sum = (L.take K).sum - ((L.take K).length : Int) * t := by
  conv => lhs; rw [← List.take_append_drop K L]
  rw [List.map_append, List.sum_append]
  have e1 : ((L.take K).map fun x => max 0 (x - t)) = (L.take K).map fun x => x + -t := List.map_congr_left (fun x hx => by have := h1 x hx; omega)
  have e2 : ((L.drop K).map fun x => max 0 (x - t)) = (L.drop K).map fun _ => 0 := List.map_congr_left (fun x hx => by have := h2 x hx; omega)
  have e3 : ((L.take K).map fun x => x + -t).sum = (L.take K).sum + ((L.take K).length : Int) * -t := by
    have := sum_addG (fun x => x) (fun _ => -t) (L.take K)
    rw [sum_constG, List.map_id'] at this
    exact this
  rw [e1, e2, e3, sum_constG, Int.mul_zero, Int.mul_neg]
  omega
theorem margs_sites (F : Fld) (worth : Int) (S : List Int) : margsTo F worth S F.op.length = (((List.range F.op.length).filter fun (a : Nat) => !(S.any fun x => x == (a : Int))).map fun (a : Nat) => (a : Int)).map (moreF F worth S) := by
  unfold margsTo
  rw [List.map_map]; rfl
theorem mem_sites {n : Nat} {S : List Int} {x : Int} (h0 : 0 ≤ x) (h1 : x < n) (h : x ∉ S) : x ∈ ((List.range n).filter fun (a : Nat) => !(S.any fun x => x == (a : Int))).map fun (a : Nat) => (a : Int) := by
  obtain ⟨a, rfl⟩ := Int.eq_ofNat_of_zero_le h0
  refine List.mem_map.2 ⟨a, List.mem_filter.2 ⟨List.mem_range.2 (by omega), ?_⟩, rfl⟩
  rw [Bool.not_eq_true', List.any_eq_false]
  intro y hy e
  have : y = (a : Int) := by simpa using e
  subst this
  exact h hy
/-- The upper gain. -/
theorem up_ge {F : Fld} {worth : Int} {S T : List Int} {K : Nat} (hT : setB F T = true) (hl : T.length ≤ K) : gainF F worth T ≤ upF F worth S K := by
  have h1 := gain_more (F := F) (worth := worth) S T
  have hm := set_mem hT
  have hnd : T.Nodup := (ris_iff.1 hT).1.imp (fun h => by omega)
  obtain ⟨M, hM⟩ : ∃ M, M = ((List.range F.op.length).filter fun (a : Nat) => !(S.any fun x => x == (a : Int))).map fun (a : Nat) => (a : Int) := ⟨_, rfl⟩
  have hms := margs_sites F worth S
  rw [← hM] at hms
  have hmem : ∀ x ∈ T, x ∈ M ∨ x ∈ S := fun x hx => by
    by_cases h : x ∈ S
    · exact .inr h
    · rw [hM]; exact .inl (mem_sites (hm x hx).1 (hm x hx).2 h)
  obtain ⟨hp, hs⟩ := desc_both (margsTo F worth S F.op.length)
  have hnn : ∀ x ∈ desc (margsTo F worth S F.op.length), 0 ≤ x := fun x hx => by
    have := hp.subset hx
    rw [hms] at this
    obtain ⟨a, _, rfl⟩ := List.mem_map.1 this
    exact more_nn _ _ _ _
  have hsum : (desc (margsTo F worth S F.op.length)).sum = (M.map (moreF F worth S)).sum := by rw [← hms]; exact perm_sumG hp
  have hal : allM F worth S = desc (margsTo F worth S F.op.length) := rfl
  unfold upF
  rw [hal]
  obtain ⟨L, hL⟩ : ∃ L, L = desc (margsTo F worth S F.op.length) := ⟨_, rfl⟩
  rw [← hL] at hp hs hnn hsum ⊢
  by_cases hk : K < L.length
  · obtain ⟨t, ht⟩ : ∃ t, t = L[K] := ⟨_, rfl⟩
    have ht0 : 0 ≤ t := by rw [ht]; exact hnn _ (List.getElem_mem hk)
    have hta : ∀ x ∈ L.take K, t ≤ x := fun x hx => by
      obtain ⟨i, hi, rfl⟩ := List.getElem_of_mem hx
      rw [List.length_take] at hi
      rw [List.getElem_take, ht]
      exact List.pairwise_iff_getElem.1 hs i K (by omega) hk (by omega)
    have htd : ∀ x ∈ L.drop K, x ≤ t := fun x hx => by
      obtain ⟨i, hi, rfl⟩ := List.getElem_of_mem hx
      rw [List.length_drop] at hi
      rw [List.getElem_drop, ht]
      by_cases h0 : i = 0
      · subst h0; exact Int.le_refl _
      · exact List.pairwise_iff_getElem.1 hs K (K + i) hk (by omega) (by omega)
    have e1 := over_take hta htd
    have e2 : (L.map fun x => max 0 (x - t)).sum = (M.map fun a => max 0 (moreF F worth S a - t)).sum := by
      have := perm_sumG (hp.map fun x => max 0 (x - t))
      rw [this, hms, List.map_map]; rfl
    have e3 : (T.map (moreF F worth S)).sum ≤ (T.map fun a => max 0 (moreF F worth S a - t) + t).sum := map_leG (fun x _ => by omega)
    rw [sum_addG, sum_constG] at e3
    have e4 : (T.map fun a => max 0 (moreF F worth S a - t)).sum ≤ (M.map fun a => max 0 (moreF F worth S a - t)).sum := sum_subG (fun x => by omega) T M hnd (fun x hx => (hmem x hx).imp id (fun h => by rw [more_in h]; omega))
    have e5 : ((L.take K).length : Int) = K := by rw [List.length_take]; omega
    have e6 : (T.length : Int) * t ≤ (K : Int) * t := Int.mul_le_mul_of_nonneg_right (by omega) ht0
    rw [e5] at e1
    omega
  · rw [List.take_of_length_le (by omega), hsum]
    have := sum_subG (g := moreF F worth S) (fun x => more_nn _ _ _ _) T M hnd (fun x hx => (hmem x hx).imp id more_in)
    omega
end Go.Proofs.YtgfbjgdofhcmaaaGreat

namespace Go.Proofs.YtgfbjgdofhcmaaaGreat
open Go.RowKit Go.Sort

theorem IntsAt.take {w : World} {ad : Addr} {xs : List Int} (h : IntsAt w (some ad) xs) (k : Nat) : IntsAt w (some ad) (xs.take k) :=
  ⟨Nat.le_trans (by simp; omega) h.1, fun j hj => by
    have h1 : j < xs.length := by simp at hj; omega
    refine ⟨ad, rfl, ?_⟩
    rw [h.some_ h1]
    have h2 : j < k := by simp at hj; omega
    simp [List.getD, h1, h2, List.getElem?_take]⟩
theorem IntsAt.drop {w : World} {ad : Addr} {xs : List Int} (h : IntsAt w (some ad) xs) (k : Nat) : IntsAt w (some (ad.add k)) (xs.drop k) :=
  ⟨Nat.le_trans (by simp) h.1, fun j hj => by
    have h1 : k + j < xs.length := by simp at hj; omega
    refine ⟨ad.add k, rfl, ?_⟩
    have := h.some_ h1
    have e : (ad.add k).add j = ad.add (k + j) := by
      unfold Addr.add
      by_cases hk : k = 0 <;> by_cases hj0 : j = 0 <;> simp [hk, hj0, Nat.add_assoc]
    rw [e, this]
    simp [List.getD, h1]⟩
theorem Own.cap {w : World} {base n c : Nat} {v : Value} {A : Option Addr} {xs : List Int} (h : Own w base v xs) (e : v = .slice A n c) : xs.length ≤ c := by
  rcases h.2 with ⟨rfl, h0⟩ | ⟨g, cap, cur, rfl, _, _, h4, _⟩
  · omega
  · simp only [Value.slice.injEq] at e
    omega
theorem IntsAt.tail {w : World} {ad : Addr} {xs : List Int} {c : Nat} (h : IntsAt w (some ad) xs) (hc : xs.length ≤ c) (k : Nat) : IntsAt w (if c = k then some ad else some (ad.add k)) (xs.drop k) := by
  by_cases e : c = k
  · rw [if_pos e, List.drop_eq_nil_of_le (by omega)]; exact IntsAt.nil _ _
  · rw [if_neg e]; exact h.drop k
theorem own_ab (w : World) (a : Int) : Own ((w.alloc (.cells #[] 3)).alloc (.cells #[.int .i64 a] 3)) w.heap.size (.slice (some ⟨w.heap.size, 0, none⟩) 0 0) [] :=
  (own_new0 w _ (Nat.le_refl _)).kp ((Kp.refl _).alloc _)
theorem own_ba (w : World) (a : Int) : Own ((w.alloc (.cells #[.int .i64 a] 3)).alloc (.cells #[] 3)) w.heap.size (.slice (some ⟨w.heap.size + 1, 0, none⟩) 0 0) [] := by
  have := own_new0 (w.alloc (.cells #[.int .i64 a] 3)) w.heap.size (by simp)
  simpa using this
theorem Own.drew {w : World} {base : Nat} {v : Value} {xs : List Int} (h : Own w base v xs) : Own w.drew base v xs := h.kp (Kp.refl w).drew
theorem one_ab (w : World) (a : Int) : IntsAt ((w.alloc (.cells #[] 3)).alloc (.cells #[.int .i64 a] 3)) (some ⟨w.heap.size + 1, 0, none⟩) [a] := by
  have := one_new (w.alloc (.cells #[] 3)) a
  simpa using this
theorem one_ba (w : World) (a : Int) : IntsAt ((w.alloc (.cells #[.int .i64 a] 3)).alloc (.cells #[] 3)) (some ⟨w.heap.size, 0, none⟩) [a] :=
  (one_new w a).kp ((Kp.refl _).alloc _)
set_option maxRecDepth 100000 in
set_option maxHeartbeats 2000000 in
theorem l1Put_some (ad : Addr) (S : List Int) (n c0 : Nat) (a : Int) (w : World) (hS : IntsAt w (some ad) S) (hn : S.length = n) (hs : S.Pairwise (· < ·)) (hc : n ≤ c0) (hb : n < 1048576) :
    Calls Tryz.prog 33 #[.slice (some ad) n c0, .int .i64 a] w fun e w' => ∃ v, e = .returned v ∧ ((a ∈ S ∧ v = .slice (some ad) n c0) ∨ Own w' w.heap.size v (putL S a)) ∧ Kp w w' := by
  have hm : n ≤ 9223372036854775807 := hn ▸ hS.1
  have hnc : S.length ≤ c0 := by omega
  have Hn := Lib.hid hn; clear hn
  have Hs := Lib.hid hs; clear hs
  go_enter Tryz.func33, Tryz.ntmps33
  go_wp2_with fail
  go_loop [5] (fun iv => ∃ k : Nat, k ≤ n ∧ iv = .int .i64 k ∧ Hid (∀ x ∈ S.take k, x < a)) (fun iv => n - (intOf iv).toNat)
  case atStart => exact ⟨0, by omega, rfl, by show ∀ x ∈ S.take 0, x < a; simp⟩
  case round =>
    obtain ⟨k, hk, rfl, Hp⟩ := hrel
    have hkc : k ≤ c0 := by omega
    by_cases hlt : k < n
    · have lx : k < S.length := by rw [Hn.out]; exact hlt
      have hck := hS.some_ lx
      by_cases h1 : S[k] < a
      · go_wp2_with fail
        go_round
        case rel =>
          refine ⟨k + 1, by omega, by go_num, ?_⟩
          show ∀ x ∈ S.take (k + 1), x < a
          intro x hx
          rw [List.take_succ_eq_append_getElem lx, List.mem_append] at hx
          rcases hx with hx | hx
          · exact Hp.out x hx
          · have : x = S[k] := by simpa using hx
            omega
        case measure => simp [intOf]; omega
      · by_cases h2 : S[k] = a
        · have hin : Hid (a ∈ S) := h2 ▸ List.getElem_mem lx
          go_wp2_with fail
          go_ret
          exact ⟨_, rfl, .inl ⟨hin.out, rfl⟩, Kp.refl _⟩
        · have hlk : (S.take k).length = k := by rw [List.length_take, Hn.out]; omega
          have hld : (S.drop k).length = n - k := by rw [List.length_drop, Hn.out]
          have hl1 : ([] : List Int).length + (S.take k).length ≤ 4194304 := by rw [hlk]; simp; omega
          have hl2 : (([] : List Int) ++ S.take k).length + [a].length ≤ 4194304 := by rw [List.length_append, hlk]; simp; omega
          have hl3 : (([] : List Int) ++ S.take k).length < 1048576 := by rw [List.length_append, hlk]; simp; omega
          have hl4 : (([] : List Int) ++ S.take k ++ [a]).length + (S.drop k).length ≤ 4194304 := by rw [List.length_append, List.length_append, hlk, hld]; simp; omega
          have hput := Lib.hid (put_at Hs.out Hp.out (fun _ => by omega))
          have hA := Lib.hid ((own_new0 w _ (Nat.le_refl _)).drew)
          have hAB := Lib.hid ((own_ab w a).drew)
          have hBA := Lib.hid ((own_ba w a).drew)
          go_wp2_with fail
          go_region_held3 (fun w' => Kp w w')
            (first | exact (by repeat (first | with_reducible assumption | with_reducible exact Kp.refl _ | with_reducible refine Kp.drew ?_ | with_reducible refine Kp.alloc ?_ _ | with_reducible refine Kp.drewN ?_ _ | refine Kp.setCell ?_ (by dsimp only; omega) _)) | exact hkA | exact hkA.alloc _ | exact hkB | exact hkC)
            (first
              | (refine step_app_all (by rfl) (.tmp 33) (.tmp 36) (by rfl) w.heap.size _ [] (S.take k) (some ad) k c0 (by rfl) (by rfl) hA.out ((hS.take k).kp (by repeat (first | with_reducible assumption | with_reducible exact Kp.refl _ | with_reducible refine Kp.drew ?_ | with_reducible refine Kp.alloc ?_ _ | with_reducible refine Kp.drewN ?_ _ | refine Kp.setCell ?_ (by dsimp only; omega) _))) hlk (by simp) hl1 ?_; intro v1 w1 ho1 ht1 h41; have hkA : Kp w w1 := hA.out.kp_turn (by repeat (first | with_reducible assumption | with_reducible exact Kp.refl _ | with_reducible refine Kp.drew ?_ | with_reducible refine Kp.alloc ?_ _ | with_reducible refine Kp.drewN ?_ _ | refine Kp.setCell ?_ (by dsimp only; omega) _)) (Nat.le_refl _) ht1)
              | (refine step_app_all (by rfl) (.tmp 33) (.tmp 36) (by rfl) w.heap.size _ [] (S.take k) (some ad) k c0 (by rfl) (by rfl) hAB.out ((hS.take k).kp (by repeat (first | with_reducible assumption | with_reducible exact Kp.refl _ | with_reducible refine Kp.drew ?_ | with_reducible refine Kp.alloc ?_ _ | with_reducible refine Kp.drewN ?_ _ | refine Kp.setCell ?_ (by dsimp only; omega) _))) hlk (by simp; omega) hl1 ?_; intro v1 w1 ho1 ht1 h41; have hkA : Kp w w1 := hAB.out.kp_turn (by repeat (first | with_reducible assumption | with_reducible exact Kp.refl _ | with_reducible refine Kp.drew ?_ | with_reducible refine Kp.alloc ?_ _ | with_reducible refine Kp.drewN ?_ _ | refine Kp.setCell ?_ (by dsimp only; omega) _)) (Nat.le_refl _) ht1; have h1n := one_turn (g := w.heap.size + 1) ((one_ab w a).kp (Kp.refl _).drew) ht1 (by simp [Value.ownBlock]) (by simp; try omega))
              | (refine step_app_all (by rfl) (.tmp 33) (.tmp 36) (by rfl) w.heap.size _ [] (S.take k) (some ad) k c0 (by rfl) (by rfl) hBA.out ((hS.take k).kp (by repeat (first | with_reducible assumption | with_reducible exact Kp.refl _ | with_reducible refine Kp.drew ?_ | with_reducible refine Kp.alloc ?_ _ | with_reducible refine Kp.drewN ?_ _ | refine Kp.setCell ?_ (by dsimp only; omega) _))) hlk (by simp; omega) hl1 ?_; intro v1 w1 ho1 ht1 h41; have hkA : Kp w w1 := hBA.out.kp_turn (by repeat (first | with_reducible assumption | with_reducible exact Kp.refl _ | with_reducible refine Kp.drew ?_ | with_reducible refine Kp.alloc ?_ _ | with_reducible refine Kp.drewN ?_ _ | refine Kp.setCell ?_ (by dsimp only; omega) _)) (Nat.le_refl _) ht1; have h1n := one_turn (g := w.heap.size) ((one_ba w a).kp (Kp.refl _).drew) ht1 (by simp [Value.ownBlock]) (by simp; try omega))
              | (refine step_app_all (by rfl) (.tmp 37) (.tmp 39) (by rfl) w.heap.size v1 ([] ++ S.take k) [a] (some ⟨w.heap.size + 1, 0, none⟩) 1 1 (by rfl) (by rfl) ho1 h1n rfl hkA.le hl2 ?_; intro v2 w2 ho2 ht2 h42; have hkB : Kp w w2 := ho1.kp_turn hkA (Nat.le_refl _) ht2)
              | (refine step_app_all (by rfl) (.tmp 37) (.tmp 39) (by rfl) w.heap.size v1 ([] ++ S.take k) [a] (some ⟨w.heap.size, 0, none⟩) 1 1 (by rfl) (by rfl) ho1 h1n rfl hkA.le hl2 ?_; intro v2 w2 ho2 ht2 h42; have hkB : Kp w w2 := ho1.kp_turn hkA (Nat.le_refl _) ht2)
              | (refine step_app (by rfl) (.tmp 37) (.tmp 39) (by rfl) w.heap.size v1 ([] ++ S.take k) a _ (by rfl) (by rfl) (by rfl) ho1 hkA.le hl3 ?_; intro v2 w2 ho2 ht2 h42; have hkB : Kp w w2 := ho1.kp_turn hkA (Nat.le_refl _) ht2)
              | (refine step_app_all (by rfl) (.tmp 40) (.tmp 43) (by rfl) w.heap.size v2 ([] ++ S.take k ++ [a]) (S.drop k) (if c0 = k then some ad else some (ad.add k)) (n - k) (c0 - k) (by rfl) (by rfl) ho2 ((hS.tail hnc k).kp hkB) hld hkB.le hl4 ?_; intro v3 w3 ho3 ht3 h43; have hkC : Kp w w3 := ho2.kp_turn hkB (Nat.le_refl _) ht3))
          all_goals
            go_wp2_with fail
            all_goals
              go_ret
              have e4 : [] ++ S.take k ++ [a] ++ S.drop k = putL S a := by rw [hput.out]; simp
              rw [e4] at ho3
              exact ⟨_, rfl, .inr ho3, hkC⟩
    · have hlk : (S.take k).length = k := by rw [List.length_take, Hn.out]; omega
      have hld : (S.drop k).length = n - k := by rw [List.length_drop, Hn.out]
      have hl1 : ([] : List Int).length + (S.take k).length ≤ 4194304 := by rw [hlk]; simp; omega
      have hl2 : (([] : List Int) ++ S.take k).length + [a].length ≤ 4194304 := by rw [List.length_append, hlk]; simp; omega
      have hl3 : (([] : List Int) ++ S.take k).length < 1048576 := by rw [List.length_append, hlk]; simp; omega
      have hl4 : (([] : List Int) ++ S.take k ++ [a]).length + (S.drop k).length ≤ 4194304 := by rw [List.length_append, List.length_append, hlk, hld]; simp; omega
      have hput := Lib.hid (put_at Hs.out Hp.out (fun h => absurd h (by rw [Hn.out]; omega)))
      have hA := Lib.hid ((own_new0 w _ (Nat.le_refl _)).drew)
      have hAB := Lib.hid ((own_ab w a).drew)
      have hBA := Lib.hid ((own_ba w a).drew)
      go_wp2_with fail
      go_region_held3 (fun w' => Kp w w')
        (first | exact (by repeat (first | with_reducible assumption | with_reducible exact Kp.refl _ | with_reducible refine Kp.drew ?_ | with_reducible refine Kp.alloc ?_ _ | with_reducible refine Kp.drewN ?_ _ | refine Kp.setCell ?_ (by dsimp only; omega) _)) | exact hkA | exact hkA.alloc _ | exact hkB | exact hkC)
        (first
          | (refine step_app_all (by rfl) (.tmp 33) (.tmp 36) (by rfl) w.heap.size _ [] (S.take k) (some ad) k c0 (by rfl) (by rfl) hA.out ((hS.take k).kp (by repeat (first | with_reducible assumption | with_reducible exact Kp.refl _ | with_reducible refine Kp.drew ?_ | with_reducible refine Kp.alloc ?_ _ | with_reducible refine Kp.drewN ?_ _ | refine Kp.setCell ?_ (by dsimp only; omega) _))) hlk (by simp) hl1 ?_; intro v1 w1 ho1 ht1 h41; have hkA : Kp w w1 := hA.out.kp_turn (by repeat (first | with_reducible assumption | with_reducible exact Kp.refl _ | with_reducible refine Kp.drew ?_ | with_reducible refine Kp.alloc ?_ _ | with_reducible refine Kp.drewN ?_ _ | refine Kp.setCell ?_ (by dsimp only; omega) _)) (Nat.le_refl _) ht1)
          | (refine step_app_all (by rfl) (.tmp 33) (.tmp 36) (by rfl) w.heap.size _ [] (S.take k) (some ad) k c0 (by rfl) (by rfl) hAB.out ((hS.take k).kp (by repeat (first | with_reducible assumption | with_reducible exact Kp.refl _ | with_reducible refine Kp.drew ?_ | with_reducible refine Kp.alloc ?_ _ | with_reducible refine Kp.drewN ?_ _ | refine Kp.setCell ?_ (by dsimp only; omega) _))) hlk (by simp; omega) hl1 ?_; intro v1 w1 ho1 ht1 h41; have hkA : Kp w w1 := hAB.out.kp_turn (by repeat (first | with_reducible assumption | with_reducible exact Kp.refl _ | with_reducible refine Kp.drew ?_ | with_reducible refine Kp.alloc ?_ _ | with_reducible refine Kp.drewN ?_ _ | refine Kp.setCell ?_ (by dsimp only; omega) _)) (Nat.le_refl _) ht1; have h1n := one_turn (g := w.heap.size + 1) ((one_ab w a).kp (Kp.refl _).drew) ht1 (by simp [Value.ownBlock]) (by simp; try omega))
          | (refine step_app_all (by rfl) (.tmp 33) (.tmp 36) (by rfl) w.heap.size _ [] (S.take k) (some ad) k c0 (by rfl) (by rfl) hBA.out ((hS.take k).kp (by repeat (first | with_reducible assumption | with_reducible exact Kp.refl _ | with_reducible refine Kp.drew ?_ | with_reducible refine Kp.alloc ?_ _ | with_reducible refine Kp.drewN ?_ _ | refine Kp.setCell ?_ (by dsimp only; omega) _))) hlk (by simp; omega) hl1 ?_; intro v1 w1 ho1 ht1 h41; have hkA : Kp w w1 := hBA.out.kp_turn (by repeat (first | with_reducible assumption | with_reducible exact Kp.refl _ | with_reducible refine Kp.drew ?_ | with_reducible refine Kp.alloc ?_ _ | with_reducible refine Kp.drewN ?_ _ | refine Kp.setCell ?_ (by dsimp only; omega) _)) (Nat.le_refl _) ht1; have h1n := one_turn (g := w.heap.size) ((one_ba w a).kp (Kp.refl _).drew) ht1 (by simp [Value.ownBlock]) (by simp; try omega))
          | (refine step_app_all (by rfl) (.tmp 37) (.tmp 39) (by rfl) w.heap.size v1 ([] ++ S.take k) [a] (some ⟨w.heap.size + 1, 0, none⟩) 1 1 (by rfl) (by rfl) ho1 h1n rfl hkA.le hl2 ?_; intro v2 w2 ho2 ht2 h42; have hkB : Kp w w2 := ho1.kp_turn hkA (Nat.le_refl _) ht2)
          | (refine step_app_all (by rfl) (.tmp 37) (.tmp 39) (by rfl) w.heap.size v1 ([] ++ S.take k) [a] (some ⟨w.heap.size, 0, none⟩) 1 1 (by rfl) (by rfl) ho1 h1n rfl hkA.le hl2 ?_; intro v2 w2 ho2 ht2 h42; have hkB : Kp w w2 := ho1.kp_turn hkA (Nat.le_refl _) ht2)
          | (refine step_app (by rfl) (.tmp 37) (.tmp 39) (by rfl) w.heap.size v1 ([] ++ S.take k) a _ (by rfl) (by rfl) (by rfl) ho1 hkA.le hl3 ?_; intro v2 w2 ho2 ht2 h42; have hkB : Kp w w2 := ho1.kp_turn hkA (Nat.le_refl _) ht2)
          | (refine step_app_all (by rfl) (.tmp 40) (.tmp 43) (by rfl) w.heap.size v2 ([] ++ S.take k ++ [a]) (S.drop k) (if c0 = k then some ad else some (ad.add k)) (n - k) (c0 - k) (by rfl) (by rfl) ho2 ((hS.tail hnc k).kp hkB) hld hkB.le hl4 ?_; intro v3 w3 ho3 ht3 h43; have hkC : Kp w w3 := ho2.kp_turn hkB (Nat.le_refl _) ht3))
      all_goals
        go_wp2_with fail
        all_goals
          go_ret
          have e4 : [] ++ S.take k ++ [a] ++ S.drop k = putL S a := by rw [hput.out]; simp
          rw [e4] at ho3
          exact ⟨_, rfl, .inr ho3, hkC⟩
end Go.Proofs.YtgfbjgdofhcmaaaGreat
