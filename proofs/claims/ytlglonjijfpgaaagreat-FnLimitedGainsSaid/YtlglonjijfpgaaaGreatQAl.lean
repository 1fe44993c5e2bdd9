/- The better one of quotients and single sites has 316 of 1000 parts of the best gain within a budget. No condition. -/
import Derived.Test.YtlglonjijfpgaaaGreatQAe
import Derived.Test.YtlglonjijfpgaaaGreatQAf
import Derived.Test.YtlglonjijfpgaaaGreatQAj
import Derived.Test.YtlglonjijfpgaaaGreatQAk
namespace Go.Proofs.YtlglonjijfpgaaaGreat
open Go.RowKit Go.Sort

theorem opAt_nnQ {F : Fld} (hg : goodF F = true) (a : Int) : 0 ≤ opAt F a := by
  have h := (goodF_iff.1 hg).2.1
  unfold opAt
  by_cases hi : a.toNat < F.op.length
  · have e : F.op.getD a.toNat 0 = F.op[a.toNat] := by simp [List.getD, hi]
    rw [e]; exact (h _ (List.getElem_mem hi)).1
  · rw [List.getD_eq_getElem?_getD, List.getElem?_eq_none (by omega)]; simp
theorem payF_putQ {F : Fld} {S : List Int} {a : Int} (h : a ∉ S) : payF F (putL S a) = payF F S + opAt F a := by
  unfold payF
  rw [perm_sumG ((putL_perm h).map (opAt F)), List.map_cons, List.sum_cons]
  omega
/-- One site's quotient is as great as the other's. -/
def geR (F : Fld) (worth : Int) (S : List Int) (b t : Int) : Prop := moreF F worth S t = 0 ∨ (0 < moreF F worth S b ∧ moreF F worth S t * opAt F b ≤ moreF F worth S b * opAt F t)
theorem ge_refl {F : Fld} {worth : Int} {S : List Int} (b : Int) : geR F worth S b b := by
  by_cases h : moreF F worth S b = 0
  · exact .inl h
  · have := more_nn F worth S b
    exact .inr ⟨by omega, Int.le_refl _⟩
theorem ge_trans {F : Fld} {worth : Int} {S : List Int} {a b t : Int} (h1 : geR F worth S a b) (h2 : geR F worth S b t) : geR F worth S a t := by
  rcases h2 with h2 | ⟨h2, h3⟩
  · exact .inl h2
  · rcases h1 with h1 | ⟨h1, h4⟩
    · omega
    · by_cases h0 : moreF F worth S t = 0
      · exact .inl h0
      · have hnn := more_nn F worth S t
        refine .inr ⟨h1, ?_⟩
        generalize moreF F worth S t = mt at *
        generalize moreF F worth S a = ma at *
        generalize moreF F worth S b = mb at *
        generalize opAt F a = ca at *
        generalize opAt F b = cb at *
        generalize opAt F t = ct at *
        refine Int.le_of_mul_le_mul_left (a := mb) ?_ h2
        calc mb * (mt * ca) = mt * (mb * ca) := by rw [← Int.mul_assoc, ← Int.mul_assoc, Int.mul_comm mb mt]
          _ ≤ mt * (ma * cb) := Int.mul_le_mul_of_nonneg_left h4 (by omega)
          _ = ma * (mt * cb) := by rw [← Int.mul_assoc, ← Int.mul_assoc, Int.mul_comm mt ma]
          _ ≤ ma * (mb * ct) := Int.mul_le_mul_of_nonneg_left h3 (by omega)
          _ = mb * (ma * ct) := by rw [← Int.mul_assoc, ← Int.mul_assoc, Int.mul_comm ma mb]
theorem rich_yes {F : Fld} {worth : Int} {S : List Int} {a b : Int} (h : richF F worth S a b = true) : geR F worth S a b := by
  unfold richF richB at h
  by_cases h0 : moreF F worth S a = 0 ∨ moreF F worth S b = 0
  · rw [if_pos h0, decide_eq_true_eq] at h
    rcases h0 with h0 | h0
    · omega
    · exact .inl h0
  · rw [if_neg h0, decide_eq_true_eq] at h
    have := more_nn F worth S a
    have h1 : ¬ moreF F worth S a = 0 := fun e => h0 (.inl e)
    exact .inr ⟨by omega, by omega⟩
theorem rich_no {F : Fld} {worth : Int} {S : List Int} {a b : Int} (h : ¬ richF F worth S a b = true) : geR F worth S b a := by
  have ha := more_nn F worth S a
  have hb := more_nn F worth S b
  unfold richF richB at h
  by_cases h0 : moreF F worth S a = 0 ∨ moreF F worth S b = 0
  · rw [if_pos h0, decide_eq_true_eq] at h
    exact .inl (by omega)
  · rw [if_neg h0, decide_eq_true_eq] at h
    have h1 : ¬ moreF F worth S b = 0 := fun e => h0 (.inr e)
    exact .inr ⟨by omega, by omega⟩
theorem rBest_ge {F : Fld} {worth : Int} {S : List Int} : ∀ (L : List Int) (b : Int), 0 ≤ b → (∀ x ∈ L, 0 ≤ x) → geR F worth S (L.foldl (rStep F worth S) b) b ∧ ∀ t ∈ L, geR F worth S (L.foldl (rStep F worth S) b) t
  | [], b, _, _ => ⟨ge_refl b, fun t h => by cases h⟩
  | x :: l, b, hb, hL => by
    have hx := hL x List.mem_cons_self
    have hs : geR F worth S (rStep F worth S b x) b ∧ geR F worth S (rStep F worth S b x) x ∧ 0 ≤ rStep F worth S b x := by
      unfold rStep
      by_cases h : b < 0 ∨ richF F worth S x b = true
      · rw [if_pos h]
        have h2 : richF F worth S x b = true := h.resolve_left (by omega)
        exact ⟨rich_yes h2, ge_refl x, hx⟩
      · rw [if_neg h]
        exact ⟨ge_refl b, rich_no (fun e => h (.inr e)), hb⟩
    obtain ⟨i1, i2⟩ := rBest_ge l (rStep F worth S b x) hs.2.2 (fun y hy => hL y (List.mem_cons_of_mem _ hy))
    rw [List.foldl_cons]
    refine ⟨ge_trans i1 hs.1, fun t ht => ?_⟩
    rcases List.mem_cons.1 ht with rfl | ht
    · exact ge_trans i1 hs.2.1
    · exact i2 t ht
theorem rBest_max {F : Fld} {worth : Int} {S L : List Int} (hL : ∀ x ∈ L, 0 ≤ x) : ∀ t ∈ L, geR F worth S (rBest F worth S L) t := fun t ht => by
  cases L with
  | nil => cases ht
  | cons a l =>
    rw [rBest_cons]
    obtain ⟨h1, h2⟩ := rBest_ge (F := F) (worth := worth) (S := S) l a (hL a List.mem_cons_self) (fun y hy => hL y (List.mem_cons_of_mem _ hy))
    rcases List.mem_cons.1 ht with rfl | ht
    · exact h1
    · exact h2 t ht
theorem rTake_sup {F : Fld} {worth budget : Int} {S : List Int} {a : Int} : ∀ x ∈ S, x ∈ rTake F worth budget S a := fun x hx => by
  unfold rTake
  split
  · exact mem_putL.2 (.inl hx)
  · exact hx
theorem rGo_sup {F : Fld} {worth budget : Int} : ∀ (j s : Nat) (S : List Int), ∀ x ∈ S, x ∈ rGo F worth budget j s S
  | 0, _, _, _, h => h
  | j + 1, s, S, x, h => by
    rw [rGo_succ]
    exact rGo_sup j _ _ x (rTake_sup x h)
theorem rGo_pay {F : Fld} {worth budget : Int} : ∀ (j s : Nat) (S : List Int), payF F S ≤ budget → payF F (rGo F worth budget j s S) ≤ budget
  | 0, _, _, h => h
  | j + 1, s, S, h => by
    rw [rGo_succ]
    refine rGo_pay j _ _ ?_
    unfold rTake
    split
    · rename_i hp
      simp only [rPut, Bool.and_eq_true, decide_eq_true_eq] at hp
      exact hp.2
    · exact h
def prodL (B : Nat) (cs : List Nat) : Nat := (cs.map fun c => B - c).foldr (· * ·) 1
theorem sum_mulG (g : Int → Int) (c : Int) : ∀ T : List Int, (T.map fun x => g x * c).sum = (T.map g).sum * c
  | [] => by simp
  | a :: t => by
    have := sum_mulG g c t
    rw [List.map_cons, List.map_cons, List.sum_cons, List.sum_cons, this, Int.add_mul]
/-- What the rounds have reached: what is left of the best gain has shrunk with each cost. -/
structure RatI (F : Fld) (worth : Int) (B : Nat) (T S : List Int) (s : Nat) (cs : List Nat) : Prop where
  set_ : setB F S = true
  seen : ∀ x ∈ S, x ∉ leftS s F.op.length
  cov : ∀ t ∈ T, t ∈ leftS s F.op.length ∨ t ∈ S ∨ moreF F worth S t = 0
  le : ∀ c ∈ cs, c ≤ B
  pay : (cs.sum : Int) = payF F S
  red : ((B ^ cs.length : Nat) : Int) * (gainF F worth T - gainF F worth S) ≤ gainF F worth T * ((prodL B cs : Nat) : Int)
/-- One more cost. -/
theorem rat_red {F : Fld} {worth : Int} {B : Nat} {T S : List Int} {s : Nat} {cs : List Nat} {a : Int} (hg : goodF F = true) (hI : RatI F worth B T S s cs) (hpay : payF F T ≤ B) (hge : ∀ t ∈ leftS s F.op.length, geR F worth S a t) (hm : 0 < moreF F worth S a) (hca : opAt F a ≤ B) :
    ((B ^ (cs ++ [(opAt F a).toNat]).length : Nat) : Int) * (gainF F worth T - (gainF F worth S + moreF F worth S a)) ≤ gainF F worth T * ((prodL B (cs ++ [(opAt F a).toNat]) : Nat) : Int) := by
  have hc0 := opAt_nnQ hg a
  have h1 : ∀ t ∈ T, moreF F worth S t * opAt F a ≤ opAt F t * moreF F worth S a := fun t ht => by
    have hzero : moreF F worth S t = 0 → moreF F worth S t * opAt F a ≤ opAt F t * moreF F worth S a := fun e => by
      rw [e, Int.zero_mul]
      exact Int.mul_nonneg (opAt_nnQ hg t) (by omega)
    rcases hI.cov t ht with h | h | h
    · rcases hge t h with h2 | ⟨_, h2⟩
      · exact hzero h2
      · rw [Int.mul_comm (opAt F t)]; exact h2
    · exact hzero (more_in h)
    · exact hzero h
  have h2 : (T.map (moreF F worth S)).sum * opAt F a ≤ (B : Int) * moreF F worth S a := by
    have e1 := map_leG (g := fun t => moreF F worth S t * opAt F a) (h := fun t => opAt F t * moreF F worth S a) h1
    rw [sum_mulG, sum_mulG] at e1
    have e2 : (T.map (opAt F)).sum * moreF F worth S a ≤ (B : Int) * moreF F worth S a := Int.mul_le_mul_of_nonneg_right hpay (by omega)
    exact Int.le_trans e1 e2
  have h3 := gain_more (F := F) (worth := worth) S T
  obtain ⟨u, hu⟩ : ∃ u, u = gainF F worth T - gainF F worth S := ⟨_, rfl⟩
  have h4 : u * opAt F a ≤ (B : Int) * moreF F worth S a := Int.le_trans (Int.mul_le_mul_of_nonneg_right (by omega) hc0) h2
  have hred := hI.red
  rw [← hu] at hred
  have e3 : gainF F worth T - (gainF F worth S + moreF F worth S a) = u - moreF F worth S a := by omega
  rw [e3]
  have e4 : prodL B (cs ++ [(opAt F a).toNat]) = prodL B cs * (B - (opAt F a).toNat) := by
    unfold prodL
    rw [List.map_append, List.foldr_append]
    generalize cs.map (fun c => B - c) = l
    have : ∀ (l : List Nat) (z : Nat), l.foldr (· * ·) z = l.foldr (· * ·) 1 * z := fun l z => by
      induction l with
      | nil => simp
      | cons x t ih => rw [List.foldr_cons, List.foldr_cons, ih, Nat.mul_assoc]
    rw [this]; simp
  have e5 : ((B - (opAt F a).toNat : Nat) : Int) = (B : Int) - opAt F a := by omega
  have hpos : 0 ≤ (B : Int) - opAt F a := by omega
  rw [e4, Int.natCast_mul, e5, List.length_append, List.length_singleton, Nat.pow_succ, Int.natCast_mul]
  have hB0 : (0 : Int) ≤ ((B ^ cs.length : Nat) : Int) := Int.natCast_nonneg _
  generalize ((B ^ cs.length : Nat) : Int) = q at *
  generalize ((prodL B cs : Nat) : Int) = p at *
  generalize gainF F worth T = g at *
  generalize moreF F worth S a = m at *
  generalize opAt F a = ca at *
  calc q * B * (u - m) = q * (B * u - B * m) := by rw [Int.mul_assoc, Int.mul_sub]
    _ ≤ q * (u * (B - ca)) := Int.mul_le_mul_of_nonneg_left (by rw [Int.mul_sub, Int.mul_comm u B]; omega) hB0
    _ = q * u * (B - ca) := by rw [Int.mul_assoc]
    _ ≤ g * p * (B - ca) := Int.mul_le_mul_of_nonneg_right hred hpos
    _ = g * (p * (B - ca)) := by rw [Int.mul_assoc]
theorem sum_append (xs : List Nat) (y : Nat) : (xs ++ [y]).sum = xs.sum + y := by simp
theorem rat_main {F : Fld} {worth : Int} {B : Nat} {T : List Int} (hg : goodF F = true) (hpay : payF F T ≤ B) (hT : setB F T = true) (hg0 : 0 ≤ gainF F worth T) : ∀ (j s : Nat) (S : List Int) (cs : List Nat), (leftS s F.op.length).length = j → RatI F worth B T S s cs →
    gainF F worth T ≤ gainF F worth (rGo F worth B j s S) ∨ ∃ x ∈ T, 632 * gainF F worth T ≤ 1000 * (gainF F worth (rGo F worth B j s S) + gainF F worth [x])
  | 0, s, S, cs, hl, hI => by
    left
    have h0 : leftS s F.op.length = [] := List.eq_nil_of_length_eq_zero hl
    have h1 := gain_more (F := F) (worth := worth) S T
    have h2 : (T.map (moreF F worth S)).sum ≤ (T.map fun _ => (0 : Int)).sum := map_leG (fun t ht => by
      rcases hI.cov t ht with h | h | h
      · rw [h0] at h; cases h
      · rw [more_in h]; exact Int.le_refl _
      · rw [h]; exact Int.le_refl _)
    rw [sum_constG, Int.mul_zero] at h2
    show _ ≤ gainF F worth S
    omega
  | j + 1, s, S, cs, hl, hI => by
    have hne : leftS s F.op.length ≠ [] := fun e => by rw [e] at hl; simp at hl
    obtain ⟨a, ea, ha, hb⟩ := left_site (F := F) (worth := worth) (S := S) hne
    have hnn : ∀ x ∈ leftS s F.op.length, 0 ≤ x := fun x hx => by obtain ⟨i, _, _, rfl⟩ := mem_left.1 hx; omega
    have hge := rBest_max (F := F) (worth := worth) (S := S) hnn
    rw [ea] at hge
    have hal : (a : Int) ∈ leftS s F.op.length := mem_left.2 ⟨a, ha, hb, rfl⟩
    have hmonoR : ∀ S', (∀ x ∈ S, x ∈ S') → gainF F worth S ≤ gainF F worth S' := fun S' h => gain_mono h
    have hnew : ∀ x, x ∈ leftS (s ||| 2 ^ a) F.op.length ↔ x ∈ leftS s F.op.length ∧ x ≠ (a : Int) := fun x => by
      rw [← left_wo]
      unfold woL
      rw [List.mem_filter]
      simp
    have hlen : (leftS (s ||| 2 ^ a) F.op.length).length = j := by
      rw [← left_wo]
      have := wo_len (left_nodup s F.op.length) hal
      omega
    rw [rGo_succ, ea, show ((a : Int)).toNat = a from by omega]
    by_cases hm : 0 < moreF F worth S (a : Int)
    · by_cases hp : payF F (putL S (a : Int)) ≤ B
      · -- it is taken
        have hput : rTake F worth B S (a : Int) = putL S (a : Int) := by
          unfold rTake rPut
          rw [decide_eq_true hm, decide_eq_true hp]; rfl
        rw [hput]
        have haS : (a : Int) ∉ S := fun h => hI.seen _ h hal
        have hpp := payF_putQ (F := F) haS
        have hS0 : 0 ≤ payF F S := sum_nnG (fun x hx => by obtain ⟨y, _, rfl⟩ := List.mem_map.1 hx; exact opAt_nnQ hg y)
        have hca : opAt F (a : Int) ≤ B := by omega
        have hc0 := opAt_nnQ hg (a : Int)
        refine rat_main hg hpay hT hg0 j _ _ (cs ++ [(opAt F (a : Int)).toNat]) hlen ⟨setB_put hI.set_ (by omega) (by omega), fun x hx h => ?_, fun t ht => ?_, fun c hc => ?_, ?_, ?_⟩
        · obtain ⟨h1, h2⟩ := (hnew x).1 h
          rcases mem_putL.1 hx with hx | hx
          · exact hI.seen x hx h1
          · exact h2 hx
        · rcases hI.cov t ht with h | h | h
          · by_cases e : t = (a : Int)
            · exact .inr (.inl (mem_putL.2 (.inr e)))
            · exact .inl ((hnew t).2 ⟨h, e⟩)
          · exact .inr (.inl (mem_putL.2 (.inl h)))
          · right; right
            have h1 := more_anti (F := F) (worth := worth) (S := S) (S' := putL S (a : Int)) (a := t) (fun x hx => mem_putL.2 (.inl hx))
            have h2 := more_nn F worth (putL S (a : Int)) t
            omega
        · rcases List.mem_append.1 hc with h | h
          · exact hI.le c h
          · have : c = (opAt F (a : Int)).toNat := by simpa using h
            omega
        · rw [sum_append, hpp, ← hI.pay]; omega
        · have := rat_red hg hI hpay hge hm hca
          rw [gain_put]
          exact this
      · -- it does not fit
        have hput : rTake F worth B S (a : Int) = S := by
          unfold rTake rPut
          rw [decide_eq_false hp, Bool.and_false]; rfl
        rw [hput]
        by_cases haT : (a : Int) ∈ T
        · right
          refine ⟨(a : Int), haT, ?_⟩
          have haS : (a : Int) ∉ S := fun h => hI.seen _ h hal
          have hpp := payF_putQ (F := F) haS
          have hc0 := opAt_nnQ hg (a : Int)
          have hca : opAt F (a : Int) ≤ B := by
            obtain ⟨T1, T2, e⟩ := List.append_of_mem haT
            have h1 : payF F T = (T1.map (opAt F)).sum + (opAt F (a : Int) + (T2.map (opAt F)).sum) := by
              unfold payF
              rw [e, List.map_append, List.sum_append, List.map_cons, List.sum_cons]
            have h2 := sum_nnG (l := T1.map (opAt F)) (fun x hx => by obtain ⟨y, _, rfl⟩ := List.mem_map.1 hx; exact opAt_nnQ hg y)
            have h3 := sum_nnG (l := T2.map (opAt F)) (fun x hx => by obtain ⟨y, _, rfl⟩ := List.mem_map.1 hx; exact opAt_nnQ hg y)
            omega
          have hB1 : 1 ≤ B := by
            rcases Nat.eq_zero_or_pos B with h | h
            · exfalso
              have hS0 : payF F S ≤ 0 := by
                have := hI.pay
                have h5 : cs.sum = 0 := by
                  have : ∀ l : List Nat, (∀ c ∈ l, c ≤ B) → l.sum ≤ l.length * B := fun l => by
                    induction l with
                    | nil => simp
                    | cons x t ih =>
                      intro hl2
                      have := ih (fun c hc => hl2 c (List.mem_cons_of_mem _ hc))
                      have := hl2 x List.mem_cons_self
                      rw [List.sum_cons, List.length_cons, Nat.add_mul]; omega
                  have := this cs hI.le
                  rw [h, Nat.mul_zero] at this
                  omega
                omega
              omega
            · exact h
          have hred := rat_red hg hI hpay hge hm hca
          have hsum : B ≤ (cs ++ [(opAt F (a : Int)).toNat]).sum := by
            rw [sum_append]
            have := hI.pay
            omega
          have hle : ∀ c ∈ cs ++ [(opAt F (a : Int)).toNat], c ≤ B := fun c hc => by
            rcases List.mem_append.1 hc with h | h
            · exact hI.le c h
            · have : c = (opAt F (a : Int)).toNat := by simpa using h
              omega
          have hsh := prod_share hB1 _ hle hsum
          have hsh2 : 1000 * ((prodL B (cs ++ [(opAt F (a : Int)).toNat]) : Nat) : Int) ≤ 368 * ((B ^ (cs ++ [(opAt F (a : Int)).toNat]).length : Nat) : Int) := by
            have : 1000 * prodL B (cs ++ [(opAt F (a : Int)).toNat]) ≤ 368 * B ^ (cs ++ [(opAt F (a : Int)).toNat]).length := hsh
            omega
          have hq : 0 < ((B ^ (cs ++ [(opAt F (a : Int)).toNat]).length : Nat) : Int) := by
            have := Nat.pow_pos (n := (cs ++ [(opAt F (a : Int)).toNat]).length) hB1
            omega
          have hone : moreF F worth S (a : Int) ≤ gainF F worth [(a : Int)] := by
            have h1 := more_anti (F := F) (worth := worth) (S := []) (S' := S) (a := (a : Int)) (by simp)
            have h2 : moreF F worth [] (a : Int) = gainF F worth [(a : Int)] := by
              unfold moreF
              rw [gainF_nil, Int.sub_zero]
              exact gain_eq (fun x => by rw [mem_putL]; simp)
            omega
          have hR := hmonoR _ (rGo_sup (F := F) (worth := worth) (budget := (B : Int)) j (s ||| 2 ^ a) S)
          generalize ((B ^ (cs ++ [(opAt F (a : Int)).toNat]).length : Nat) : Int) = q at *
          generalize ((prodL B (cs ++ [(opAt F (a : Int)).toNat]) : Nat) : Int) = p at *
          have h6 : 1000 * (gainF F worth T - (gainF F worth S + moreF F worth S (a : Int))) ≤ 368 * gainF F worth T := by
            refine Int.le_of_mul_le_mul_left (a := q) ?_ hq
            generalize gainF F worth T - (gainF F worth S + moreF F worth S (a : Int)) = d at *
            generalize gainF F worth T = g at *
            calc q * (1000 * d) = 1000 * (q * d) := by rw [← Int.mul_assoc, ← Int.mul_assoc, Int.mul_comm q 1000]
              _ ≤ 1000 * (g * p) := Int.mul_le_mul_of_nonneg_left hred (by omega)
              _ = g * (1000 * p) := by rw [← Int.mul_assoc, ← Int.mul_assoc, Int.mul_comm 1000 g]
              _ ≤ g * (368 * q) := Int.mul_le_mul_of_nonneg_left hsh2 hg0
              _ = q * (368 * g) := by rw [← Int.mul_assoc, ← Int.mul_assoc, Int.mul_comm g 368, Int.mul_comm q 368, Int.mul_assoc, Int.mul_assoc, Int.mul_comm g q]
          omega
        · refine rat_main hg hpay hT hg0 j _ _ cs hlen ⟨hI.set_, fun x hx h => hI.seen x hx ((hnew x).1 h).1, fun t ht => ?_, hI.le, hI.pay, hI.red⟩
          rcases hI.cov t ht with h | h | h
          · exact .inl ((hnew t).2 ⟨h, fun e => haT (e ▸ ht)⟩)
          · exact .inr (.inl h)
          · exact .inr (.inr h)
    · -- nothing adds any more
      left
      have hput : rTake F worth B S (a : Int) = S := by
        unfold rTake rPut
        rw [decide_eq_false hm, Bool.false_and]; rfl
      rw [hput]
      have h1 := gain_more (F := F) (worth := worth) S T
      have h2 : (T.map (moreF F worth S)).sum ≤ (T.map fun _ => (0 : Int)).sum := map_leG (fun t ht => by
        rcases hI.cov t ht with h | h | h
        · rcases hge t h with h3 | ⟨h3, _⟩
          · rw [h3]; exact Int.le_refl _
          · omega
        · rw [more_in h]; exact Int.le_refl _
        · rw [h]; exact Int.le_refl _)
      rw [sum_constG, Int.mul_zero] at h2
      have hR := hmonoR _ (rGo_sup (F := F) (worth := worth) (budget := (B : Int)) j (s ||| 2 ^ a) S)
      omega
theorem sg_ge {F : Fld} {worth budget : Int} {x : Nat} (hx : opAt F (x : Int) ≤ budget) : ∀ k, x < k → gainF F worth [(x : Int)] ≤ gainF F worth (sgTo F worth budget k)
  | 0, h => by omega
  | k + 1, h => by
    rw [sgTo]
    by_cases e : x = k
    · subst e
      by_cases hc : opAt F (x : Int) ≤ budget ∧ gainF F worth (sgTo F worth budget x) < gainF F worth [(x : Int)]
      · rw [if_pos hc]; exact Int.le_refl _
      · rw [if_neg hc]
        have : ¬ gainF F worth (sgTo F worth budget x) < gainF F worth [(x : Int)] := fun h => hc ⟨hx, h⟩
        omega
    · have ih := sg_ge (worth := worth) hx k (by omega)
      split
      · rename_i hc; omega
      · exact ih
theorem sg_pay {F : Fld} {worth budget : Int} (h0 : 0 ≤ budget) : ∀ k, k ≤ F.op.length → payF F (sgTo F worth budget k) ≤ budget
  | 0, _ => by simp [sgTo, payF, h0]
  | k + 1, h => by
    rw [sgTo]
    split
    · rename_i hc
      rw [pay_one (by omega)]; exact hc.1
    · exact sg_pay h0 k (by omega)
end Go.Proofs.YtlglonjijfpgaaaGreat
