/- Flows and flow prices: no flow costs less than prices yield; The least flow prices: they hang on no flow: plain words; LeastFlowPrices: words; The least flow prices prove the least flow, and one more room saves at most its price: plain words; The first haul of least cost: its numbers one after the other, row by row; LeastFlow: small pieces of the program's walk. No condition. -/
import Derived.Test.YtgdicmeabppngaaQAs
import Derived.Test.YtgdicmeabppngaaQAg
import Derived.Test.YtgdicmeabppngaaQAq
namespace Go.Proofs.Ytgdicmeabppngaa
open Go.RowKit Go.Sort

theorem flow_haul {F : Fld} {rooms needs S : List Int} {flow : List (List Int)} (h : flowB F rooms needs S flow = true) : Haul F.di.length F.op.length (openM S) (lget needs) (lget rooms) (flAt flow) := by
  obtain ⟨h1, h2, h3⟩ := flow_parts h
  refine ⟨fun j a hj ha => (flAt_pos (h2 j (by omega)) ha).1, fun j a hj ha hp => ((flRow_iff.1 (h2 j (by omega))).2.1 a ha).2.2 hp, fun j hj => (flRow_iff.1 (h2 j (by omega))).2.2, fun a ha => ?_⟩
  have := h3 a ha
  rw [h1] at this
  exact this
theorem flow_cost (F : Fld) (flow : List (List Int)) : costT F.di.length F.op.length (dF F) (flAt flow) = costFl F flow F.di.length := rfl
theorem yield_haul {F : Fld} {rooms needs S us ws : List Int} {x : Nat → Nat → Int} (hP : HaulP F rooms needs S) (hx : Haul F.di.length F.op.length (openM S) (lget needs) (lget rooms) x) (hp : prB F S us ws = true) : yieldF rooms needs us ws ≤ costT F.di.length F.op.length (dF F) x := by
  obtain ⟨p1, p2, p3, p4⟩ := prB_iff.1 hp
  have h1 : ∀ j a, j < F.di.length → a < F.op.length → x j a * (-(lget ws a) - -(lget us j)) ≤ x j a * dF F j a := fun j a hj ha => by
    by_cases h0 : 0 < x j a
    · have hS := hx.may j a hj ha h0
      have hm := flHas_iff.1 (show flHas S a = true from hS)
      have h2 := (le_off hP.ne).1 (p4 j (by omega)).2 _ hm
      refine Int.mul_le_mul_of_nonneg_left ?_ (by omega)
      have e : valF F ws j (a : Int) = dF F j a + lget ws a := rfl
      omega
    · have := hx.nn j a hj ha
      have e : x j a = 0 := by omega
      rw [e, Int.zero_mul, Int.zero_mul]; exact Int.le_refl _
  have h2 : sumTo (fun j => sumTo (fun a => x j a * (-(lget ws a) - -(lget us j))) F.op.length) F.di.length ≤ costT F.di.length F.op.length (dF F) x := sumTo_mono' (fun j hj => sumTo_mono' (fun a ha => h1 j a hj ha))
  have h3 := pot_sum (J := F.di.length) (M := F.op.length) x (fun j => -(lget us j)) (fun a => -(lget ws a))
  have e1 : sumTo (fun j => rowS F.op.length x j * -(lget us j)) F.di.length = yP needs us F.di.length * -1 := by
    unfold yP
    rw [← sumTo_mulc]
    exact sumTo_congr (fun j hj => by rw [hx.row j hj, Int.mul_neg, Int.mul_neg, Int.mul_one])
  have e2 : yP rooms ws F.op.length * -1 ≤ sumTo (fun a => colT F.di.length x a * -(lget ws a)) F.op.length := by
    unfold yP
    rw [← sumTo_mulc]
    refine sumTo_mono' (fun a ha => ?_)
    have h4 := (lget_all (M := 999) (by omega) p2.1 a).1
    have h5 := Int.mul_le_mul_of_nonneg_right (hx.col a ha) h4
    rw [Int.mul_neg, Int.mul_neg, Int.mul_one]; omega
  unfold yieldF
  rw [hP.nl, hP.rl]
  rw [h3, e1] at h2
  omega
theorem lst_exF {J M : Nat} {d : Nat → Nat → Int} {may : Nat → Nat → Bool} {nd rm : Nat → Int} (hd : ∀ j a, j < J → a < M → 0 ≤ d j a) (h : CanH J M may nd rm) : ∃ c, IsLst J M d may nd rm c := by
  have h0 : ∀ x, Haul J M may nd rm x → 0 ≤ costT J M d x := fun x hx => sumTo_nn (fun j hj => sumTo_nn (fun a ha => Int.mul_nonneg (hx.nn j a hj ha) (hd j a hj ha)))
  have key : ∀ (n : Nat) (x : Nat → Nat → Int), Haul J M may nd rm x → costT J M d x ≤ n → ∃ c, IsLst J M d may nd rm c := by
    intro n
    induction n with
    | zero => exact fun x hx hc => ⟨_, ⟨x, hx, rfl⟩, fun y hy => by have := h0 y hy; omega⟩
    | succ n ih =>
      intro x hx hc
      by_cases hy : ∃ y, Haul J M may nd rm y ∧ costT J M d y < costT J M d x
      · obtain ⟨y, h1, h2⟩ := hy
        exact ih y h1 (by omega)
      · exact ⟨_, ⟨x, hx, rfl⟩, fun y h1 => by
          by_cases h2 : costT J M d y < costT J M d x
          · exact absurd ⟨y, h1, h2⟩ hy
          · omega⟩
  obtain ⟨x, hx⟩ := h
  exact key (costT J M d x).toNat x hx (by omega)
theorem lf_lstF {F : Fld} {rooms needs S : List Int} (h : lfOk F rooms needs S = true) : IsLst F.di.length F.op.length (dF F) (openM S) (lget needs) (lget rooms) (lfV F rooms needs S) := by
  have h1 := h
  unfold lfOk at h1
  rw [Bool.and_eq_true, decide_eq_true_eq] at h1
  have hP := haul_p h1.1
  obtain ⟨c, hc⟩ := lst_exF (d := dF F) (fun j a hj ha => (dAt_bd hP.good hj (a : Int)).1) (any_full hP h1.2)
  have hc2 := start_lst hP hc
  rw [lfV_yes h hc2]
  exact hc2
theorem flow_ok {F : Fld} {rooms needs S : List Int} {x : Nat → Nat → Int} (h : haulB F rooms needs S = true) (hx : Haul F.di.length F.op.length (openM S) (lget needs) (lget rooms) x) : lfOk F rooms needs S = true := by
  have hP := haul_p h
  have h1 := haul_room hx (fun a => flHas S a) (fun j a _ _ hm => hm)
  rw [hP.ns, hP.rs] at h1
  unfold lfOk
  rw [h, decide_eq_true h1]; rfl
/-- What the law on flows says. -/
theorem flows_a {F : Fld} {rooms needs S us ws : List Int} {flow : List (List Int)} (h1 : fcIn F rooms needs S flow = true) : lfOk F rooms needs S = true ∧ lfV F rooms needs S ≤ fcV F rooms needs S flow := by
  have h2 := h1
  unfold fcIn at h2
  rw [Bool.and_eq_true] at h2
  have hx := flow_haul h2.2
  have hk := flow_ok h2.1 hx
  refine ⟨hk, ?_⟩
  rw [fcV, if_pos h1, ← flow_cost]
  exact (lf_lstF hk).all_ _ hx
theorem flows_b {F : Fld} {rooms needs S us ws : List Int} (h1 : lfOk F rooms needs S = true) (h2 : fyIn F rooms needs S us ws = true) : fyV F rooms needs S us ws ≤ lfV F rooms needs S := by
  have h3 := h2
  unfold fyIn at h3
  rw [Bool.and_eq_true] at h3
  obtain ⟨x, hx, hc⟩ := (lf_lstF h1).some_
  rw [fyV, if_pos h2, ← hc]
  exact yield_haul (haul_p h3.1) hx h3.2
theorem flows_c {F : Fld} {rooms needs S us ws : List Int} {flow : List (List Int)} (h1 : fcIn F rooms needs S flow = true) (h2 : fyIn F rooms needs S us ws = true) :
    fyV F rooms needs S us ws ≤ fcV F rooms needs S flow ∧ ipIn F rooms needs S flow us ws = true ∧ ipR F rooms needs S flow us ws = decide (fyV F rooms needs S us ws = fcV F rooms needs S flow) := by
  have ha := flows_a (us := us) (ws := ws) h1
  have hb := flows_b ha.1 h2
  have hi : ipIn F rooms needs S flow us ws = true := by
    have h3 := h2
    unfold fyIn at h3
    rw [Bool.and_eq_true] at h3
    unfold ipIn; rw [h1, h3.2]; rfl
  refine ⟨Int.le_trans hb ha.2, hi, ?_⟩
  unfold ipR
  rw [hi, fcV, if_pos h1, fyV, if_pos h2, Bool.true_and]
  by_cases e : costFl F flow F.di.length = yieldF rooms needs us ws
  · rw [decide_eq_true e, decide_eq_true e.symm]
  · rw [decide_eq_false e, decide_eq_false (Ne.symm e)]
theorem flows_d {F : Fld} {rooms needs S us ws : List Int} {flow : List (List Int)} (h : ipR F rooms needs S flow us ws = true) : lfV F rooms needs S = fcV F rooms needs S flow := by
  have h0 := h
  unfold ipR at h
  rw [Bool.and_eq_true, decide_eq_true_eq] at h
  obtain ⟨h1, h2⟩ := h
  unfold ipIn at h1
  rw [Bool.and_eq_true] at h1
  have h5 := h1.1
  unfold fcIn at h5
  rw [Bool.and_eq_true] at h5
  have h3 : fyIn F rooms needs S us ws = true := by unfold fyIn; rw [h5.1, h1.2]; rfl
  have ha := flows_a (us := us) (ws := ws) h1.1
  have hb := flows_b ha.1 h3
  rw [fcV, if_pos h1.1] at *
  rw [fyV, if_pos h3] at hb
  omega
end Go.Proofs.Ytgdicmeabppngaa

namespace Go.Proofs.Ytgdicmeabppngaa
open Go.RowKit Go.Sort

/-- Prices of sites under which nobody who is sent somewhere would rather go elsewhere. -/
structure PrOk (J M : Nat) (d : Nat → Nat → Int) (sA : Nat → Bool) (x : Nat → Nat → Int) (w : Nat → Int) : Prop where
  nn : ∀ a, a < M → 0 ≤ w a
  off : ∀ a, a < M → sA a = false → w a = 0
  stay : ∀ j a b, j < J → a < M → b < M → sA b = true → 0 < x j a → w a + d j a - d j b ≤ w b
structure LeastPr (J M : Nat) (d : Nat → Nat → Int) (sA : Nat → Bool) (x : Nat → Nat → Int) (w : Nat → Int) : Prop where
  ok : PrOk J M d sA x w
  low : ∀ w', PrOk J M d sA x w' → ∀ a, a < M → w a ≤ w' a
section
variable {J M : Nat} {d : Nat → Nat → Int} {sA : Nat → Bool} {rm nd lf : Nat → Int} {x y : Nat → Nat → Int} {w w' : Nat → Int}
/-- There are such prices, and they are 0 where there is room left. -/
theorem pr_star (hn : Net J M d (fun _ a => sA a) rm x lf) : ∃ w, PrOk J M d sA x w ∧ ∀ a, a < M → 0 < w a → lf a = 0 := by
  obtain ⟨pc, ps, T, hp⟩ := hn.pot
  refine ⟨fun a => if sA a = true then max 0 (T - ps a) else 0, ⟨fun a _ => ?_, fun a _ h => ?_, fun j a b hj ha hb hs hx => ?_⟩, fun a ha hpos => ?_⟩
  · split <;> omega
  · rw [h]; rfl
  · have hsa : sA a = true := hn.mayf j a hj ha hx
    rw [if_pos hsa, if_pos hs]
    have h1 : 0 < colT J x a := by
      have : x j a ≤ colT J x a := sumTo_ge (g := fun j => x j a) (fun i hi => hn.nn i a hi ha) hj
      omega
    have h2 := hp.used a ha h1
    have h3 := hp.arc j b hj hb hs
    have h4 := hp.back j a hj ha hx
    omega
  · dsimp only at hpos
    have h0 := hn.lf0 a ha
    by_cases hl : 0 < lf a
    · have := hp.room a ha hl
      split at hpos <;> omega
    · omega
theorem min_ex (f : Nat → Int) (p : Nat → Bool) : ∀ n, (∃ a, a < n ∧ p a = true) → ∃ b, b < n ∧ p b = true ∧ ∀ a, a < n → p a = true → f b ≤ f a
  | 0, h => by obtain ⟨a, ha, _⟩ := h; omega
  | n + 1, h => by
    by_cases he : ∃ a, a < n ∧ p a = true
    · obtain ⟨b, hb, hpb, hm⟩ := min_ex f p n he
      by_cases hn : p n = true ∧ f n < f b
      · refine ⟨n, by omega, hn.1, fun a ha hpa => ?_⟩
        by_cases e : a = n
        · subst e; exact Int.le_refl _
        · have := hm a (by omega) hpa; omega
      · refine ⟨b, by omega, hpb, fun a ha hpa => ?_⟩
        by_cases e : a = n
        · subst e; exact Int.not_lt.1 (fun h => hn ⟨hpa, h⟩)
        · exact hm a (by omega) hpa
    · obtain ⟨a, ha, hpa⟩ := h
      have e : a = n := by
        rcases Nat.lt_or_ge a n with h1 | h1
        · exact absurd ⟨a, h1, hpa⟩ he
        · omega
      subst e
      refine ⟨a, by omega, hpa, fun b hb hpb => ?_⟩
      by_cases e : b = a
      · subst e; exact Int.le_refl _
      · exact absurd ⟨b, by omega, hpb⟩ he
/-- .. and small ones. -/
theorem pr_small (hd : ∀ j a, 0 ≤ d j a ∧ d j a ≤ 99) (hw : PrOk J M d sA x w) (hm : ∀ j a, j < J → a < M → 0 < x j a → sA a = true) (hS : ∃ a, a < M ∧ sA a = true) : ∃ w', PrOk J M d sA x w' ∧ ∀ a, a < M → w' a ≤ 198 := by
  obtain ⟨b0, hb0, hs0, hmin⟩ := min_ex w sA M hS
  have hfl : ∀ j a, j < J → a < M → 0 < x j a → w a - w b0 ≤ 99 := fun j a hj ha hx => by
    have := hw.stay j a b0 hj ha hb0 hs0 hx
    have := hd j a; have := hd j b0
    omega
  refine ⟨fun a => if sA a = true then min (w a - w b0) 198 else 0, ⟨fun a ha => ?_, fun a _ h => ?_, fun j a b hj ha hb hs hx => ?_⟩, fun a _ => ?_⟩
  · split
    · have := hmin a ha (by assumption); omega
    · omega
  · rw [h]; rfl
  · rw [if_pos (hm j a hj ha hx), if_pos hs]
    have h1 := hw.stay j a b hj ha hb hs hx
    have h2 := hfl j a hj ha hx
    have := hd j a; have := hd j b
    omega
  · show (if sA a = true then min (w a - w b0) 198 else 0) ≤ 198; split <;> omega
def offer (M : Nat) (d : Nat → Nat → Int) (sA : Nat → Bool) (w : Nat → Int) (j : Nat) (u : Int) : Prop := (∃ a, a < M ∧ sA a = true ∧ u = d j a + w a) ∧ ∀ a, a < M → sA a = true → u ≤ d j a + w a
/-- What a haul costs above what the prices yield. -/
theorem gap_eq (hy : Haul J M (fun _ a => sA a) nd rm y) (u : Nat → Int) (w : Nat → Int) :
    costT J M d y - (sumTo (fun j => nd j * u j) J - sumTo (fun a => rm a * w a) M) = sumTo (fun j => sumTo (fun a => y j a * (d j a - u j + w a)) M) J + sumTo (fun a => (rm a - colT J y a) * w a) M := by
  have h1 := pot_sum (J := J) (M := M) y u w
  have h2 : sumTo (fun j => sumTo (fun a => y j a * (d j a - u j + w a)) M) J = costT J M d y + sumTo (fun j => sumTo (fun a => y j a * (w a - u j)) M) J := by
    unfold costT
    rw [← sumTo_addf]
    refine sumTo_congr (fun j _ => ?_)
    rw [← sumTo_addf]
    refine sumTo_congr (fun a _ => ?_)
    rw [← Int.mul_add]
    congr 1
    omega
  have h3 : sumTo (fun a => (rm a - colT J y a) * w a) M = sumTo (fun a => rm a * w a) M - sumTo (fun a => colT J y a * w a) M := by
    rw [← sumTo_sub]
    exact sumTo_congr (fun a _ => Int.sub_mul _ _ _)
  have h4 : sumTo (fun j => rowS M y j * u j) J = sumTo (fun j => nd j * u j) J := sumTo_congr (fun j hj => by rw [hy.row j hj])
  rw [h2, h1, h3, h4]
  omega
/-- Prices that are least for one flow of least cost suit every other one. -/
theorem pr_moves (hn : Net J M d (fun _ a => sA a) rm x lf) (hx : ∀ j, j < J → rowS M x j = nd j) (hy : Haul J M (fun _ a => sA a) nd rm y) (hc : costT J M d y ≤ costT J M d x) (hw : LeastPr J M d sA x w) (hS : ∃ a, a < M ∧ sA a = true) : PrOk J M d sA y w := by
  obtain ⟨ws, hs1, hs2⟩ := pr_star hn
  have hfull : ∀ a, a < M → 0 < w a → colT J x a = rm a := fun a ha hp => by
    have h1 := hw.low ws hs1 a ha
    have h2 := hs2 a ha (by omega)
    have := hn.col a ha
    omega
  have hu : ∀ j, ∃ u, offer M d sA w j u := fun j => by
    obtain ⟨b, hb, hsb, hm⟩ := min_ex (fun a => d j a + w a) sA M hS
    exact ⟨_, ⟨b, hb, hsb, rfl⟩, hm⟩
  obtain ⟨u, hu⟩ := Classical.axiomOfChoice hu
  have hX := (hn.least hx).1
  have g1 := gap_eq (d := d) hX u w
  have g2 := gap_eq (d := d) hy u w
  have z1 : sumTo (fun j => sumTo (fun a => x j a * (d j a - u j + w a)) M) J = 0 := by
    have e : ∀ j, j < J → sumTo (fun a => x j a * (d j a - u j + w a)) M = 0 := fun j hj => by
      have e2 : ∀ a, a < M → x j a * (d j a - u j + w a) = 0 := fun a ha => by
        have h0 := hn.nn j a hj ha
        by_cases hp : 0 < x j a
        · obtain ⟨⟨b, hb, hsb, hub⟩, hle⟩ := hu j
          have h1 := hle a ha (hn.mayf j a hj ha hp)
          have h2 := hw.ok.stay j a b hj ha hb hsb hp
          have : d j a - u j + w a = 0 := by omega
          rw [this, Int.mul_zero]
        · have : x j a = 0 := by omega
          rw [this, Int.zero_mul]
      rw [sumTo_congr e2, sumTo_c0]
    rw [sumTo_congr e, sumTo_c0]
  have z2 : sumTo (fun a => (rm a - colT J x a) * w a) M = 0 := by
    have e : ∀ a, a < M → (rm a - colT J x a) * w a = 0 := fun a ha => by
      have h0 := hw.ok.nn a ha
      by_cases hp : 0 < w a
      · rw [hfull a ha hp, Int.sub_self, Int.zero_mul]
      · have : w a = 0 := by omega
        rw [this, Int.mul_zero]
    rw [sumTo_congr e, sumTo_c0]
  have p1 : ∀ j, j < J → ∀ a, a < M → 0 ≤ y j a * (d j a - u j + w a) := fun j hj a ha => by
    have h0 := hy.nn j a hj ha
    by_cases hp : 0 < y j a
    · have := (hu j).2 a ha (hy.may j a hj ha hp)
      exact Int.mul_nonneg h0 (by omega)
    · have : y j a = 0 := by omega
      rw [this, Int.zero_mul]; exact Int.le_refl _
  have p2 : ∀ a, a < M → 0 ≤ (rm a - colT J y a) * w a := fun a ha => Int.mul_nonneg (by have := hy.col a ha; omega) (hw.ok.nn a ha)
  have s1 : ∀ j, j < J → 0 ≤ sumTo (fun a => y j a * (d j a - u j + w a)) M := fun j hj => sumTo_nn (fun a ha => p1 j hj a ha)
  have t1 := sumTo_nn s1
  have t2 := sumTo_nn p2
  have hz : sumTo (fun j => sumTo (fun a => y j a * (d j a - u j + w a)) M) J = 0 := by omega
  refine ⟨hw.ok.nn, hw.ok.off, fun j a b hj ha hb hsb hp => ?_⟩
  have r1 := sumTo_ge (g := fun j => sumTo (fun a => y j a * (d j a - u j + w a)) M) s1 hj
  have r2 := sumTo_ge (g := fun a => y j a * (d j a - u j + w a)) (fun a ha => p1 j hj a ha) ha
  have r3 := p1 j hj a ha
  have r4 : y j a * (d j a - u j + w a) = 0 := by
    omega
  have r5 : d j a - u j + w a = 0 := by
    rcases Int.mul_eq_zero.1 r4 with h | h
    · omega
    · exact h
  have := (hu j).2 b hb hsb
  omega
theorem least_uniq {x' : Nat → Nat → Int} {lf' w' : Nat → Int} (hn : Net J M d (fun _ a => sA a) rm x lf) (hx : ∀ j, j < J → rowS M x j = nd j) (hn' : Net J M d (fun _ a => sA a) rm x' lf') (hx' : ∀ j, j < J → rowS M x' j = nd j) (hw : LeastPr J M d sA x w) (hw' : LeastPr J M d sA x' w') (hS : ∃ a, a < M ∧ sA a = true) : ∀ a, a < M → w a = w' a := fun a ha => by
  have h1 := (hn.least hx)
  have h2 := (hn'.least hx')
  have a1 := pr_moves hn hx h2.1 (h2.2 x h1.1) hw hS
  have a2 := pr_moves hn' hx' h1.1 (h1.2 x' h2.1) hw' hS
  have := hw.low w' a2 a ha
  have := hw'.low w a1 a ha
  omega
/-- Prices on the way to the least ones. -/
structure LowPr (J M : Nat) (d : Nat → Nat → Int) (sA : Nat → Bool) (x : Nat → Nat → Int) (w : Nat → Int) : Prop where
  nn : ∀ a, a < M → 0 ≤ w a
  off : ∀ a, a < M → sA a = false → w a = 0
  low : ∀ w', PrOk J M d sA x w' → ∀ a, a < M → w a ≤ w' a
theorem LowPr.zero : LowPr J M d sA x (fun _ => 0) := ⟨fun _ _ => Int.le_refl _, fun _ _ _ => rfl, fun _ h a ha => h.nn a ha⟩
theorem LowPr.step (h : LowPr J M d sA x w) {j a b : Nat} (hj : j < J) (ha : a < M) (hb : b < M) (hs : sA b = true) (hx : 0 < x j a) (hl : w b < w a + d j a - d j b) : LowPr J M d sA x (upd w b (w a + d j a - d j b)) := by
  refine ⟨fun c hc => ?_, fun c hc ho => ?_, fun w' hw' c hc => ?_⟩
  · by_cases e : c = b
    · subst e; rw [upd_at]; have := h.nn c hc; omega
    · rw [upd_ne e]; exact h.nn c hc
  · by_cases e : c = b
    · subst e; rw [hs] at ho; cases ho
    · rw [upd_ne e]; exact h.off c hc ho
  · by_cases e : c = b
    · subst e; rw [upd_at]
      have h1 := hw'.stay j a c hj ha hb hs hx
      have h2 := h.low w' hw' a ha
      omega
    · rw [upd_ne e]; exact h.low w' hw' c hc
theorem LowPr.least (h : LowPr J M d sA x w) (hs : ∀ j a b, j < J → a < M → b < M → sA b = true → 0 < x j a → w a + d j a - d j b ≤ w b) : LeastPr J M d sA x w := ⟨⟨h.nn, h.off, hs⟩, h.low⟩
theorem LowPr.bd (h : LowPr J M d sA x w) (hw : ∃ w', PrOk J M d sA x w' ∧ ∀ a, a < M → w' a ≤ 198) {a : Nat} (ha : a < M) : 0 ≤ w a ∧ w a ≤ 198 := by
  obtain ⟨w', h1, h2⟩ := hw
  have := h.low w' h1 a ha; have := h2 a ha
  exact ⟨h.nn a ha, by omega⟩
end
end Go.Proofs.Ytgdicmeabppngaa

namespace Go.Proofs.Ytgdicmeabppngaa
open Go.RowKit Go.Sort

/-- Rooms of closed sites, or that sites are closed, make no difference to a net. -/
theorem net_start {J M : Nat} {d : Nat → Nat → Int} {may : Nat → Nat → Bool} {rm lf : Nat → Int} {f : Nat → Nat → Int} (hn : Net J M d may rm f lf) (sA : Nat → Bool) (hm : ∀ j a, may j a = true → sA a = true) : Net J M d may (fun a => if sA a = true then rm a else 0) f (fun a => if sA a = true then lf a else 0) := by
  refine ⟨hn.nn, hn.mayf, fun a ha => ?_, fun a ha => ?_, ?_⟩
  · split
    · exact hn.lf0 a ha
    · omega
  · by_cases hs : sA a = true
    · rw [if_pos hs, if_pos hs]; exact hn.col a ha
    · rw [if_neg hs, if_neg hs]
      have e : colT J f a = sumTo (fun _ => 0) J := sumTo_congr (fun j hj => by
        have := hn.nn j a hj ha
        by_cases hp : 0 < f j a
        · exact absurd (hm j a (hn.mayf j a hj ha hp)) hs
        · omega)
      rw [e, sumTo_c0]; rfl
  · obtain ⟨pc, ps, T, hp⟩ := hn.pot
    exact ⟨pc, ps, T, hp.arc, hp.back, fun a ha hl => by
      by_cases hs : sA a = true
      · rw [if_pos hs] at hl; exact hp.room a ha hl
      · rw [if_neg hs] at hl; omega, hp.used⟩
/-- A flow of least cost over the sites of a set. -/
structure OptN (F : Fld) (rooms needs S : List Int) (fl : Nat → Nat → Int) : Prop where
  net : ∃ lf, Net F.di.length F.op.length (dF F) (fun _ a => flHas S a) (startR S rooms) fl lf
  row : ∀ j, j < F.di.length → rowS F.op.length fl j = lget needs j
theorem openM_eq (S : List Int) : openM S = fun _ a => flHas S a := rfl
theorem opt_impl {F : Fld} {rooms needs S : List Int} {fl : Nat → Nat → Int} {lf : Nat → Int} (hn : Net F.di.length F.op.length (dF F) (openM S) (lget rooms) fl lf) (hr : ∀ j, j < F.di.length → rowS F.op.length fl j = lget needs j) : OptN F rooms needs S fl :=
  ⟨⟨_, net_start hn (fun a => flHas S a) (fun _ _ h => h)⟩, hr⟩
theorem opt_spec {F : Fld} {rooms needs S : List Int} {fl : Nat → Nat → Int} {lf : Nat → Int} (hg : goodF F = true) (hn : Net F.di.length F.op.length (dF F) (startM F S 99) (startR S rooms) fl lf) (hr : ∀ j, j < F.di.length → rowS F.op.length fl j = lget needs j) : OptN F rooms needs S fl := by
  have e : startM F S 99 = fun _ a => flHas S a := by funext j a; exact startM_open hg j a
  rw [e] at hn
  exact ⟨⟨lf, hn⟩, hr⟩
open Classical in
/-- The least prices. -/
noncomputable def lpF (F : Fld) (rooms needs S : List Int) : Nat → Int := if h : ∃ pw fl, OptN F rooms needs S fl ∧ LeastPr F.di.length F.op.length (dF F) (fun a => flHas S a) fl pw then Classical.choose h else fun _ => 0
theorem set_ex {F : Fld} {rooms needs S : List Int} (hP : HaulP F rooms needs S) : ∃ a, a < F.op.length ∧ flHas S a = true := by
  obtain ⟨s, hs⟩ := List.exists_mem_of_ne_nil _ hP.ne
  have := set_mem hP.set_ s hs
  obtain ⟨n, rfl⟩ := Int.eq_ofNat_of_zero_le this.1
  exact ⟨n, by omega, flHas_iff.2 hs⟩
theorem lp_eq {F : Fld} {rooms needs S : List Int} (hP : HaulP F rooms needs S) {fl : Nat → Nat → Int} {pw : Nat → Int} (h1 : OptN F rooms needs S fl) (h2 : LeastPr F.di.length F.op.length (dF F) (fun a => flHas S a) fl pw) : ∀ a, a < F.op.length → pw a = lpF F rooms needs S a := by
  have he : ∃ pw fl, OptN F rooms needs S fl ∧ LeastPr F.di.length F.op.length (dF F) (fun a => flHas S a) fl pw := ⟨pw, fl, h1, h2⟩
  have hc : lpF F rooms needs S = Classical.choose he := by unfold lpF; rw [dif_pos he]
  rw [hc]
  obtain ⟨fl', o1, o2⟩ := Classical.choose_spec he
  obtain ⟨lf, hn⟩ := h1.net
  obtain ⟨lf', hn'⟩ := o1.net
  exact least_uniq hn h1.row hn' o1.row h2 o2 (set_ex hP)
noncomputable def lpW (F : Fld) (rooms needs S : List Int) : List Int := if lfOk F rooms needs S = true then mapTo (lpF F rooms needs S) F.op.length else []
noncomputable def lpU (F : Fld) (rooms needs S : List Int) : List Int := if lfOk F rooms needs S = true then mapTo (fun j => offF F S (lpW F rooms needs S) j) F.di.length else []
theorem lpW_yes {F : Fld} {rooms needs S : List Int} (h : lfOk F rooms needs S = true) (hP : HaulP F rooms needs S) {fl : Nat → Nat → Int} {pw : Nat → Int} (h1 : OptN F rooms needs S fl) (h2 : LeastPr F.di.length F.op.length (dF F) (fun a => flHas S a) fl pw) : lpW F rooms needs S = mapTo pw F.op.length := by
  unfold lpW
  rw [if_pos h]
  exact List.map_congr_left (fun a ha => (lp_eq hP h1 h2 a (List.mem_range.1 ha)).symm)
theorem lpU_yes {F : Fld} {rooms needs S : List Int} (h : lfOk F rooms needs S = true) : lpU F rooms needs S = mapTo (fun j => offF F S (lpW F rooms needs S) j) F.di.length := if_pos h
theorem lp_no {F : Fld} {rooms needs S : List Int} (h : lfOk F rooms needs S = false) : lpW F rooms needs S = [] ∧ lpU F rooms needs S = [] := ⟨if_neg (by simp [h]), if_neg (by simp [h])⟩
theorem goodF_len {F : Fld} {rooms needs S : List Int} (h : lfOk F rooms needs S = true) : F.op.length ≤ 7 ∧ F.di.length ≤ 7 := by
  unfold lfOk at h
  rw [Bool.and_eq_true] at h
  have hg := (haul_p h.1).good
  exact ⟨(goodF_iff.1 hg).1.2, (goodF_iff.1 hg).2.2.1⟩
theorem lpW_len (F : Fld) (rooms needs S : List Int) : (lpW F rooms needs S).length ≤ 1048576 := by
  cases h : lfOk F rooms needs S
  · rw [(lp_no h).1]; simp
  · unfold lpW; rw [if_pos h, mapTo_len]; have := goodF_len h; omega
theorem lpU_len (F : Fld) (rooms needs S : List Int) : (lpU F rooms needs S).length ≤ 1048576 := by
  cases h : lfOk F rooms needs S
  · rw [(lp_no h).2]; simp
  · rw [lpU_yes h, mapTo_len]; have := goodF_len h; omega
/-- The site that stands at k of a set. -/
def sN (S : List Int) (k : Nat) : Nat := (lget S k).toNat
theorem sN_at {S : List Int} {k : Nat} (h : k < S.length) (h0 : 0 ≤ S[k]) : S[k] = (sN S k : Int) := by
  unfold sN; rw [lget_at h]; omega
/-- One pass over all flows and sites of the set, as far as it has come. -/
def PassP (J M : Nat) (d : Nat → Nat → Int) (S : List Int) (x : Nat → Nat → Int) (w : Nat → Int) (ch : Bool) (i a k : Nat) : Prop :=
  ch = false → ∀ i' a' k', i' < J → a' < M → k' < S.length → (i' < i ∨ (i' = i ∧ (a' < a ∨ (a' = a ∧ k' < k)))) → 0 < x i' a' → w a' + d i' a' - d i' (sN S k') ≤ w (sN S k')
section
variable {J M : Nat} {d : Nat → Nat → Int} {S : List Int} {x : Nat → Nat → Int} {w : Nat → Int} {ch : Bool} {i a k : Nat}
theorem PassP.start : PassP J M d S x w false 0 0 0 := fun _ i a k _ _ _ h => by omega
theorem PassP.yes : PassP J M d S x w true i a k := fun h => by cases h
theorem PassP.next (h : PassP J M d S x w ch i a k) (hs : 0 < x i a → w a + d i a - d i (sN S k) ≤ w (sN S k)) : PassP J M d S x w ch i a (k + 1) := fun hc i' a' k' h1 h2 h3 h4 h5 => by
  by_cases e : i' = i ∧ a' = a ∧ k' = k
  · obtain ⟨rfl, rfl, rfl⟩ := e; exact hs h5
  · exact h hc i' a' k' h1 h2 h3 (by omega) h5
theorem PassP.site (h : PassP J M d S x w ch i a S.length) : PassP J M d S x w ch i (a + 1) 0 := fun hc i' a' k' h1 h2 h3 h4 h5 => h hc i' a' k' h1 h2 h3 (by omega) h5
theorem PassP.skip (h : PassP J M d S x w ch i a k) (hz : ¬ 0 < x i a) : PassP J M d S x w ch i (a + 1) 0 := fun hc i' a' k' h1 h2 h3 h4 h5 => by
  by_cases e : i' = i ∧ a' = a
  · obtain ⟨rfl, rfl⟩ := e; exact absurd h5 hz
  · exact h hc i' a' k' h1 h2 h3 (by omega) h5
theorem PassP.row (h : PassP J M d S x w ch i M 0) : PassP J M d S x w ch (i + 1) 0 0 := fun hc i' a' k' h1 h2 h3 h4 h5 => h hc i' a' k' h1 h2 h3 (by omega) h5
theorem PassP.least (hp : PassP J M d S x w false J 0 0) (hl : LowPr J M d (fun a => flHas S a) x w) : LeastPr J M d (fun a => flHas S a) x w := hl.least (fun j a b hj ha hb hs hx => by
  obtain ⟨k, hk, he⟩ := List.mem_iff_getElem.1 (flHas_iff.1 hs)
  have e : sN S k = b := by unfold sN; rw [lget_at hk, he]; omega
  have := hp rfl j a k hj ha hk (.inl hj) hx
  rw [e] at this; exact this)
/-- The prices' sum since the pass began. -/
def RoseP (M : Nat) (s0 : Int) (w : Nat → Int) (ch : Bool) : Prop := s0 ≤ sumTo w M ∧ (ch = true → s0 < sumTo w M)
theorem RoseP.put {s0 : Int} (h : RoseP M s0 w ch) {b : Nat} (hb : b < M) {z : Int} (hz : w b < z) : RoseP M s0 (upd w b z) true := by
  unfold RoseP
  rw [sumTo_upd, if_pos hb]
  have := h.1
  exact ⟨by omega, fun _ => by omega⟩
theorem top_sum {w : Nat → Int} (h : ∀ a, a < M → w a ≤ 198) : sumTo w M ≤ 198 * (M : Int) := by
  have h1 : sumTo w M ≤ sumTo (fun _ => (198 : Int)) M := sumTo_mono' h
  have h2 : ∀ k : Nat, sumTo (fun _ => (198 : Int)) k = 198 * (k : Int) := fun k => by
    induction k with
    | zero => rfl
    | succ k ih => rw [sumTo_succ, ih]; omega
  rw [h2] at h1; exact h1
end
/-- The prices in memory. -/
theorem mapTo_sum_mem {wr : World} {base g M c : Nat} {pw : Nat → Int} (h : Own wr base (.slice (some ⟨g, 0, none⟩) M c) (mapTo pw M)) (hM : M ≤ 1000) : memSum wr g M = sumTo pw M := by
  obtain ⟨A, c', e, hi⟩ := h.ints (by rw [mapTo_len]; omega)
  simp only [Value.slice.injEq] at e
  obtain ⟨e, _, _⟩ := e
  rw [← e] at hi
  rw [memSum_ints hi (mapTo_len _ _)]
  exact sumTo_congr (fun i hi => mapTo_lget hi)
end Go.Proofs.Ytgdicmeabppngaa

namespace Go.Proofs.Ytgdicmeabppngaa
open Go.RowKit Go.Sort

section
variable {J M : Nat} {d : Nat → Nat → Int} {sA : Nat → Bool} {rm nd lf : Nat → Int} {x : Nat → Nat → Int} {w w' : Nat → Int}
theorem PrOk.low (h : PrOk J M d sA x w) (h' : PrOk J M d sA x w') : PrOk J M d sA x (fun a => min (w a) (w' a)) := by
  refine ⟨fun a ha => ?_, fun a ha hs => ?_, fun j a b hj ha hb hs hx => ?_⟩
  · have := h.nn a ha; have := h'.nn a ha
    show 0 ≤ min (w a) (w' a); omega
  · show min (w a) (w' a) = 0
    rw [h.off a ha hs, h'.off a ha hs]; rfl
  · have h1 := h.stay j a b hj ha hb hs hx
    have h2 := h'.stay j a b hj ha hb hs hx
    show min (w a) (w' a) + d j a - d j b ≤ min (w b) (w' b)
    omega
theorem pr_low1 (h : ∃ w, PrOk J M d sA x w) {a : Nat} (ha : a < M) : ∃ w0, PrOk J M d sA x w0 ∧ ∀ w, PrOk J M d sA x w → w0 a ≤ w a := by
  have key : ∀ (n : Nat) (w0 : Nat → Int), PrOk J M d sA x w0 → w0 a ≤ n → ∃ w1, PrOk J M d sA x w1 ∧ ∀ w, PrOk J M d sA x w → w1 a ≤ w a := by
    intro n
    induction n with
    | zero => exact fun w0 h0 hc => ⟨w0, h0, fun w hw => by have := hw.nn a ha; omega⟩
    | succ n ih =>
      intro w0 h0 hc
      by_cases hy : ∃ y, PrOk J M d sA x y ∧ y a < w0 a
      · obtain ⟨y, h1, h2⟩ := hy
        exact ih y h1 (by omega)
      · exact ⟨w0, h0, fun y h1 => by
          by_cases h2 : y a < w0 a
          · exact absurd ⟨y, h1, h2⟩ hy
          · omega⟩
  obtain ⟨w0, h0⟩ := h
  exact key (w0 a).toNat w0 h0 (by omega)
theorem pr_least (h : ∃ w, PrOk J M d sA x w) : ∃ w, LeastPr J M d sA x w := by
  have key : ∀ n, n ≤ M → ∃ w, PrOk J M d sA x w ∧ ∀ a, a < n → ∀ w', PrOk J M d sA x w' → w a ≤ w' a := by
    intro n
    induction n with
    | zero =>
      intro _
      obtain ⟨w, hw⟩ := h
      exact ⟨w, hw, fun a ha => by omega⟩
    | succ n ih =>
      intro hn
      obtain ⟨w1, h1, h2⟩ := ih (by omega)
      obtain ⟨w2, h3, h4⟩ := pr_low1 h (a := n) (by omega)
      refine ⟨_, h1.low h3, fun a ha w' hw' => ?_⟩
      show min (w1 a) (w2 a) ≤ w' a
      by_cases e : a = n
      · subst e; have := h4 w' hw'; omega
      · have := h2 a (by omega) w' hw'; omega
  obtain ⟨w, h1, h2⟩ := key M (Nat.le_refl _)
  exact ⟨w, h1, fun w' hw' a ha => h2 a ha w' hw'⟩
theorem pr_tight (hn : Net J M d (fun _ a => sA a) rm x lf) (hl : LeastPr J M d sA x w) {a : Nat} (ha : a < M) (hw : 0 < w a) : lf a = 0 := by
  obtain ⟨w1, h1, h2⟩ := pr_star hn
  have := hl.low w1 h1 a ha
  exact h2 a ha (by omega)
/-- What the flow costs, the prices yield. -/
theorem price_cost (hn : Net J M d (fun _ a => sA a) rm x lf) (hr : ∀ j, j < J → rowS M x j = nd j) (hl : LeastPr J M d sA x w) {u : Nat → Int} (hu : ∀ j a, j < J → a < M → 0 < x j a → u j = d j a + w a) :
    costT J M d x = sumTo (fun j => nd j * u j) J - sumTo (fun a => rm a * w a) M := by
  have h1 : costT J M d x = sumTo (fun j => sumTo (fun a => x j a * (-(w a) - -(u j))) M) J := by
    refine sumTo_congr (fun j hj => sumTo_congr (fun a ha => ?_))
    by_cases h0 : 0 < x j a
    · have e := hu j a hj ha h0
      rw [show -(w a) - -(u j) = d j a by omega]
    · have := hn.nn j a hj ha
      have e : x j a = 0 := by omega
      rw [e, Int.zero_mul, Int.zero_mul]
  rw [h1, pot_sum]
  have e1 : sumTo (fun j => rowS M x j * -(u j)) J = sumTo (fun j => nd j * u j) J * -1 := by
    rw [← sumTo_mulc]
    exact sumTo_congr (fun j hj => by rw [hr j hj, Int.mul_neg, Int.mul_neg, Int.mul_one])
  have e2 : sumTo (fun a => colT J x a * -(w a)) M = sumTo (fun a => rm a * w a) M * -1 := by
    rw [← sumTo_mulc]
    refine sumTo_congr (fun a ha => ?_)
    have h2 := hn.col a ha
    by_cases h0 : 0 < w a
    · have h3 := pr_tight hn hl ha h0
      have e : colT J x a = rm a := by omega
      rw [e, Int.mul_neg, Int.mul_neg, Int.mul_one]
    · have := hl.ok.nn a ha
      have e : w a = 0 := by omega
      rw [e]; simp
  rw [e1, e2]
  omega
end
/-- The least prices are prices, and the least flow with them is a proof. -/
theorem lp_proof {F : Fld} {rooms needs S : List Int} {fl : Nat → Nat → Int} (hok : lfOk F rooms needs S = true) (ho : OptN F rooms needs S fl) :
    prB F S (lpU F rooms needs S) (lpW F rooms needs S) = true ∧ yieldF rooms needs (lpU F rooms needs S) (lpW F rooms needs S) = costT F.di.length F.op.length (dF F) fl := by
  have h0 := hok
  unfold lfOk at h0
  rw [Bool.and_eq_true, decide_eq_true_eq] at h0
  have hP := haul_p h0.1
  have hS := set_ex hP
  obtain ⟨lf, hn⟩ := ho.net
  obtain ⟨w0, hw0, _⟩ := pr_star hn
  obtain ⟨w, hl⟩ := pr_least ⟨w0, hw0⟩
  obtain ⟨w1, hw1, hs1⟩ := pr_small (dF_bd hP.good) hw0 (fun j a hj ha hx => hn.mayf j a hj ha hx) hS
  have hW := lpW_yes hok hP ho hl
  have hwl : (lpW F rooms needs S).length = F.op.length := by rw [hW, mapTo_len]
  have hwa : ∀ a, a < F.op.length → lget (lpW F rooms needs S) a = w a := fun a ha => by rw [hW, mapTo_lget ha]
  have hwb : ∀ a, a < F.op.length → 0 ≤ w a ∧ w a ≤ 198 := fun a ha => ⟨hl.ok.nn a ha, Int.le_trans (hl.low w1 hw1 a ha) (hs1 a ha)⟩
  have hU := lpU_yes hok
  have hul : (lpU F rooms needs S).length = F.di.length := by rw [hU, mapTo_len]
  have hua : ∀ j, j < F.di.length → lget (lpU F rooms needs S) j = offF F S (lpW F rooms needs S) j := fun j hj => by rw [hU, mapTo_lget hj]
  have hW9 : ∀ x ∈ lpW F rooms needs S, 0 ≤ x ∧ x ≤ 999 := fun x hx => by
    obtain ⟨i, hi, rfl⟩ := List.mem_iff_getElem.1 hx
    rw [← lget_at hi, hwa i (by omega)]
    have := hwb i (by omega); omega
  have hub : ∀ j, j < F.di.length → 0 ≤ offF F S (lpW F rooms needs S) j ∧ offF F S (lpW F rooms needs S) j ≤ 297 := fun j hj => by
    have hp : 0 < S.length := List.length_pos_iff.2 hP.ne
    refine ⟨(le_off hP.ne).2 (fun s hs => (valF_bd hP.good hj hW9).1), ?_⟩
    have h1 := (le_off (F := F) (S := S) (ws := lpW F rooms needs S) (j := j) hP.ne).1 (Int.le_refl _) _ (List.getElem_mem hp)
    have h2 := set_mem hP.set_ _ (List.getElem_mem hp)
    have h3 := dAt_bd hP.good hj S[0]
    have h4 := hwa S[0].toNat (by omega)
    have h5 := hwb S[0].toNat (by omega)
    unfold valF at h1
    omega
  refine ⟨prB_iff.2 ⟨hul, ⟨hW9, hwl⟩, fun a ha hp => ?_, fun j hj => ?_⟩, ?_⟩
  · rw [hwa a (by omega)] at hp
    cases hf : flHas S a
    · have := hl.ok.off a (by omega) hf; omega
    · rfl
  · rw [hua j (by omega)]
    have := hub j (by omega)
    exact ⟨by omega, Int.le_refl _⟩
  · have hu : ∀ j a, j < F.di.length → a < F.op.length → 0 < fl j a → offF F S (lpW F rooms needs S) j = dF F j a + w a := fun j a hj ha hx => by
      have hm : flHas S a = true := hn.mayf j a hj ha hx
      have h1 := (le_off (F := F) (S := S) (ws := lpW F rooms needs S) (j := j) hP.ne).1 (Int.le_refl _) _ (flHas_iff.1 hm)
      have e1 : valF F (lpW F rooms needs S) j (a : Int) = dF F j a + w a := by
        rw [← hwa a ha]; rfl
      have h2 : dF F j a + w a ≤ offF F S (lpW F rooms needs S) j := (le_off hP.ne).2 (fun s hs => by
        have h3 := set_mem hP.set_ s hs
        obtain ⟨b, rfl⟩ := Int.eq_ofNat_of_zero_le h3.1
        have h4 := hl.ok.stay j a b hj ha (by omega) (flHas_iff.2 hs) hx
        have e2 : valF F (lpW F rooms needs S) j (b : Int) = dF F j b + w b := by
          rw [← hwa b (by omega)]; rfl
        omega)
      omega
    rw [price_cost hn ho.row hl hu]
    unfold yieldF yP
    rw [hP.nl, hP.rl]
    have e1 : sumTo (fun j => lget needs j * lget (lpU F rooms needs S) j) F.di.length = sumTo (fun j => lget needs j * offF F S (lpW F rooms needs S) j) F.di.length := sumTo_congr (fun j hj => by rw [hua j hj])
    have e2 : sumTo (fun a => lget rooms a * lget (lpW F rooms needs S) a) F.op.length = sumTo (fun a => startR S rooms a * w a) F.op.length := sumTo_congr (fun a ha => by
      rw [hwa a ha]
      unfold startR
      cases hf : flHas S a
      · rw [hl.ok.off a ha hf]; simp
      · rfl)
    rw [e1, e2]
end Go.Proofs.Ytgdicmeabppngaa

namespace Go.Proofs.Ytgdicmeabppngaa
open Go.RowKit Go.Sort

theorem pos_lt {M i a j b : Nat} (ha : a < M) (hb : b < M) : i * M + a < j * M + b ↔ i < j ∨ (i = j ∧ a < b) := by
  constructor
  · intro h
    rcases Nat.lt_trichotomy i j with h1 | h1 | h1
    · exact .inl h1
    · subst h1; exact .inr ⟨rfl, by omega⟩
    · have := Nat.mul_le_mul_right M (show j + 1 ≤ i from h1)
      rw [Nat.add_mul, Nat.one_mul] at this
      omega
  · rintro (h1 | ⟨rfl, h1⟩)
    · have := Nat.mul_le_mul_right M (show i + 1 ≤ j from h1)
      rw [Nat.add_mul, Nat.one_mul] at this
      omega
    · omega
theorem pos_eq {M i a j b : Nat} (ha : a < M) (hb : b < M) (h : i * M + a = j * M + b) : i = j ∧ a = b := by
  have h1 := (pos_lt (i := i) (j := j) ha hb)
  have h2 := (pos_lt (i := j) (j := i) hb ha)
  omega
/-- There is a haul of cost c that has these numbers at the first t places. -/
def ExtG (J M : Nat) (d : Nat → Nat → Int) (may : Nat → Nat → Bool) (nd rm : Nat → Int) (c : Int) (t : Nat) (v : Nat → Nat → Int) : Prop :=
  ∃ x, Haul J M may nd rm x ∧ costT J M d x = c ∧ ∀ j a, j < J → a < M → j * M + a < t → x j a = v j a
section
variable {J M : Nat} {d : Nat → Nat → Int} {may : Nat → Nat → Bool} {nd rm : Nat → Int} {c : Int} {t : Nat} {v v' : Nat → Nat → Int}
theorem ExtG.congr (h : ExtG J M d may nd rm c t v) (e : ∀ j a, j < J → a < M → j * M + a < t → v j a = v' j a) : ExtG J M d may nd rm c t v' := by
  obtain ⟨x, h1, h2, h3⟩ := h
  exact ⟨x, h1, h2, fun j a hj ha hp => (h3 j a hj ha hp).trans (e j a hj ha hp)⟩
theorem ExtG.mono {t' : Nat} (h : ExtG J M d may nd rm c t v) (ht : t' ≤ t) : ExtG J M d may nd rm c t' v := by
  obtain ⟨x, h1, h2, h3⟩ := h
  exact ⟨x, h1, h2, fun j a hj ha hp => h3 j a hj ha (by omega)⟩
structure FirstG (J M : Nat) (d : Nat → Nat → Int) (may : Nat → Nat → Bool) (nd rm : Nat → Int) (c : Int) (t : Nat) (v : Nat → Nat → Int) : Prop where
  nn : ∀ j a, 0 ≤ v j a
  zero : ∀ j a, j < J → a < M → t ≤ j * M + a → v j a = 0
  ext : ExtG J M d may nd rm c t v
  least : ∀ j a, j < J → a < M → j * M + a < t → ∀ n : Nat, (n : Int) < v j a → ¬ ExtG J M d may nd rm c (j * M + a + 1) (upd2 v j a n)
theorem FirstG.start (h : IsLst J M d may nd rm c) : FirstG J M d may nd rm c 0 (fun _ _ => 0) := by
  obtain ⟨x, hx, hc⟩ := h.some_
  exact ⟨fun _ _ => Int.le_refl _, fun _ _ _ _ _ => rfl, ⟨x, hx, hc, fun j a _ _ hp => by omega⟩, fun j a _ _ hp => by omega⟩
theorem upd2_same {f : Nat → Nat → Int} {j a i b : Nat} {x : Int} : upd2 f j a x i b = if i = j ∧ b = a then x else f i b := by
  by_cases h : i = j ∧ b = a
  · obtain ⟨rfl, rfl⟩ := h; rw [if_pos ⟨rfl, rfl⟩, upd2_at]
  · rw [if_neg h, upd2_ne (by omega)]
/-- One number more. -/
theorem FirstG.step {j a : Nat} (h : FirstG J M d may nd rm c (j * M + a) v) (hj : j < J) (ha : a < M) (n : Nat) (he : ExtG J M d may nd rm c (j * M + a + 1) (upd2 v j a n)) (hm : ∀ m : Nat, m < n → ¬ ExtG J M d may nd rm c (j * M + a + 1) (upd2 v j a m)) :
    FirstG J M d may nd rm c (j * M + a + 1) (upd2 v j a n) := by
  refine ⟨fun i b => ?_, fun i b hi hb hp => ?_, he, fun i b hi hb hp m hlt hx => ?_⟩
  · rw [upd2_same]; split
    · omega
    · exact h.nn i b
  · rw [upd2_ne (by
      by_cases e : i = j
      · subst e; right; intro e2; subst e2; omega
      · exact .inl e)]
    exact h.zero i b hi hb (by omega)
  · by_cases e : i = j ∧ b = a
    · obtain ⟨rfl, rfl⟩ := e
      rw [upd2_at] at hlt
      refine hm m (by omega) (hx.congr (fun i' b' _ _ _ => ?_))
      rw [upd2_same, upd2_same, upd2_same]
      split <;> rfl
    · rw [upd2_ne (by omega)] at hlt
      have hlt2 : i * M + b < j * M + a := by
        rcases Nat.lt_or_ge (i * M + b) (j * M + a) with h1 | h1
        · exact h1
        · exact absurd (pos_eq hb ha (show i * M + b = j * M + a by omega)) e
      refine h.least i b hi hb hlt2 m hlt (hx.congr (fun i' b' hi' hb' hp' => ?_))
      rw [upd2_same, upd2_same, upd2_same]
      by_cases e1 : i' = i ∧ b' = b
      · rw [if_pos e1, if_pos e1]
      · rw [if_neg e1, if_neg e1, if_neg (by
          rintro ⟨rfl, rfl⟩
          omega)]
/-- There is a next number, and it is no greater than any haul's of least cost that begins so. -/
theorem FirstG.next {j a : Nat} (h : FirstG J M d may nd rm c (j * M + a) v) (hj : j < J) (ha : a < M) (hn : ∀ i, nd i ≤ 1000) : ∃ n : Nat, n ≤ 1000 ∧ ExtG J M d may nd rm c (j * M + a + 1) (upd2 v j a n) := by
  obtain ⟨x, h1, h2, h3⟩ := h.ext
  have h4 := h1.nn j a hj ha
  have h5 : x j a ≤ rowS M x j := sumTo_ge (g := x j) (fun b hb => h1.nn j b hj hb) ha
  rw [h1.row j hj] at h5
  have h6 := hn j
  refine ⟨(x j a).toNat, by omega, x, h1, h2, fun i b hi hb hp => ?_⟩
  rw [upd2_same]
  by_cases e : i = j ∧ b = a
  · obtain ⟨rfl, rfl⟩ := e
    rw [if_pos ⟨rfl, rfl⟩, Int.toNat_of_nonneg h4]
  · rw [if_neg e]
    exact h3 i b hi hb (by
      rcases Nat.lt_or_ge (i * M + b) (j * M + a) with h1 | h1
      · exact h1
      · exact absurd (pos_eq hb ha (show i * M + b = j * M + a by omega)) e)
theorem FirstG.uniq (h : FirstG J M d may nd rm c t v) (h' : FirstG J M d may nd rm c t v') : ∀ p j a, j < J → a < M → j * M + a = p → p < t → v j a = v' j a := by
  intro p
  induction p using Nat.strongRecOn with
  | _ p ih =>
    intro j a hj ha hp hpt
    have low : ∀ {u u' : Nat → Nat → Int}, FirstG J M d may nd rm c t u → FirstG J M d may nd rm c t u' → (∀ i b, i < J → b < M → i * M + b < p → u i b = u' i b) → ¬ u j a < u' j a := fun {u u'} hu hu' he hlt => by
      have h0 := hu.nn j a
      refine hu'.least j a hj ha (by omega) (u j a).toNat (by rw [Int.toNat_of_nonneg h0]; exact hlt) ((hu.ext.mono (t' := j * M + a + 1) (by omega)).congr (fun i b hi hb hib => ?_))
      rw [upd2_same]
      by_cases e : i = j ∧ b = a
      · obtain ⟨rfl, rfl⟩ := e
        rw [if_pos ⟨rfl, rfl⟩, Int.toNat_of_nonneg h0]
      · rw [if_neg e]
        refine he i b hi hb ?_
        rcases Nat.lt_or_ge (i * M + b) p with h1 | h1
        · exact h1
        · exact absurd (pos_eq hb ha (show i * M + b = j * M + a by omega)) e
    have h1 := low h h' (fun i b hi hb hib => ih _ hib i b hi hb rfl (by omega))
    have h2 := low h' h (fun i b hi hb hib => (ih _ hib i b hi hb rfl (by omega)).symm)
    omega
end
/-- What is left to be done behind the first t numbers. -/
def mayT (M : Nat) (may : Nat → Nat → Bool) (t j a : Nat) : Bool := may j a && decide (t ≤ j * M + a)
theorem row_add (M : Nat) (x y : Nat → Nat → Int) (j : Nat) : rowS M (fun j a => x j a + y j a) j = rowS M x j + rowS M y j := sumTo_addf _ _ _
theorem col_add (J : Nat) (x y : Nat → Nat → Int) (a : Nat) : colT J (fun j a => x j a + y j a) a = colT J x a + colT J y a := sumTo_addf _ _ _
theorem cost_add (J M : Nat) (d x y : Nat → Nat → Int) : costT J M d (fun j a => x j a + y j a) = costT J M d x + costT J M d y := by
  unfold costT
  rw [← sumTo_addf]
  exact sumTo_congr (fun j _ => by
    rw [← sumTo_addf]
    exact sumTo_congr (fun a _ => by rw [Int.add_mul]))
theorem cost_congr {J M : Nat} {d x y : Nat → Nat → Int} (h : ∀ j a, j < J → a < M → x j a = y j a) : costT J M d x = costT J M d y := sumTo_congr (fun j hj => sumTo_congr (fun a ha => by rw [h j a hj ha]))
theorem cost_upd2 {J M : Nat} (d f : Nat → Nat → Int) {j a : Nat} (x : Int) (hj : j < J) (ha : a < M) : costT J M d (upd2 f j a x) = costT J M d f + (x - f j a) * d j a := by
  have e1 : ∀ i, i < J → sumTo (fun b => upd2 f j a x i b * d i b) M = upd (fun i => sumTo (fun b => f i b * d i b) M) j (sumTo (fun b => f j b * d j b) M + (x - f j a) * d j a) i := fun i hi => by
    by_cases e : i = j
    · subst e
      rw [upd_at]
      have e2 : sumTo (fun b => upd2 f i a x i b * d i b) M = sumTo (upd (fun b => f i b * d i b) a (x * d i a)) M := sumTo_congr (fun b _ => by
        rw [upd2_same]
        by_cases e : b = a
        · subst e; rw [if_pos ⟨rfl, rfl⟩, upd_at]
        · rw [if_neg (fun h => e h.2), upd_ne e])
      rw [e2, sumTo_upd, if_pos ha, Int.sub_mul]
    · rw [upd_ne e]
      exact sumTo_congr (fun b _ => by rw [upd2_ne (.inl e)])
  unfold costT
  rw [sumTo_congr e1, sumTo_upd, if_pos hj]
  omega
section
variable {J M : Nat} {d : Nat → Nat → Int} {may : Nat → Nat → Bool} {nd rm : Nat → Int} {c : Int} {t : Nat} {v : Nat → Nat → Int}
theorem ext_down (h : ExtG J M d may nd rm c t v) (hz : ∀ j a, j < J → a < M → t ≤ j * M + a → v j a = 0) : ∃ y, Haul J M (mayT M may t) (fun j => nd j - rowS M v j) (fun a => rm a - colT J v a) y ∧ costT J M d v + costT J M d y = c := by
  obtain ⟨x, h1, h2, h3⟩ := h
  have hsum : ∀ j a, j < J → a < M → x j a = v j a + (x j a - v j a) := fun j a _ _ => by omega
  have hy : ∀ j a, j < J → a < M → (x j a - v j a = 0 ∧ j * M + a < t) ∨ (x j a - v j a = x j a ∧ t ≤ j * M + a) := fun j a hj ha => by
    by_cases hp : j * M + a < t
    · exact .inl ⟨by rw [h3 j a hj ha hp]; omega, hp⟩
    · exact .inr ⟨by rw [hz j a hj ha (by omega)]; omega, by omega⟩
  refine ⟨fun j a => x j a - v j a, ⟨fun j a hj ha => ?_, fun j a hj ha hp => ?_, fun j hj => ?_, fun a ha => ?_⟩, ?_⟩
  · have := h1.nn j a hj ha
    rcases hy j a hj ha with h | h <;> omega
  · rcases hy j a hj ha with h | h
    · omega
    · unfold mayT
      rw [h1.may j a hj ha (by omega), decide_eq_true h.2]; rfl
  · have := h1.row j hj
    have e : rowS M (fun j a => x j a - v j a) j = rowS M x j - rowS M v j := sumTo_sub _ _ _
    rw [e]; omega
  · have := h1.col a ha
    have e : colT J (fun j a => x j a - v j a) a = colT J x a - colT J v a := sumTo_sub _ _ _
    rw [e]; omega
  · rw [← cost_add, ← h2]
    exact (cost_congr (fun j a hj ha => by show _ = v j a + (x j a - v j a); omega)).symm
theorem ext_up (hn : ∀ j a, 0 ≤ v j a) (hm : ∀ j a, j < J → a < M → 0 < v j a → may j a = true) (hz : ∀ j a, j < J → a < M → t ≤ j * M + a → v j a = 0) {y : Nat → Nat → Int} (hy : Haul J M (mayT M may t) (fun j => nd j - rowS M v j) (fun a => rm a - colT J v a) y) :
    Haul J M may nd rm (fun j a => v j a + y j a) ∧ costT J M d (fun j a => v j a + y j a) = costT J M d v + costT J M d y ∧ ∀ j a, j < J → a < M → j * M + a < t → v j a + y j a = v j a := by
  refine ⟨⟨fun j a hj ha => by have := hn j a; have := hy.nn j a hj ha; omega, fun j a hj ha hp => ?_, fun j hj => ?_, fun a ha => ?_⟩, cost_add _ _ _ _ _, fun j a hj ha hp => ?_⟩
  · by_cases h : 0 < v j a
    · exact hm j a hj ha h
    · have := hy.may j a hj ha (by have := hn j a; omega)
      unfold mayT at this
      rw [Bool.and_eq_true] at this
      exact this.1
  · rw [row_add, hy.row j hj]; omega
  · rw [col_add]; have := hy.col a ha; omega
  · have h0 := hy.nn j a hj ha
    have : ¬ 0 < y j a := fun h => by
      have := hy.may j a hj ha h
      unfold mayT at this
      rw [Bool.and_eq_true, decide_eq_true_eq] at this
      omega
    omega
/-- The test that both texts make. -/
theorem ext_test (hl : IsLst J M d may nd rm c) (hn : ∀ j a, 0 ≤ v j a) (hm : ∀ j a, j < J → a < M → 0 < v j a → may j a = true) (hz : ∀ j a, j < J → a < M → t ≤ j * M + a → v j a = 0) {m : Int}
    (hy : IsLst J M d (mayT M may t) (fun j => nd j - rowS M v j) (fun a => rm a - colT J v a) m) : costT J M d v + m = c ↔ ExtG J M d may nd rm c t v := by
  obtain ⟨y, h1, h2⟩ := hy.some_
  obtain ⟨g1, g2, g3⟩ := ext_up (d := d) hn hm hz h1
  constructor
  · intro e
    exact ⟨_, g1, by rw [g2, h2]; exact e, g3⟩
  · intro he
    obtain ⟨y', h3, h4⟩ := ext_down he hz
    have h5 := hy.all_ y' h3
    have h6 := hl.all_ _ g1
    rw [g2, h2] at h6
    omega
theorem ext_no (hz : ∀ j a, j < J → a < M → t ≤ j * M + a → v j a = 0) (hy : ∀ y, ¬ Haul J M (mayT M may t) (fun j => nd j - rowS M v j) (fun a => rm a - colT J v a) y) : ¬ ExtG J M d may nd rm c t v := fun h => by
  obtain ⟨y, h1, _⟩ := ext_down h hz
  exact hy y h1
/-- Where a place may have no numbers, the first number fits. -/
theorem ext_closed {j a : Nat} (h : ExtG J M d may nd rm c (j * M + a) v) (hj : j < J) (ha : a < M) (hc : may j a = false) : ExtG J M d may nd rm c (j * M + a + 1) (upd2 v j a 0) := by
  obtain ⟨x, h1, h2, h3⟩ := h
  refine ⟨x, h1, h2, fun i b hi hb hp => ?_⟩
  rw [upd2_same]
  by_cases e : i = j ∧ b = a
  · obtain ⟨rfl, rfl⟩ := e
    rw [if_pos ⟨rfl, rfl⟩]
    have := h1.nn i b hj ha
    have : ¬ 0 < x i b := fun hpos => by rw [h1.may i b hj ha hpos] at hc; cases hc
    omega
  · rw [if_neg e]
    exact h3 i b hi hb (by
      rcases Nat.lt_or_ge (i * M + b) (j * M + a) with h1 | h1
      · exact h1
      · exact absurd (pos_eq hb ha (show i * M + b = j * M + a by omega)) e)
/-- The numbers stay where they may be. -/
theorem FirstG.mayG (h : FirstG J M d may nd rm c t v) : ∀ j a, j < J → a < M → 0 < v j a → may j a = true := fun j a hj ha hp => by
  obtain ⟨x, h1, _, h3⟩ := h.ext
  by_cases hpt : j * M + a < t
  · exact h1.may j a hj ha (by rw [h3 j a hj ha hpt]; exact hp)
  · rw [h.zero j a hj ha (by omega)] at hp; omega
/-- What is left is never less than nothing. -/
theorem FirstG.rest (h : FirstG J M d may nd rm c t v) : (∀ j, j < J → 0 ≤ nd j - rowS M v j) ∧ (∀ a, a < M → 0 ≤ rm a - colT J v a) := by
  obtain ⟨y, h1, _⟩ := ext_down h.ext h.zero
  refine ⟨fun j hj => ?_, fun a ha => ?_⟩
  · rw [← h1.row j hj]; exact sumTo_nn (fun a ha => h1.nn j a hj ha)
  · have := h1.col a ha
    have h2 : 0 ≤ colT J y a := sumTo_nn (fun j hj => h1.nn j a hj ha)
    omega
end
open Classical in
/-- The first haul of least cost. -/
noncomputable def fstG (J M : Nat) (d : Nat → Nat → Int) (may : Nat → Nat → Bool) (nd rm : Nat → Int) (j a : Nat) : Int := if h : ∃ v, FirstG J M d may nd rm (lstC J M d may nd rm) (J * M) v then Classical.choose h j a else 0
theorem fst_eq {J M : Nat} {d : Nat → Nat → Int} {may : Nat → Nat → Bool} {nd rm : Nat → Int} {c : Int} (hl : IsLst J M d may nd rm c) {v : Nat → Nat → Int} (h : FirstG J M d may nd rm c (J * M) v) {j a : Nat} (hj : j < J) (ha : a < M) : v j a = fstG J M d may nd rm j a := by
  have hc := lst_eq hl
  rw [← hc] at h
  have hex : ∃ v, FirstG J M d may nd rm (lstC J M d may nd rm) (J * M) v := ⟨v, h⟩
  unfold fstG
  rw [dif_pos hex]
  have hlt : j * M + a < J * M := by
    have := (pos_lt (M := M) (i := j) (a := a) (j := J) (b := 0) ha (by omega)).2 (.inl hj)
    omega
  exact FirstG.uniq h (Classical.choose_spec hex) _ j a hj ha rfl hlt
end Go.Proofs.Ytgdicmeabppngaa

namespace Go.Proofs.Ytgdicmeabppngaa
open Go.RowKit Go.Sort

theorem clone_none (c : Nat) (w : World) :
    Calls Try.prog 24 #[.slice none 0 c] w fun e w' => ∃ v, e = .returned v ∧ Own w' w.heap.size v [] ∧ Kp w w' := by
  have hq := fun (w : World) (a : Option Addr) (n c : Nat) => Lib.run_eql_slice_nil (P := Try.prog) w 24 3 a n c 0 0 Try.underlying24
  go_enter Try.func24, Try.ntmps24
  go_wp2_with fail
  go_ret
  exact ⟨_, rfl, Own.nil _ _, Kp.refl _⟩
theorem clone_all (A : Option Addr) (xs : List Int) (n c : Nat) (w : World) (hx : IntsAt w A xs) (hn : xs.length = n) (hb : n ≤ 1048576) :
    Calls Try.prog 24 #[.slice A n c] w fun e w' => ∃ v, e = .returned v ∧ Own w' w.heap.size v xs ∧ Kp w w' := by
  cases A with
  | some ad => exact clone_some ad xs n c w hx hn hb
  | none =>
    have h0 : xs.length = 0 := by
      rcases Nat.eq_zero_or_pos xs.length with h | h
      · exact h
      · obtain ⟨ad, e, _⟩ := hx.at_ (k := 0) h
        cases e
    obtain rfl : xs = [] := List.eq_nil_of_length_eq_zero h0
    obtain rfl : n = 0 := by rw [← hn]; rfl
    exact clone_none c w
theorem mayT_no {M t j a : Nat} {may : Nat → Nat → Bool} (h : may j a = false) : mayT M may t j a = false := by unfold mayT; rw [h]; rfl
theorem mayT_yes {M t j a : Nat} {may : Nat → Nat → Bool} (h : may j a = true) : mayT M may t j a = decide (t ≤ j * M + a) := by unfold mayT; rw [h]; rfl
set_option maxHeartbeats 400000 in
theorem lsfClo_any (FN : FuncId) (caps : Array Value) (J M : Nat) (may : Nat → Nat → Bool) (p q t : Nat) (w : World) (hcan : Can FN caps J M may w) (i0 a0 : Nat) (ha0 : a0 < M) (x0 : w.cell? ⟨p, 0, none⟩ = some (.func (.func FN) #[] caps)) (x1 : w.cell? ⟨q, 0, none⟩ = some (.int .i64 (i0 : Int))) (x2 : w.cell? ⟨t, 0, none⟩ = some (.int .i64 (a0 : Int))) (j b : Nat) (hj : j < J) (hb : b < M) :
    Calls Try.prog 25 #[.int .i64 (j : Int), .int .i64 (b : Int), .pointer (some ⟨p, 0, none⟩), .pointer (some ⟨q, 0, none⟩), .pointer (some ⟨t, 0, none⟩)] w fun e w' => e = .returned (.bool (mayT M may (i0 * M + a0 + 1) j b)) ∧ Dr w w' := by
  have hrun := hcan.run
  have CC := Lib.hid (fun (w' : World) (hk : Kp w w') => hcan.at_ j b w' hk hj hb)
  have Hp := Lib.hid (pos_lt (M := M) (i := i0) (j := j) ha0 hb)
  have hk0 := Kp.refl w
  clear hcan
  cases hm : may j b
  · have Hv := Lib.hid (mayT_no (M := M) (t := i0 * M + a0 + 1) hm)
    rw [hm] at CC
    go_enter Try.func25, Try.ntmps25
    go_wp2_with fail
    with_reducible refine Calls.mono (CC.out _ hk0) ?_
    rintro e w' ⟨rfl, hd⟩
    go_wp2_with fail
    go_ret
    exact ⟨ret_bool Hv.out.symm, hd⟩
  · have Hv : Hid (mayT M may (i0 * M + a0 + 1) j b = decide (i0 < j ∨ (i0 = j ∧ a0 < b))) := by
      show _ = _
      rw [mayT_yes hm]
      exact decide_eq_decide.2 Hp.out
    rw [hm] at CC
    by_cases h1 : i0 < j
    · have g1 : (i0 : Int) < (j : Int) := by omega
      have Hv2 : Hid (mayT M may (i0 * M + a0 + 1) j b = true) := by show _ = _; rw [Hv.out]; exact decide_eq_true (.inl h1)
      clear Hv Hp
      go_enter Try.func25, Try.ntmps25
      go_wp2_with fail
      with_reducible refine Calls.mono (CC.out _ hk0) ?_
      rintro e w' ⟨rfl, hd⟩
      have y1 := hd.kp.get x1; have y2 := hd.kp.get x2
      go_wp2_with fail
      go_ret
      exact ⟨ret_bool Hv2.out.symm, hd⟩
    · have g1 : ¬ (i0 : Int) < (j : Int) := by omega
      by_cases h2 : i0 = j
      · have g2 : ((j : Int) == (i0 : Int)) = true := by rw [beq_iff_eq]; omega
        have Hv2 : Hid (mayT M may (i0 * M + a0 + 1) j b = decide (a0 < b)) := by show _ = _; rw [Hv.out]; exact decide_eq_decide.2 (by omega)
        clear Hv Hp h1
        go_enter Try.func25, Try.ntmps25
        go_wp2_with fail
        with_reducible refine Calls.mono (CC.out _ hk0) ?_
        rintro e w' ⟨rfl, hd⟩
        have y1 := hd.kp.get x1; have y2 := hd.kp.get x2
        go_wp2_with fail
        go_ret
        exact ⟨ret_bool Hv2.out.symm, hd⟩
      · have g2 : ((j : Int) == (i0 : Int)) = false := by rw [beq_eq_false_iff_ne]; omega
        have Hv2 : Hid (mayT M may (i0 * M + a0 + 1) j b = false) := by show _ = _; rw [Hv.out]; exact decide_eq_false (by omega)
        clear Hv Hp
        go_enter Try.func25, Try.ntmps25
        go_wp2_with fail
        with_reducible refine Calls.mono (CC.out _ hk0) ?_
        rintro e w' ⟨rfl, hd⟩
        have y1 := hd.kp.get x1; have y2 := hd.kp.get x2
        go_wp2_with fail
        go_ret
        exact ⟨ret_bool Hv2.out.symm, hd⟩
end Go.Proofs.Ytgdicmeabppngaa
