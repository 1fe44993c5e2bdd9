/- The least flow prices: they hang on no flow: plain words; LeastFlowPrices: words. No condition. -/
import Derived.Test.YtcnceocgdghciaaQAs
namespace Go.Proofs.Ytcnceocgdghciaa
open Go.RowKit Go.Sort

/-- Prices of sites under which nobody who is sent somewhere would rather go elsewhere. -/
structure PrOk (J M : Nat) (d : Nat → Nat → Int) (sA : Nat → Bool) (x : Nat → Nat → Int) (w : Nat → Int) : Prop where
  nn : ∀ a, a < M → 0 ≤ w a
  off : ∀ a, a < M → sA a = false → w a = 0
  stay : ∀ j a b, j < J → a < M → b < M → sA b = true → 0 < x j a → w a + d j a - d j b ≤ w b
structure LeastPr (J M : Nat) (d : Nat → Nat → Int) (sA : Nat → Bool) (x : Nat → Nat → Int) (w : Nat → Int) : Prop where
  ok : PrOk J M d sA x w
  low : ∀ w', PrOk J M d sA x w' → ∀ a, a < M → w a ≤ w' a
section
variable {J M : Nat} {d : Nat → Nat → Int} {sA : Nat → Bool} {rm nd lf : Nat → Int} {x y : Nat → Nat → Int} {w w' : Nat → Int}
/-- There are such prices, and they are 0 where there is room left. -/
theorem pr_star (hn : Net J M d (fun _ a => sA a) rm x lf) : ∃ w, PrOk J M d sA x w ∧ ∀ a, a < M → 0 < w a → lf a = 0 := by
  obtain ⟨pc, ps, T, hp⟩ := hn.pot
  refine ⟨fun a => if sA a = true then max 0 (T - ps a) else 0, ⟨fun a _ => ?_, fun a _ h => ?_, fun j a b hj ha hb hs hx => ?_⟩, fun a ha hpos => ?_⟩
  · split <;> omega
  · rw [h]; rfl
  · have hsa : sA a = true := hn.mayf j a hj ha hx
    rw [if_pos hsa, if_pos hs]
    have h1 : 0 < colT J x a := by
      have : x j a ≤ colT J x a := sumTo_ge (g := fun j => x j a) (fun i hi => hn.nn i a hi ha) hj
      omega
    have h2 := hp.used a ha h1
    have h3 := hp.arc j b hj hb hs
    have h4 := hp.back j a hj ha hx
    omega
  · dsimp only at hpos
    have h0 := hn.lf0 a ha
    by_cases hl : 0 < lf a
    · have := hp.room a ha hl
      split at hpos <;> omega
    · omega
theorem min_ex (f : Nat → Int) (p : Nat → Bool) : ∀ n, (∃ a, a < n ∧ p a = true) → ∃ b, b < n ∧ p b = true ∧ ∀ a, a < n → p a = true → f b ≤ f a
  | 0, h => by obtain ⟨a, ha, _⟩ := h; omega
  | n + 1, h => by
    by_cases he : ∃ a, a < n ∧ p a = true
    · obtain ⟨b, hb, hpb, hm⟩ := min_ex f p n he
      by_cases hn : p n = true ∧ f n < f b
      · refine ⟨n, by omega, hn.1, fun a ha hpa => ?_⟩
        by_cases e : a = n
        · subst e; exact Int.le_refl _
        · have := hm a (by omega) hpa; omega
      · refine ⟨b, by omega, hpb, fun a ha hpa => ?_⟩
        by_cases e : a = n
        · subst e; exact Int.not_lt.1 (fun h => hn ⟨hpa, h⟩)
        · exact hm a (by omega) hpa
    · obtain ⟨a, ha, hpa⟩ := h
      have e : a = n := by
        rcases Nat.lt_or_ge a n with h1 | h1
        · exact absurd ⟨a, h1, hpa⟩ he
        · omega
      subst e
      refine ⟨a, by omega, hpa, fun b hb hpb => ?_⟩
      by_cases e : b = a
      · subst e; exact Int.le_refl _
      · exact absurd ⟨b, by omega, hpb⟩ he
/-- .. and small ones. -/
theorem pr_small (hd : ∀ j a, 0 ≤ d j a ∧ d j a ≤ 99) (hw : PrOk J M d sA x w) (hm : ∀ j a, j < J → a < M → 0 < x j a → sA a = true) (hS : ∃ a, a < M ∧ sA a = true) : ∃ w', PrOk J M d sA x w' ∧ ∀ a, a < M → w' a ≤ 198 := by
  obtain ⟨b0, hb0, hs0, hmin⟩ := min_ex w sA M hS
  have hfl : ∀ j a, j < J → a < M → 0 < x j a → w a - w b0 ≤ 99 := fun j a hj ha hx => by
    have := hw.stay j a b0 hj ha hb0 hs0 hx
    have := hd j a; have := hd j b0
    omega
  refine ⟨fun a => if sA a = true then min (w a - w b0) 198 else 0, ⟨fun a ha => ?_, fun a _ h => ?_, fun j a b hj ha hb hs hx => ?_⟩, fun a _ => ?_⟩
  · split
    · have := hmin a ha (by assumption); omega
    · omega
  · rw [h]; rfl
  · rw [if_pos (hm j a hj ha hx), if_pos hs]
    have h1 := hw.stay j a b hj ha hb hs hx
    have h2 := hfl j a hj ha hx
    have := hd j a; have := hd j b
    omega
  · show (if sA a = true then min (w a - w b0) 198 else 0) ≤ 198; split <;> omega
def offer (M : Nat) (d : Nat → Nat → Int) (sA : Nat → Bool) (w : Nat → Int) (j : Nat) (u : Int) : Prop := (∃ a, a < M ∧ sA a = true ∧ u = d j a + w a) ∧ ∀ a, a < M → sA a = true → u ≤ d j a + w a
/-- What a haul costs above what the prices yield. -/
theorem gap_eq (hy : Haul J M (fun _ a => sA a) nd rm y) (u : Nat → Int) (w : Nat → Int) :
    costT J M d y - (sumTo (fun j => nd j * u j) J - sumTo (fun a => rm a * w a) M) = sumTo (fun j => sumTo (fun a => y j a * (d j a - u j + w a)) M) J + sumTo (fun a => (rm a - colT J y a) * w a) M := by
  have h1 := pot_sum (J := J) (M := M) y u w
  have h2 : sumTo (fun j => sumTo (fun a => y j a * (d j a - u j + w a)) M) J = costT J M d y + sumTo (fun j => sumTo (fun a => y j a * (w a - u j)) M) J := by
    unfold costT
    rw [← sumTo_addf]
    refine sumTo_congr (fun j _ => ?_)
    rw [← sumTo_addf]
    refine sumTo_congr (fun a _ => ?_)
    rw [← Int.mul_add]
    congr 1
    omega
  have h3 : sumTo (fun a => (rm a - colT J y a) * w a) M = sumTo (fun a => rm a * w a) M - sumTo (fun a => colT J y a * w a) M := by
    rw [← sumTo_sub]
    exact sumTo_congr (fun a _ => Int.sub_mul _ _ _)
  have h4 : sumTo (fun j => rowS M y j * u j) J = sumTo (fun j => nd j * u j) J := sumTo_congr (fun j hj => by rw [hy.row j hj])
  rw [h2, h1, h3, h4]
  omega
/-- Prices that are least for one flow of least cost suit every other one. -/
theorem pr_moves (hn : Net J M d (fun _ a => sA a) rm x lf) (hx : ∀ j, j < J → rowS M x j = nd j) (hy : Haul J M (fun _ a => sA a) nd rm y) (hc : costT J M d y ≤ costT J M d x) (hw : LeastPr J M d sA x w) (hS : ∃ a, a < M ∧ sA a = true) : PrOk J M d sA y w := by
  obtain ⟨ws, hs1, hs2⟩ := pr_star hn
  have hfull : ∀ a, a < M → 0 < w a → colT J x a = rm a := fun a ha hp => by
    have h1 := hw.low ws hs1 a ha
    have h2 := hs2 a ha (by omega)
    have := hn.col a ha
    omega
  have hu : ∀ j, ∃ u, offer M d sA w j u := fun j => by
    obtain ⟨b, hb, hsb, hm⟩ := min_ex (fun a => d j a + w a) sA M hS
    exact ⟨_, ⟨b, hb, hsb, rfl⟩, hm⟩
  obtain ⟨u, hu⟩ := Classical.axiomOfChoice hu
  have hX := (hn.least hx).1
  have g1 := gap_eq (d := d) hX u w
  have g2 := gap_eq (d := d) hy u w
  have z1 : sumTo (fun j => sumTo (fun a => x j a * (d j a - u j + w a)) M) J = 0 := by
    have e : ∀ j, j < J → sumTo (fun a => x j a * (d j a - u j + w a)) M = 0 := fun j hj => by
      have e2 : ∀ a, a < M → x j a * (d j a - u j + w a) = 0 := fun a ha => by
        have h0 := hn.nn j a hj ha
        by_cases hp : 0 < x j a
        · obtain ⟨⟨b, hb, hsb, hub⟩, hle⟩ := hu j
          have h1 := hle a ha (hn.mayf j a hj ha hp)
          have h2 := hw.ok.stay j a b hj ha hb hsb hp
          have : d j a - u j + w a = 0 := by omega
          rw [this, Int.mul_zero]
        · have : x j a = 0 := by omega
          rw [this, Int.zero_mul]
      rw [sumTo_congr e2, sumTo_c0]
    rw [sumTo_congr e, sumTo_c0]
  have z2 : sumTo (fun a => (rm a - colT J x a) * w a) M = 0 := by
    have e : ∀ a, a < M → (rm a - colT J x a) * w a = 0 := fun a ha => by
      have h0 := hw.ok.nn a ha
      by_cases hp : 0 < w a
      · rw [hfull a ha hp, Int.sub_self, Int.zero_mul]
      · have : w a = 0 := by omega
        rw [this, Int.mul_zero]
    rw [sumTo_congr e, sumTo_c0]
  have p1 : ∀ j, j < J → ∀ a, a < M → 0 ≤ y j a * (d j a - u j + w a) := fun j hj a ha => by
    have h0 := hy.nn j a hj ha
    by_cases hp : 0 < y j a
    · have := (hu j).2 a ha (hy.may j a hj ha hp)
      exact Int.mul_nonneg h0 (by omega)
    · have : y j a = 0 := by omega
      rw [this, Int.zero_mul]; exact Int.le_refl _
  have p2 : ∀ a, a < M → 0 ≤ (rm a - colT J y a) * w a := fun a ha => Int.mul_nonneg (by have := hy.col a ha; omega) (hw.ok.nn a ha)
  have s1 : ∀ j, j < J → 0 ≤ sumTo (fun a => y j a * (d j a - u j + w a)) M := fun j hj => sumTo_nn (fun a ha => p1 j hj a ha)
  have t1 := sumTo_nn s1
  have t2 := sumTo_nn p2
  have hz : sumTo (fun j => sumTo (fun a => y j a * (d j a - u j + w a)) M) J = 0 := by omega
  refine ⟨hw.ok.nn, hw.ok.off, fun j a b hj ha hb hsb hp => ?_⟩
  have r1 := sumTo_ge (g := fun j => sumTo (fun a => y j a * (d j a - u j + w a)) M) s1 hj
  have r2 := sumTo_ge (g := fun a => y j a * (d j a - u j + w a)) (fun a ha => p1 j hj a ha) ha
  have r3 := p1 j hj a ha
  have r4 : y j a * (d j a - u j + w a) = 0 := by
    omega
  have r5 : d j a - u j + w a = 0 := by
    rcases Int.mul_eq_zero.1 r4 with h | h
    · omega
    · exact h
  have := (hu j).2 b hb hsb
  omega
theorem least_uniq {x' : Nat → Nat → Int} {lf' w' : Nat → Int} (hn : Net J M d (fun _ a => sA a) rm x lf) (hx : ∀ j, j < J → rowS M x j = nd j) (hn' : Net J M d (fun _ a => sA a) rm x' lf') (hx' : ∀ j, j < J → rowS M x' j = nd j) (hw : LeastPr J M d sA x w) (hw' : LeastPr J M d sA x' w') (hS : ∃ a, a < M ∧ sA a = true) : ∀ a, a < M → w a = w' a := fun a ha => by
  have h1 := (hn.least hx)
  have h2 := (hn'.least hx')
  have a1 := pr_moves hn hx h2.1 (h2.2 x h1.1) hw hS
  have a2 := pr_moves hn' hx' h1.1 (h1.2 x' h2.1) hw' hS
  have := hw.low w' a2 a ha
  have := hw'.low w a1 a ha
  omega
/-- Prices on the way to the least ones. -/
structure LowPr (J M : Nat) (d : Nat → Nat → Int) (sA : Nat → Bool) (x : Nat → Nat → Int) (w : Nat → Int) : Prop where
  nn : ∀ a, a < M → 0 ≤ w a
  off : ∀ a, a < M → sA a = false → w a = 0
  low : ∀ w', PrOk J M d sA x w' → ∀ a, a < M → w a ≤ w' a
theorem LowPr.zero : LowPr J M d sA x (fun _ => 0) := ⟨fun _ _ => Int.le_refl _, fun _ _ _ => rfl, fun _ h a ha => h.nn a ha⟩
theorem LowPr.step (h : LowPr J M d sA x w) {j a b : Nat} (hj : j < J) (ha : a < M) (hb : b < M) (hs : sA b = true) (hx : 0 < x j a) (hl : w b < w a + d j a - d j b) : LowPr J M d sA x (upd w b (w a + d j a - d j b)) := by
  refine ⟨fun c hc => ?_, fun c hc ho => ?_, fun w' hw' c hc => ?_⟩
  · by_cases e : c = b
    · subst e; rw [upd_at]; have := h.nn c hc; omega
    · rw [upd_ne e]; exact h.nn c hc
  · by_cases e : c = b
    · subst e; rw [hs] at ho; cases ho
    · rw [upd_ne e]; exact h.off c hc ho
  · by_cases e : c = b
    · subst e; rw [upd_at]
      have h1 := hw'.stay j a c hj ha hb hs hx
      have h2 := h.low w' hw' a ha
      omega
    · rw [upd_ne e]; exact h.low w' hw' c hc
theorem LowPr.least (h : LowPr J M d sA x w) (hs : ∀ j a b, j < J → a < M → b < M → sA b = true → 0 < x j a → w a + d j a - d j b ≤ w b) : LeastPr J M d sA x w := ⟨⟨h.nn, h.off, hs⟩, h.low⟩
theorem LowPr.bd (h : LowPr J M d sA x w) (hw : ∃ w', PrOk J M d sA x w' ∧ ∀ a, a < M → w' a ≤ 198) {a : Nat} (ha : a < M) : 0 ≤ w a ∧ w a ≤ 198 := by
  obtain ⟨w', h1, h2⟩ := hw
  have := h.low w' h1 a ha; have := h2 a ha
  exact ⟨h.nn a ha, by omega⟩
end
end Go.Proofs.Ytcnceocgdghciaa

namespace Go.Proofs.Ytcnceocgdghciaa
open Go.RowKit Go.Sort

/-- Rooms of closed sites, or that sites are closed, make no difference to a net. -/
theorem net_start {J M : Nat} {d : Nat → Nat → Int} {may : Nat → Nat → Bool} {rm lf : Nat → Int} {f : Nat → Nat → Int} (hn : Net J M d may rm f lf) (sA : Nat → Bool) (hm : ∀ j a, may j a = true → sA a = true) : Net J M d may (fun a => if sA a = true then rm a else 0) f (fun a => if sA a = true then lf a else 0) := by
  refine ⟨hn.nn, hn.mayf, fun a ha => ?_, fun a ha => ?_, ?_⟩
  · split
    · exact hn.lf0 a ha
    · omega
  · by_cases hs : sA a = true
    · rw [if_pos hs, if_pos hs]; exact hn.col a ha
    · rw [if_neg hs, if_neg hs]
      have e : colT J f a = sumTo (fun _ => 0) J := sumTo_congr (fun j hj => by
        have := hn.nn j a hj ha
        by_cases hp : 0 < f j a
        · exact absurd (hm j a (hn.mayf j a hj ha hp)) hs
        · omega)
      rw [e, sumTo_c0]; rfl
  · obtain ⟨pc, ps, T, hp⟩ := hn.pot
    exact ⟨pc, ps, T, hp.arc, hp.back, fun a ha hl => by
      by_cases hs : sA a = true
      · rw [if_pos hs] at hl; exact hp.room a ha hl
      · rw [if_neg hs] at hl; omega, hp.used⟩
/-- A flow of least cost over the sites of a set. -/
structure OptN (F : Fld) (rooms needs S : List Int) (fl : Nat → Nat → Int) : Prop where
  net : ∃ lf, Net F.di.length F.op.length (dF F) (fun _ a => flHas S a) (startR S rooms) fl lf
  row : ∀ j, j < F.di.length → rowS F.op.length fl j = lget needs j
theorem openM_eq (S : List Int) : openM S = fun _ a => flHas S a := rfl
theorem opt_impl {F : Fld} {rooms needs S : List Int} {fl : Nat → Nat → Int} {lf : Nat → Int} (hn : Net F.di.length F.op.length (dF F) (openM S) (lget rooms) fl lf) (hr : ∀ j, j < F.di.length → rowS F.op.length fl j = lget needs j) : OptN F rooms needs S fl :=
  ⟨⟨_, net_start hn (fun a => flHas S a) (fun _ _ h => h)⟩, hr⟩
theorem opt_spec {F : Fld} {rooms needs S : List Int} {fl : Nat → Nat → Int} {lf : Nat → Int} (hg : goodF F = true) (hn : Net F.di.length F.op.length (dF F) (startM F S 99) (startR S rooms) fl lf) (hr : ∀ j, j < F.di.length → rowS F.op.length fl j = lget needs j) : OptN F rooms needs S fl := by
  have e : startM F S 99 = fun _ a => flHas S a := by funext j a; exact startM_open hg j a
  rw [e] at hn
  exact ⟨⟨lf, hn⟩, hr⟩
open Classical in
/-- The least prices. -/
noncomputable def lpF (F : Fld) (rooms needs S : List Int) : Nat → Int := if h : ∃ pw fl, OptN F rooms needs S fl ∧ LeastPr F.di.length F.op.length (dF F) (fun a => flHas S a) fl pw then Classical.choose h else fun _ => 0
theorem set_ex {F : Fld} {rooms needs S : List Int} (hP : HaulP F rooms needs S) : ∃ a, a < F.op.length ∧ flHas S a = true := by
  obtain ⟨s, hs⟩ := List.exists_mem_of_ne_nil _ hP.ne
  have := set_mem hP.set_ s hs
  obtain ⟨n, rfl⟩ := Int.eq_ofNat_of_zero_le this.1
  exact ⟨n, by omega, flHas_iff.2 hs⟩
theorem lp_eq {F : Fld} {rooms needs S : List Int} (hP : HaulP F rooms needs S) {fl : Nat → Nat → Int} {pw : Nat → Int} (h1 : OptN F rooms needs S fl) (h2 : LeastPr F.di.length F.op.length (dF F) (fun a => flHas S a) fl pw) : ∀ a, a < F.op.length → pw a = lpF F rooms needs S a := by
  have he : ∃ pw fl, OptN F rooms needs S fl ∧ LeastPr F.di.length F.op.length (dF F) (fun a => flHas S a) fl pw := ⟨pw, fl, h1, h2⟩
  have hc : lpF F rooms needs S = Classical.choose he := by unfold lpF; rw [dif_pos he]
  rw [hc]
  obtain ⟨fl', o1, o2⟩ := Classical.choose_spec he
  obtain ⟨lf, hn⟩ := h1.net
  obtain ⟨lf', hn'⟩ := o1.net
  exact least_uniq hn h1.row hn' o1.row h2 o2 (set_ex hP)
noncomputable def lpW (F : Fld) (rooms needs S : List Int) : List Int := if lfOk F rooms needs S = true then mapTo (lpF F rooms needs S) F.op.length else []
noncomputable def lpU (F : Fld) (rooms needs S : List Int) : List Int := if lfOk F rooms needs S = true then mapTo (fun j => offF F S (lpW F rooms needs S) j) F.di.length else []
theorem lpW_yes {F : Fld} {rooms needs S : List Int} (h : lfOk F rooms needs S = true) (hP : HaulP F rooms needs S) {fl : Nat → Nat → Int} {pw : Nat → Int} (h1 : OptN F rooms needs S fl) (h2 : LeastPr F.di.length F.op.length (dF F) (fun a => flHas S a) fl pw) : lpW F rooms needs S = mapTo pw F.op.length := by
  unfold lpW
  rw [if_pos h]
  exact List.map_congr_left (fun a ha => (lp_eq hP h1 h2 a (List.mem_range.1 ha)).symm)
theorem lpU_yes {F : Fld} {rooms needs S : List Int} (h : lfOk F rooms needs S = true) : lpU F rooms needs S = mapTo (fun j => offF F S (lpW F rooms needs S) j) F.di.length := if_pos h
theorem lp_no {F : Fld} {rooms needs S : List Int} (h : lfOk F rooms needs S = false) : lpW F rooms needs S = [] ∧ lpU F rooms needs S = [] := ⟨if_neg (by simp [h]), if_neg (by simp [h])⟩
theorem goodF_len {F : Fld} {rooms needs S : List Int} (h : lfOk F rooms needs S = true) : F.op.length ≤ 7 ∧ F.di.length ≤ 7 := by
  unfold lfOk at h
  rw [Bool.and_eq_true] at h
  have hg := (haul_p h.1).good
  exact ⟨(goodF_iff.1 hg).1.2, (goodF_iff.1 hg).2.2.1⟩
theorem lpW_len (F : Fld) (rooms needs S : List Int) : (lpW F rooms needs S).length ≤ 1048576 := by
  cases h : lfOk F rooms needs S
  · rw [(lp_no h).1]; simp
  · unfold lpW; rw [if_pos h, mapTo_len]; have := goodF_len h; omega
theorem lpU_len (F : Fld) (rooms needs S : List Int) : (lpU F rooms needs S).length ≤ 1048576 := by
  cases h : lfOk F rooms needs S
  · rw [(lp_no h).2]; simp
  · rw [lpU_yes h, mapTo_len]; have := goodF_len h; omega
/-- The site that stands at k of a set. -/
def sN (S : List Int) (k : Nat) : Nat := (lget S k).toNat
theorem sN_at {S : List Int} {k : Nat} (h : k < S.length) (h0 : 0 ≤ S[k]) : S[k] = (sN S k : Int) := by
  unfold sN; rw [lget_at h]; omega
/-- One pass over all flows and sites of the set, as far as it has come. -/
def PassP (J M : Nat) (d : Nat → Nat → Int) (S : List Int) (x : Nat → Nat → Int) (w : Nat → Int) (ch : Bool) (i a k : Nat) : Prop :=
  ch = false → ∀ i' a' k', i' < J → a' < M → k' < S.length → (i' < i ∨ (i' = i ∧ (a' < a ∨ (a' = a ∧ k' < k)))) → 0 < x i' a' → w a' + d i' a' - d i' (sN S k') ≤ w (sN S k')
section
variable {J M : Nat} {d : Nat → Nat → Int} {S : List Int} {x : Nat → Nat → Int} {w : Nat → Int} {ch : Bool} {i a k : Nat}
theorem PassP.start : PassP J M d S x w false 0 0 0 := fun _ i a k _ _ _ h => by omega
theorem PassP.yes : PassP J M d S x w true i a k := fun h => by cases h
theorem PassP.next (h : PassP J M d S x w ch i a k) (hs : 0 < x i a → w a + d i a - d i (sN S k) ≤ w (sN S k)) : PassP J M d S x w ch i a (k + 1) := fun hc i' a' k' h1 h2 h3 h4 h5 => by
  by_cases e : i' = i ∧ a' = a ∧ k' = k
  · obtain ⟨rfl, rfl, rfl⟩ := e; exact hs h5
  · exact h hc i' a' k' h1 h2 h3 (by omega) h5
theorem PassP.site (h : PassP J M d S x w ch i a S.length) : PassP J M d S x w ch i (a + 1) 0 := fun hc i' a' k' h1 h2 h3 h4 h5 => h hc i' a' k' h1 h2 h3 (by omega) h5
theorem PassP.skip (h : PassP J M d S x w ch i a k) (hz : ¬ 0 < x i a) : PassP J M d S x w ch i (a + 1) 0 := fun hc i' a' k' h1 h2 h3 h4 h5 => by
  by_cases e : i' = i ∧ a' = a
  · obtain ⟨rfl, rfl⟩ := e; exact absurd h5 hz
  · exact h hc i' a' k' h1 h2 h3 (by omega) h5
theorem PassP.row (h : PassP J M d S x w ch i M 0) : PassP J M d S x w ch (i + 1) 0 0 := fun hc i' a' k' h1 h2 h3 h4 h5 => h hc i' a' k' h1 h2 h3 (by omega) h5
theorem PassP.least (hp : PassP J M d S x w false J 0 0) (hl : LowPr J M d (fun a => flHas S a) x w) : LeastPr J M d (fun a => flHas S a) x w := hl.least (fun j a b hj ha hb hs hx => by
  obtain ⟨k, hk, he⟩ := List.mem_iff_getElem.1 (flHas_iff.1 hs)
  have e : sN S k = b := by unfold sN; rw [lget_at hk, he]; omega
  have := hp rfl j a k hj ha hk (.inl hj) hx
  rw [e] at this; exact this)
/-- The prices' sum since the pass began. -/
def RoseP (M : Nat) (s0 : Int) (w : Nat → Int) (ch : Bool) : Prop := s0 ≤ sumTo w M ∧ (ch = true → s0 < sumTo w M)
theorem RoseP.put {s0 : Int} (h : RoseP M s0 w ch) {b : Nat} (hb : b < M) {z : Int} (hz : w b < z) : RoseP M s0 (upd w b z) true := by
  unfold RoseP
  rw [sumTo_upd, if_pos hb]
  have := h.1
  exact ⟨by omega, fun _ => by omega⟩
theorem top_sum {w : Nat → Int} (h : ∀ a, a < M → w a ≤ 198) : sumTo w M ≤ 198 * (M : Int) := by
  have h1 : sumTo w M ≤ sumTo (fun _ => (198 : Int)) M := sumTo_mono' h
  have h2 : ∀ k : Nat, sumTo (fun _ => (198 : Int)) k = 198 * (k : Int) := fun k => by
    induction k with
    | zero => rfl
    | succ k ih => rw [sumTo_succ, ih]; omega
  rw [h2] at h1; exact h1
end
/-- The prices in memory. -/
theorem mapTo_sum_mem {wr : World} {base g M c : Nat} {pw : Nat → Int} (h : Own wr base (.slice (some ⟨g, 0, none⟩) M c) (mapTo pw M)) (hM : M ≤ 1000) : memSum wr g M = sumTo pw M := by
  obtain ⟨A, c', e, hi⟩ := h.ints (by rw [mapTo_len]; omega)
  simp only [Value.slice.injEq] at e
  obtain ⟨e, _, _⟩ := e
  rw [← e] at hi
  rw [memSum_ints hi (mapTo_len _ _)]
  exact sumTo_congr (fun i hi => mapTo_lget hi)
end Go.Proofs.Ytcnceocgdghciaa
