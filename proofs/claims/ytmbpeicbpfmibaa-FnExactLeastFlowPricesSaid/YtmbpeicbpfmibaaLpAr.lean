/- LeastFlowPrices: words. No condition. -/
import Derived.Test.YtmbpeicbpfmibaaLpAq
namespace Go.Proofs.Ytmbpeicbpfmibaa
open Go.RowKit Go.Sort

/-- Rooms of closed sites, or that sites are closed, make no difference to a net. -/
theorem net_start {J M : Nat} {d : Nat → Nat → Int} {may : Nat → Nat → Bool} {rm lf : Nat → Int} {f : Nat → Nat → Int} (hn : Net J M d may rm f lf) (sA : Nat → Bool) (hm : ∀ j a, may j a = true → sA a = true) : Net J M d may (fun a => if sA a = true then rm a else 0) f (fun a => if sA a = true then lf a else 0) := by
  refine ⟨hn.nn, hn.mayf, fun a ha => ?_, fun a ha => ?_, ?_⟩
  · split
    · exact hn.lf0 a ha
    · omega
  · by_cases hs : sA a = true
    · rw [if_pos hs, if_pos hs]; exact hn.col a ha
    · rw [if_neg hs, if_neg hs]
      have e : colT J f a = sumTo (fun _ => 0) J := sumTo_congr (fun j hj => by
        have := hn.nn j a hj ha
        by_cases hp : 0 < f j a
        · exact absurd (hm j a (hn.mayf j a hj ha hp)) hs
        · omega)
      rw [e, sumTo_c0]; rfl
  · obtain ⟨pc, ps, T, hp⟩ := hn.pot
    exact ⟨pc, ps, T, hp.arc, hp.back, fun a ha hl => by
      by_cases hs : sA a = true
      · rw [if_pos hs] at hl; exact hp.room a ha hl
      · rw [if_neg hs] at hl; omega, hp.used⟩
/-- A flow of least cost over the sites of a set. -/
structure OptN (F : Fld) (rooms needs S : List Int) (fl : Nat → Nat → Int) : Prop where
  net : ∃ lf, Net F.di.length F.op.length (dF F) (fun _ a => flHas S a) (startR S rooms) fl lf
  row : ∀ j, j < F.di.length → rowS F.op.length fl j = lget needs j
theorem openM_eq (S : List Int) : openM S = fun _ a => flHas S a := rfl
theorem opt_impl {F : Fld} {rooms needs S : List Int} {fl : Nat → Nat → Int} {lf : Nat → Int} (hn : Net F.di.length F.op.length (dF F) (openM S) (lget rooms) fl lf) (hr : ∀ j, j < F.di.length → rowS F.op.length fl j = lget needs j) : OptN F rooms needs S fl :=
  ⟨⟨_, net_start hn (fun a => flHas S a) (fun _ _ h => h)⟩, hr⟩
theorem opt_spec {F : Fld} {rooms needs S : List Int} {fl : Nat → Nat → Int} {lf : Nat → Int} (hg : goodF F = true) (hn : Net F.di.length F.op.length (dF F) (startM F S 99) (startR S rooms) fl lf) (hr : ∀ j, j < F.di.length → rowS F.op.length fl j = lget needs j) : OptN F rooms needs S fl := by
  have e : startM F S 99 = fun _ a => flHas S a := by funext j a; exact startM_open hg j a
  rw [e] at hn
  exact ⟨⟨lf, hn⟩, hr⟩
open Classical in
/-- The least prices. -/
noncomputable def lpF (F : Fld) (rooms needs S : List Int) : Nat → Int := if h : ∃ pw fl, OptN F rooms needs S fl ∧ LeastPr F.di.length F.op.length (dF F) (fun a => flHas S a) fl pw then Classical.choose h else fun _ => 0
theorem set_ex {F : Fld} {rooms needs S : List Int} (hP : HaulP F rooms needs S) : ∃ a, a < F.op.length ∧ flHas S a = true := by
  obtain ⟨s, hs⟩ := List.exists_mem_of_ne_nil _ hP.ne
  have := set_mem hP.set_ s hs
  obtain ⟨n, rfl⟩ := Int.eq_ofNat_of_zero_le this.1
  exact ⟨n, by omega, flHas_iff.2 hs⟩
theorem lp_eq {F : Fld} {rooms needs S : List Int} (hP : HaulP F rooms needs S) {fl : Nat → Nat → Int} {pw : Nat → Int} (h1 : OptN F rooms needs S fl) (h2 : LeastPr F.di.length F.op.length (dF F) (fun a => flHas S a) fl pw) : ∀ a, a < F.op.length → pw a = lpF F rooms needs S a := by
  have he : ∃ pw fl, OptN F rooms needs S fl ∧ LeastPr F.di.length F.op.length (dF F) (fun a => flHas S a) fl pw := ⟨pw, fl, h1, h2⟩
  have hc : lpF F rooms needs S = Classical.choose he := by unfold lpF; rw [dif_pos he]
  rw [hc]
  obtain ⟨fl', o1, o2⟩ := Classical.choose_spec he
  obtain ⟨lf, hn⟩ := h1.net
  obtain ⟨lf', hn'⟩ := o1.net
  exact least_uniq hn h1.row hn' o1.row h2 o2 (set_ex hP)
noncomputable def lpW (F : Fld) (rooms needs S : List Int) : List Int := if lfOk F rooms needs S = true then mapTo (lpF F rooms needs S) F.op.length else []
noncomputable def lpU (F : Fld) (rooms needs S : List Int) : List Int := if lfOk F rooms needs S = true then mapTo (fun j => offF F S (lpW F rooms needs S) j) F.di.length else []
theorem lpW_yes {F : Fld} {rooms needs S : List Int} (h : lfOk F rooms needs S = true) (hP : HaulP F rooms needs S) {fl : Nat → Nat → Int} {pw : Nat → Int} (h1 : OptN F rooms needs S fl) (h2 : LeastPr F.di.length F.op.length (dF F) (fun a => flHas S a) fl pw) : lpW F rooms needs S = mapTo pw F.op.length := by
  unfold lpW
  rw [if_pos h]
  exact List.map_congr_left (fun a ha => (lp_eq hP h1 h2 a (List.mem_range.1 ha)).symm)
theorem lpU_yes {F : Fld} {rooms needs S : List Int} (h : lfOk F rooms needs S = true) : lpU F rooms needs S = mapTo (fun j => offF F S (lpW F rooms needs S) j) F.di.length := if_pos h
theorem lp_no {F : Fld} {rooms needs S : List Int} (h : lfOk F rooms needs S = false) : lpW F rooms needs S = [] ∧ lpU F rooms needs S = [] := ⟨if_neg (by simp [h]), if_neg (by simp [h])⟩
theorem goodF_len {F : Fld} {rooms needs S : List Int} (h : lfOk F rooms needs S = true) : F.op.length ≤ 7 ∧ F.di.length ≤ 7 := by
  unfold lfOk at h
  rw [Bool.and_eq_true] at h
  have hg := (haul_p h.1).good
  exact ⟨(goodF_iff.1 hg).1.2, (goodF_iff.1 hg).2.2.1⟩
theorem lpW_len (F : Fld) (rooms needs S : List Int) : (lpW F rooms needs S).length ≤ 1048576 := by
  cases h : lfOk F rooms needs S
  · rw [(lp_no h).1]; simp
  · unfold lpW; rw [if_pos h, mapTo_len]; have := goodF_len h; omega
theorem lpU_len (F : Fld) (rooms needs S : List Int) : (lpU F rooms needs S).length ≤ 1048576 := by
  cases h : lfOk F rooms needs S
  · rw [(lp_no h).2]; simp
  · rw [lpU_yes h, mapTo_len]; have := goodF_len h; omega
/-- The site that stands at k of a set. -/
def sN (S : List Int) (k : Nat) : Nat := (lget S k).toNat
theorem sN_at {S : List Int} {k : Nat} (h : k < S.length) (h0 : 0 ≤ S[k]) : S[k] = (sN S k : Int) := by
  unfold sN; rw [lget_at h]; omega
/-- One pass over all flows and sites of the set, as far as it has come. -/
def PassP (J M : Nat) (d : Nat → Nat → Int) (S : List Int) (x : Nat → Nat → Int) (w : Nat → Int) (ch : Bool) (i a k : Nat) : Prop :=
  ch = false → ∀ i' a' k', i' < J → a' < M → k' < S.length → (i' < i ∨ (i' = i ∧ (a' < a ∨ (a' = a ∧ k' < k)))) → 0 < x i' a' → w a' + d i' a' - d i' (sN S k') ≤ w (sN S k')
section
variable {J M : Nat} {d : Nat → Nat → Int} {S : List Int} {x : Nat → Nat → Int} {w : Nat → Int} {ch : Bool} {i a k : Nat}
theorem PassP.start : PassP J M d S x w false 0 0 0 := fun _ i a k _ _ _ h => by omega
theorem PassP.yes : PassP J M d S x w true i a k := fun h => by cases h
theorem PassP.next (h : PassP J M d S x w ch i a k) (hs : 0 < x i a → w a + d i a - d i (sN S k) ≤ w (sN S k)) : PassP J M d S x w ch i a (k + 1) := fun hc i' a' k' h1 h2 h3 h4 h5 => by
  by_cases e : i' = i ∧ a' = a ∧ k' = k
  · obtain ⟨rfl, rfl, rfl⟩ := e; exact hs h5
  · exact h hc i' a' k' h1 h2 h3 (by omega) h5
theorem PassP.site (h : PassP J M d S x w ch i a S.length) : PassP J M d S x w ch i (a + 1) 0 := fun hc i' a' k' h1 h2 h3 h4 h5 => h hc i' a' k' h1 h2 h3 (by omega) h5
theorem PassP.skip (h : PassP J M d S x w ch i a k) (hz : ¬ 0 < x i a) : PassP J M d S x w ch i (a + 1) 0 := fun hc i' a' k' h1 h2 h3 h4 h5 => by
  by_cases e : i' = i ∧ a' = a
  · obtain ⟨rfl, rfl⟩ := e; exact absurd h5 hz
  · exact h hc i' a' k' h1 h2 h3 (by omega) h5
theorem PassP.row (h : PassP J M d S x w ch i M 0) : PassP J M d S x w ch (i + 1) 0 0 := fun hc i' a' k' h1 h2 h3 h4 h5 => h hc i' a' k' h1 h2 h3 (by omega) h5
theorem PassP.least (hp : PassP J M d S x w false J 0 0) (hl : LowPr J M d (fun a => flHas S a) x w) : LeastPr J M d (fun a => flHas S a) x w := hl.least (fun j a b hj ha hb hs hx => by
  obtain ⟨k, hk, he⟩ := List.mem_iff_getElem.1 (flHas_iff.1 hs)
  have e : sN S k = b := by unfold sN; rw [lget_at hk, he]; omega
  have := hp rfl j a k hj ha hk (.inl hj) hx
  rw [e] at this; exact this)
/-- The prices' sum since the pass began. -/
def RoseP (M : Nat) (s0 : Int) (w : Nat → Int) (ch : Bool) : Prop := s0 ≤ sumTo w M ∧ (ch = true → s0 < sumTo w M)
theorem RoseP.put {s0 : Int} (h : RoseP M s0 w ch) {b : Nat} (hb : b < M) {z : Int} (hz : w b < z) : RoseP M s0 (upd w b z) true := by
  unfold RoseP
  rw [sumTo_upd, if_pos hb]
  have := h.1
  exact ⟨by omega, fun _ => by omega⟩
theorem top_sum {w : Nat → Int} (h : ∀ a, a < M → w a ≤ 198) : sumTo w M ≤ 198 * (M : Int) := by
  have h1 : sumTo w M ≤ sumTo (fun _ => (198 : Int)) M := sumTo_mono' h
  have h2 : ∀ k : Nat, sumTo (fun _ => (198 : Int)) k = 198 * (k : Int) := fun k => by
    induction k with
    | zero => rfl
    | succ k ih => rw [sumTo_succ, ih]; omega
  rw [h2] at h1; exact h1
end
/-- The prices in memory. -/
theorem mapTo_sum_mem {wr : World} {base g M c : Nat} {pw : Nat → Int} (h : Own wr base (.slice (some ⟨g, 0, none⟩) M c) (mapTo pw M)) (hM : M ≤ 1000) : memSum wr g M = sumTo pw M := by
  obtain ⟨A, c', e, hi⟩ := h.ints (by rw [mapTo_len]; omega)
  simp only [Value.slice.injEq] at e
  obtain ⟨e, _, _⟩ := e
  rw [← e] at hi
  rw [memSum_ints hi (mapTo_len _ _)]
  exact sumTo_congr (fun i hi => mapTo_lget hi)
end Go.Proofs.Ytmbpeicbpfmibaa
