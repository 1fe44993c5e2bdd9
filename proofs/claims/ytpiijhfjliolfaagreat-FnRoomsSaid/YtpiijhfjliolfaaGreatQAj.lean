/- Flows of least cost: the reference's labels: plain words. No condition. -/
import Derived.Test.YtpiijhfjliolfaaGreatQAi
namespace Go.Proofs.YtpiijhfjliolfaaGreat
/-- Both kinds of nodes: clients on the left, sites on the right. -/
abbrev Nd := Sum Nat Nat
def lS (cl si : List Int) : Nd → Int
  | .inl j => labL cl j
  | .inr a => labL si a
def parS (be fr si : List Int) : Nd → Option Nd
  | .inl j => (parL be j).map Sum.inr
  | .inr a => if labL si a < farN then some (.inl (lget fr a).toNat) else none
def pS (pc ps : Nat → Int) : Nd → Int
  | .inl j => pc j
  | .inr a => ps a
def arcS (J M : Nat) (d : Nat → Nat → Int) (may : Nat → Nat → Bool) (f : Nat → Nat → Int) : Nd → Nd → Nat → Int → Prop
  | .inl j, .inr a, _, c => j < J ∧ a < M ∧ may j a = true ∧ c = d j a
  | .inr a, .inl j, _, c => j < J ∧ a < M ∧ 0 < f j a ∧ c = -d j a
  | _, _, _, _ => False
def rootS (J : Nat) (nl : Nat → Int) : Nd → Int → Nat → Prop
  | .inl j, x, _ => j < J ∧ nl j ≠ 0 ∧ x = 0
  | .inr _, _, _ => False
def allN (J M : Nat) : List Nd := (List.range J).map Sum.inl ++ (List.range M).map Sum.inr
theorem allN_len (J M : Nat) : (allN J M).length = J + M := by simp [allN]
theorem allN_l {J M j : Nat} (h : j < J) : (Sum.inl j : Nd) ∈ allN J M := by simp [allN, h]
theorem allN_r {J M a : Nat} (h : a < M) : (Sum.inr a : Nd) ∈ allN J M := by simp [allN, h]
theorem arcS_pot {J M : Nat} {d : Nat → Nat → Int} {may : Nat → Nat → Bool} {f : Nat → Nat → Int} {lf pc ps : Nat → Int} {T : Int} (hp : Pot J M d may f lf pc ps T) : ∀ u v e c, arcS J M d may f u v e c → pS pc ps v ≤ pS pc ps u + c
  | .inl j, .inr a, _, c, h => by obtain ⟨h1, h2, h3, rfl⟩ := h; exact hp.arc j a h1 h2 h3
  | .inr a, .inl j, _, c, h => by obtain ⟨h1, h2, h3, rfl⟩ := h; have := hp.back j a h1 h2 h3; show pc j ≤ ps a + -d j a; omega
  | .inl _, .inl _, _, _, h => h.elim
  | .inr _, .inr _, _, _, h => h.elim
theorem arcS_bd {J M : Nat} {d : Nat → Nat → Int} {may : Nat → Nat → Bool} {f : Nat → Nat → Int} (hd : ∀ j a, 0 ≤ d j a ∧ d j a ≤ 99) : ∀ u v e c, arcS J M d may f u v e c → -99 ≤ c ∧ c ≤ 99
  | .inl j, .inr a, _, c, h => by obtain ⟨h1, h2, h3, rfl⟩ := h; have := hd j a; omega
  | .inr a, .inl j, _, c, h => by obtain ⟨h1, h2, h3, rfl⟩ := h; have := hd j a; omega
  | .inl _, .inl _, _, _, h => h.elim
  | .inr _, .inr _, _, _, h => h.elim
theorem rootS_zero {J : Nat} {nl : Nat → Int} : ∀ v x e, rootS J nl v x e → x = 0
  | .inl _, _, _, h => h.2.2
  | .inr _, _, _, h => h.elim
structure Bss (J M : Nat) (d : Nat → Nat → Int) (may : Nat → Nat → Bool) (f : Nat → Nat → Int) (pc ps nl : Nat → Int) (cl si be fr : List Int) : Prop where
  lcl : cl.length = J
  lsi : si.length = M
  lbe : be.length = J
  lfr : fr.length = M
  tree : ∃ tm now, Tree (allN J M) (arcS J M d may f) (rootS J nl) (pS pc ps) farN (lS cl si) (parS be fr si) (fun _ => 0) tm now
  root : ∀ j, j < J → nl j ≠ 0 → lget cl j ≤ 0
  be_ : ∀ j, j < J → -1 ≤ lget be j ∧ lget be j < M
  fr_ : ∀ a, a < M → 0 ≤ lget fr a ∧ (lget si a < farN → lget fr a < J)
def initN (nl : Nat → Int) (J k : Nat) : List Int := (List.range J).map fun j => if j < k ∧ nl j = 0 then farN else 0
def initE (J k : Nat) : List Int := (List.range J).map fun j => if j < k then -1 else 0
def initF (M k : Nat) : List Int := (List.range M).map fun a => if a < k then farN else 0
theorem initN_len (nl : Nat → Int) (J k : Nat) : (initN nl J k).length = J := by simp [initN]
theorem initE_len (J k : Nat) : (initE J k).length = J := by simp [initE]
theorem initF_len (M k : Nat) : (initF M k).length = M := by simp [initF]
theorem initN_at {nl : Nat → Int} {J k j : Nat} (h : j < J) : lget (initN nl J k) j = if j < k ∧ nl j = 0 then farN else 0 := by
  rw [lget_at (by rw [initN_len]; exact h)]; simp [initN]
theorem initE_at {J k j : Nat} (h : j < J) : lget (initE J k) j = if j < k then -1 else 0 := by
  rw [lget_at (by rw [initE_len]; exact h)]; simp [initE]
theorem initF_at {M k j : Nat} (h : j < M) : lget (initF M k) j = if j < k then farN else 0 := by
  rw [lget_at (by rw [initF_len]; exact h)]; simp [initF]
theorem initN_zero (nl : Nat → Int) (J : Nat) : initN nl J 0 = List.replicate J 0 := by
  apply List.ext_getElem
  · simp [initN]
  · intro i h1 h2; simp [initN]
theorem initE_zero (J : Nat) : initE J 0 = List.replicate J 0 := by
  apply List.ext_getElem
  · simp [initE]
  · intro i h1 h2; simp [initE]
theorem initF_zero (M : Nat) : initF M 0 = List.replicate M 0 := by
  apply List.ext_getElem
  · simp [initF]
  · intro i h1 h2; simp [initF]
theorem initN_yes {nl : Nat → Int} {J k : Nat} (h : nl k = 0) : (initN nl J k).set k farN = initN nl J (k + 1) := by
  apply List.ext_getElem
  · simp [initN]
  · intro i h1 h2
    rw [List.getElem_set]
    simp only [initN, List.getElem_map, List.getElem_range]
    by_cases e : k = i
    · subst e; rw [if_pos rfl, if_pos ⟨by omega, h⟩]
    · rw [if_neg e]
      by_cases hz : nl i = 0
      · by_cases hl : i < k
        · rw [if_pos ⟨hl, hz⟩, if_pos ⟨by omega, hz⟩]
        · rw [if_neg (by omega), if_neg (by omega)]
      · rw [if_neg (fun h => hz h.2), if_neg (fun h => hz h.2)]
theorem initN_no {nl : Nat → Int} {J k : Nat} (h : nl k ≠ 0) : initN nl J (k + 1) = initN nl J k := by
  unfold initN
  apply List.map_congr_left
  intro i _
  by_cases hz : nl i = 0
  · have : i ≠ k := fun e => by subst e; exact h hz
    by_cases hl : i < k
    · rw [if_pos ⟨by omega, hz⟩, if_pos ⟨hl, hz⟩]
    · rw [if_neg (by omega), if_neg (by omega)]
  · rw [if_neg (fun h => hz h.2), if_neg (fun h => hz h.2)]
theorem initE_set {J k : Nat} : (initE J k).set k (-1) = initE J (k + 1) := by
  apply List.ext_getElem
  · simp [initE]
  · intro i h1 h2
    rw [List.getElem_set]
    simp only [initE, List.getElem_map, List.getElem_range]
    (repeat' split) <;> omega
theorem initF_set {M k : Nat} : (initF M k).set k farN = initF M (k + 1) := by
  apply List.ext_getElem
  · simp [initF]
  · intro i h1 h2
    rw [List.getElem_set]
    simp only [initF, List.getElem_map, List.getElem_range]
    (repeat' split) <;> omega
theorem Bss.init {J M : Nat} {d : Nat → Nat → Int} {may : Nat → Nat → Bool} {f : Nat → Nat → Int} {pc ps nl : Nat → Int} :
    Bss J M d may f pc ps nl (initN nl J J) (initF M M) (initE J J) (List.replicate M 0) := by
  have hpar : ∀ v, parL (initE J J) v = none := fun v => by
    unfold parL
    refine if_neg (fun h => ?_)
    have h1 : v < J := by simpa [initE_len] using h.1
    rw [initE_at h1, if_pos h1] at h; omega
  have hsi : ∀ a, labL (initF M M) a = farN := fun a => by
    by_cases ha : a < M
    · rw [labL_in (by rw [initF_len]; exact ha), initF_at ha, if_pos ha]
    · rw [labL, if_neg (by rw [initF_len]; exact ha)]
  refine ⟨initN_len _ _ _, initF_len _ _, initE_len _ _, by simp, ⟨fun _ => 0, 0, ⟨?_, ?_, fun _ => Nat.le_refl _, ?_⟩⟩, ?_, ?_, ?_⟩
  · intro v u h
    cases v with
    | inl j => simp only [parS] at h; rw [hpar] at h; cases h
    | inr a => simp only [parS] at h; rw [if_neg (by rw [hsi]; omega)] at h; cases h
  · intro v _ hl
    cases v with
    | inl j =>
      simp only [lS] at hl ⊢
      by_cases hj : j < J
      · rw [labL_in (by rw [initN_len]; exact hj), initN_at hj] at hl ⊢
        by_cases hz : nl j = 0
        · rw [if_pos ⟨hj, hz⟩] at hl; omega
        · rw [if_neg (fun h => hz h.2)]; exact ⟨hj, hz, rfl⟩
      · rw [labL, if_neg (by rw [initN_len]; exact hj)] at hl; omega
    | inr a => simp only [lS] at hl; rw [hsi] at hl; omega
  · intro v
    cases v with
    | inl j =>
      simp only [lS]
      by_cases hj : j < J
      · rw [labL_in (by rw [initN_len]; exact hj), initN_at hj]
        split
        · exact Int.le_refl _
        · unfold farN; omega
      · rw [labL, if_neg (by rw [initN_len]; exact hj)]; exact Int.le_refl _
    | inr a => simp only [lS]; rw [hsi]; exact Int.le_refl _
  · intro j hj hz; rw [initN_at hj, if_neg (fun h => hz h.2)]; exact Int.le_refl _
  · intro j hj; rw [initE_at hj, if_pos hj]; omega
  · intro a ha
    rw [lget_at (by simpa using ha)]
    simp
    rw [initF_at ha, if_pos ha]
    intro h; omega
theorem lS_setR {cl si : List Int} {a : Nat} {x : Int} (h : a < si.length) : lS cl (si.set a x) = updv (lS cl si) (.inr a) x := by
  funext v
  cases v with
  | inl j => simp [lS, updv]
  | inr b =>
    simp only [lS]
    rw [labL_set h]
    unfold updv
    by_cases e : b = a
    · subst e; simp
    · rw [if_neg e, if_neg (by simpa using e)]; rfl
theorem lS_setL {cl si : List Int} {j : Nat} {x : Int} (h : j < cl.length) : lS (cl.set j x) si = updv (lS cl si) (.inl j) x := by
  funext v
  cases v with
  | inr b => simp [lS, updv]
  | inl i =>
    simp only [lS]
    rw [labL_set h]
    unfold updv
    by_cases e : i = j
    · subst e; simp
    · rw [if_neg e, if_neg (by simpa using e)]; rfl
theorem parS_setR {be fr si : List Int} {a j : Nat} {x : Int} (h : a < si.length) (h2 : a < fr.length) (hx : x < farN) : parS be (fr.set a (j : Int)) (si.set a x) = updv (parS be fr si) (.inr a) (some (.inl j)) := by
  funext v
  cases v with
  | inl i => simp [parS, updv]
  | inr b =>
    simp only [parS]
    rw [labL_set h, lget_set h2]
    unfold updv
    by_cases e : b = a
    · subst e; simp [hx]
    · have e3 : ¬ (Sum.inr b : Nd) = Sum.inr a := by simpa using e
      rw [if_neg e3]
      simp only [parS, if_neg e]
theorem parS_setL {be fr si : List Int} {a j : Nat} (h : j < be.length) : parS (be.set j (a : Int)) fr si = updv (parS be fr si) (.inl j) (some (.inr a)) := by
  funext v
  cases v with
  | inr b => simp [parS, updv]
  | inl i =>
    simp only [parS]
    rw [parL_set h]
    unfold updv
    by_cases e : i = j
    · subst e; simp
    · rw [if_neg e, if_neg (by simpa using e)]; rfl
theorem tg_const {v : Nd} : updv (fun _ : Nd => (0 : Nat)) v 0 = fun _ => 0 := by funext x; unfold updv; split <;> rfl
theorem Bss.site {J M : Nat} {d : Nat → Nat → Int} {may : Nat → Nat → Bool} {f : Nat → Nat → Int} {lf pc ps nl : Nat → Int} {T : Int} {cl si be fr : List Int} (h : Bss J M d may f pc ps nl cl si be fr) (hp : Pot J M d may f lf pc ps T)
    {j a : Nat} (hj : j < J) (ha : a < M) (hm : may j a = true) (hr : lget cl j < farN) (hlt : lget cl j + d j a < lget si a) :
    Bss J M d may f pc ps nl cl (si.set a (lget cl j + d j a)) be (fr.set a (j : Int)) := by
  obtain ⟨tm, now, ht⟩ := h.tree
  have hjc : j < cl.length := by rw [h.lcl]; exact hj
  have has : a < si.length := by rw [h.lsi]; exact ha
  have haf : a < fr.length := by rw [h.lfr]; exact ha
  have hle := ht.le_far (.inr a)
  simp only [lS] at hle
  rw [labL_in has] at hle
  refine ⟨h.lcl, by rw [List.length_set]; exact h.lsi, h.lbe, by rw [List.length_set]; exact h.lfr, ⟨updv tm (.inr a) (now + 1), now + 1, ?_⟩, h.root, h.be_, ?_⟩
  · rw [lS_setR has, parS_setR has haf (by omega)]
    have := ht.relax (arcS_pot hp) (u := .inl j) (v := .inr a) (e := 0) (c := d j a) (allN_l hj) ⟨hj, ha, hm, rfl⟩ (by simp only [lS]; rw [labL_in hjc]; exact hr) (by simp only [lS]; rw [labL_in hjc, labL_in has]; exact hlt) (by simp)
    rw [tg_const] at this
    simp only [lS] at this
    rw [labL_in hjc] at this
    exact this
  · intro b hb
    rw [lget_set haf, lget_set has]
    by_cases e : b = a
    · rw [if_pos e, if_pos e]; exact ⟨by omega, fun _ => by omega⟩
    · rw [if_neg e, if_neg e]; exact h.fr_ b hb
theorem Bss.client {J M : Nat} {d : Nat → Nat → Int} {may : Nat → Nat → Bool} {f : Nat → Nat → Int} {lf pc ps nl : Nat → Int} {T : Int} {cl si be fr : List Int} (h : Bss J M d may f pc ps nl cl si be fr) (hp : Pot J M d may f lf pc ps T)
    {j a : Nat} (hj : j < J) (ha : a < M) (hf : 0 < f j a) (hr : lget si a < farN) (hlt : lget si a - d j a < lget cl j) :
    Bss J M d may f pc ps nl (cl.set j (lget si a - d j a)) si (be.set j (a : Int)) fr := by
  obtain ⟨tm, now, ht⟩ := h.tree
  have hjc : j < cl.length := by rw [h.lcl]; exact hj
  have has : a < si.length := by rw [h.lsi]; exact ha
  have hjb : j < be.length := by rw [h.lbe]; exact hj
  refine ⟨by rw [List.length_set]; exact h.lcl, h.lsi, by rw [List.length_set]; exact h.lbe, h.lfr, ⟨updv tm (.inl j) (now + 1), now + 1, ?_⟩, ?_, ?_, h.fr_⟩
  · rw [lS_setL hjc, parS_setL hjb]
    have := ht.relax (arcS_pot hp) (u := .inr a) (v := .inl j) (e := 0) (c := -d j a) (allN_r ha) ⟨hj, ha, hf, rfl⟩ (by simp only [lS]; rw [labL_in has]; exact hr) (by simp only [lS]; rw [labL_in hjc, labL_in has]; omega) (by simp)
    rw [tg_const] at this
    simp only [lS] at this
    rw [labL_in has, show lget si a + -d j a = lget si a - d j a from by omega] at this
    exact this
  · intro i hi hz
    have := h.root i hi hz
    rw [lget_set hjc]
    by_cases e : i = j
    · subst e; rw [if_pos rfl]; omega
    · rw [if_neg e]; exact this
  · intro i hi
    rw [lget_set hjb]
    by_cases e : i = j
    · rw [if_pos e]; omega
    · rw [if_neg e]; exact h.be_ i hi
theorem Bss.low {J M : Nat} {d : Nat → Nat → Int} {may : Nat → Nat → Bool} {f : Nat → Nat → Int} {pc ps nl : Nat → Int} {cl si be fr : List Int} (h : Bss J M d may f pc ps nl cl si be fr) (hd : ∀ j a, 0 ≤ d j a ∧ d j a ≤ 99) :
    (∀ j, j < J → -(99 * ((J + M : Nat) : Int)) ≤ lget cl j ∧ lget cl j ≤ farN) ∧ ∀ a, a < M → -(99 * ((J + M : Nat) : Int)) ≤ lget si a ∧ lget si a ≤ farN := by
  obtain ⟨tm, now, ht⟩ := h.tree
  have h1 := fun v => ht.low (B := 99) (fun u v e c hc => (arcS_bd hd u v e c hc).1) (by omega) (fun v x e hr => by have := rootS_zero v x e hr; omega) (by unfold farN; omega) (J + M) v (by have := cnt_le (nodes := allN J M) (p := pS pc ps) (l := lS cl si) (tm := tm) (v := v); rw [allN_len] at this; exact this)
  have h2 := ht.le_far
  constructor
  · intro j hj
    have a1 := h1 (.inl j); have a2 := h2 (.inl j)
    simp only [lS] at a1 a2
    rw [labL_in (by rw [h.lcl]; exact hj)] at a1 a2
    exact ⟨a1, a2⟩
  · intro a ha
    have a1 := h1 (.inr a); have a2 := h2 (.inr a)
    simp only [lS] at a1 a2
    rw [labL_in (by rw [h.lsi]; exact ha)] at a1 a2
    exact ⟨a1, a2⟩
/-- When these labels stand still. -/
structure StopS (J M : Nat) (d : Nat → Nat → Int) (may : Nat → Nat → Bool) (f : Nat → Nat → Int) (cl si : List Int) : Prop where
  arc : ∀ j a, j < J → a < M → may j a = true → lget cl j < farN → lget si a ≤ lget cl j + d j a
  back : ∀ j a, j < J → a < M → 0 < f j a → lget si a < farN → lget cl j ≤ lget si a - d j a
theorem Bss.lab {J M : Nat} {d : Nat → Nat → Int} {may : Nat → Nat → Bool} {f : Nat → Nat → Int} {pc ps nl : Nat → Int} {cl si be fr : List Int} (h : Bss J M d may f pc ps nl cl si be fr) (hJM : J + M ≤ 1000)
    (hd : ∀ j a, 0 ≤ d j a ∧ d j a ≤ 99) (hs : StopS J M d may f cl si) : Lab J M d may f (lget cl) (lget si) (rsI cl) (rsI si) := by
  obtain ⟨tm, now, ht⟩ := h.tree
  have hi := fun v => ht.high (B := 99) (R := 0) (fun u v e c hc => (arcS_bd hd u v e c hc).2) (by omega) (fun v x e hr => by have := rootS_zero v x e hr; omega)
    (fun u v e c hc hl => by
      cases u with
      | inl j =>
        cases v with
        | inl _ => exact hc.elim
        | inr a =>
          obtain ⟨c1, c2, c3, rfl⟩ := hc
          simp only [lS] at hl ⊢
          rw [labL_in (v := j) (by rw [h.lcl]; exact c1)] at hl ⊢
          rw [labL_in (v := a) (by rw [h.lsi]; exact c2)]
          exact hs.arc j a c1 c2 c3 hl
      | inr a =>
        cases v with
        | inr _ => exact hc.elim
        | inl j =>
          obtain ⟨c1, c2, c3, rfl⟩ := hc
          simp only [lS] at hl ⊢
          rw [labL_in (v := a) (by rw [h.lsi]; exact c2)] at hl ⊢
          rw [labL_in (v := j) (by rw [h.lcl]; exact c1)]
          have := hs.back j a c1 c2 c3 hl
          omega) (J + M) v (by have := cnt_le (nodes := allN J M) (p := pS pc ps) (l := lS cl si) (tm := tm) (v := v); rw [allN_len] at this; exact this)
  constructor
  · intro j a hj ha hm hr
    have hr' : lget cl j < farN := by simpa [rsI] using hr
    have h1 := hs.arc j a hj ha hm hr'
    have h2 := hi (.inl j)
    simp only [lS] at h2
    rw [labL_in (by rw [h.lcl]; exact hj)] at h2
    have h3 := h2 hr'
    have := (hd j a).2
    exact ⟨decide_eq_true (by unfold farN; omega), h1⟩
  · intro j a hj ha hf hr
    have hr' : lget si a < farN := by simpa [rsI] using hr
    have h1 := hs.back j a hj ha hf hr'
    have := (hd j a).1
    exact ⟨decide_eq_true (by omega), h1⟩
def tightS (d : Nat → Nat → Int) (may : Nat → Nat → Bool) (ps : Nat → Int) (cl si : List Int) (best j a : Nat) : Prop :=
  may j a = true ∧ rsI cl j = true ∧ rsI si a = true ∧ lget si a = lget cl j + d j a ∧ lget si a - ps a ≤ lget si best - ps best
/-- While one unit is sent: it has come to a client. -/
structure Sns (J M : Nat) (d : Nat → Nat → Int) (may : Nat → Nat → Bool) (f : Nat → Nat → Int) (pc ps : Nat → Int) (cl si : List Int) (tm : Nd → Nat) (best j : Nat) (f' : Nat → Nat → Int) : Prop where
  cur : j < J ∧ lget cl j < farN ∧ lget cl j - pc j ≤ lget si best - ps best
  nn : ∀ i x, i < J → x < M → 0 ≤ f' i x
  keep : ∀ i x, i < J → x < M → (i = j ∨ befN (pS pc ps) (lS cl si) tm (.inl i) (.inl j) = true) → f i x ≤ f' i x
  supp : ∀ i x, i < J → x < M → 0 < f' i x → 0 < f i x ∨ tightS d may ps cl si best i x
  row : ∀ i, i < J → rowS M f' i = rowS M f i + if i = j then 1 else 0
  col : ∀ x, x < M → colT J f' x = colT J f x + if x = best then 1 else 0
/-- The parent of a site. -/
theorem Bss.parent {J M : Nat} {d : Nat → Nat → Int} {may : Nat → Nat → Bool} {f : Nat → Nat → Int} {pc ps nl : Nat → Int} {cl si be fr : List Int} {tm : Nd → Nat} {now : Nat} {best : Nat} (h : Bss J M d may f pc ps nl cl si be fr)
    (ht : Tree (allN J M) (arcS J M d may f) (rootS J nl) (pS pc ps) farN (lS cl si) (parS be fr si) (fun _ => 0) tm now) (hs : StopS J M d may f cl si) {a : Nat} (ha : a < M) (hr : lget si a < farN) (hle : lget si a - ps a ≤ lget si best - ps best) :
    ∃ j : Nat, lget fr a = j ∧ j < J ∧ lget cl j < farN ∧ lget cl j - pc j ≤ lget si best - ps best ∧ tightS d may ps cl si best j a ∧ befN (pS pc ps) (lS cl si) tm (.inl j) (.inr a) = true := by
  have has : a < si.length := by rw [h.lsi]; exact ha
  obtain ⟨f0, f1⟩ := h.fr_ a ha
  obtain ⟨j, hj⟩ := Int.eq_ofNat_of_zero_le f0
  have hpar : parS be fr si (.inr a) = some (.inl j) := by simp only [parS]; rw [labL_in has, if_pos hr, hj]; rfl
  obtain ⟨_, _, k3, ⟨c, hc, k5⟩, k6⟩ := ht.par_some _ _ hpar
  obtain ⟨c1, c2, c3, rfl⟩ := hc
  have hjc : j < cl.length := by rw [h.lcl]; exact c1
  have hb : befN (pS pc ps) (lS cl si) tm (.inl j) (.inr a) = true := befN_iff.2 k6
  simp only [lS, pS] at k3 k5 k6
  rw [labL_in hjc] at k3 k5 k6
  rw [labL_in has] at k5 k6
  have := hs.arc j a c1 c2 c3 k3
  exact ⟨j, hj, c1, k3, by omega, ⟨c3, decide_eq_true k3, decide_eq_true hr, by omega, hle⟩, hb⟩
theorem Sns.start {J M : Nat} {d : Nat → Nat → Int} {may : Nat → Nat → Bool} {f : Nat → Nat → Int} {pc ps : Nat → Int} {cl si : List Int} {tm : Nd → Nat} {best j : Nat} (hf : ∀ i x, i < J → x < M → 0 ≤ f i x) (hb : best < M) (hj : j < J) (hr : lget cl j < farN) (hle : lget cl j - pc j ≤ lget si best - ps best)
    (ht : tightS d may ps cl si best j best) : Sns J M d may f pc ps cl si tm best j (upd2 f j best (f j best + 1)) := by
  refine ⟨⟨hj, hr, hle⟩, ?_, ?_, ?_, ?_, ?_⟩
  · intro i x hi hx
    by_cases e : i = j ∧ x = best
    · obtain ⟨rfl, rfl⟩ := e; rw [upd2_at]; have := hf i x hi hx; omega
    · rw [upd2_ne (by omega)]; exact hf i x hi hx
  · intro i x _ _ _
    by_cases e : i = j ∧ x = best
    · obtain ⟨rfl, rfl⟩ := e; rw [upd2_at]; omega
    · rw [upd2_ne (by omega)]; exact Int.le_refl _
  · intro i x _ _ hp
    by_cases e : i = j ∧ x = best
    · obtain ⟨rfl, rfl⟩ := e; exact .inr ht
    · rw [upd2_ne (by omega)] at hp; exact .inl hp
  · intro i _; rw [row_upd2 _ _ hb]; split <;> omega
  · intro x _; rw [col_upd2 _ _ hj]; split <;> omega
/-- What lies before a client: a site that serves it, or nothing. -/
theorem Bss.before {J M : Nat} {d : Nat → Nat → Int} {may : Nat → Nat → Bool} {f : Nat → Nat → Int} {pc ps nl : Nat → Int} {cl si be fr : List Int} {tm : Nd → Nat} {now : Nat} {best : Nat} (h : Bss J M d may f pc ps nl cl si be fr)
    (ht : Tree (allN J M) (arcS J M d may f) (rootS J nl) (pS pc ps) farN (lS cl si) (parS be fr si) (fun _ => 0) tm now) {j : Nat} (hj : j < J) (hr : lget cl j < farN) (hle : lget cl j - pc j ≤ lget si best - ps best) :
    (lget be j < 0 ∧ nl j ≠ 0) ∨ ∃ a : Nat, lget be j = a ∧ a < M ∧ 0 < f j a ∧ lget si a < farN ∧ lget si a - ps a ≤ lget si best - ps best ∧ befN (pS pc ps) (lS cl si) tm (.inr a) (.inl j) = true := by
  have hjc : j < cl.length := by rw [h.lcl]; exact hj
  have hjb : j < be.length := by rw [h.lbe]; exact hj
  by_cases hn : lget be j < 0
  · have hpar : parS be fr si (.inl j) = none := by simp only [parS]; unfold parL; rw [if_neg (by omega)]; rfl
    have := ht.par_none _ hpar (by simp only [lS]; rw [labL_in hjc]; exact hr)
    exact .inl ⟨hn, this.2.1⟩
  · obtain ⟨a, ha⟩ := Int.eq_ofNat_of_zero_le (show 0 ≤ lget be j by omega)
    have hpar : parS be fr si (.inl j) = some (.inr a) := by simp only [parS]; unfold parL; rw [if_pos ⟨hjb, by omega⟩, ha]; rfl
    obtain ⟨_, _, k3, ⟨c, hc, k5⟩, k6⟩ := ht.par_some _ _ hpar
    obtain ⟨c1, c2, c3, rfl⟩ := hc
    have has : a < si.length := by rw [h.lsi]; exact c2
    have hb : befN (pS pc ps) (lS cl si) tm (.inr a) (.inl j) = true := befN_iff.2 k6
    simp only [lS, pS] at k3 k5 k6
    rw [labL_in has] at k3 k5 k6
    rw [labL_in hjc] at k5 k6
    exact .inr ⟨a, ha, c2, c3, k3, by omega, hb⟩
theorem Sns.step {J M : Nat} {d : Nat → Nat → Int} {may : Nat → Nat → Bool} {f f' : Nat → Nat → Int} {pc ps : Nat → Int} {cl si : List Int} {tm : Nd → Nat} {best j a i : Nat} (h : Sns J M d may f pc ps cl si tm best j f') (ha : a < M) (hf : 0 < f j a)
    (hb1 : befN (pS pc ps) (lS cl si) tm (.inr a) (.inl j) = true) (hi : i < J) (hr : lget cl i < farN) (hle : lget cl i - pc i ≤ lget si best - ps best) (ht : tightS d may ps cl si best i a) (hb2 : befN (pS pc ps) (lS cl si) tm (.inl i) (.inr a) = true) :
    0 < f' j a ∧ Sns J M d may f pc ps cl si tm best i (upd2 (upd2 f' j a (f' j a - 1)) i a (upd2 f' j a (f' j a - 1) i a + 1)) := by
  have hj := h.cur.1
  have hij := befN_trans hb2 hb1
  have hne : i ≠ j := fun e => by subst e; exact befN_irr hij
  have h1 : upd2 f' j a (f' j a - 1) i a = f' i a := upd2_ne (.inl hne)
  have h2 := h.keep j a hj ha (.inl rfl)
  rw [h1]
  refine ⟨by omega, ⟨⟨hi, hr, hle⟩, ?_, ?_, ?_, ?_, ?_⟩⟩
  · intro k x hk hx
    have h0 := h.nn k x hk hx
    by_cases e : k = i ∧ x = a
    · obtain ⟨rfl, rfl⟩ := e; rw [upd2_at]; omega
    · rw [upd2_ne (by omega)]
      by_cases e2 : k = j ∧ x = a
      · obtain ⟨rfl, rfl⟩ := e2; rw [upd2_at]; omega
      · rw [upd2_ne (by omega)]; exact h0
  · intro k x hk hx hb
    have hkj : befN (pS pc ps) (lS cl si) tm (.inl k) (.inl j) = true := by
      rcases hb with rfl | hb
      · exact hij
      · exact befN_trans hb hij
    have hkn : k ≠ j := fun e => by subst e; exact befN_irr hkj
    have h3 := h.keep k x hk hx (.inr hkj)
    by_cases e : k = i ∧ x = a
    · obtain ⟨rfl, rfl⟩ := e; rw [upd2_at]; omega
    · rw [upd2_ne (by omega), upd2_ne (.inl hkn)]; exact h3
  · intro k x hk hx hp
    by_cases e : k = i ∧ x = a
    · obtain ⟨rfl, rfl⟩ := e; exact .inr ht
    · rw [upd2_ne (by omega)] at hp
      by_cases e2 : k = j ∧ x = a
      · obtain ⟨rfl, rfl⟩ := e2; exact .inl hf
      · rw [upd2_ne (by omega)] at hp; exact h.supp k x hk hx hp
  · intro k hk
    rw [row_upd2 _ _ ha, row_upd2 _ _ ha, h.row k hk, h1]
    (repeat' split) <;> omega
  · intro x hx
    rw [col_upd2 _ _ hi, col_upd2 _ _ hj, h.col x hx, h1]
    (repeat' split) <;> omega
theorem Sns.net {J M : Nat} {d : Nat → Nat → Int} {may : Nat → Nat → Bool} {f f' : Nat → Nat → Int} {rm lf pc ps : Nat → Int} {T : Int} {cl si : List Int} {tm : Nd → Nat} {best j : Nat} (hn : Net J M d may rm f lf) (hp : Pot J M d may f lf pc ps T) (hb : BestS M lf si best)
    (hl : Lab J M d may f (lget cl) (lget si) (rsI cl) (rsI si)) (h : Sns J M d may f pc ps cl si tm best j f') : Net J M d may rm f' (upd lf best (lf best - 1)) := by
  refine ⟨h.nn, fun i x hi hx hpos => ?_, fun x hx => ?_, fun x hx => ?_, ?_⟩
  · rcases h.supp i x hi hx hpos with h1 | h1
    · exact hn.mayf i x hi hx h1
    · exact h1.1
  · by_cases e : x = best
    · subst e; rw [upd_at]; have := hb.room; omega
    · rw [upd_ne e]; exact hn.lf0 x hx
  · rw [h.col x hx]
    have := hn.col x hx
    by_cases e : x = best
    · subst e; rw [upd_at, if_pos rfl]; omega
    · rw [upd_ne e, if_neg e]; omega
  · exact pot_next hp hl hb.lt (decide_eq_true hb.reach) hb.room (fun a ha hr hl => hb.least a ha (by simpa [rsI] using hr) hl) (fun i x hi hx hpos => h.supp i x hi hx hpos) h.col
/-- Nobody with room is reached, and somebody has needs left: there is no haul. -/
theorem Bss.no {J M : Nat} {d : Nat → Nat → Int} {may : Nat → Nat → Bool} {f : Nat → Nat → Int} {rm lf pc ps nl nd : Nat → Int} {cl si be fr : List Int} (hn : Net J M d may rm f lf) (h : Bss J M d may f pc ps nl cl si be fr)
    (hl : Lab J M d may f (lget cl) (lget si) (rsI cl) (rsI si)) (hno : ∀ a, a < M → lget si a < farN → ¬ 0 < lf a) (h1 : ∀ j, j < J → rowS M f j + nl j = nd j) (h0 : ∀ j, j < J → 0 ≤ nl j) {j : Nat} (hj : j < J) (hz : nl j ≠ 0) (x : Nat → Nat → Int) : ¬ Haul J M may nd rm x := fun hx => by
  have hr := h.root j hj hz
  refine lab_no hl (j0 := j) (fun a ha hr => by have := hno a ha (by simpa [rsI] using hr); have := hn.lf0 a ha; omega) hj (decide_eq_true (by unfold farN; omega)) hn.nn hn.col (fun i hi => by have := h1 i hi; have := h0 i hi; omega) ?_ hx
  have := h1 j hj; have := h0 j hj; omega
end Go.Proofs.YtpiijhfjliolfaaGreat
