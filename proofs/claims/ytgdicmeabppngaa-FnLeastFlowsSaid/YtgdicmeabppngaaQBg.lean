/- Marginal gains and greedy choices: plain words; l1Put of a nil list, and of any list; what a site adds, as the reference tells it; The payment and the total of a set: reference and program; The drawing of arguments for the laws on flows: a set that has mostly room enough; The drawing of arguments for the laws on gains. No condition. -/
import Derived.Test.YtgdicmeabppngaaQAc
import Derived.Test.YtgdicmeabppngaaQBf
import Derived.WalkLawsBesides
import Derived.Test.YtgdicmeabppngaaQAg
import Derived.Deep.RegionHeld3
import Derived.Test.YtgdicmeabppngaaQAh
namespace Go.Proofs.Ytgdicmeabppngaa
open Go.RowKit Go.Sort

theorem mem_putL {S : List Int} {a x : Int} : x ∈ putL S a ↔ x ∈ S ∨ x = a := by
  unfold putL
  by_cases h : a ∈ S
  · rw [if_pos h]
    constructor
    · exact .inl
    · rintro (h' | rfl)
      · exact h'
      · exact h
  · rw [if_neg h]
    have e : x ∈ S ↔ x ∈ S.takeWhile (· < a) ∨ x ∈ S.dropWhile (· < a) := by
      conv => lhs; rw [← List.takeWhile_append_dropWhile (p := fun y => decide (y < a)) (l := S)]
      rw [List.mem_append]
    rw [List.mem_append, List.mem_cons, e]
    constructor
    · rintro (h | h | h)
      · exact .inl (.inl h)
      · exact .inr h
      · exact .inl (.inr h)
    · rintro ((h | h) | h)
      · exact .inl h
      · exact .inr (.inr h)
      · exact .inr (.inl h)
theorem drop_gt : ∀ {S : List Int} {a : Int}, S.Pairwise (· < ·) → a ∉ S → ∀ x ∈ S.dropWhile (· < a), a < x
  | [], _, _, _, x, hx => by simp at hx
  | y :: t, a, hs, hn, x, hx => by
    rw [List.pairwise_cons] at hs
    simp only [List.mem_cons, not_or] at hn
    rw [List.dropWhile_cons] at hx
    by_cases h : y < a
    · rw [if_pos (by simpa using h)] at hx
      exact drop_gt hs.2 hn.2 x hx
    · rw [if_neg (by simpa using h)] at hx
      rcases List.mem_cons.1 hx with rfl | hx
      · omega
      · have := hs.1 x hx; omega
theorem take_lt {S : List Int} {a : Int} : ∀ x ∈ S.takeWhile (· < a), x < a := by
  induction S with
  | nil => intro x hx; simp at hx
  | cons y t ih =>
    intro x hx
    rw [List.takeWhile_cons] at hx
    by_cases h : y < a
    · rw [if_pos (by simpa using h)] at hx
      rcases List.mem_cons.1 hx with rfl | hx
      · exact h
      · exact ih x hx
    · rw [if_neg (by simpa using h)] at hx
      simp at hx
theorem putL_sorted {S : List Int} (hs : S.Pairwise (· < ·)) (a : Int) : (putL S a).Pairwise (· < ·) := by
  unfold putL
  by_cases h : a ∈ S
  · rw [if_pos h]; exact hs
  · rw [if_neg h, List.pairwise_append, List.pairwise_cons]
    have hd := drop_gt hs h
    refine ⟨hs.sublist (List.takeWhile_sublist _), ⟨hd, hs.sublist (List.dropWhile_sublist _)⟩, fun x hx y hy => ?_⟩
    have h1 := take_lt x hx
    rcases List.mem_cons.1 hy with rfl | hy
    · exact h1
    · have := hd y hy; omega
theorem putL_len (S : List Int) (a : Int) : (putL S a).length ≤ S.length + 1 := by
  unfold putL
  by_cases h : a ∈ S
  · rw [if_pos h]; omega
  · rw [if_neg h, List.length_append, List.length_cons]
    have : S.length = (S.takeWhile (· < a)).length + (S.dropWhile (· < a)).length := by
      conv => lhs; rw [← List.takeWhile_append_dropWhile (p := fun y => decide (y < a)) (l := S), List.length_append]
    omega
theorem putL_new {S : List Int} {a : Int} (h : a ∉ S) : (putL S a).length = S.length + 1 := by
  unfold putL
  rw [if_neg h, List.length_append, List.length_cons]
  have : S.length = (S.takeWhile (· < a)).length + (S.dropWhile (· < a)).length := by
    conv => lhs; rw [← List.takeWhile_append_dropWhile (p := fun y => decide (y < a)) (l := S), List.length_append]
  omega
theorem setB_nil (F : Fld) : setB F [] = true := rfl
theorem setB_put {F : Fld} {S : List Int} {a : Int} (h : setB F S = true) (h0 : 0 ≤ a) (h1 : a < F.op.length) : setB F (putL S a) = true := by
  have hr := ris_iff.1 h
  refine ris_iff.2 ⟨putL_sorted hr.1 a, fun x hx => ?_⟩
  rcases mem_putL.1 hx with hx | rfl
  · exact hr.2 x hx
  · omega
theorem setB_len {F : Fld} {S : List Int} (h : setB F S = true) : S.length ≤ F.op.length := by
  rw [← set_bits h]; exact bitsL_len _ _
theorem bits_any {n b a : Nat} (ha : a < n) : (bitsL n b).any (fun x => x == (a : Int)) = b.testBit a := by
  rw [Bool.eq_iff_iff, List.any_eq_true]
  constructor
  · rintro ⟨x, hx, e⟩
    obtain ⟨h0, h1, h2⟩ := mem_bitsL.1 hx
    have e' : x = a := by simpa using e
    subst e'
    simpa using h2
  · intro h
    exact ⟨a, mem_bitsL.2 ⟨by omega, by omega, by simpa using h⟩, by simp⟩
theorem bits_put {n b a : Nat} (ha : a < n) : bitsL n (b ||| 2 ^ a) = putL (bitsL n b) a := by
  refine rising_ext (bitsL_sorted _ _) (putL_sorted (bitsL_sorted _ _) _) (fun x => ?_)
  rw [mem_putL, mem_bitsL, mem_bitsL, Nat.testBit_or, Nat.testBit_two_pow, Bool.or_eq_true, decide_eq_true_eq]
  constructor
  · rintro ⟨h0, h1, h2 | h2⟩
    · exact .inl ⟨h0, h1, h2⟩
    · exact .inr (by omega)
  · rintro (⟨h0, h1, h2⟩ | rfl)
    · exact ⟨h0, h1, .inl h2⟩
    · exact ⟨by omega, by omega, .inr (by omega)⟩
theorem bits_zero (n : Nat) : bitsL n 0 = [] := by
  have : ∀ x, x ∉ bitsL n 0 := fun x hx => by have := (mem_bitsL.1 hx).2.2; simp at this
  exact List.eq_nil_iff_forall_not_mem.2 this

/-- What a site adds to the gain of a set. -/
def moreF (F : Fld) (worth : Int) (S : List Int) (a : Int) : Int := gainF F worth (putL S a) - gainF F worth S
theorem gainF_bd {F : Fld} (hg : goodF F = true) {worth : Int} (h0 : 0 ≤ worth) (h1 : worth ≤ 999) (S : List Int) : 0 ≤ gainF F worth S ∧ gainF F worth S ≤ 6993 := by
  by_cases h : S = []
  · subst h; rw [gainF_nil]; omega
  · rw [gainF_cons h]
    have := sumTo_bd (gainAt_bd (F := F) (S := S) h0 h1 (fun i => (nearF_bd hg S i).1)) F.di.length
    have h7 := (goodF_iff.1 hg).2.2.1
    omega
theorem moreF_bd {F : Fld} (hg : goodF F = true) {worth : Int} (h0 : 0 ≤ worth) (h1 : worth ≤ 999) (S : List Int) (a : Int) : -6993 ≤ moreF F worth S a ∧ moreF F worth S a ≤ 6993 := by
  have := gainF_bd hg h0 h1 S
  have := gainF_bd hg h0 h1 (putL S a)
  unfold moreF; omega

/-- The first one of the numbers below k that may be taken with the greatest value of more than 0, and this value. -/
def pickTo (ok : Nat → Bool) (val : Nat → Int) : Nat → Int × Int
  | 0 => (-1, 0)
  | k + 1 => if ok k && decide ((pickTo ok val k).2 < val k) then ((k : Int), val k) else pickTo ok val k
theorem pick_yes {ok : Nat → Bool} {val : Nat → Int} {k : Nat} (h1 : ok k = true) (h2 : (pickTo ok val k).2 < val k) : pickTo ok val (k + 1) = ((k : Int), val k) := by
  show (if _ then _ else _) = _
  rw [if_pos (by simp [h1, h2])]
theorem pick_no {ok : Nat → Bool} {val : Nat → Int} {k : Nat} (h : ok k = false) : pickTo ok val (k + 1) = pickTo ok val k := by
  show (if _ then _ else _) = _
  rw [if_neg (by simp [h])]
theorem pick_less {ok : Nat → Bool} {val : Nat → Int} {k : Nat} (h2 : ¬ (pickTo ok val k).2 < val k) : pickTo ok val (k + 1) = pickTo ok val k := by
  show (if _ then _ else _) = _
  rw [if_neg (by simp [h2])]
theorem pick_inv (ok : Nat → Bool) (val : Nat → Int) : ∀ k, pickTo ok val k = (-1, 0) ∨ ∃ a, a < k ∧ ok a = true ∧ 0 < val a ∧ pickTo ok val k = ((a : Int), val a)
  | 0 => .inl rfl
  | k + 1 => by
    have ih := pick_inv ok val k
    by_cases h : ok k = true
    · by_cases h2 : (pickTo ok val k).2 < val k
      · refine .inr ⟨k, by omega, h, ?_, pick_yes h h2⟩
        rcases ih with e | ⟨a, _, _, h3, e⟩ <;> rw [e] at h2 <;> simp at h2 <;> omega
      · rw [pick_less h2]
        rcases ih with e | ⟨a, h1, h3⟩
        · exact .inl e
        · exact .inr ⟨a, by omega, h3⟩
    · rw [pick_no (by simpa using h)]
      rcases ih with e | ⟨a, h1, h3⟩
      · exact .inl e
      · exact .inr ⟨a, by omega, h3⟩
theorem pick_bd (ok : Nat → Bool) (val : Nat → Int) (k : Nat) : -1 ≤ (pickTo ok val k).1 ∧ (pickTo ok val k).1 < k ∧ 0 ≤ (pickTo ok val k).2 := by
  rcases pick_inv ok val k with e | ⟨a, h1, _, h3, e⟩ <;> rw [e] <;> simp <;> omega
theorem pick_neg (ok : Nat → Bool) (val : Nat → Int) (k : Nat) : (pickTo ok val k).1 < 0 ↔ (pickTo ok val k).2 = 0 := by
  rcases pick_inv ok val k with e | ⟨a, h1, _, h3, e⟩ <;> rw [e] <;> simp <;> omega
theorem pick_congr {ok ok' : Nat → Bool} {val val' : Nat → Int} : ∀ k, (∀ a, a < k → ok a = ok' a) → (∀ a, a < k → ok a = true → val a = val' a) → pickTo ok val k = pickTo ok' val' k
  | 0, _, _ => rfl
  | k + 1, h1, h2 => by
    have ih := pick_congr k (fun a ha => h1 a (by omega)) (fun a ha => h2 a (by omega))
    show (if _ then _ else _) = (if _ then _ else _)
    rw [ih, ← h1 k (by omega)]
    by_cases h : ok k = true
    · rw [h2 k (by omega) h]
    · have : ok k = false := by simpa using h
      simp [this]

/-- Which sites may be put into a set. -/
def okF (may : List Int → Bool) (S : List Int) (a : Nat) : Bool := !(S.any fun x => x == (a : Int)) && may (putL S a)
/-- The site that is taken next, and what it adds. -/
def nextTo (F : Fld) (worth : Int) (may : List Int → Bool) (S : List Int) (k : Nat) : Int × Int := pickTo (okF may S) (fun a => moreF F worth S a) k
def nextF (F : Fld) (worth : Int) (may : List Int → Bool) (S : List Int) : Int × Int := nextTo F worth may S F.op.length
/-- At most j more sites, each one with the greatest marginal gain. -/
def grd (F : Fld) (worth : Int) (may : List Int → Bool) : Nat → List Int → List Int → List Int
  | 0, out, _ => out
  | j + 1, out, S => if (nextF F worth may S).1 < 0 then out else grd F worth may j (out ++ [(nextF F worth may S).1]) (putL S (nextF F worth may S).1)
theorem grd_zero {F : Fld} {worth : Int} {may : List Int → Bool} {out S : List Int} : grd F worth may 0 out S = out := rfl
theorem grd_stop {F : Fld} {worth : Int} {may : List Int → Bool} {j : Nat} {out S : List Int} (h : (nextF F worth may S).1 < 0) : grd F worth may j out S = out := by
  cases j with
  | zero => rfl
  | succ j => exact if_pos h
theorem grd_go {F : Fld} {worth : Int} {may : List Int → Bool} {j : Nat} {out S : List Int} (h : ¬ (nextF F worth may S).1 < 0) : grd F worth may (j + 1) out S = grd F worth may j (out ++ [(nextF F worth may S).1]) (putL S (nextF F worth may S).1) := if_neg h
theorem okF_out {may : List Int → Bool} {S : List Int} {a : Nat} (h : okF may S a = true) : (a : Int) ∉ S := by
  simp only [okF, Bool.and_eq_true] at h
  intro hm
  have h1 := h.1
  rw [List.any_eq_true.2 ⟨_, hm, by simp⟩] at h1
  simp at h1
theorem next_new {F : Fld} {worth : Int} {may : List Int → Bool} {S : List Int} (h : ¬ (nextF F worth may S).1 < 0) : (nextF F worth may S).1 ∉ S ∧ (nextF F worth may S).1 < F.op.length := by
  rcases pick_inv (okF may S) (fun a => moreF F worth S a) F.op.length with e | ⟨a, h1, h2, _, e⟩
  · refine absurd ?_ h
    show (pickTo _ _ _).1 < 0
    rw [e]; simp
  · show (pickTo _ _ _).1 ∉ S ∧ (pickTo _ _ _).1 < _
    rw [e]
    exact ⟨okF_out h2, by simpa using h1⟩
theorem grd_len {F : Fld} {worth : Int} {may : List Int → Bool} : ∀ (j : Nat) (out S : List Int), (grd F worth may j out S).length ≤ out.length + j
  | 0, out, S => Nat.le_refl _
  | j + 1, out, S => by
    by_cases h : (nextF F worth may S).1 < 0
    · rw [grd_stop h]; omega
    · rw [grd_go h]
      have := grd_len (F := F) (worth := worth) (may := may) j (out ++ [(nextF F worth may S).1]) (putL S (nextF F worth may S).1)
      simp at this; omega
/-- A set of all sites has no next one. -/
theorem next_full {F : Fld} {worth : Int} {may : List Int → Bool} {S : List Int} (hs : setB F S = true) (hl : S.length = F.op.length) : (nextF F worth may S).1 < 0 := by
  by_cases h : (nextF F worth may S).1 < 0
  · exact h
  · obtain ⟨h1, h2⟩ := next_new h
    have h3 := setB_len (setB_put hs (by omega) h2)
    rw [putL_new h1] at h3
    omega
end Go.Proofs.Ytgdicmeabppngaa

namespace Go.Proofs.Ytgdicmeabppngaa
open Go.RowKit Go.Sort

theorem putL_nil (a : Int) : putL [] a = [a] := by simp [putL]
theorem putL_len' (S : List Int) (a : Int) : (putL S a).length ≤ S.length + 1 := by
  unfold putL
  by_cases h : a ∈ S
  · rw [if_pos h]; omega
  · rw [if_neg h, List.length_append, List.length_cons]
    have : S.length = (S.takeWhile (· < a)).length + (S.dropWhile (· < a)).length := by
      conv => lhs; rw [← List.takeWhile_append_dropWhile (p := fun y => decide (y < a)) (l := S), List.length_append]
    omega
set_option maxRecDepth 100000 in
set_option maxHeartbeats 2000000 in
theorem l1Put_none (c0 : Nat) (a : Int) (w : World) :
    Calls Try.prog 47 #[.slice none 0 c0, .int .i64 a] w fun e w' => ∃ v, e = .returned v ∧ Own w' w.heap.size v (putL [] a) ∧ Kp w w' := by
  have hA := Lib.hid ((own_new0 w _ (Nat.le_refl _)).drew)
  have hAB := Lib.hid ((own_ab w a).drew)
  have hBA := Lib.hid ((own_ba w a).drew)
  go_enter Try.func47, Try.ntmps47
  go_wp2_with fail
  go_loop [5] (fun iv => iv = .int .i64 0) (fun iv => 0)
  case atStart => rfl
  case round =>
    obtain rfl := hrel
    go_wp2_with fail
    go_region_held3 (fun w' => Kp w w')
      (first | exact (by repeat (first | with_reducible assumption | with_reducible exact Kp.refl _ | with_reducible refine Kp.drew ?_ | with_reducible refine Kp.alloc ?_ _ | with_reducible refine Kp.drewN ?_ _ | refine Kp.setCell ?_ (by dsimp only; omega) _)) | exact hkA | exact hkA.alloc _ | exact hkB | exact hkC)
      (first
        | (refine step_app_all (by rfl) (.tmp 33) (.tmp 36) (by rfl) w.heap.size _ [] [] none 0 c0 (by rfl) (by rfl) hA.out (IntsAt.nil _ _) rfl (by simp) (by simp) ?_; intro v1 w1 ho1 ht1 h41; have hkA : Kp w w1 := hA.out.kp_turn (by repeat (first | with_reducible assumption | with_reducible exact Kp.refl _ | with_reducible refine Kp.drew ?_ | with_reducible refine Kp.alloc ?_ _ | with_reducible refine Kp.drewN ?_ _ | refine Kp.setCell ?_ (by dsimp only; omega) _)) (Nat.le_refl _) ht1)
        | (refine step_app_all (by rfl) (.tmp 33) (.tmp 36) (by rfl) w.heap.size _ [] [] none 0 c0 (by rfl) (by rfl) hAB.out (IntsAt.nil _ _) rfl (by simp; try omega) (by simp) ?_; intro v1 w1 ho1 ht1 h41; have hkA : Kp w w1 := hAB.out.kp_turn (by repeat (first | with_reducible assumption | with_reducible exact Kp.refl _ | with_reducible refine Kp.drew ?_ | with_reducible refine Kp.alloc ?_ _ | with_reducible refine Kp.drewN ?_ _ | refine Kp.setCell ?_ (by dsimp only; omega) _)) (Nat.le_refl _) ht1; have h1n := one_turn (g := w.heap.size + 1) ((one_ab w a).kp (Kp.refl _).drew) ht1 (by simp [Value.ownBlock]) (by simp))
        | (refine step_app_all (by rfl) (.tmp 33) (.tmp 36) (by rfl) w.heap.size _ [] [] none 0 c0 (by rfl) (by rfl) hBA.out (IntsAt.nil _ _) rfl (by simp; try omega) (by simp) ?_; intro v1 w1 ho1 ht1 h41; have hkA : Kp w w1 := hBA.out.kp_turn (by repeat (first | with_reducible assumption | with_reducible exact Kp.refl _ | with_reducible refine Kp.drew ?_ | with_reducible refine Kp.alloc ?_ _ | with_reducible refine Kp.drewN ?_ _ | refine Kp.setCell ?_ (by dsimp only; omega) _)) (Nat.le_refl _) ht1; have h1n := one_turn (g := w.heap.size) ((one_ba w a).kp (Kp.refl _).drew) ht1 (by simp [Value.ownBlock]) (by simp; try omega))
        | (refine step_app_all (by rfl) (.tmp 37) (.tmp 39) (by rfl) w.heap.size v1 ([] ++ []) [a] (some ⟨w.heap.size + 1, 0, none⟩) 1 1 (by rfl) (by rfl) ho1 h1n rfl hkA.le (by simp) ?_; intro v2 w2 ho2 ht2 h42; have hkB : Kp w w2 := ho1.kp_turn hkA (Nat.le_refl _) ht2)
        | (refine step_app_all (by rfl) (.tmp 37) (.tmp 39) (by rfl) w.heap.size v1 ([] ++ []) [a] (some ⟨w.heap.size, 0, none⟩) 1 1 (by rfl) (by rfl) ho1 h1n rfl hkA.le (by simp) ?_; intro v2 w2 ho2 ht2 h42; have hkB : Kp w w2 := ho1.kp_turn hkA (Nat.le_refl _) ht2)
        | (refine step_app (by rfl) (.tmp 37) (.tmp 39) (by rfl) w.heap.size v1 ([] ++ []) a _ (by rfl) (by rfl) (by rfl) ho1 hkA.le (by simp) ?_; intro v2 w2 ho2 ht2 h42; have hkB : Kp w w2 := ho1.kp_turn hkA (Nat.le_refl _) ht2)
        | (refine step_app_all (by rfl) (.tmp 40) (.tmp 43) (by rfl) w.heap.size v2 ([] ++ [] ++ [a]) [] none 0 c0 (by rfl) (by rfl) ho2 (IntsAt.nil _ _) rfl hkB.le (by simp) ?_; intro v3 w3 ho3 ht3 h43; have hkC : Kp w w3 := ho2.kp_turn hkB (Nat.le_refl _) ht3)
        | fail)
    all_goals
      go_wp2_with fail
      go_ret
      rw [putL_nil]
      exact ⟨_, rfl, ho3, hkC⟩
theorem l1Put_new (A0 : Option Addr) (S : List Int) (n c0 : Nat) (a : Int) (w : World) (hS : IntsAt w A0 S) (hn : S.length = n) (hs : S.Pairwise (· < ·)) (hc : n ≤ c0) (hb : n < 1048576) (ha : a ∉ S) :
    Calls Try.prog 47 #[.slice A0 n c0, .int .i64 a] w fun e w' => ∃ v, e = .returned v ∧ Own w' w.heap.size v (putL S a) ∧ Kp w w' := by
  cases A0 with
  | some ad =>
    refine (l1Put_some ad S n c0 a w hS hn hs hc hb).mono ?_
    rintro e w' ⟨v, h1, h2 | h2, h3⟩
    · exact absurd h2.1 ha
    · exact ⟨v, h1, h2, h3⟩
  | none =>
    have e : S = [] := by
      cases S with
      | nil => rfl
      | cons y t => obtain ⟨ad, h, _⟩ := hS.at_ (k := 0) (by simp); cases h
    subst e
    obtain rfl : n = 0 := by simpa using hn.symm
    exact l1Put_none c0 a w
theorem l1Put_any (A0 : Option Addr) (S : List Int) (n c0 : Nat) (a : Int) (w : World) (hS : IntsAt w A0 S) (hn : S.length = n) (hs : S.Pairwise (· < ·)) (hc : n ≤ c0) (hb : n < 1048576) :
    Calls Try.prog 47 #[.slice A0 n c0, .int .i64 a] w fun e w' => ∃ A' c', e = .returned (.slice A' (putL S a).length c') ∧ (putL S a).length ≤ c' ∧ IntsAt w' A' (putL S a) ∧ Kp w w' := by
  by_cases ha : a ∈ S
  · cases A0 with
    | some ad =>
      refine (l1Put_some ad S n c0 a w hS hn hs hc hb).mono ?_
      rintro e w' ⟨v, rfl, h2 | h2, h3⟩
      · obtain ⟨_, rfl⟩ := h2
        rw [show putL S a = S from if_pos ha, hn]
        exact ⟨some ad, c0, rfl, hc, hS.kp h3, h3⟩
      · obtain ⟨A', c', e, hi⟩ := h2.ints (by have := putL_len' S a; omega)
        exact ⟨A', c', by rw [e], h2.cap e, hi, h3⟩
    | none =>
      obtain ⟨k, hk, _⟩ := List.getElem_of_mem ha
      obtain ⟨ad, h, _⟩ := hS.at_ (k := 0) (by omega); cases h
  · refine (l1Put_new A0 S n c0 a w hS hn hs hc hb ha).mono ?_
    rintro e w' ⟨v, rfl, h2, h3⟩
    obtain ⟨A', c', e, hi⟩ := h2.ints (by have := putL_len' S a; omega)
    exact ⟨A', c', by rw [e], h2.cap e, hi, h3⟩
end Go.Proofs.Ytgdicmeabppngaa

namespace Go.Proofs.Ytgdicmeabppngaa
open Go.RowKit Go.Sort

def opAt (F : Fld) (a : Int) : Int := F.op.getD a.toNat 0
def payTo (F : Fld) (S : List Int) (k : Nat) : Int := ((S.take k).map (opAt F)).sum
def payF (F : Fld) (S : List Int) : Int := (S.map (opAt F)).sum
theorem payTo_succ {F : Fld} {S : List Int} {k : Nat} (hk : k < S.length) : payTo F S (k + 1) = payTo F S k + opAt F S[k] := by
  unfold payTo
  rw [List.take_succ_eq_append_getElem hk, List.map_append, List.sum_append]; simp
theorem payTo_all {F : Fld} {S : List Int} {k : Nat} (hk : S.length ≤ k) : payTo F S k = payF F S := by
  unfold payTo payF
  rw [List.take_of_length_le hk]
theorem opAt_bd {F : Fld} (h : goodF F = true) (a : Int) : 0 ≤ opAt F a ∧ opAt F a ≤ 99 := by
  unfold opAt
  by_cases hk : a.toNat < F.op.length
  · have e : F.op.getD a.toNat 0 = F.op[a.toNat] := by simp [List.getD, hk]
    rw [e]; exact (goodF_iff.1 h).2.1 _ (List.getElem_mem hk)
  · rw [List.getD_eq_getElem?_getD, List.getElem?_eq_none (by omega)]; simp
theorem payTo_bd {F : Fld} (h : goodF F = true) (S : List Int) : ∀ k, k ≤ S.length → 0 ≤ payTo F S k ∧ payTo F S k ≤ k * 99
  | 0, _ => by simp [payTo]
  | k + 1, hk => by
    have h1 := payTo_bd h S k (by omega)
    have h2 := opAt_bd h (S[k]'(by omega))
    rw [payTo_succ (by omega)]; omega
theorem set_len {F : Fld} {S : List Int} (h : setB F S = true) : S.length ≤ F.op.length := by
  have hr := ris_iff.1 h
  have hm := set_mem h
  have := bitsL_len F.op.length (bagN S)
  rwa [set_bits h] at this
theorem payF_bd {F : Fld} (h : goodF F = true) {S : List Int} (hs : setB F S = true) : 0 ≤ payF F S ∧ payF F S ≤ 693 := by
  have h1 := payTo_bd h S S.length (Nat.le_refl _)
  rw [payTo_all (Nat.le_refl _)] at h1
  have := set_len hs
  have := (goodF_iff.1 h).1.2
  omega
theorem opCell {w : World} {ad : Addr} {F : Fld} {a : Int} (h : IntsAt w (some ad) F.op) (h0 : 0 ≤ a) (h1 : a < F.op.length) : w.cell? (ad.add a.toNat) = some (.int .i64 (opAt F a)) := by
  have hk : a.toNat < F.op.length := by omega
  rw [h.some_ hk]
  simp [opAt, List.getD, hk]
def totF (F : Fld) (S : List Int) : Int := serveF F S + payF F S
end Go.Proofs.Ytgdicmeabppngaa

namespace Go.Proofs.Ytgdicmeabppngaa
open Go.RowKit Go.Sort

theorem DFld.openP {w : World} {b : Nat} {v : Value} (h : DFld w b v) : ∃ F A c B d, v = .agg #[.slice A F.op.length c, .slice B F.di.length d] ∧ FldP w (fun i => b ≤ i) v F ∧ F.op.length ≤ 100 := by
  obtain ⟨F, hf⟩ := h
  obtain ⟨A, c, B, d, e, h1, _⟩ := id hf
  exact ⟨F, A, c, B, d, e, hf, h1.2.2⟩
theorem DInts.openP {w : World} {b n c : Nat} {A : Option Addr} (h : DInts w b (.slice A n c)) : ∃ xs : List Int, xs.length = n ∧ Own w b (.slice A n c) xs ∧ n ≤ 200 := by
  obtain ⟨xs, ho, hl⟩ := h
  obtain ⟨A', c', e⟩ := ho.shape
  cases e
  exact ⟨xs, rfl, ho, hl⟩
theorem Own.intsK {w : World} {base n c : Nat} {A : Option Addr} {xs : List Int} (h : Own w base (.slice A n c) xs) (hl : xs.length ≤ 9223372036854775807) : IntsAt w A xs := by
  obtain ⟨A', c', e, hi⟩ := h.ints hl
  cases e
  exact hi
set_option maxRecDepth 100000 in
set_option maxHeartbeats 2000000 in
theorem open7_any (p m b : Nat) (f : Value) (A1 : Option Addr) (n1 c1 : Nat) (A2 : Option Addr) (n2 c2 : Nat) (w : World) (hc : Cur w p m) (hm : m < 90000000) (hb : p < b) (hf : DFld w b f) (h1 : DInts w b (.slice A1 n1 c1)) (h2 : DInts w b (.slice A2 n2 c2)) :
    Calls Try.prog 22 #[.pointer (some ⟨p, 0, none⟩), f, .slice A1 n1 c1, .slice A2 n2 c2] w fun e w' => ∃ v, e = .returned v ∧ DInts w' w.heap.size v ∧ Cur w' p (m + 100) ∧ Tp p w w' := by
  have hp := hc.lt
  obtain ⟨F, A, c, B, d, rfl, hfp, hn9⟩ := hf.openP
  obtain ⟨rs, hrl, hor, hr2⟩ := h1.openP
  obtain ⟨ns, hnl, hon, hn2⟩ := h2.openP
  have k0 : Kp w (w.alloc (.cells #[.slice A F.op.length c, .slice B F.di.length d] 27)) := (Kp.refl w).alloc _
  obtain ⟨d0, d1⟩ := box2 w (.slice A F.op.length c) (.slice B F.di.length d) 27
  have CS := Lib.hid (sites_any p m A F.op.length c B F.di.length d _ (hc.kp k0) (by omega) (by omega))
  have T0 : Tp p w (w.alloc (.cells #[.slice A F.op.length c, .slice B F.di.length d] 27)) := Turn.of_kp k0
  have hle := k0.le
  have hbp : w.heap.size ≠ p := by omega
  go_enter Try.func22, Try.ntmps22
  go_wp2_with fail
  generalize w.alloc (.cells #[.slice A F.op.length c, .slice B F.di.length d] 27) = wb at *
  with_reducible refine Calls.mono CS.out ?_
  rintro e w1 ⟨v, rfl, hv, cu, u1⟩
  clear CS
  obtain ⟨A9, n9, c9, hvs⟩ : ∃ A9 n9 c9, v = .slice A9 n9 c9 := by obtain ⟨A9, c9, xs, e, _⟩ := hv.ints; exact ⟨A9, _, c9, e⟩
  subst hvs
  obtain ⟨S, hSl, hoS, hS2⟩ := hv.openP
  have hSc : n9 ≤ c9 := by have := hoS.capL rfl; omega
  have T1 := T0.trans u1
  have q0 := turn_cellD u1 d0 hbp
  have q1 := turn_cellD u1 d1 hbp
  have hf1 := (hfp.turn T1 (fun i hi => by omega)).fld
  replace hor := own_low hor T1 (fun i hi => by omega)
  replace hon := own_low hon T1 (fun i hi => by omega)
  replace hoS := hoS.mono hle
  have CG := Lib.hid (l7Given_any _ F A1 rs n1 c1 A2 ns n2 c2 A9 S n9 c9 w1 hf1 (hor.intsK (by omega)) hrl (hon.intsK (by omega)) hnl (hoS.intsK (by omega)) hSl)
  clear hv hfp hf h1 h2 T0 u1 d0 d1 k0 hle hf1
  go_wp2_with fail
  with_reducible refine Calls.mono CG.out ?_
  rintro e w2 ⟨rfl, hk⟩
  clear CG
  have T2 := T1.trans (Turn.of_kp hk)
  replace cu := cu.kp hk
  replace hoS := hoS.kp hk
  replace q0 := hk.get q0
  replace q1 := hk.get q1
  cases hg : haulB F rs ns S
  · go_wp2_with fail
    go_ret
    exact ⟨_, rfl, ⟨S, hoS, by omega⟩, cu.mono (by omega), T2⟩
  · have CP := Lib.hid (one_any p (m + 30) 8 w2 cu (by omega) (by omega))
    replace hor := hor.kp hk
    replace hon := hon.kp hk
    clear hk
    go_wp2_with fail
    with_reducible refine Calls.mono CP.out ?_
    rintro e w3 ⟨bo, rfl, c3, u3⟩
    clear CP
    have T3 := T2.trans u3
    have hoS3 := own_low hoS u3 (fun i hi => by omega)
    have e0 := turn_cellD u3 q0 hbp
    have e1 := turn_cellD u3 q1 hbp
    cases bo
    · replace hor := own_low hor u3 (fun i hi => by omega)
      replace hon := own_low hon u3 (fun i hi => by omega)
      have hir := hor.intsK (by omega)
      have hin := hon.intsK (by omega)
      obtain ⟨g1, ⟨g2, g3⟩, g4, g5⟩ := haulB_iff.1 hg
      obtain ⟨hgF, hsF, hSne⟩ := openedB_parts g1
      have h7 := (goodF_iff.1 hgF).1.2
      have h8 := (goodF_iff.1 hgF).2.2.1
      have HL3 := Lib.hid (fun (wx : World) (hx : Kp w3 wx) => l3Sum_any A2 ns n2 c2 wx (hin.kp hx) hnl (fun k hk => by have h9 := sum_small g4 k (by omega); have hk7 : k ≤ 7 := (by omega); omega) (fun x hx => by have := g4 x hx; omega))
      have HL7 := Lib.hid (fun (wx : World) (hx : Kp w3 wx) (As : Option Addr) (S : List Int) (ls cs : Nat) (ho : Own wx w.heap.size (.slice As ls cs) S) (hl : S.length = ls) (hs : setB F S = true) => l7Room_any A1 rs n1 c1 As S ls cs 20 wx (hir.kp hx) hrl (ho.intsK (by have := set_len hs; omega)) hl (fun x hx => by have := set_mem hs x hx; omega) (by have := set_len hs; omega) (by omega) (by omega) (fun x hx => by have := g2 x hx; omega))
      have HS := Lib.hid hsF
      obtain ⟨N, hN⟩ : ∃ N, F.op.length = N := ⟨_, rfl⟩
      have hNl : N ≤ 7 := by omega
      rw [hN] at e0 ⊢
      have HN := Lib.hid hN
      clear hg g1 g2 g3 g4 g5 hgF hsF hSne h7 h8 hor hon hir hin q0 q1 hoS hN T2 cu
      go_wp2_with fail
      go_loopw [9, 10] (fun sv iv wc => ∃ (j : Nat) (As : Option Addr) (ls cs : Nat) (S : List Int), sv = .slice As ls cs ∧ iv = .int .i64 j ∧ j ≤ N ∧ Hid (S.length = ls) ∧ Hid (setB F S = true) ∧ ls ≤ cs ∧ Own wc w.heap.size (.slice As ls cs) S ∧ Kp w3 wc) (fun _ iv _ => N - (intOf iv).toNat)
      case atStart => exact ⟨0, A9, n9, c9, S, rfl, rfl, by omega, Lib.hid hSl, HS, hSc, hoS3, Kp.refl _⟩
      case round =>
        clear hoS3 HS hSl hSc
        obtain ⟨j, As, ls, cs, S, rfl, rfl, hj, HL, HS, hSc, ho, hkr⟩ := hrel
        have z0 := hkr.get e0
        have z1 := hkr.get e1
        by_cases hlt : j < N
        · have hltI : (j : Int) < (N : Int) := by omega
          have C7 := Lib.hid (HL7.out _ hkr As S ls cs ho HL.out HS.out)
          go_wp2_with fail
          with_reducible refine Calls.mono C7.out ?_
          rintro e w4 ⟨rfl, hw⟩
          obtain rfl := hw
          clear C7
          have C3 := Lib.hid (HL3.out _ hkr)
          go_wp2_with fail
          with_reducible refine Calls.mono C3.out ?_
          rintro e w4 ⟨rfl, hw⟩
          obtain rfl := hw
          clear C3
          by_cases hlt2 : roomS rs S < ns.sum
          · have CH := Lib.hid (l1Has_any As S ls cs (j : Int) wr (ho.intsK (by have h5 := HL.out; have h6 := set_len HS.out; have h7 := HN.out; omega)) HL.out)
            go_wp2_with fail
            with_reducible refine Calls.mono CH.out ?_
            rintro e w4 ⟨rfl, hw⟩
            obtain rfl := hw
            clear CH
            cases hb : S.any (fun x => x == (j : Int))
            · have hjS : (j : Int) ∉ S := fun h => by
                rw [List.any_eq_false] at hb
                exact hb _ h (by simp)
              have CU := Lib.hid (l1Put_new As S ls cs (j : Int) wr (ho.intsK (by have h5 := HL.out; have h6 := set_len HS.out; have h7 := HN.out; omega)) HL.out (ris_iff.1 HS.out).1 hSc (by have h5 := HL.out; have h6 := set_len HS.out; have h7 := HN.out; omega) hjS)
              go_wp2_with fail
              with_reducible refine Calls.mono CU.out ?_
              rintro e w5 ⟨v5, rfl, ho5, hk5⟩
              clear CU
              have hwl : w.heap.size ≤ wr.heap.size := by have h1 := T3.size; have h2 := hkr.le; omega
              obtain ⟨A5, c5, hv5⟩ := ho5.shape
              obtain ⟨l5, hl5⟩ : ∃ l, (putL S (j : Int)).length = l := ⟨_, rfl⟩
              rw [hl5] at hv5
              subst hv5
              have hc5 := ho5.capL rfl
              go_wp2_with fail
              go_roundw
              case rel => exact ⟨j + 1, A5, l5, c5, putL S (j : Int), rfl, by go_num, by omega, Lib.hid hl5, Lib.hid (setB_put HS.out (by omega) (by have := HN.out; omega)), by omega, ho5.mono hwl, hkr.trans hk5⟩
              case measure => simp [intOf]; omega
            · go_wp2_with fail
              go_roundw
              case rel => exact ⟨j + 1, As, ls, cs, S, rfl, by go_num, by omega, HL, HS, hSc, ho, hkr⟩
              case measure => simp [intOf]; omega
          · have T4 := T3.trans (Turn.of_kp hkr)
            have hd2 : decide (roomS rs S < ns.sum) = false := decide_eq_false hlt2
            go_wp2_with fail
            go_ret
            exact ⟨_, rfl, ⟨S, ho, by have h5 := HL.out; have h6 := set_len HS.out; have h7 := HN.out; omega⟩, (c3.kp hkr).mono (by omega), T4⟩
        · have T4 := T3.trans (Turn.of_kp hkr)
          have hltI : ¬ (j : Int) < (N : Int) := by omega
          go_wp2_with fail
          go_ret
          exact ⟨_, rfl, ⟨S, ho, by have h5 := HL.out; have h6 := set_len HS.out; have h7 := HN.out; omega⟩, (c3.kp hkr).mono (by omega), T4⟩
    · go_wp2_with fail
      go_ret
      exact ⟨_, rfl, ⟨S, hoS3, by omega⟩, c3.mono (by omega), T3⟩
end Go.Proofs.Ytgdicmeabppngaa

namespace Go.Proofs.Ytgdicmeabppngaa
open Go.RowKit Go.Sort

/-- A new cursor. -/
theorem cur_new {w : World} {A : Option Addr} {n c : Nat} {t : TypeId} (hb : BytesAt w A n) : Cur (w.alloc (.cells #[.slice A n c, .int .i64 0, .int .u64 0] t)) w.heap.size 0 := by
  have hk : Kp w (w.alloc (.cells #[.slice A n c, .int .i64 0, .int .u64 0] t)) := (Kp.refl w).alloc _
  refine ⟨⟨A, n, c, 0, 0, ?_, ?_, ?_, Nat.le_refl _, hb.kp hk, fun ad e h0 => ?_⟩, there_newD w [.slice A n c, .int .i64 0, .int .u64 0] t⟩
  · rw [World.cell?_alloc_at _ _ _ _ rfl]; rfl
  · rw [World.cell?_alloc_at _ _ _ _ rfl]; rfl
  · rw [World.cell?_alloc_at _ _ _ _ rfl]; rfl
  · obtain ⟨ad', b, e', hc, _⟩ := hb.2 0 h0
    rw [e] at e'
    cases e'
    have := World.block_lt_of_cell? _ _ hc
    rwa [blk_add] at this
theorem BytesAt.kpD {w w' : World} {A : Option Addr} {n : Nat} (h : BytesAt w A n) (hk : Kp w w') : BytesAt w' A n := h.kp hk
/-- The results of a draw whose first one is a field. -/
theorem drw_ret {w w2 : World} {rb b : Nat} {x y : Value} (hf : DFld w2 b (.agg #[x, y])) (hb : rb < b) (ht : w2.there rb 0 2) (k : Kp w w2) (hr : w.heap.size ≤ rb) : (w2.setCells rb 0 [x, y]).cell? ⟨rb, 0, none⟩ = some x ∧ (w2.setCells rb 0 [x, y]).cell? ⟨rb, 1, none⟩ = some y ∧ DFld (w2.setCells rb 0 [x, y]) w.heap.size (.agg #[x, y]) ∧ Kp w (w2.setCells rb 0 [x, y]) ∧ Turn (fun i => i = rb) w2 (w2.setCells rb 0 [x, y]) := by
  have ts := turn_setCellsD rb [x, y] 0 w2
  have hg := World.rangeAt_setCells_same w2 rb 0 [x, y] ht
  exact ⟨hg 0 _ rfl, hg 1 _ rfl, (hf.turn ts (fun i hi => by omega)).mono (by omega), k.turn ts (fun i hi => by omega), ts⟩
def MgPost (w : World) (e : Ending) (w' : World) : Prop := ∃ v r l a, e = .returned (.tuple #[v, .int .i64 r, l, .int .i64 a]) ∧ DFld w' w.heap.size v ∧ DInts w' w.heap.size l ∧ Kp w w'
def WrPost (w : World) (e : Ending) (w' : World) : Prop := ∃ v l a, e = .returned (.tuple #[v, l, .int .i64 a]) ∧ DFld w' w.heap.size v ∧ DInts w' w.heap.size l ∧ Kp w w'
end Go.Proofs.Ytgdicmeabppngaa
