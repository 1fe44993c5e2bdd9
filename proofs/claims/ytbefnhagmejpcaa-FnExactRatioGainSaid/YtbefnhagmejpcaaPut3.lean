/- l1Put of a nil list, and of any list; what a site adds, as the reference tells it. No condition. -/
import Derived.Test.YtbefnhagmejpcaaPut2
import Derived.Test.YtbefnhagmejpcaaGrd
import Derived.WalkLawsBesides
namespace Go.Proofs.Ytbefnhagmejpcaa
open Go.RowKit Go.Sort

theorem putL_nil (a : Int) : putL [] a = [a] := by simp [putL]
theorem putL_len' (S : List Int) (a : Int) : (putL S a).length ≤ S.length + 1 := by
  unfold putL
  by_cases h : a ∈ S
  · rw [if_pos h]; omega
  · rw [if_neg h, List.length_append, List.length_cons]
    have : S.length = (S.takeWhile (· < a)).length + (S.dropWhile (· < a)).length := by
      conv => lhs; rw [← List.takeWhile_append_dropWhile (p := fun y => decide (y < a)) (l := S), List.length_append]
    omega
set_option maxRecDepth 100000 in
set_option maxHeartbeats 2000000 in
theorem l1Put_none (c0 : Nat) (a : Int) (w : World) :
    Calls Try.prog 61 #[.slice none 0 c0, .int .i64 a] w fun e w' => ∃ v, e = .returned v ∧ Own w' w.heap.size v (putL [] a) ∧ Kp w w' := by
  have hA := Lib.hid ((own_new0 w _ (Nat.le_refl _)).drew)
  have hAB := Lib.hid ((own_ab w a).drew)
  have hBA := Lib.hid ((own_ba w a).drew)
  go_enter Try.func61, Try.ntmps61
  go_wp2_with fail
  go_loop [5] (fun iv => iv = .int .i64 0) (fun iv => 0)
  case atStart => rfl
  case round =>
    obtain rfl := hrel
    go_wp2_with fail
    go_region_held3 (fun w' => Kp w w')
      (first | exact (by repeat (first | with_reducible assumption | with_reducible exact Kp.refl _ | with_reducible refine Kp.drew ?_ | with_reducible refine Kp.alloc ?_ _ | with_reducible refine Kp.drewN ?_ _)) | exact hkA | exact hkA.alloc _ | exact hkB | exact hkC)
      (first
        | (refine step_app_all (by rfl) (.tmp 33) (.tmp 36) (by rfl) w.heap.size _ [] [] none 0 c0 (by rfl) (by rfl) hA.out (IntsAt.nil _ _) rfl (by simp) (by simp) ?_; intro v1 w1 ho1 ht1 h41; have hkA : Kp w w1 := hA.out.kp_turn (by repeat (first | with_reducible assumption | with_reducible exact Kp.refl _ | with_reducible refine Kp.drew ?_ | with_reducible refine Kp.alloc ?_ _ | with_reducible refine Kp.drewN ?_ _)) (Nat.le_refl _) ht1)
        | (refine step_app_all (by rfl) (.tmp 33) (.tmp 36) (by rfl) w.heap.size _ [] [] none 0 c0 (by rfl) (by rfl) hAB.out (IntsAt.nil _ _) rfl (by simp; try omega) (by simp) ?_; intro v1 w1 ho1 ht1 h41; have hkA : Kp w w1 := hAB.out.kp_turn (by repeat (first | with_reducible assumption | with_reducible exact Kp.refl _ | with_reducible refine Kp.drew ?_ | with_reducible refine Kp.alloc ?_ _ | with_reducible refine Kp.drewN ?_ _)) (Nat.le_refl _) ht1; have h1n := one_turn (g := w.heap.size + 1) ((one_ab w a).kp (Kp.refl _).drew) ht1 (by simp [Value.ownBlock]) (by simp))
        | (refine step_app_all (by rfl) (.tmp 33) (.tmp 36) (by rfl) w.heap.size _ [] [] none 0 c0 (by rfl) (by rfl) hBA.out (IntsAt.nil _ _) rfl (by simp; try omega) (by simp) ?_; intro v1 w1 ho1 ht1 h41; have hkA : Kp w w1 := hBA.out.kp_turn (by repeat (first | with_reducible assumption | with_reducible exact Kp.refl _ | with_reducible refine Kp.drew ?_ | with_reducible refine Kp.alloc ?_ _ | with_reducible refine Kp.drewN ?_ _)) (Nat.le_refl _) ht1; have h1n := one_turn (g := w.heap.size) ((one_ba w a).kp (Kp.refl _).drew) ht1 (by simp [Value.ownBlock]) (by simp; try omega))
        | (refine step_app_all (by rfl) (.tmp 37) (.tmp 39) (by rfl) w.heap.size v1 ([] ++ []) [a] (some ⟨w.heap.size + 1, 0, none⟩) 1 1 (by rfl) (by rfl) ho1 h1n rfl hkA.le (by simp) ?_; intro v2 w2 ho2 ht2 h42; have hkB : Kp w w2 := ho1.kp_turn hkA (Nat.le_refl _) ht2)
        | (refine step_app_all (by rfl) (.tmp 37) (.tmp 39) (by rfl) w.heap.size v1 ([] ++ []) [a] (some ⟨w.heap.size, 0, none⟩) 1 1 (by rfl) (by rfl) ho1 h1n rfl hkA.le (by simp) ?_; intro v2 w2 ho2 ht2 h42; have hkB : Kp w w2 := ho1.kp_turn hkA (Nat.le_refl _) ht2)
        | (refine step_app (by rfl) (.tmp 37) (.tmp 39) (by rfl) w.heap.size v1 ([] ++ []) a _ (by rfl) (by rfl) (by rfl) ho1 hkA.le (by simp) ?_; intro v2 w2 ho2 ht2 h42; have hkB : Kp w w2 := ho1.kp_turn hkA (Nat.le_refl _) ht2)
        | (refine step_app_all (by rfl) (.tmp 40) (.tmp 43) (by rfl) w.heap.size v2 ([] ++ [] ++ [a]) [] none 0 c0 (by rfl) (by rfl) ho2 (IntsAt.nil _ _) rfl hkB.le (by simp) ?_; intro v3 w3 ho3 ht3 h43; have hkC : Kp w w3 := ho2.kp_turn hkB (Nat.le_refl _) ht3)
        | fail)
    all_goals
      go_wp2_with fail
      go_ret
      rw [putL_nil]
      exact ⟨_, rfl, ho3, hkC⟩
theorem l1Put_new (A0 : Option Addr) (S : List Int) (n c0 : Nat) (a : Int) (w : World) (hS : IntsAt w A0 S) (hn : S.length = n) (hs : S.Pairwise (· < ·)) (hc : n ≤ c0) (hb : n < 1048576) (ha : a ∉ S) :
    Calls Try.prog 61 #[.slice A0 n c0, .int .i64 a] w fun e w' => ∃ v, e = .returned v ∧ Own w' w.heap.size v (putL S a) ∧ Kp w w' := by
  cases A0 with
  | some ad =>
    refine (l1Put_some ad S n c0 a w hS hn hs hc hb).mono ?_
    rintro e w' ⟨v, h1, h2 | h2, h3⟩
    · exact absurd h2.1 ha
    · exact ⟨v, h1, h2, h3⟩
  | none =>
    have e : S = [] := by
      cases S with
      | nil => rfl
      | cons y t => obtain ⟨ad, h, _⟩ := hS.at_ (k := 0) (by simp); cases h
    subst e
    obtain rfl : n = 0 := by simpa using hn.symm
    exact l1Put_none c0 a w
theorem l1Put_any (A0 : Option Addr) (S : List Int) (n c0 : Nat) (a : Int) (w : World) (hS : IntsAt w A0 S) (hn : S.length = n) (hs : S.Pairwise (· < ·)) (hc : n ≤ c0) (hb : n < 1048576) :
    Calls Try.prog 61 #[.slice A0 n c0, .int .i64 a] w fun e w' => ∃ A' c', e = .returned (.slice A' (putL S a).length c') ∧ (putL S a).length ≤ c' ∧ IntsAt w' A' (putL S a) ∧ Kp w w' := by
  by_cases ha : a ∈ S
  · cases A0 with
    | some ad =>
      refine (l1Put_some ad S n c0 a w hS hn hs hc hb).mono ?_
      rintro e w' ⟨v, rfl, h2 | h2, h3⟩
      · obtain ⟨_, rfl⟩ := h2
        rw [show putL S a = S from if_pos ha, hn]
        exact ⟨some ad, c0, rfl, hc, hS.kp h3, h3⟩
      · obtain ⟨A', c', e, hi⟩ := h2.ints (by have := putL_len' S a; omega)
        exact ⟨A', c', by rw [e], h2.cap e, hi, h3⟩
    | none =>
      obtain ⟨k, hk, _⟩ := List.getElem_of_mem ha
      obtain ⟨ad, h, _⟩ := hS.at_ (k := 0) (by omega); cases h
  · refine (l1Put_new A0 S n c0 a w hS hn hs hc hb ha).mono ?_
    rintro e w' ⟨v, rfl, h2, h3⟩
    obtain ⟨A', c', e, hi⟩ := h2.ints (by have := putL_len' S a; omega)
    exact ⟨A', c', by rw [e], h2.cap e, hi, h3⟩
end Go.Proofs.Ytbefnhagmejpcaa
