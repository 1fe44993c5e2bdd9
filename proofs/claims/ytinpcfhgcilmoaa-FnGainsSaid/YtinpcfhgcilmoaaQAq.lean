/- l1Put of a nil list, and of any list; what a site adds, as the reference tells it; Cells that are kept; What a site adds, as the reference and the program tell it; MarginalGain: reference and program; The law on gains, in plain words: the table is monotone and submodular; what a site adds; the least worth; Small functions of the laws on gains: too many bytes, equal lists, a list put in order; MarginalGain: the reference, whatever the capacity. No condition. -/
import Derived.Test.YtinpcfhgcilmoaaQAp
import Derived.WalkLawsBesides
import Derived.Test.YtinpcfhgcilmoaaQAa
import Derived.Deep.RegionHeld3
import Derived.Test.YtinpcfhgcilmoaaQAl
import Derived.IntWalk
import Derived.Test.YtinpcfhgcilmoaaQAn
import Derived.Test.YtinpcfhgcilmoaaQAc
import Derived.Test.YtinpcfhgcilmoaaQAb
namespace Go.Proofs.Ytinpcfhgcilmoaa
open Go.RowKit Go.Sort

theorem putL_nil (a : Int) : putL [] a = [a] := by simp [putL]
theorem putL_len' (S : List Int) (a : Int) : (putL S a).length ≤ S.length + 1 := by
  unfold putL
  by_cases h : a ∈ S
  · rw [if_pos h]; omega
  · rw [if_neg h, List.length_append, List.length_cons]
    have : S.length = (S.takeWhile (· < a)).length + (S.dropWhile (· < a)).length := by
      conv => lhs; rw [← List.takeWhile_append_dropWhile (p := fun y => decide (y < a)) (l := S), List.length_append]
    omega
set_option maxRecDepth 100000 in
set_option maxHeartbeats 2000000 in
theorem l1Put_none (c0 : Nat) (a : Int) (w : World) :
    Calls Try.prog 62 #[.slice none 0 c0, .int .i64 a] w fun e w' => ∃ v, e = .returned v ∧ Own w' w.heap.size v (putL [] a) ∧ Kp w w' := by
  have hA := Lib.hid ((own_new0 w _ (Nat.le_refl _)).drew)
  have hAB := Lib.hid ((own_ab w a).drew)
  have hBA := Lib.hid ((own_ba w a).drew)
  go_enter Try.func62, Try.ntmps62
  go_wp2_with fail
  go_loop [5] (fun iv => iv = .int .i64 0) (fun iv => 0)
  case atStart => rfl
  case round =>
    obtain rfl := hrel
    go_wp2_with fail
    go_region_held3 (fun w' => Kp w w')
      (first | exact (by repeat (first | with_reducible assumption | with_reducible exact Kp.refl _ | with_reducible refine Kp.drew ?_ | with_reducible refine Kp.alloc ?_ _ | with_reducible refine Kp.drewN ?_ _ | refine Kp.setCell ?_ (by dsimp only; omega) _)) | exact hkA | exact hkA.alloc _ | exact hkB | exact hkC)
      (first
        | (refine step_app_all (by rfl) (.tmp 33) (.tmp 36) (by rfl) w.heap.size _ [] [] none 0 c0 (by rfl) (by rfl) hA.out (IntsAt.nil _ _) rfl (by simp) (by simp) ?_; intro v1 w1 ho1 ht1 h41; have hkA : Kp w w1 := hA.out.kp_turn (by repeat (first | with_reducible assumption | with_reducible exact Kp.refl _ | with_reducible refine Kp.drew ?_ | with_reducible refine Kp.alloc ?_ _ | with_reducible refine Kp.drewN ?_ _ | refine Kp.setCell ?_ (by dsimp only; omega) _)) (Nat.le_refl _) ht1)
        | (refine step_app_all (by rfl) (.tmp 33) (.tmp 36) (by rfl) w.heap.size _ [] [] none 0 c0 (by rfl) (by rfl) hAB.out (IntsAt.nil _ _) rfl (by simp; try omega) (by simp) ?_; intro v1 w1 ho1 ht1 h41; have hkA : Kp w w1 := hAB.out.kp_turn (by repeat (first | with_reducible assumption | with_reducible exact Kp.refl _ | with_reducible refine Kp.drew ?_ | with_reducible refine Kp.alloc ?_ _ | with_reducible refine Kp.drewN ?_ _ | refine Kp.setCell ?_ (by dsimp only; omega) _)) (Nat.le_refl _) ht1; have h1n := one_turn (g := w.heap.size + 1) ((one_ab w a).kp (Kp.refl _).drew) ht1 (by simp [Value.ownBlock]) (by simp))
        | (refine step_app_all (by rfl) (.tmp 33) (.tmp 36) (by rfl) w.heap.size _ [] [] none 0 c0 (by rfl) (by rfl) hBA.out (IntsAt.nil _ _) rfl (by simp; try omega) (by simp) ?_; intro v1 w1 ho1 ht1 h41; have hkA : Kp w w1 := hBA.out.kp_turn (by repeat (first | with_reducible assumption | with_reducible exact Kp.refl _ | with_reducible refine Kp.drew ?_ | with_reducible refine Kp.alloc ?_ _ | with_reducible refine Kp.drewN ?_ _ | refine Kp.setCell ?_ (by dsimp only; omega) _)) (Nat.le_refl _) ht1; have h1n := one_turn (g := w.heap.size) ((one_ba w a).kp (Kp.refl _).drew) ht1 (by simp [Value.ownBlock]) (by simp; try omega))
        | (refine step_app_all (by rfl) (.tmp 37) (.tmp 39) (by rfl) w.heap.size v1 ([] ++ []) [a] (some ⟨w.heap.size + 1, 0, none⟩) 1 1 (by rfl) (by rfl) ho1 h1n rfl hkA.le (by simp) ?_; intro v2 w2 ho2 ht2 h42; have hkB : Kp w w2 := ho1.kp_turn hkA (Nat.le_refl _) ht2)
        | (refine step_app_all (by rfl) (.tmp 37) (.tmp 39) (by rfl) w.heap.size v1 ([] ++ []) [a] (some ⟨w.heap.size, 0, none⟩) 1 1 (by rfl) (by rfl) ho1 h1n rfl hkA.le (by simp) ?_; intro v2 w2 ho2 ht2 h42; have hkB : Kp w w2 := ho1.kp_turn hkA (Nat.le_refl _) ht2)
        | (refine step_app (by rfl) (.tmp 37) (.tmp 39) (by rfl) w.heap.size v1 ([] ++ []) a _ (by rfl) (by rfl) (by rfl) ho1 hkA.le (by simp) ?_; intro v2 w2 ho2 ht2 h42; have hkB : Kp w w2 := ho1.kp_turn hkA (Nat.le_refl _) ht2)
        | (refine step_app_all (by rfl) (.tmp 40) (.tmp 43) (by rfl) w.heap.size v2 ([] ++ [] ++ [a]) [] none 0 c0 (by rfl) (by rfl) ho2 (IntsAt.nil _ _) rfl hkB.le (by simp) ?_; intro v3 w3 ho3 ht3 h43; have hkC : Kp w w3 := ho2.kp_turn hkB (Nat.le_refl _) ht3)
        | fail)
    all_goals
      go_wp2_with fail
      go_ret
      rw [putL_nil]
      exact ⟨_, rfl, ho3, hkC⟩
theorem l1Put_new (A0 : Option Addr) (S : List Int) (n c0 : Nat) (a : Int) (w : World) (hS : IntsAt w A0 S) (hn : S.length = n) (hs : S.Pairwise (· < ·)) (hc : n ≤ c0) (hb : n < 1048576) (ha : a ∉ S) :
    Calls Try.prog 62 #[.slice A0 n c0, .int .i64 a] w fun e w' => ∃ v, e = .returned v ∧ Own w' w.heap.size v (putL S a) ∧ Kp w w' := by
  cases A0 with
  | some ad =>
    refine (l1Put_some ad S n c0 a w hS hn hs hc hb).mono ?_
    rintro e w' ⟨v, h1, h2 | h2, h3⟩
    · exact absurd h2.1 ha
    · exact ⟨v, h1, h2, h3⟩
  | none =>
    have e : S = [] := by
      cases S with
      | nil => rfl
      | cons y t => obtain ⟨ad, h, _⟩ := hS.at_ (k := 0) (by simp); cases h
    subst e
    obtain rfl : n = 0 := by simpa using hn.symm
    exact l1Put_none c0 a w
theorem l1Put_any (A0 : Option Addr) (S : List Int) (n c0 : Nat) (a : Int) (w : World) (hS : IntsAt w A0 S) (hn : S.length = n) (hs : S.Pairwise (· < ·)) (hc : n ≤ c0) (hb : n < 1048576) :
    Calls Try.prog 62 #[.slice A0 n c0, .int .i64 a] w fun e w' => ∃ A' c', e = .returned (.slice A' (putL S a).length c') ∧ (putL S a).length ≤ c' ∧ IntsAt w' A' (putL S a) ∧ Kp w w' := by
  by_cases ha : a ∈ S
  · cases A0 with
    | some ad =>
      refine (l1Put_some ad S n c0 a w hS hn hs hc hb).mono ?_
      rintro e w' ⟨v, rfl, h2 | h2, h3⟩
      · obtain ⟨_, rfl⟩ := h2
        rw [show putL S a = S from if_pos ha, hn]
        exact ⟨some ad, c0, rfl, hc, hS.kp h3, h3⟩
      · obtain ⟨A', c', e, hi⟩ := h2.ints (by have := putL_len' S a; omega)
        exact ⟨A', c', by rw [e], h2.cap e, hi, h3⟩
    | none =>
      obtain ⟨k, hk, _⟩ := List.getElem_of_mem ha
      obtain ⟨ad, h, _⟩ := hS.at_ (k := 0) (by omega); cases h
  · refine (l1Put_new A0 S n c0 a w hS hn hs hc hb ha).mono ?_
    rintro e w' ⟨v, rfl, h2, h3⟩
    obtain ⟨A', c', e, hi⟩ := h2.ints (by have := putL_len' S a; omega)
    exact ⟨A', c', by rw [e], h2.cap e, hi, h3⟩
end Go.Proofs.Ytinpcfhgcilmoaa

namespace Go.Proofs.Ytinpcfhgcilmoaa
open Go.RowKit

theorem keepc1 {wv w' : World} {p : Addr} {a : Value} (h1 : wv.cell? p = some a) (h : Kp wv w') : w'.cell? p = some a ∧ Kp wv w' := ⟨h.get h1, h⟩
theorem keepc2 {wv w' : World} {p q : Addr} {a b : Value} (h1 : wv.cell? p = some a) (h2 : wv.cell? q = some b) (h : Kp wv w') : w'.cell? p = some a ∧ w'.cell? q = some b ∧ Kp wv w' := ⟨h.get h1, h.get h2, h⟩
theorem keepc3 {wv w' : World} {p q r : Addr} {a b c : Value} (h1 : wv.cell? p = some a) (h2 : wv.cell? q = some b) (h3 : wv.cell? r = some c) (h : Kp wv w') : w'.cell? p = some a ∧ w'.cell? q = some b ∧ w'.cell? r = some c ∧ Kp wv w' := ⟨h.get h1, h.get h2, h.get h3, h⟩
theorem keepc4 {wv w' : World} {p q r s : Addr} {a b c d : Value} (h1 : wv.cell? p = some a) (h2 : wv.cell? q = some b) (h3 : wv.cell? r = some c) (h4 : wv.cell? s = some d) (h : Kp wv w') : w'.cell? p = some a ∧ w'.cell? q = some b ∧ w'.cell? r = some c ∧ w'.cell? s = some d ∧ Kp wv w' := ⟨h.get h1, h.get h2, h.get h3, h.get h4, h⟩
theorem keepc5 {wv w' : World} {p q r s t : Addr} {a b c d e : Value} (h1 : wv.cell? p = some a) (h2 : wv.cell? q = some b) (h3 : wv.cell? r = some c) (h4 : wv.cell? s = some d) (h5 : wv.cell? t = some e) (h : Kp wv w') : w'.cell? p = some a ∧ w'.cell? q = some b ∧ w'.cell? r = some c ∧ w'.cell? s = some d ∧ w'.cell? t = some e ∧ Kp wv w' := ⟨h.get h1, h.get h2, h.get h3, h.get h4, h.get h5, h⟩
theorem keepc6 {wv w' : World} {p q r s t u : Addr} {a b c d e f : Value} (h1 : wv.cell? p = some a) (h2 : wv.cell? q = some b) (h3 : wv.cell? r = some c) (h4 : wv.cell? s = some d) (h5 : wv.cell? t = some e) (h6 : wv.cell? u = some f) (h : Kp wv w') : w'.cell? p = some a ∧ w'.cell? q = some b ∧ w'.cell? r = some c ∧ w'.cell? s = some d ∧ w'.cell? t = some e ∧ w'.cell? u = some f ∧ Kp wv w' := ⟨h.get h1, h.get h2, h.get h3, h.get h4, h.get h5, h.get h6, h⟩
theorem keepc7 {wv w' : World} {p0 p1 p2 p3 p4 p5 p6 : Addr} {v0 v1 v2 v3 v4 v5 v6 : Value} (h0 : wv.cell? p0 = some v0) (h1 : wv.cell? p1 = some v1) (h2 : wv.cell? p2 = some v2) (h3 : wv.cell? p3 = some v3) (h4 : wv.cell? p4 = some v4) (h5 : wv.cell? p5 = some v5) (h6 : wv.cell? p6 = some v6) (h : Kp wv w') : w'.cell? p0 = some v0 ∧ w'.cell? p1 = some v1 ∧ w'.cell? p2 = some v2 ∧ w'.cell? p3 = some v3 ∧ w'.cell? p4 = some v4 ∧ w'.cell? p5 = some v5 ∧ w'.cell? p6 = some v6 ∧ Kp wv w' := ⟨h.get h0, h.get h1, h.get h2, h.get h3, h.get h4, h.get h5, h.get h6, h⟩
theorem keepc8 {wv w' : World} {p0 p1 p2 p3 p4 p5 p6 p7 : Addr} {v0 v1 v2 v3 v4 v5 v6 v7 : Value} (h0 : wv.cell? p0 = some v0) (h1 : wv.cell? p1 = some v1) (h2 : wv.cell? p2 = some v2) (h3 : wv.cell? p3 = some v3) (h4 : wv.cell? p4 = some v4) (h5 : wv.cell? p5 = some v5) (h6 : wv.cell? p6 = some v6) (h7 : wv.cell? p7 = some v7) (h : Kp wv w') : w'.cell? p0 = some v0 ∧ w'.cell? p1 = some v1 ∧ w'.cell? p2 = some v2 ∧ w'.cell? p3 = some v3 ∧ w'.cell? p4 = some v4 ∧ w'.cell? p5 = some v5 ∧ w'.cell? p6 = some v6 ∧ w'.cell? p7 = some v7 ∧ Kp wv w' := ⟨h.get h0, h.get h1, h.get h2, h.get h3, h.get h4, h.get h5, h.get h6, h.get h7, h⟩
theorem keepc9 {wv w' : World} {p0 p1 p2 p3 p4 p5 p6 p7 p8 : Addr} {v0 v1 v2 v3 v4 v5 v6 v7 v8 : Value} (h0 : wv.cell? p0 = some v0) (h1 : wv.cell? p1 = some v1) (h2 : wv.cell? p2 = some v2) (h3 : wv.cell? p3 = some v3) (h4 : wv.cell? p4 = some v4) (h5 : wv.cell? p5 = some v5) (h6 : wv.cell? p6 = some v6) (h7 : wv.cell? p7 = some v7) (h8 : wv.cell? p8 = some v8) (h : Kp wv w') : w'.cell? p0 = some v0 ∧ w'.cell? p1 = some v1 ∧ w'.cell? p2 = some v2 ∧ w'.cell? p3 = some v3 ∧ w'.cell? p4 = some v4 ∧ w'.cell? p5 = some v5 ∧ w'.cell? p6 = some v6 ∧ w'.cell? p7 = some v7 ∧ w'.cell? p8 = some v8 ∧ Kp wv w' := ⟨h.get h0, h.get h1, h.get h2, h.get h3, h.get h4, h.get h5, h.get h6, h.get h7, h.get h8, h⟩
theorem keepc10 {wv w' : World} {p0 p1 p2 p3 p4 p5 p6 p7 p8 p9 : Addr} {v0 v1 v2 v3 v4 v5 v6 v7 v8 v9 : Value} (h0 : wv.cell? p0 = some v0) (h1 : wv.cell? p1 = some v1) (h2 : wv.cell? p2 = some v2) (h3 : wv.cell? p3 = some v3) (h4 : wv.cell? p4 = some v4) (h5 : wv.cell? p5 = some v5) (h6 : wv.cell? p6 = some v6) (h7 : wv.cell? p7 = some v7) (h8 : wv.cell? p8 = some v8) (h9 : wv.cell? p9 = some v9) (h : Kp wv w') : w'.cell? p0 = some v0 ∧ w'.cell? p1 = some v1 ∧ w'.cell? p2 = some v2 ∧ w'.cell? p3 = some v3 ∧ w'.cell? p4 = some v4 ∧ w'.cell? p5 = some v5 ∧ w'.cell? p6 = some v6 ∧ w'.cell? p7 = some v7 ∧ w'.cell? p8 = some v8 ∧ w'.cell? p9 = some v9 ∧ Kp wv w' := ⟨h.get h0, h.get h1, h.get h2, h.get h3, h.get h4, h.get h5, h.get h6, h.get h7, h.get h8, h.get h9, h⟩
end Go.Proofs.Ytinpcfhgcilmoaa

namespace Go.Proofs.Ytinpcfhgcilmoaa
open Go.RowKit Go.Sort

set_option maxRecDepth 100000 in
set_option maxHeartbeats 400000 in
theorem l8More_any (f : Value) (F : Fld) (worth : Int) (A0 : Option Addr) (S : List Int) (n c0 : Nat) (a : Int) (w : World) (hf : FldAt w f F) (hS : IntsAt w A0 S) (hn : S.length = n) (hc : n ≤ c0) (hg : goodF F = true) (hs : setB F S = true) (hw0 : 0 ≤ worth) (hw1 : worth ≤ 999) (ha0 : 0 ≤ a) (ha1 : a < F.op.length) :
    Calls Try.prog 43 #[f, .int .i64 worth, .slice A0 n c0, .int .i64 a] w fun e w' => e = .returned (.int .i64 (moreF F worth S a)) ∧ Kp w w' := by
  obtain ⟨A, c, B, d, rfl, hA, hB⟩ := hf
  have hk0 : Kp w (w.alloc (.cells #[.slice A F.op.length c, .slice B F.di.length d] 27)) := (Kp.refl w).alloc _
  obtain ⟨d0, d1⟩ := box2 w (.slice A F.op.length c) (.slice B F.di.length d) 27
  have hFA := FldAt.kp (show FldAt w (.agg #[.slice A F.op.length c, .slice B F.di.length d]) F from ⟨A, c, B, d, rfl, hA, hB⟩) hk0
  have hS0 := hS.kp hk0
  have hsp := setB_put hs ha0 ha1
  have h7 := (goodF_iff.1 hg).1.2
  have hl7 := setB_len hs
  have CP := Lib.hid (fun (wx : World) (hx : Kp _ wx) => l1Put_any A0 S n c0 a wx (hS0.kp hx) hn (ris_iff.1 hs).1 hc (by omega))
  have CG := Lib.hid (fun (wx : World) (hx : Kp _ wx) (Av : Option Addr) (cv : Nat) (hv : IntsAt wx Av (putL S a)) => l8Gain_any _ F worth Av (putL S a) (putL S a).length cv wx (hFA.kp hx) hv rfl hg hsp hw0 hw1)
  have CS := Lib.hid (fun (wx : World) (hx : Kp _ wx) => l8Gain_any _ F worth A0 S n c0 wx (hFA.kp hx) (hS0.kp hx) hn hg hs hw0 hw1)
  obtain ⟨b1, b2⟩ := gainF_bd hg hw0 hw1 S
  obtain ⟨b3, b4⟩ := gainF_bd hg hw0 hw1 (putL S a)
  clear hsp hS hg hs hS0 hA hB hn hc hl7 h7
  go_enter Try.func43, Try.ntmps43
  go_wp2_with fail
  have hsz : Hid ((w.alloc (.cells #[.slice A F.op.length c, .slice B F.di.length d] 27)).heap.size = w.heap.size + 1) := by show _ = _; simp
  generalize w.alloc (.cells #[.slice A F.op.length c, .slice B F.di.length d] 27) = wb at *
  have hkb : Kp wb wb := Kp.refl _
  have hkw := hk0
  have q_d0 := hkb.get d0
  have q_d1 := hkb.get d1
  have tok1 : True := trivial
  go_wp2_with fail
  go_region_held3 (fun w' => w'.cell? ⟨w.heap.size, 0, none⟩ = some (.slice A F.op.length c) ∧ w'.cell? ⟨w.heap.size, 1, none⟩ = some (.slice B F.di.length d) ∧ Kp wb w')
    (first | (refine keepc2 d0 d1 ?_; exact (by repeat (first | with_reducible assumption | with_reducible exact Kp.refl _ | with_reducible refine Kp.drew ?_ | with_reducible refine Kp.alloc ?_ _ | with_reducible refine Kp.drewN ?_ _ | refine Kp.setCell ?_ (by dsimp only; omega) _))) | fail)
    (first
      | (have _t := tok1; go_at_call 62; with_reducible refine Calls.mono (CP.out _ (by repeat (first | with_reducible assumption | with_reducible exact Kp.refl _ | with_reducible refine Kp.drew ?_ | with_reducible refine Kp.alloc ?_ _ | with_reducible refine Kp.drewN ?_ _ | refine Kp.setCell ?_ (by dsimp only; omega) _))) ?_; rintro e wr1 ⟨Av, cv, rfl, hcv, hiv, hka⟩; have hr1 : Kp wb wr1 := Kp.trans (by repeat (first | with_reducible assumption | with_reducible exact Kp.refl _ | with_reducible refine Kp.drew ?_ | with_reducible refine Kp.alloc ?_ _ | with_reducible refine Kp.drewN ?_ _ | refine Kp.setCell ?_ (by dsimp only; omega) _)) hka; have tok2 : True := trivial; clear tok1 _t)
      | (have _t := tok2; go_at_call 29; with_reducible refine Calls.mono (CG.out _ (by repeat (first | with_reducible assumption | with_reducible exact Kp.refl _ | with_reducible refine Kp.drew ?_ | with_reducible refine Kp.alloc ?_ _ | with_reducible refine Kp.drewN ?_ _ | refine Kp.setCell ?_ (by dsimp only; omega) _)) _ _ hiv) ?_; rintro e wr2 ⟨rfl, hka⟩; have hr2 : Kp wb wr2 := Kp.trans (by repeat (first | with_reducible assumption | with_reducible exact Kp.refl _ | with_reducible refine Kp.drew ?_ | with_reducible refine Kp.alloc ?_ _ | with_reducible refine Kp.drewN ?_ _ | refine Kp.setCell ?_ (by dsimp only; omega) _)) hka; have tok3 : True := trivial; clear tok2 _t)
      | (have _t := tok3; go_at_call 29; with_reducible refine Calls.mono (CS.out _ (by repeat (first | with_reducible assumption | with_reducible exact Kp.refl _ | with_reducible refine Kp.drew ?_ | with_reducible refine Kp.alloc ?_ _ | with_reducible refine Kp.drewN ?_ _ | refine Kp.setCell ?_ (by dsimp only; omega) _))) ?_; rintro e wr3 ⟨rfl, hka⟩; have hr3 : Kp wb wr3 := Kp.trans (by repeat (first | with_reducible assumption | with_reducible exact Kp.refl _ | with_reducible refine Kp.drew ?_ | with_reducible refine Kp.alloc ?_ _ | with_reducible refine Kp.drewN ?_ _ | refine Kp.setCell ?_ (by dsimp only; omega) _)) hka; have tok4 : True := trivial; clear tok3 _t)
      | fail)
  go_wp2_with fail
  go_ret
  exact ⟨ret_int (by rw [IntWalk.i64_in _ (by omega)]; rfl), hkw.trans hr3⟩

theorem bagN_bits {n b : Nat} (h : b < 2 ^ n) : bagN (bitsL n b) = b := by
  apply Nat.eq_of_testBit_eq
  intro i
  rw [bagN_bit (fun y hy => (mem_bitsL.1 hy).1)]
  by_cases hi : i < n
  · rw [Bool.eq_iff_iff, decide_eq_true_eq, mem_bitsL]
    constructor
    · rintro ⟨_, _, h⟩; simpa using h
    · intro h; exact ⟨by omega, by omega, by simpa using h⟩
  · rw [Nat.testBit_lt_two_pow (Nat.lt_of_lt_of_le h (Nat.pow_le_pow_right (by omega) (by omega)))]
    rw [decide_eq_false]
    intro hm
    have := (mem_bitsL.1 hm).2.1
    omega
set_option maxRecDepth 100000 in
set_option maxHeartbeats 400000 in
theorem marginal_any (f : Value) (F : Fld) (worth : Int) (b a : Nat) (w : World) (hf : FldAt w f F) (hg : goodF F = true) (hb : b < 2 ^ F.op.length) (hw0 : 0 ≤ worth) (hw1 : worth ≤ 999) (ha1 : a < F.op.length) :
    Calls Try.prog 38 #[f, .int .i64 worth, .int .u64 b, .int .i64 a] w fun e w' => e = .returned (.int .i64 (moreF F worth (bitsL F.op.length b) a)) ∧ Kp w w' := by
  obtain ⟨A, c, B, d, rfl, hA, hB⟩ := hf
  have hk0 : Kp w (w.alloc (.cells #[.slice A F.op.length c, .slice B F.di.length d] 27)) := (Kp.refl w).alloc _
  obtain ⟨d0, d1⟩ := box2 w (.slice A F.op.length c) (.slice B F.di.length d) 27
  have hFA := FldAt.kp (show FldAt w (.agg #[.slice A F.op.length c, .slice B F.di.length d]) F from ⟨A, c, B, d, rfl, hA, hB⟩) hk0
  have h7 := (goodF_iff.1 hg).1.2
  have hb7 : b < 2 ^ 7 := Nat.lt_of_lt_of_le hb (Nat.pow_le_pow_right (by omega) h7)
  have h2a : 2 ^ a < 2 ^ F.op.length := Nat.pow_lt_pow_right (by omega) ha1
  have ho := Nat.or_lt_two_pow hb h2a
  have ha7 : 2 ^ a < 2 ^ 7 := Nat.pow_lt_pow_right (by omega) (by omega)
  have hsh := u64_one_shl (a : Int) (by omega) (by omega)
  rw [Int.toNat_natCast] at hsh
  have hor := u64_or_nat b (2 ^ a) (by omega) (by omega)
  have C1 := Lib.hid (fun (wx : World) => list_any (b ||| 2 ^ a) F.op.length wx ho (by omega))
  have C3 := Lib.hid (fun (wx : World) => list_any b F.op.length wx hb (by omega))
  have hs1 : setB F (bitsL F.op.length (b ||| 2 ^ a)) = true := bitsL_set _
  have hs3 : setB F (bitsL F.op.length b) = true := bitsL_set _
  have hl1 := bitsL_len F.op.length (b ||| 2 ^ a)
  have hl3 := bitsL_len F.op.length b
  have C2 := Lib.hid (fun (wx : World) (hx : Kp _ wx) (Av : Option Addr) (cv : Nat) (hv : IntsAt wx Av (bitsL F.op.length (b ||| 2 ^ a))) => gain_any _ F worth Av _ _ cv wx (hFA.kp hx) hv rfl hg hs1 hw0 hw1)
  have C4 := Lib.hid (fun (wx : World) (hx : Kp _ wx) (Av : Option Addr) (cv : Nat) (hv : IntsAt wx Av (bitsL F.op.length b)) => gain_any _ F worth Av _ _ cv wx (hFA.kp hx) hv rfl hg hs3 hw0 hw1)
  have hm := Lib.hid (show gainF F worth (bitsL F.op.length (b ||| 2 ^ a)) - gainF F worth (bitsL F.op.length b) = moreF F worth (bitsL F.op.length b) a from by rw [bits_put ha1]; rfl)
  obtain ⟨b1, b2⟩ := gainF_bd hg hw0 hw1 (bitsL F.op.length (b ||| 2 ^ a))
  obtain ⟨b3, b4⟩ := gainF_bd hg hw0 hw1 (bitsL F.op.length b)
  clear hs1 hs3 hg hA hB ho hb h2a
  generalize 2 ^ a = pa at *
  go_enter Try.func38, Try.ntmps38
  go_wp2_with fail
  have hsz : Hid ((w.alloc (.cells #[.slice A F.op.length c, .slice B F.di.length d] 27)).heap.size = w.heap.size + 1) := by show _ = _; simp
  generalize w.alloc (.cells #[.slice A F.op.length c, .slice B F.di.length d] 27) = wb at *
  have hkb : Kp wb wb := Kp.refl _
  have hkw := hk0
  have q_d0 := hkb.get d0
  have q_d1 := hkb.get d1
  have tok1 : True := trivial
  go_wp2_with fail
  go_region_held3 (fun w' => w'.cell? ⟨w.heap.size, 0, none⟩ = some (.slice A F.op.length c) ∧ w'.cell? ⟨w.heap.size, 1, none⟩ = some (.slice B F.di.length d) ∧ Kp wb w')
    (first | (refine keepc2 d0 d1 ?_; exact (by repeat (first | with_reducible assumption | with_reducible exact Kp.refl _ | with_reducible refine Kp.drew ?_ | with_reducible refine Kp.alloc ?_ _ | with_reducible refine Kp.drewN ?_ _ | refine Kp.setCell ?_ (by dsimp only; omega) _))) | fail)
    (first
      | (have _t := tok1; go_at_call 27; with_reducible refine Calls.mono (C1.out _) ?_; rintro e wr1 ⟨v1, rfl, hov, hka⟩; have hr1 : Kp wb wr1 := Kp.trans (by repeat (first | with_reducible assumption | with_reducible exact Kp.refl _ | with_reducible refine Kp.drew ?_ | with_reducible refine Kp.alloc ?_ _ | with_reducible refine Kp.drewN ?_ _ | refine Kp.setCell ?_ (by dsimp only; omega) _)) hka; obtain ⟨Av, cv, hve, hiv⟩ := hov.ints (by omega); subst hve; have tok2 : True := trivial; clear tok1 _t)
      | (have _t := tok2; go_at_call 26; with_reducible refine Calls.mono (C2.out _ (by repeat (first | with_reducible assumption | with_reducible exact Kp.refl _ | with_reducible refine Kp.drew ?_ | with_reducible refine Kp.alloc ?_ _ | with_reducible refine Kp.drewN ?_ _ | refine Kp.setCell ?_ (by dsimp only; omega) _)) _ _ hiv) ?_; rintro e wr2 ⟨rfl, hka⟩; have hr2 : Kp wb wr2 := Kp.trans (by repeat (first | with_reducible assumption | with_reducible exact Kp.refl _ | with_reducible refine Kp.drew ?_ | with_reducible refine Kp.alloc ?_ _ | with_reducible refine Kp.drewN ?_ _ | refine Kp.setCell ?_ (by dsimp only; omega) _)) hka; have tok3 : True := trivial; clear tok2 _t)
      | (have _t := tok3; go_at_call 27; with_reducible refine Calls.mono (C3.out _) ?_; rintro e wr3 ⟨v3, rfl, hov3, hka⟩; have hr3 : Kp wb wr3 := Kp.trans (by repeat (first | with_reducible assumption | with_reducible exact Kp.refl _ | with_reducible refine Kp.drew ?_ | with_reducible refine Kp.alloc ?_ _ | with_reducible refine Kp.drewN ?_ _ | refine Kp.setCell ?_ (by dsimp only; omega) _)) hka; obtain ⟨Aw, cw, hwe, hiw⟩ := hov3.ints (by omega); subst hwe; have tok4 : True := trivial; clear tok3 _t)
      | (have _t := tok4; go_at_call 26; with_reducible refine Calls.mono (C4.out _ (by repeat (first | with_reducible assumption | with_reducible exact Kp.refl _ | with_reducible refine Kp.drew ?_ | with_reducible refine Kp.alloc ?_ _ | with_reducible refine Kp.drewN ?_ _ | refine Kp.setCell ?_ (by dsimp only; omega) _)) _ _ hiw) ?_; rintro e wr4 ⟨rfl, hka⟩; have hr4 : Kp wb wr4 := Kp.trans (by repeat (first | with_reducible assumption | with_reducible exact Kp.refl _ | with_reducible refine Kp.drew ?_ | with_reducible refine Kp.alloc ?_ _ | with_reducible refine Kp.drewN ?_ _ | refine Kp.setCell ?_ (by dsimp only; omega) _)) hka; have tok5 : True := trivial; clear tok4 _t)
      | fail)
  go_wp2_with fail
  go_ret
  exact ⟨ret_int (by rw [IntWalk.i64_in _ (by omega)]; exact hm.out), hkw.trans hr4⟩
end Go.Proofs.Ytinpcfhgcilmoaa

namespace Go.Proofs.Ytinpcfhgcilmoaa
open Go.RowKit Go.Sort

def margOk (F : Fld) (worth : Int) (S : List Int) (a : Int) : Bool := gainOk F worth S && (!(S.any fun x => x == a) && inB a 0 ((F.op.length : Int) - 1))
def margR (F : Fld) (worth : Int) (S : List Int) (a : Int) : Int := if margOk F worth S a = true then moreF F worth S a else 0
theorem marg_no {F : Fld} {worth : Int} {S : List Int} {a : Int} (h : margOk F worth S a = false) : Ending.returned (.tuple #[.int .i64 0, .bool false]) = .returned (.tuple #[.int .i64 (margR F worth S a), .bool (margOk F worth S a)]) := by
  simp [margR, h]
theorem marg_yes {F : Fld} {worth : Int} {S : List Int} {a : Int} (h : margOk F worth S a = true) : Ending.returned (.tuple #[.int .i64 (moreF F worth S a), .bool true]) = .returned (.tuple #[.int .i64 (margR F worth S a), .bool (margOk F worth S a)]) := by
  simp [margR, h]
theorem margOk_parts {F : Fld} {worth : Int} {S : List Int} {a : Int} (h : margOk F worth S a = true) : (goodF F = true ∧ setB F S = true ∧ 0 ≤ worth ∧ worth ≤ 999) ∧ 0 ≤ a ∧ a < F.op.length := by
  simp only [margOk, Bool.and_eq_true, inB_iff] at h
  exact ⟨gainOk_parts h.1, h.2.2.1, by omega⟩
set_option maxRecDepth 100000 in
set_option maxHeartbeats 400000 in
theorem specMarg_any (f : Value) (F : Fld) (worth : Int) (A0 : Option Addr) (S : List Int) (n c0 : Nat) (a : Int) (w : World) (hf : FldAt w f F) (hS : IntsAt w A0 S) (hn : S.length = n) :
    Calls Try.prog 16 #[f, .int .i64 worth, .slice A0 n n, .int .i64 a] w fun e w' => e = .returned (.tuple #[.int .i64 (margR F worth S a), .bool (margOk F worth S a)]) ∧ Kp w w' := by
  have hop : F.op.length ≤ 9223372036854775807 := by obtain ⟨_, _, _, _, _, h, _⟩ := id hf; exact h.1
  obtain ⟨A, c, B, d, rfl, hA, hB⟩ := hf
  have hk0 : Kp w (w.alloc (.cells #[.slice A F.op.length c, .slice B F.di.length d] 27)) := (Kp.refl w).alloc _
  obtain ⟨d0, d1⟩ := box2 w (.slice A F.op.length c) (.slice B F.di.length d) 27
  have hFA := FldAt.kp (show FldAt w (.agg #[.slice A F.op.length c, .slice B F.di.length d]) F from ⟨A, c, B, d, rfl, hA, hB⟩) hk0
  have hS0 := hS.kp hk0
  have Hn := Lib.hid hn; clear hn hS hA hB
  go_enter Try.func16, Try.ntmps16
  go_wp2_with fail
  have hsz : Hid ((w.alloc (.cells #[.slice A F.op.length c, .slice B F.di.length d] 27)).heap.size = w.heap.size + 1) := by show _ = _; simp
  generalize w.alloc (.cells #[.slice A F.op.length c, .slice B F.di.length d] 27) = wb at *
  have hkb : Kp wb wb := Kp.refl _
  have hkw := hk0
  have CC := Lib.hid (l8Good_any _ F worth _ (hFA.kp hkb))
  with_reducible refine Calls.mono CC.out ?_
  rintro e w1 ⟨rfl, hk1⟩
  clear CC
  replace hkb := hkb.trans hk1
  cases hg_ : (goodF F && worthB worth)
  · have Hg := Lib.hid hg_; clear hg_
    have q_d0 := hkb.get d0
    have q_d1 := hkb.get d1
    go_wp2_with fail
    go_ret2
    exact ⟨marg_no (by simp only [margOk, gainOk, Hg.out]; rfl), hkw.trans hkb⟩
  have Hg := Lib.hid hg_; clear hg_
  have q_d0 := hkb.get d0
  have q_d1 := hkb.get d1
  go_wp2_with fail
  have CC := Lib.hid (l2Set_any _ F A0 S n n _ (hFA.kp hkb) (hS0.kp hkb) Hn.out)
  with_reducible refine Calls.mono CC.out ?_
  rintro e w2 ⟨rfl, hk2⟩
  clear CC q_d0 q_d1
  replace hkb := hkb.trans hk2
  cases hg_ : (setB F S)
  · have Hs := Lib.hid hg_; clear hg_
    have q_d0 := hkb.get d0
    have q_d1 := hkb.get d1
    go_wp2_with fail
    go_ret2
    exact ⟨marg_no (by simp only [margOk, gainOk, Hg.out, Hs.out]; rfl), hkw.trans hkb⟩
  have Hs := Lib.hid hg_; clear hg_
  have q_d0 := hkb.get d0
  have q_d1 := hkb.get d1
  go_wp2_with fail
  have CC := Lib.hid (l1Has_any A0 S n n a _ (hS0.kp hkb) Hn.out)
  with_reducible refine Calls.mono CC.out ?_
  rintro e w3 ⟨rfl, hw⟩
  obtain rfl := hw
  clear CC q_d0 q_d1
  cases hh : (S.any fun x => x == a)
  · have Hh := Lib.hid hh; clear hh
    have q_d0 := hkb.get d0
    have q_d1 := hkb.get d1
    go_wp2_with fail
    with_reducible refine Calls.mono (l1In_any _ _ _ _) ?_
    rintro e w4 ⟨rfl, hw⟩
    obtain rfl := hw
    clear q_d0 q_d1
    cases hg_ : (inB a 0 ((F.op.length : Int) - 1))
    · have Hi := Lib.hid hg_; clear hg_
      have q_d0 := hkb.get d0
      have q_d1 := hkb.get d1
      go_wp2_with fail
      go_ret2
      exact ⟨marg_no (by simp only [margOk, gainOk, Hi.out, Hs.out, Hh.out]; simp), hkw.trans hkb⟩
    have Hi := Lib.hid hg_; clear hg_
    have Hok : Hid (margOk F worth S a = true) := by
      show margOk F worth S a = true
      simp only [margOk, gainOk, Hg.out, Hi.out, Hs.out, Hh.out]; rfl
    have HP := Lib.hid (margOk_parts Hok.out)
    have q_d0 := hkb.get d0
    have q_d1 := hkb.get d1
    go_wp2_with fail
    have CC := Lib.hid (l8More_any _ F worth A0 S n n a _ (hFA.kp hkb) (hS0.kp hkb) Hn.out (Nat.le_refl _) HP.out.1.1 HP.out.1.2.1 HP.out.1.2.2.1 HP.out.1.2.2.2 HP.out.2.1 HP.out.2.2)
    with_reducible refine Calls.mono CC.out ?_
    rintro e w5 ⟨rfl, hk5⟩
    clear CC q_d0 q_d1
    replace hkb := hkb.trans hk5
    have q_d0 := hkb.get d0
    have q_d1 := hkb.get d1
    go_wp2_with fail
    go_ret2
    exact ⟨marg_yes Hok.out, hkw.trans hkb⟩
  · have Hh := Lib.hid hh; clear hh
    have q_d0 := hkb.get d0
    have q_d1 := hkb.get d1
    go_wp2_with fail
    go_ret2
    exact ⟨marg_no (by simp only [margOk, Hh.out]; simp), hkw.trans hkb⟩
set_option maxRecDepth 100000 in
set_option maxHeartbeats 400000 in
theorem implMarg_any (f : Value) (F : Fld) (worth : Int) (A0 : Option Addr) (S : List Int) (n c0 : Nat) (a : Int) (w : World) (hf : FldAt w f F) (hS : IntsAt w A0 S) (hn : S.length = n) :
    Calls Try.prog 15 #[f, .int .i64 worth, .slice A0 n c0, .int .i64 a] w fun e w' => e = .returned (.tuple #[.int .i64 (margR F worth S a), .bool (margOk F worth S a)]) ∧ Kp w w' := by
  have hop : F.op.length ≤ 9223372036854775807 := by obtain ⟨_, _, _, _, _, h, _⟩ := id hf; exact h.1
  obtain ⟨A, c, B, d, rfl, hA, hB⟩ := hf
  have hk0 : Kp w (w.alloc (.cells #[.slice A F.op.length c, .slice B F.di.length d] 27)) := (Kp.refl w).alloc _
  obtain ⟨d0, d1⟩ := box2 w (.slice A F.op.length c) (.slice B F.di.length d) 27
  have hFA := FldAt.kp (show FldAt w (.agg #[.slice A F.op.length c, .slice B F.di.length d]) F from ⟨A, c, B, d, rfl, hA, hB⟩) hk0
  have hS0 := hS.kp hk0
  have Hn := Lib.hid hn; clear hn hS hA hB
  go_enter Try.func15, Try.ntmps15
  go_wp2_with fail
  have hsz : Hid ((w.alloc (.cells #[.slice A F.op.length c, .slice B F.di.length d] 27)).heap.size = w.heap.size + 1) := by show _ = _; simp
  generalize w.alloc (.cells #[.slice A F.op.length c, .slice B F.di.length d] 27) = wb at *
  have hkb : Kp wb wb := Kp.refl _
  have hkw := hk0
  have CC := Lib.hid (isWorth_any _ F worth A0 S n c0 _ (hFA.kp hkb) (hS0.kp hkb) Hn.out)
  with_reducible refine Calls.mono CC.out ?_
  rintro e w1 ⟨rfl, hk1⟩
  clear CC
  replace hkb := hkb.trans hk1
  cases hg_ : (gainOk F worth S)
  · have Hg := Lib.hid hg_; clear hg_
    have q_d0 := hkb.get d0
    have q_d1 := hkb.get d1
    go_wp2_with fail
    go_ret2
    exact ⟨marg_no (by simp only [margOk, Hg.out]; rfl), hkw.trans hkb⟩
  have Hg := Lib.hid hg_; clear hg_
  have q_d0 := hkb.get d0
  have q_d1 := hkb.get d1
  go_wp2_with fail
  with_reducible refine Calls.mono (between_any _ _ _ _) ?_
  rintro e w2 ⟨rfl, hw⟩
  obtain rfl := hw
  clear q_d0 q_d1
  cases hg_ : (inB a 0 ((F.op.length : Int) - 1))
  · have Hi := Lib.hid hg_; clear hg_
    have q_d0 := hkb.get d0
    have q_d1 := hkb.get d1
    go_wp2_with fail
    go_ret2
    exact ⟨marg_no (by simp only [margOk, Hi.out]; simp), hkw.trans hkb⟩
  have Hi := Lib.hid hg_; clear hg_
  have q_d0 := hkb.get d0
  have q_d1 := hkb.get d1
  go_wp2_with fail
  have CC := Lib.hid (contains_any A0 S n c0 a _ (hS0.kp hkb) Hn.out)
  with_reducible refine Calls.mono CC.out ?_
  rintro e w3 ⟨rfl, hw⟩
  obtain rfl := hw
  clear CC q_d0 q_d1
  cases hh : (S.any fun x => x == a)
  · have Hh := Lib.hid hh; clear hh
    have Hok : Hid (margOk F worth S a = true) := by
      show margOk F worth S a = true
      simp only [margOk, Hg.out, Hi.out, Hh.out]; rfl
    have HP := Lib.hid (margOk_parts Hok.out)
    have HS := Lib.hid (set_mem HP.out.1.2.1)
    have h7 := (goodF_iff.1 HP.out.1.1).1.2
    have ha0 := HP.out.2.1
    have ha1 := HP.out.2.2
    have hbl := bagN_lt (S := S) (n := F.op.length) (fun y hy => HS.out y hy)
    have hsb := Lib.hid (set_bits HP.out.1.2.1)
    have C1 := Lib.hid (fun (wx : World) (hx : Kp _ wx) => bagOf_any A0 S n c0 wx (hS0.kp hx) Hn.out (fun x hx => by have := HS.out x hx; omega))
    obtain ⟨a', rfl⟩ := Int.eq_ofNat_of_zero_le ha0
    have C2 := Lib.hid (fun (wx : World) (hx : Kp _ wx) => marginal_any _ F worth (bagN S) a' wx (hFA.kp hx) HP.out.1.1 hbl HP.out.1.2.2.1 HP.out.1.2.2.2 (by omega))
    clear hbl
    have q_d0 := hkb.get d0
    have q_d1 := hkb.get d1
    have tok1 : True := trivial
    go_wp2_with fail
    go_region_held3 (fun w' => w'.cell? ⟨w.heap.size, 0, none⟩ = some (.slice A F.op.length c) ∧ w'.cell? ⟨w.heap.size, 1, none⟩ = some (.slice B F.di.length d) ∧ Kp wb w')
      (first | (refine keepc2 d0 d1 ?_; exact (by repeat (first | with_reducible assumption | with_reducible exact Kp.refl _ | with_reducible refine Kp.drew ?_ | with_reducible refine Kp.alloc ?_ _ | with_reducible refine Kp.drewN ?_ _ | refine Kp.setCell ?_ (by dsimp only; omega) _))) | fail)
      (first
        | (have _t := tok1; go_at_call 39; with_reducible refine Calls.mono (C1.out _ (by repeat (first | with_reducible assumption | with_reducible exact Kp.refl _ | with_reducible refine Kp.drew ?_ | with_reducible refine Kp.alloc ?_ _ | with_reducible refine Kp.drewN ?_ _ | refine Kp.setCell ?_ (by dsimp only; omega) _))) ?_; rintro e wr1 ⟨rfl, hw⟩; obtain rfl := hw; have tok2 : True := trivial; clear tok1 _t)
        | (have _t := tok2; go_at_call 38; with_reducible refine Calls.mono (C2.out _ (by repeat (first | with_reducible assumption | with_reducible exact Kp.refl _ | with_reducible refine Kp.drew ?_ | with_reducible refine Kp.alloc ?_ _ | with_reducible refine Kp.drewN ?_ _ | refine Kp.setCell ?_ (by dsimp only; omega) _))) ?_; rintro e wr2 ⟨rfl, hka⟩; have hr2 : Kp wb wr2 := Kp.trans (by repeat (first | with_reducible assumption | with_reducible exact Kp.refl _ | with_reducible refine Kp.drew ?_ | with_reducible refine Kp.alloc ?_ _ | with_reducible refine Kp.drewN ?_ _ | refine Kp.setCell ?_ (by dsimp only; omega) _)) hka; have tok3 : True := trivial; clear tok2 _t)
        | fail)
    go_wp2_with fail
    go_ret2
    exact ⟨by rw [hsb.out]; exact marg_yes Hok.out, hkw.trans hr2⟩
  · have Hh := Lib.hid hh; clear hh
    have q_d0 := hkb.get d0
    have q_d1 := hkb.get d1
    go_wp2_with fail
    go_ret2
    exact ⟨marg_no (by simp only [margOk, Hh.out]; simp), hkw.trans hkb⟩
end Go.Proofs.Ytinpcfhgcilmoaa

namespace Go.Proofs.Ytinpcfhgcilmoaa
open Go.RowKit Go.Sort

theorem mem_bits_iff {n b : Nat} {x : Int} : x ∈ bitsL n b ↔ 0 ≤ x ∧ x < n ∧ b.testBit x.toNat = true := mem_bitsL
theorem tab_mono {F : Fld} {worth : Int} {a b : Nat} (h : a &&& b = a) : tabF F worth a ≤ tabF F worth b := by
  refine gain_mono (fun x hx => ?_)
  obtain ⟨h1, h2, h3⟩ := mem_bits_iff.1 hx
  refine mem_bits_iff.2 ⟨h1, h2, ?_⟩
  rw [← h, Nat.testBit_and, Bool.and_eq_true] at h3
  exact h3.2
theorem tab_sub {F : Fld} {worth : Int} {a b : Nat} : tabF F worth (a &&& b) + tabF F worth (a ||| b) ≤ tabF F worth a + tabF F worth b := by
  refine gain_submod (fun x hx => ?_) (fun x hx => ?_)
  · obtain ⟨h1, h2, h3⟩ := mem_bits_iff.1 hx
    rw [Nat.testBit_and, Bool.and_eq_true] at h3
    exact ⟨mem_bits_iff.2 ⟨h1, h2, h3.1⟩, mem_bits_iff.2 ⟨h1, h2, h3.2⟩⟩
  · obtain ⟨h1, h2, h3⟩ := mem_bits_iff.1 hx
    rw [Nat.testBit_or, Bool.or_eq_true] at h3
    rcases h3 with h3 | h3
    · exact .inl (mem_bits_iff.2 ⟨h1, h2, h3⟩)
    · exact .inr (mem_bits_iff.2 ⟨h1, h2, h3⟩)
theorem tab_zero {F : Fld} {worth : Int} : tabF F worth 0 = 0 := by unfold tabF; rw [bits_zero]; exact gainF_nil
theorem tab_is {F : Fld} {worth : Int} (h : tabOk F worth = true) : isTab F.op.length (tabL F worth) = true := by
  obtain ⟨hg, h0, h1⟩ := tabOk_parts h
  have hn := (goodF_iff.1 hg).1
  rw [tabL_yes h]
  simp only [isTab, Bool.and_eq_true, inB_iff, beq_iff_eq, mapTo_len, allB_iff, Int.toNat_natCast]
  refine ⟨⟨⟨by omega, by omega⟩, trivial⟩, fun x hx => ?_⟩
  obtain ⟨i, hi, rfl⟩ := List.getElem_of_mem hx
  rw [mapTo_get (by simpa [mapTo_len] using hi)]
  have := gainF_bd hg h0 h1 (bitsL F.op.length i)
  unfold tabF; omega
theorem tab_monoB {F : Fld} {worth : Int} (h : tabOk F worth = true) : monoB (tabL F worth) = true := by
  rw [tabL_yes h]
  unfold monoB
  rw [mapTo_len, List.all_eq_true]
  intro a ha
  rw [List.all_eq_true]
  intro b hb
  rw [List.mem_range] at ha hb
  by_cases hab : (((a &&& b : Nat) : Int) == (a : Int)) = true
  · rw [okM_val (by rw [mapTo_len]; exact ha) (by rw [mapTo_len]; exact hb) hab]
    have e : a &&& b = a := by have h5 := eq_of_beq hab; omega
    rw [mapTo_get ha, mapTo_get hb, decide_eq_false (Int.not_lt.2 (tab_mono e))]; rfl
  · exact okM_guard (by simpa using hab)
theorem tab_subB {F : Fld} {worth : Int} (h : tabOk F worth = true) : subB (tabL F worth) = true := by
  rw [tabL_yes h]
  unfold subB
  rw [mapTo_len, List.all_eq_true]
  intro a ha
  rw [List.all_eq_true]
  intro b hb
  rw [List.mem_range] at ha hb
  have h1 : a &&& b < 2 ^ F.op.length := Nat.lt_of_le_of_lt Nat.and_le_left ha
  have h2 : a ||| b < 2 ^ F.op.length := Nat.or_lt_two_pow ha hb
  rw [okS_val (by rw [mapTo_len]; exact ha) (by rw [mapTo_len]; exact hb) (by rw [mapTo_len]; exact h1) (by rw [mapTo_len]; exact h2)]
  rw [mapTo_get ha, mapTo_get hb, mapTo_get h1, mapTo_get h2, decide_eq_false (Int.not_lt.2 tab_sub)]; rfl
theorem tab_len {F : Fld} {worth : Int} (h : tabOk F worth = true) : (tabL F worth).length = 2 ^ F.op.length := by rw [tabL_yes h, mapTo_len]
theorem tab_get0 {F : Fld} {worth : Int} (h : tabOk F worth = true) (h0 : 0 < (tabL F worth).length) : (tabL F worth)[0] = 0 := by
  have e : tabL F worth = mapTo (tabF F worth) (2 ^ F.op.length) := tabL_yes h
  rw [List.getElem_of_eq e, mapTo_get (Nat.two_pow_pos _)]
  exact tab_zero
/-- What a site adds. -/
theorem marg_next {F : Fld} {worth : Int} {S : List Int} {a : Int} (h : margOk F worth S a = true) : gainOk F worth (putL S a) = true ∧ gainR F worth (putL S a) = gainR F worth S + margR F worth S a ∧ 0 ≤ margR F worth S a ∧ gainOk F worth S = true := by
  obtain ⟨⟨h1, h2, h3, h4⟩, h5, h6⟩ := margOk_parts h
  have hp := setB_put h2 h5 h6
  have hgo : gainOk F worth S = true := by
    unfold margOk at h
    rw [Bool.and_eq_true] at h; exact h.1
  have hgp : gainOk F worth (putL S a) = true := by
    unfold gainOk at hgo ⊢
    rw [Bool.and_eq_true] at hgo ⊢
    exact ⟨hgo.1, hp⟩
  have hmono := gain_mono (F := F) (worth := worth) (S := S) (T := putL S a) (fun x hx => mem_putL.2 (.inl hx))
  refine ⟨hgp, ?_, ?_, hgo⟩
  · unfold gainR margR moreF
    rw [if_pos hgp, if_pos hgo, if_pos h]; omega
  · unfold margR moreF
    rw [if_pos h]; omega
theorem marg_not_mem {F : Fld} {worth : Int} {S : List Int} {a : Int} (h : margOk F worth S a = true) : a ∉ S := by
  simp only [margOk, Bool.and_eq_true, Bool.not_eq_true'] at h
  intro hm
  have := h.2.1
  rw [List.any_eq_false] at this
  exact absurd (this a hm) (by simp)
/-- The least worth. -/
theorem worth_at {F : Fld} {S : List Int} {part : Int} (h : worthOk F S part = true) : ∃ k : Nat, worthV F S part = (k : Int) ∧ k < 1000 ∧ (goodF F = true ∧ setB F S = true) ∧ part ≤ gainF F (k : Int) S ∧ ∀ j : Nat, j < k → gainF F (j : Int) S < part := by
  unfold worthOk at h
  rw [Bool.and_eq_true] at h
  obtain ⟨h1, h2⟩ := h
  obtain ⟨k, hk⟩ := Option.isSome_iff_exists.1 h2
  have hk2 := hk
  unfold worthAt at hk2
  rw [List.find?_range_eq_some] at hk2
  obtain ⟨h3, h4, h5⟩ := hk2
  refine ⟨k, by unfold worthV; rw [if_pos h1, hk]; rfl, by simpa using h4, ?_, of_decide_eq_true h3, fun j hj => ?_⟩
  · unfold worthOk0 at h1
    rw [Bool.and_eq_true] at h1
    have := openedB_parts h1.1
    exact ⟨this.1, this.2.1⟩
  · have h6 := h5 j hj
    unfold reachB at h6
    simp at h6
    exact h6
theorem worth_gain {F : Fld} {S : List Int} {part : Int} (h : worthOk F S part = true) : gainOk F (worthV F S part) S = true ∧ part ≤ gainR F (worthV F S part) S ∧ 0 ≤ worthV F S part ∧ worthV F S part ≤ 999 := by
  obtain ⟨k, h1, h2, ⟨h3, h4⟩, h5, _⟩ := worth_at h
  have hgo : gainOk F (k : Int) S = true := by
    unfold gainOk worthB
    rw [h3, h4, Bool.and_true, Bool.true_and, inB_iff]; omega
  rw [h1]
  refine ⟨hgo, ?_, by omega, by omega⟩
  unfold gainR
  rw [if_pos hgo]; exact h5
theorem worth_less {F : Fld} {S : List Int} {part : Int} (h : worthOk F S part = true) (hp : 0 < worthV F S part) : gainOk F (worthV F S part - 1) S = true ∧ gainR F (worthV F S part - 1) S < part := by
  obtain ⟨k, h1, h2, ⟨h3, h4⟩, h5, h6⟩ := worth_at h
  rw [h1] at hp ⊢
  have e : (k : Int) - 1 = ((k - 1 : Nat) : Int) := by omega
  have hgo : gainOk F ((k : Int) - 1) S = true := by
    unfold gainOk worthB
    rw [h3, h4, Bool.and_true, Bool.true_and, inB_iff]; omega
  refine ⟨hgo, ?_⟩
  unfold gainR
  rw [if_pos hgo, e]
  exact h6 (k - 1) (by omega)
end Go.Proofs.Ytinpcfhgcilmoaa

namespace Go.Proofs.Ytinpcfhgcilmoaa
open Go.RowKit Go.Sort

theorem rBig_any (A : Option Addr) (n c : Nat) (w : World) :
    Calls Try.prog 4 #[.slice A n c] w fun e w' => e = .returned (.bool (decide (65536 < (n : Int)))) ∧ w = w' := by
  go_enter Try.func4, Try.ntmps4
  go_wp2_with fail
  go_ret
  exact ⟨rfl, rfl⟩
set_option maxRecDepth 100000 in
set_option maxHeartbeats 1000000 in
/-- Two slices that read as the same list. -/
theorem rInts_same (A B : Option Addr) (xs : List Int) (n c d : Nat) (w : World) (hA : IntsAt w A xs) (hB : IntsAt w B xs) (hn : xs.length = n) :
    Calls Try.prog 8 #[.slice A n c, .slice B n d] w fun e w' => e = .returned (.bool true) ∧ Kp w w' := by
  have Hn := Lib.hid hn
  have hn63 : n ≤ 9223372036854775807 := hn ▸ hA.1
  clear hn
  have e0 : ((n : Int) != (n : Int)) = false := by simp
  go_enter Try.func8, Try.ntmps8
  go_wp2_with fail
  go_loopw [5] (fun iv wr => ∃ i : Nat, iv = .int .i64 i ∧ i ≤ n ∧ Kp w wr) (fun iv _ => n - (intOf iv).toNat)
  case atStart => exact ⟨0, rfl, by omega, Kp.refl _⟩
  case round =>
    obtain ⟨i, rfl, hi, hkr⟩ := hrel
    by_cases hlt : i < n
    · have lx : i < xs.length := by rw [Hn.out]; exact hlt
      obtain ⟨a, rfl, h1⟩ := (hA.kp hkr).at_ lx
      obtain ⟨b, rfl, h2⟩ := (hB.kp hkr).at_ lx
      obtain ⟨z, hz⟩ : ∃ z, xs[i] = z := ⟨_, rfl⟩
      rw [hz] at h1 h2
      have e1 : (z != z) = false := by simp
      have hkd : Kp w wr.drew := hkr.trans (Kp.refl wr).drew
      have iI : (i : Int) < (n : Int) := by omega
      go_wp2_with fail
      go_still (by kernel_rfl)
      change Exit.then _ _ _ _ wr.drew
      generalize wr.drew = wd at *
      go_wp2_with fail
      go_roundw
      case rel => exact ⟨i + 1, by go_num, by omega, hkd⟩
      case measure => simp [intOf]; omega
    · obtain rfl : i = n := by omega
      go_wp2_with fail
      go_ret
      exact ⟨rfl, hkr⟩
set_option maxRecDepth 100000 in
set_option maxHeartbeats 1000000 in
theorem rHas_any (A : Option Addr) (xs : List Int) (n c : Nat) (x : Int) (w : World) (hA : IntsAt w A xs) (hn : xs.length = n) :
    Calls Try.prog 44 #[.slice A n c, .int .i64 x] w fun e w' => e = .returned (.bool (xs.any fun y => y == x)) ∧ Kp w w' := by
  have Hn := Lib.hid hn
  have hn63 : n ≤ 9223372036854775807 := hn ▸ hA.1
  clear hn
  go_enter Try.func44, Try.ntmps44
  go_wp2_with fail
  go_loopw [5] (fun iv wr => ∃ i : Nat, iv = .int .i64 i ∧ i ≤ n ∧ Hid ((xs.take i).any (fun y => y == x) = false) ∧ Kp w wr) (fun iv _ => n - (intOf iv).toNat)
  case atStart => exact ⟨0, rfl, by omega, Lib.hid rfl, Kp.refl _⟩
  case round =>
    obtain ⟨i, rfl, hi, Hno, hkr⟩ := hrel
    by_cases hlt : i < n
    · have lx : i < xs.length := by rw [Hn.out]; exact hlt
      obtain ⟨a, rfl, h1⟩ := (hA.kp hkr).at_ lx
      obtain ⟨z, hz⟩ : ∃ z, xs[i] = z := ⟨_, rfl⟩
      rw [hz] at h1
      have iI : (i : Int) < (n : Int) := by omega
      have Hst : Hid ((xs.take (i + 1)).any (fun y => y == x) = (z == x)) := by
        show _ = _
        rw [List.take_succ_eq_append_getElem lx, List.any_append, Hno.out, hz]; simp
      cases hzx : (z == x)
      · rw [hzx] at Hst
        have hne : (z == x) = false := hzx
        go_wp2_with fail
        go_roundw
        case rel => exact ⟨i + 1, by go_num, by omega, Hst, hkr⟩
        case measure => simp [intOf]; omega
      · have hyes : Hid (xs.any (fun y => y == x) = true) := by
          show _ = _
          rw [List.any_eq_true]
          exact ⟨z, hz ▸ List.getElem_mem lx, hzx⟩
        go_wp2_with fail
        go_ret
        exact ⟨by rw [hyes.out]; rfl, hkr⟩
    · obtain rfl : i = n := by omega
      have hno : Hid (xs.any (fun y => y == x) = false) := by
        show _ = _
        have := Hno.out
        rwa [List.take_of_length_le (by rw [Hn.out]; omega)] at this
      go_wp2_with fail
      go_ret
      exact ⟨by rw [hno.out]; rfl, hkr⟩
/-- What is put in order so far: of -1 .. k - 2 what stands in the list. -/
def srtTo (xs : List Int) (k : Nat) : List Int := ((List.range k).map fun i : Nat => (i : Int) - 1).filter fun x => xs.any fun y => y == x
theorem srtTo_yes {xs : List Int} {k : Nat} (h : (xs.any fun y => y == (k : Int) - 1) = true) : srtTo xs (k + 1) = srtTo xs k ++ [(k : Int) - 1] := by
  unfold srtTo
  rw [List.range_succ, List.map_append, List.filter_append]
  simp [h]
theorem srtTo_no {xs : List Int} {k : Nat} (h : (xs.any fun y => y == (k : Int) - 1) = false) : srtTo xs (k + 1) = srtTo xs k := by
  unfold srtTo
  rw [List.range_succ, List.map_append, List.filter_append]
  simp [h]
theorem srtTo_len (xs : List Int) (k : Nat) : (srtTo xs k).length ≤ k := by
  unfold srtTo
  have := List.length_filter_le (fun x => xs.any fun y => y == x) ((List.range k).map fun i : Nat => (i : Int) - 1)
  simpa using this
theorem srtTo_sorted (xs : List Int) (k : Nat) : (srtTo xs k).Pairwise (· < ·) := by
  unfold srtTo
  refine List.Pairwise.filter _ ?_
  rw [List.pairwise_map]
  exact List.pairwise_lt_range.imp (fun h => by omega)
theorem mem_srtTo {xs : List Int} {k : Nat} {x : Int} : x ∈ srtTo xs k ↔ x ∈ xs ∧ -1 ≤ x ∧ x < (k : Int) - 1 := by
  unfold srtTo
  rw [List.mem_filter, List.mem_map, List.any_eq_true]
  constructor
  · rintro ⟨⟨i, hi, rfl⟩, y, hy, e⟩
    rw [List.mem_range] at hi
    have := eq_of_beq e
    exact ⟨this ▸ hy, by omega, by omega⟩
  · rintro ⟨h1, h2, h3⟩
    exact ⟨⟨(x + 1).toNat, List.mem_range.2 (by omega), by omega⟩, x, h1, by simp⟩
set_option maxRecDepth 100000 in
set_option maxHeartbeats 1000000 in
theorem rSorted_any (A : Option Addr) (xs : List Int) (n c : Nat) (w : World) (hA : IntsAt w A xs) (hn : xs.length = n) :
    Calls Try.prog 19 #[.slice A n c] w fun e w' => ∃ v, e = .returned v ∧ Own w' w.heap.size v (srtTo xs 1002) ∧ Kp w w' := by
  have Hn := Lib.hid hn
  clear hn
  have ho := own_new0 w w.heap.size (Nat.le_refl _)
  have hk : Kp w (w.alloc (.cells #[] 3)) := (Kp.refl w).alloc _
  go_enter Try.func19, Try.ntmps19
  go_wp2_with fail
  generalize w.alloc (.cells #[] 3) = wa at *
  go_loopw [3, 4] (fun ox iv wr => ∃ (k : Nat) (z : Int) (ov : Value), ov = ox ∧ iv = .int .i64 z ∧ Hid (z = (k : Int) - 1) ∧ k ≤ 1002 ∧ Own wr w.heap.size ov (srtTo xs k) ∧ Kp w wr) (fun _ iv _ => (1001 - intOf iv).toNat)
  case atStart => exact ⟨0, -1, _, rfl, rfl, Lib.hid rfl, by omega, ho, hk⟩
  case round =>
    clear ho hk
    obtain ⟨k, z, ov, rfl, rfl, hz, hk, ho, hkr⟩ := hrel
    by_cases hle : z ≤ 1000
    · have hz0 : -1 ≤ z := by have := hz.out; omega
      have hzw : wrap64 (z + 1) = z + 1 := IntWalk.wrap64_in _ (by omega)
      have hi := hA.kp hkr
      have CC := Lib.hid (rHas_any A xs n c z wr hi Hn.out)
      have Hl := Lib.hid (srtTo_len xs k)
      go_wp2_with fail
      with_reducible refine Calls.mono CC.out ?_
      rintro e w1 ⟨rfl, hk1⟩
      clear CC
      have ho1 := ho.kp hk1
      have hkb := hkr.trans hk1
      cases hb : xs.any fun y => y == z
      · have Hn2 := Lib.hid (srtTo_no (xs := xs) (k := k) (by rw [← hz.out]; exact hb))
        clear hb
        go_wp2_with fail
        go_roundw
        case rel => exact ⟨k + 1, z + 1, _, rfl, by go_num, Lib.hid (by have := hz.out; omega), by have := hz.out; omega, by rw [Hn2.out]; exact ho1, hkb⟩
        case measure => simp [intOf]; omega
      · have Hy := Lib.hid (srtTo_yes (xs := xs) (k := k) (by rw [← hz.out]; exact hb))
        have hbase := hkb.le
        have hl2 : (srtTo xs k).length < 1048576 := by have := Hl.out; omega
        clear hb
        go_wp2_with (at_builtin; go_loud (refine wpl_app rfl (.tmp 13) (.tmp 15) rfl w.heap.size ov (srtTo xs k) z rfl rfl ho1 hbase hl2 ?_); intro v2 w2 ho2 ht2 h42)
        go_roundw
        case rel => exact ⟨k + 1, z + 1, v2, rfl, by go_num, Lib.hid (by have := hz.out; omega), by have := hz.out; omega, by rw [Hy.out, ← hz.out]; exact ho2, ho1.kp_turn hkb (Nat.le_refl _) ht2⟩
        case measure => simp [intOf]; omega
    · obtain rfl : k = 1002 := by have := hz.out; omega
      go_wp2_with fail
      go_ret
      exact ⟨_, rfl, ho, hkr⟩
end Go.Proofs.Ytinpcfhgcilmoaa

namespace Go.Proofs.Ytinpcfhgcilmoaa
open Go.RowKit Go.Sort

set_option maxRecDepth 100000 in
set_option maxHeartbeats 400000 in
theorem specMargC_any (f : Value) (F : Fld) (worth : Int) (A0 : Option Addr) (S : List Int) (n c0 : Nat) (a : Int) (w : World) (hf : FldAt w f F) (hS : IntsAt w A0 S) (hn : S.length = n) (hc0 : n ≤ c0) :
    Calls Try.prog 16 #[f, .int .i64 worth, .slice A0 n c0, .int .i64 a] w fun e w' => e = .returned (.tuple #[.int .i64 (margR F worth S a), .bool (margOk F worth S a)]) ∧ Kp w w' := by
  have hop : F.op.length ≤ 9223372036854775807 := by obtain ⟨_, _, _, _, _, h, _⟩ := id hf; exact h.1
  obtain ⟨A, c, B, d, rfl, hA, hB⟩ := hf
  have hk0 : Kp w (w.alloc (.cells #[.slice A F.op.length c, .slice B F.di.length d] 27)) := (Kp.refl w).alloc _
  obtain ⟨d0, d1⟩ := box2 w (.slice A F.op.length c) (.slice B F.di.length d) 27
  have hFA := FldAt.kp (show FldAt w (.agg #[.slice A F.op.length c, .slice B F.di.length d]) F from ⟨A, c, B, d, rfl, hA, hB⟩) hk0
  have hS0 := hS.kp hk0
  have Hn := Lib.hid hn; clear hn hS hA hB
  go_enter Try.func16, Try.ntmps16
  go_wp2_with fail
  have hsz : Hid ((w.alloc (.cells #[.slice A F.op.length c, .slice B F.di.length d] 27)).heap.size = w.heap.size + 1) := by show _ = _; simp
  generalize w.alloc (.cells #[.slice A F.op.length c, .slice B F.di.length d] 27) = wb at *
  have hkb : Kp wb wb := Kp.refl _
  have hkw := hk0
  have CC := Lib.hid (l8Good_any _ F worth _ (hFA.kp hkb))
  with_reducible refine Calls.mono CC.out ?_
  rintro e w1 ⟨rfl, hk1⟩
  clear CC
  replace hkb := hkb.trans hk1
  cases hg_ : (goodF F && worthB worth)
  · have Hg := Lib.hid hg_; clear hg_
    have q_d0 := hkb.get d0
    have q_d1 := hkb.get d1
    go_wp2_with fail
    go_ret2
    exact ⟨marg_no (by simp only [margOk, gainOk, Hg.out]; rfl), hkw.trans hkb⟩
  have Hg := Lib.hid hg_; clear hg_
  have q_d0 := hkb.get d0
  have q_d1 := hkb.get d1
  go_wp2_with fail
  have CC := Lib.hid (l2Set_any _ F A0 S n c0 _ (hFA.kp hkb) (hS0.kp hkb) Hn.out)
  with_reducible refine Calls.mono CC.out ?_
  rintro e w2 ⟨rfl, hk2⟩
  clear CC q_d0 q_d1
  replace hkb := hkb.trans hk2
  cases hg_ : (setB F S)
  · have Hs := Lib.hid hg_; clear hg_
    have q_d0 := hkb.get d0
    have q_d1 := hkb.get d1
    go_wp2_with fail
    go_ret2
    exact ⟨marg_no (by simp only [margOk, gainOk, Hg.out, Hs.out]; rfl), hkw.trans hkb⟩
  have Hs := Lib.hid hg_; clear hg_
  have q_d0 := hkb.get d0
  have q_d1 := hkb.get d1
  go_wp2_with fail
  have CC := Lib.hid (l1Has_any A0 S n c0 a _ (hS0.kp hkb) Hn.out)
  with_reducible refine Calls.mono CC.out ?_
  rintro e w3 ⟨rfl, hw⟩
  obtain rfl := hw
  clear CC q_d0 q_d1
  cases hh : (S.any fun x => x == a)
  · have Hh := Lib.hid hh; clear hh
    have q_d0 := hkb.get d0
    have q_d1 := hkb.get d1
    go_wp2_with fail
    with_reducible refine Calls.mono (l1In_any _ _ _ _) ?_
    rintro e w4 ⟨rfl, hw⟩
    obtain rfl := hw
    clear q_d0 q_d1
    cases hg_ : (inB a 0 ((F.op.length : Int) - 1))
    · have Hi := Lib.hid hg_; clear hg_
      have q_d0 := hkb.get d0
      have q_d1 := hkb.get d1
      go_wp2_with fail
      go_ret2
      exact ⟨marg_no (by simp only [margOk, gainOk, Hi.out, Hs.out, Hh.out]; simp), hkw.trans hkb⟩
    have Hi := Lib.hid hg_; clear hg_
    have Hok : Hid (margOk F worth S a = true) := by
      show margOk F worth S a = true
      simp only [margOk, gainOk, Hg.out, Hi.out, Hs.out, Hh.out]; rfl
    have HP := Lib.hid (margOk_parts Hok.out)
    have q_d0 := hkb.get d0
    have q_d1 := hkb.get d1
    go_wp2_with fail
    have CC := Lib.hid (l8More_any _ F worth A0 S n c0 a _ (hFA.kp hkb) (hS0.kp hkb) Hn.out hc0 HP.out.1.1 HP.out.1.2.1 HP.out.1.2.2.1 HP.out.1.2.2.2 HP.out.2.1 HP.out.2.2)
    with_reducible refine Calls.mono CC.out ?_
    rintro e w5 ⟨rfl, hk5⟩
    clear CC q_d0 q_d1
    replace hkb := hkb.trans hk5
    have q_d0 := hkb.get d0
    have q_d1 := hkb.get d1
    go_wp2_with fail
    go_ret2
    exact ⟨marg_yes Hok.out, hkw.trans hkb⟩
  · have Hh := Lib.hid hh; clear hh
    have q_d0 := hkb.get d0
    have q_d1 := hkb.get d1
    go_wp2_with fail
    go_ret2
    exact ⟨marg_no (by simp only [margOk, Hh.out]; simp), hkw.trans hkb⟩
end Go.Proofs.Ytinpcfhgcilmoaa
