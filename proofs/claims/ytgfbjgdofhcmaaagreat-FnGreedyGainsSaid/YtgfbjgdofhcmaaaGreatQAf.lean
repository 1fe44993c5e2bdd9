/- l1Put of a nil list, and of any list; what a site adds, as the reference tells it; Cells that are kept; What a site adds, as the reference and the program tell it; GreedyGain: the choice of the next site, and the greedy loops of reference and program; GreedyGain: reference and program. No condition. -/
import Derived.Test.YtgfbjgdofhcmaaaGreatQAe
import Derived.Test.YtgfbjgdofhcmaaaGreatQAd
import Derived.WalkLawsBesides
import Derived.Test.YtgfbjgdofhcmaaaGreatQAa
import Derived.Deep.RegionHeld3
import Derived.IntWalk
namespace Go.Proofs.YtgfbjgdofhcmaaaGreat
open Go.RowKit Go.Sort

theorem putL_nil (a : Int) : putL [] a = [a] := by simp [putL]
theorem putL_len' (S : List Int) (a : Int) : (putL S a).length ≤ S.length + 1 := by
  unfold putL
  by_cases h : a ∈ S
  · rw [if_pos h]; omega
  · rw [if_neg h, List.length_append, List.length_cons]
    have : S.length = (S.takeWhile (· < a)).length + (S.dropWhile (· < a)).length := by
      conv => lhs; rw [← List.takeWhile_append_dropWhile (p := fun y => decide (y < a)) (l := S), List.length_append]
    omega
set_option maxRecDepth 100000 in
set_option maxHeartbeats 2000000 in
theorem l1Put_none (c0 : Nat) (a : Int) (w : World) :
    Calls Tryz.prog 33 #[.slice none 0 c0, .int .i64 a] w fun e w' => ∃ v, e = .returned v ∧ Own w' w.heap.size v (putL [] a) ∧ Kp w w' := by
  have hA := Lib.hid ((own_new0 w _ (Nat.le_refl _)).drew)
  have hAB := Lib.hid ((own_ab w a).drew)
  have hBA := Lib.hid ((own_ba w a).drew)
  go_enter Tryz.func33, Tryz.ntmps33
  go_wp2_with fail
  go_loop [5] (fun iv => iv = .int .i64 0) (fun iv => 0)
  case atStart => rfl
  case round =>
    obtain rfl := hrel
    go_wp2_with fail
    go_region_held3 (fun w' => Kp w w')
      (first | exact (by repeat (first | with_reducible assumption | with_reducible exact Kp.refl _ | with_reducible refine Kp.drew ?_ | with_reducible refine Kp.alloc ?_ _ | with_reducible refine Kp.drewN ?_ _ | refine Kp.setCell ?_ (by dsimp only; omega) _)) | exact hkA | exact hkA.alloc _ | exact hkB | exact hkC)
      (first
        | (refine step_app_all (by rfl) (.tmp 33) (.tmp 36) (by rfl) w.heap.size _ [] [] none 0 c0 (by rfl) (by rfl) hA.out (IntsAt.nil _ _) rfl (by simp) (by simp) ?_; intro v1 w1 ho1 ht1 h41; have hkA : Kp w w1 := hA.out.kp_turn (by repeat (first | with_reducible assumption | with_reducible exact Kp.refl _ | with_reducible refine Kp.drew ?_ | with_reducible refine Kp.alloc ?_ _ | with_reducible refine Kp.drewN ?_ _ | refine Kp.setCell ?_ (by dsimp only; omega) _)) (Nat.le_refl _) ht1)
        | (refine step_app_all (by rfl) (.tmp 33) (.tmp 36) (by rfl) w.heap.size _ [] [] none 0 c0 (by rfl) (by rfl) hAB.out (IntsAt.nil _ _) rfl (by simp; try omega) (by simp) ?_; intro v1 w1 ho1 ht1 h41; have hkA : Kp w w1 := hAB.out.kp_turn (by repeat (first | with_reducible assumption | with_reducible exact Kp.refl _ | with_reducible refine Kp.drew ?_ | with_reducible refine Kp.alloc ?_ _ | with_reducible refine Kp.drewN ?_ _ | refine Kp.setCell ?_ (by dsimp only; omega) _)) (Nat.le_refl _) ht1; have h1n := one_turn (g := w.heap.size + 1) ((one_ab w a).kp (Kp.refl _).drew) ht1 (by simp [Value.ownBlock]) (by simp))
        | (refine step_app_all (by rfl) (.tmp 33) (.tmp 36) (by rfl) w.heap.size _ [] [] none 0 c0 (by rfl) (by rfl) hBA.out (IntsAt.nil _ _) rfl (by simp; try omega) (by simp) ?_; intro v1 w1 ho1 ht1 h41; have hkA : Kp w w1 := hBA.out.kp_turn (by repeat (first | with_reducible assumption | with_reducible exact Kp.refl _ | with_reducible refine Kp.drew ?_ | with_reducible refine Kp.alloc ?_ _ | with_reducible refine Kp.drewN ?_ _ | refine Kp.setCell ?_ (by dsimp only; omega) _)) (Nat.le_refl _) ht1; have h1n := one_turn (g := w.heap.size) ((one_ba w a).kp (Kp.refl _).drew) ht1 (by simp [Value.ownBlock]) (by simp; try omega))
        | (refine step_app_all (by rfl) (.tmp 37) (.tmp 39) (by rfl) w.heap.size v1 ([] ++ []) [a] (some ⟨w.heap.size + 1, 0, none⟩) 1 1 (by rfl) (by rfl) ho1 h1n rfl hkA.le (by simp) ?_; intro v2 w2 ho2 ht2 h42; have hkB : Kp w w2 := ho1.kp_turn hkA (Nat.le_refl _) ht2)
        | (refine step_app_all (by rfl) (.tmp 37) (.tmp 39) (by rfl) w.heap.size v1 ([] ++ []) [a] (some ⟨w.heap.size, 0, none⟩) 1 1 (by rfl) (by rfl) ho1 h1n rfl hkA.le (by simp) ?_; intro v2 w2 ho2 ht2 h42; have hkB : Kp w w2 := ho1.kp_turn hkA (Nat.le_refl _) ht2)
        | (refine step_app (by rfl) (.tmp 37) (.tmp 39) (by rfl) w.heap.size v1 ([] ++ []) a _ (by rfl) (by rfl) (by rfl) ho1 hkA.le (by simp) ?_; intro v2 w2 ho2 ht2 h42; have hkB : Kp w w2 := ho1.kp_turn hkA (Nat.le_refl _) ht2)
        | (refine step_app_all (by rfl) (.tmp 40) (.tmp 43) (by rfl) w.heap.size v2 ([] ++ [] ++ [a]) [] none 0 c0 (by rfl) (by rfl) ho2 (IntsAt.nil _ _) rfl hkB.le (by simp) ?_; intro v3 w3 ho3 ht3 h43; have hkC : Kp w w3 := ho2.kp_turn hkB (Nat.le_refl _) ht3)
        | fail)
    all_goals
      go_wp2_with fail
      go_ret
      rw [putL_nil]
      exact ⟨_, rfl, ho3, hkC⟩
theorem l1Put_new (A0 : Option Addr) (S : List Int) (n c0 : Nat) (a : Int) (w : World) (hS : IntsAt w A0 S) (hn : S.length = n) (hs : S.Pairwise (· < ·)) (hc : n ≤ c0) (hb : n < 1048576) (ha : a ∉ S) :
    Calls Tryz.prog 33 #[.slice A0 n c0, .int .i64 a] w fun e w' => ∃ v, e = .returned v ∧ Own w' w.heap.size v (putL S a) ∧ Kp w w' := by
  cases A0 with
  | some ad =>
    refine (l1Put_some ad S n c0 a w hS hn hs hc hb).mono ?_
    rintro e w' ⟨v, h1, h2 | h2, h3⟩
    · exact absurd h2.1 ha
    · exact ⟨v, h1, h2, h3⟩
  | none =>
    have e : S = [] := by
      cases S with
      | nil => rfl
      | cons y t => obtain ⟨ad, h, _⟩ := hS.at_ (k := 0) (by simp); cases h
    subst e
    obtain rfl : n = 0 := by simpa using hn.symm
    exact l1Put_none c0 a w
theorem l1Put_any (A0 : Option Addr) (S : List Int) (n c0 : Nat) (a : Int) (w : World) (hS : IntsAt w A0 S) (hn : S.length = n) (hs : S.Pairwise (· < ·)) (hc : n ≤ c0) (hb : n < 1048576) :
    Calls Tryz.prog 33 #[.slice A0 n c0, .int .i64 a] w fun e w' => ∃ A' c', e = .returned (.slice A' (putL S a).length c') ∧ (putL S a).length ≤ c' ∧ IntsAt w' A' (putL S a) ∧ Kp w w' := by
  by_cases ha : a ∈ S
  · cases A0 with
    | some ad =>
      refine (l1Put_some ad S n c0 a w hS hn hs hc hb).mono ?_
      rintro e w' ⟨v, rfl, h2 | h2, h3⟩
      · obtain ⟨_, rfl⟩ := h2
        rw [show putL S a = S from if_pos ha, hn]
        exact ⟨some ad, c0, rfl, hc, hS.kp h3, h3⟩
      · obtain ⟨A', c', e, hi⟩ := h2.ints (by have := putL_len' S a; omega)
        exact ⟨A', c', by rw [e], h2.cap e, hi, h3⟩
    | none =>
      obtain ⟨k, hk, _⟩ := List.getElem_of_mem ha
      obtain ⟨ad, h, _⟩ := hS.at_ (k := 0) (by omega); cases h
  · refine (l1Put_new A0 S n c0 a w hS hn hs hc hb ha).mono ?_
    rintro e w' ⟨v, rfl, h2, h3⟩
    obtain ⟨A', c', e, hi⟩ := h2.ints (by have := putL_len' S a; omega)
    exact ⟨A', c', by rw [e], h2.cap e, hi, h3⟩
end Go.Proofs.YtgfbjgdofhcmaaaGreat

namespace Go.Proofs.YtgfbjgdofhcmaaaGreat
open Go.RowKit

theorem keepc1 {wv w' : World} {p : Addr} {a : Value} (h1 : wv.cell? p = some a) (h : Kp wv w') : w'.cell? p = some a ∧ Kp wv w' := ⟨h.get h1, h⟩
theorem keepc2 {wv w' : World} {p q : Addr} {a b : Value} (h1 : wv.cell? p = some a) (h2 : wv.cell? q = some b) (h : Kp wv w') : w'.cell? p = some a ∧ w'.cell? q = some b ∧ Kp wv w' := ⟨h.get h1, h.get h2, h⟩
theorem keepc3 {wv w' : World} {p q r : Addr} {a b c : Value} (h1 : wv.cell? p = some a) (h2 : wv.cell? q = some b) (h3 : wv.cell? r = some c) (h : Kp wv w') : w'.cell? p = some a ∧ w'.cell? q = some b ∧ w'.cell? r = some c ∧ Kp wv w' := ⟨h.get h1, h.get h2, h.get h3, h⟩
theorem keepc4 {wv w' : World} {p q r s : Addr} {a b c d : Value} (h1 : wv.cell? p = some a) (h2 : wv.cell? q = some b) (h3 : wv.cell? r = some c) (h4 : wv.cell? s = some d) (h : Kp wv w') : w'.cell? p = some a ∧ w'.cell? q = some b ∧ w'.cell? r = some c ∧ w'.cell? s = some d ∧ Kp wv w' := ⟨h.get h1, h.get h2, h.get h3, h.get h4, h⟩
theorem keepc5 {wv w' : World} {p q r s t : Addr} {a b c d e : Value} (h1 : wv.cell? p = some a) (h2 : wv.cell? q = some b) (h3 : wv.cell? r = some c) (h4 : wv.cell? s = some d) (h5 : wv.cell? t = some e) (h : Kp wv w') : w'.cell? p = some a ∧ w'.cell? q = some b ∧ w'.cell? r = some c ∧ w'.cell? s = some d ∧ w'.cell? t = some e ∧ Kp wv w' := ⟨h.get h1, h.get h2, h.get h3, h.get h4, h.get h5, h⟩
theorem keepc6 {wv w' : World} {p q r s t u : Addr} {a b c d e f : Value} (h1 : wv.cell? p = some a) (h2 : wv.cell? q = some b) (h3 : wv.cell? r = some c) (h4 : wv.cell? s = some d) (h5 : wv.cell? t = some e) (h6 : wv.cell? u = some f) (h : Kp wv w') : w'.cell? p = some a ∧ w'.cell? q = some b ∧ w'.cell? r = some c ∧ w'.cell? s = some d ∧ w'.cell? t = some e ∧ w'.cell? u = some f ∧ Kp wv w' := ⟨h.get h1, h.get h2, h.get h3, h.get h4, h.get h5, h.get h6, h⟩
theorem keepc7 {wv w' : World} {p0 p1 p2 p3 p4 p5 p6 : Addr} {v0 v1 v2 v3 v4 v5 v6 : Value} (h0 : wv.cell? p0 = some v0) (h1 : wv.cell? p1 = some v1) (h2 : wv.cell? p2 = some v2) (h3 : wv.cell? p3 = some v3) (h4 : wv.cell? p4 = some v4) (h5 : wv.cell? p5 = some v5) (h6 : wv.cell? p6 = some v6) (h : Kp wv w') : w'.cell? p0 = some v0 ∧ w'.cell? p1 = some v1 ∧ w'.cell? p2 = some v2 ∧ w'.cell? p3 = some v3 ∧ w'.cell? p4 = some v4 ∧ w'.cell? p5 = some v5 ∧ w'.cell? p6 = some v6 ∧ Kp wv w' := ⟨h.get h0, h.get h1, h.get h2, h.get h3, h.get h4, h.get h5, h.get h6, h⟩
theorem keepc8 {wv w' : World} {p0 p1 p2 p3 p4 p5 p6 p7 : Addr} {v0 v1 v2 v3 v4 v5 v6 v7 : Value} (h0 : wv.cell? p0 = some v0) (h1 : wv.cell? p1 = some v1) (h2 : wv.cell? p2 = some v2) (h3 : wv.cell? p3 = some v3) (h4 : wv.cell? p4 = some v4) (h5 : wv.cell? p5 = some v5) (h6 : wv.cell? p6 = some v6) (h7 : wv.cell? p7 = some v7) (h : Kp wv w') : w'.cell? p0 = some v0 ∧ w'.cell? p1 = some v1 ∧ w'.cell? p2 = some v2 ∧ w'.cell? p3 = some v3 ∧ w'.cell? p4 = some v4 ∧ w'.cell? p5 = some v5 ∧ w'.cell? p6 = some v6 ∧ w'.cell? p7 = some v7 ∧ Kp wv w' := ⟨h.get h0, h.get h1, h.get h2, h.get h3, h.get h4, h.get h5, h.get h6, h.get h7, h⟩
theorem keepc9 {wv w' : World} {p0 p1 p2 p3 p4 p5 p6 p7 p8 : Addr} {v0 v1 v2 v3 v4 v5 v6 v7 v8 : Value} (h0 : wv.cell? p0 = some v0) (h1 : wv.cell? p1 = some v1) (h2 : wv.cell? p2 = some v2) (h3 : wv.cell? p3 = some v3) (h4 : wv.cell? p4 = some v4) (h5 : wv.cell? p5 = some v5) (h6 : wv.cell? p6 = some v6) (h7 : wv.cell? p7 = some v7) (h8 : wv.cell? p8 = some v8) (h : Kp wv w') : w'.cell? p0 = some v0 ∧ w'.cell? p1 = some v1 ∧ w'.cell? p2 = some v2 ∧ w'.cell? p3 = some v3 ∧ w'.cell? p4 = some v4 ∧ w'.cell? p5 = some v5 ∧ w'.cell? p6 = some v6 ∧ w'.cell? p7 = some v7 ∧ w'.cell? p8 = some v8 ∧ Kp wv w' := ⟨h.get h0, h.get h1, h.get h2, h.get h3, h.get h4, h.get h5, h.get h6, h.get h7, h.get h8, h⟩
theorem keepc10 {wv w' : World} {p0 p1 p2 p3 p4 p5 p6 p7 p8 p9 : Addr} {v0 v1 v2 v3 v4 v5 v6 v7 v8 v9 : Value} (h0 : wv.cell? p0 = some v0) (h1 : wv.cell? p1 = some v1) (h2 : wv.cell? p2 = some v2) (h3 : wv.cell? p3 = some v3) (h4 : wv.cell? p4 = some v4) (h5 : wv.cell? p5 = some v5) (h6 : wv.cell? p6 = some v6) (h7 : wv.cell? p7 = some v7) (h8 : wv.cell? p8 = some v8) (h9 : wv.cell? p9 = some v9) (h : Kp wv w') : w'.cell? p0 = some v0 ∧ w'.cell? p1 = some v1 ∧ w'.cell? p2 = some v2 ∧ w'.cell? p3 = some v3 ∧ w'.cell? p4 = some v4 ∧ w'.cell? p5 = some v5 ∧ w'.cell? p6 = some v6 ∧ w'.cell? p7 = some v7 ∧ w'.cell? p8 = some v8 ∧ w'.cell? p9 = some v9 ∧ Kp wv w' := ⟨h.get h0, h.get h1, h.get h2, h.get h3, h.get h4, h.get h5, h.get h6, h.get h7, h.get h8, h.get h9, h⟩
end Go.Proofs.YtgfbjgdofhcmaaaGreat

namespace Go.Proofs.YtgfbjgdofhcmaaaGreat
open Go.RowKit Go.Sort

set_option maxRecDepth 100000 in
set_option maxHeartbeats 400000 in
theorem l8More_any (f : Value) (F : Fld) (worth : Int) (A0 : Option Addr) (S : List Int) (n c0 : Nat) (a : Int) (w : World) (hf : FldAt w f F) (hS : IntsAt w A0 S) (hn : S.length = n) (hc : n ≤ c0) (hg : goodF F = true) (hs : setB F S = true) (hw0 : 0 ≤ worth) (hw1 : worth ≤ 999) (ha0 : 0 ≤ a) (ha1 : a < F.op.length) :
    Calls Tryz.prog 31 #[f, .int .i64 worth, .slice A0 n c0, .int .i64 a] w fun e w' => e = .returned (.int .i64 (moreF F worth S a)) ∧ Kp w w' := by
  obtain ⟨A, c, B, d, rfl, hA, hB⟩ := hf
  have hk0 : Kp w (w.alloc (.cells #[.slice A F.op.length c, .slice B F.di.length d] 27)) := (Kp.refl w).alloc _
  obtain ⟨d0, d1⟩ := box2 w (.slice A F.op.length c) (.slice B F.di.length d) 27
  have hFA := FldAt.kp (show FldAt w (.agg #[.slice A F.op.length c, .slice B F.di.length d]) F from ⟨A, c, B, d, rfl, hA, hB⟩) hk0
  have hS0 := hS.kp hk0
  have hsp := setB_put hs ha0 ha1
  have h7 := (goodF_iff.1 hg).1.2
  have hl7 := setB_len hs
  have CP := Lib.hid (fun (wx : World) (hx : Kp _ wx) => l1Put_any A0 S n c0 a wx (hS0.kp hx) hn (ris_iff.1 hs).1 hc (by omega))
  have CG := Lib.hid (fun (wx : World) (hx : Kp _ wx) (Av : Option Addr) (cv : Nat) (hv : IntsAt wx Av (putL S a)) => l8Gain_any _ F worth Av (putL S a) (putL S a).length cv wx (hFA.kp hx) hv rfl hg hsp hw0 hw1)
  have CS := Lib.hid (fun (wx : World) (hx : Kp _ wx) => l8Gain_any _ F worth A0 S n c0 wx (hFA.kp hx) (hS0.kp hx) hn hg hs hw0 hw1)
  obtain ⟨b1, b2⟩ := gainF_bd hg hw0 hw1 S
  obtain ⟨b3, b4⟩ := gainF_bd hg hw0 hw1 (putL S a)
  clear hsp hS hg hs hS0 hA hB hn hc hl7 h7
  go_enter Tryz.func31, Tryz.ntmps31
  go_wp2_with fail
  have hsz : Hid ((w.alloc (.cells #[.slice A F.op.length c, .slice B F.di.length d] 27)).heap.size = w.heap.size + 1) := by show _ = _; simp
  generalize w.alloc (.cells #[.slice A F.op.length c, .slice B F.di.length d] 27) = wb at *
  have hkb : Kp wb wb := Kp.refl _
  have hkw := hk0
  have q_d0 := hkb.get d0
  have q_d1 := hkb.get d1
  have tok1 : True := trivial
  go_wp2_with fail
  go_region_held3 (fun w' => w'.cell? ⟨w.heap.size, 0, none⟩ = some (.slice A F.op.length c) ∧ w'.cell? ⟨w.heap.size, 1, none⟩ = some (.slice B F.di.length d) ∧ Kp wb w')
    (first | (refine keepc2 d0 d1 ?_; exact (by repeat (first | with_reducible assumption | with_reducible exact Kp.refl _ | with_reducible refine Kp.drew ?_ | with_reducible refine Kp.alloc ?_ _ | with_reducible refine Kp.drewN ?_ _ | refine Kp.setCell ?_ (by dsimp only; omega) _))) | fail)
    (first
      | (have _t := tok1; go_at_call 33; with_reducible refine Calls.mono (CP.out _ (by repeat (first | with_reducible assumption | with_reducible exact Kp.refl _ | with_reducible refine Kp.drew ?_ | with_reducible refine Kp.alloc ?_ _ | with_reducible refine Kp.drewN ?_ _ | refine Kp.setCell ?_ (by dsimp only; omega) _))) ?_; rintro e wr1 ⟨Av, cv, rfl, hcv, hiv, hka⟩; have hr1 : Kp wb wr1 := Kp.trans (by repeat (first | with_reducible assumption | with_reducible exact Kp.refl _ | with_reducible refine Kp.drew ?_ | with_reducible refine Kp.alloc ?_ _ | with_reducible refine Kp.drewN ?_ _ | refine Kp.setCell ?_ (by dsimp only; omega) _)) hka; have tok2 : True := trivial; clear tok1 _t)
      | (have _t := tok2; go_at_call 38; with_reducible refine Calls.mono (CG.out _ (by repeat (first | with_reducible assumption | with_reducible exact Kp.refl _ | with_reducible refine Kp.drew ?_ | with_reducible refine Kp.alloc ?_ _ | with_reducible refine Kp.drewN ?_ _ | refine Kp.setCell ?_ (by dsimp only; omega) _)) _ _ hiv) ?_; rintro e wr2 ⟨rfl, hka⟩; have hr2 : Kp wb wr2 := Kp.trans (by repeat (first | with_reducible assumption | with_reducible exact Kp.refl _ | with_reducible refine Kp.drew ?_ | with_reducible refine Kp.alloc ?_ _ | with_reducible refine Kp.drewN ?_ _ | refine Kp.setCell ?_ (by dsimp only; omega) _)) hka; have tok3 : True := trivial; clear tok2 _t)
      | (have _t := tok3; go_at_call 38; with_reducible refine Calls.mono (CS.out _ (by repeat (first | with_reducible assumption | with_reducible exact Kp.refl _ | with_reducible refine Kp.drew ?_ | with_reducible refine Kp.alloc ?_ _ | with_reducible refine Kp.drewN ?_ _ | refine Kp.setCell ?_ (by dsimp only; omega) _))) ?_; rintro e wr3 ⟨rfl, hka⟩; have hr3 : Kp wb wr3 := Kp.trans (by repeat (first | with_reducible assumption | with_reducible exact Kp.refl _ | with_reducible refine Kp.drew ?_ | with_reducible refine Kp.alloc ?_ _ | with_reducible refine Kp.drewN ?_ _ | refine Kp.setCell ?_ (by dsimp only; omega) _)) hka; have tok4 : True := trivial; clear tok3 _t)
      | fail)
  go_wp2_with fail
  go_ret
  exact ⟨ret_int (by rw [IntWalk.i64_in _ (by omega)]; rfl), hkw.trans hr3⟩

theorem bagN_bits {n b : Nat} (h : b < 2 ^ n) : bagN (bitsL n b) = b := by
  apply Nat.eq_of_testBit_eq
  intro i
  rw [bagN_bit (fun y hy => (mem_bitsL.1 hy).1)]
  by_cases hi : i < n
  · rw [Bool.eq_iff_iff, decide_eq_true_eq, mem_bitsL]
    constructor
    · rintro ⟨_, _, h⟩; simpa using h
    · intro h; exact ⟨by omega, by omega, by simpa using h⟩
  · rw [Nat.testBit_lt_two_pow (Nat.lt_of_lt_of_le h (Nat.pow_le_pow_right (by omega) (by omega)))]
    rw [decide_eq_false]
    intro hm
    have := (mem_bitsL.1 hm).2.1
    omega
set_option maxRecDepth 100000 in
set_option maxHeartbeats 400000 in
theorem marginal_any (f : Value) (F : Fld) (worth : Int) (b a : Nat) (w : World) (hf : FldAt w f F) (hg : goodF F = true) (hb : b < 2 ^ F.op.length) (hw0 : 0 ≤ worth) (hw1 : worth ≤ 999) (ha1 : a < F.op.length) :
    Calls Tryz.prog 29 #[f, .int .i64 worth, .int .u64 b, .int .i64 a] w fun e w' => e = .returned (.int .i64 (moreF F worth (bitsL F.op.length b) a)) ∧ Kp w w' := by
  obtain ⟨A, c, B, d, rfl, hA, hB⟩ := hf
  have hk0 : Kp w (w.alloc (.cells #[.slice A F.op.length c, .slice B F.di.length d] 27)) := (Kp.refl w).alloc _
  obtain ⟨d0, d1⟩ := box2 w (.slice A F.op.length c) (.slice B F.di.length d) 27
  have hFA := FldAt.kp (show FldAt w (.agg #[.slice A F.op.length c, .slice B F.di.length d]) F from ⟨A, c, B, d, rfl, hA, hB⟩) hk0
  have h7 := (goodF_iff.1 hg).1.2
  have hb7 : b < 2 ^ 7 := Nat.lt_of_lt_of_le hb (Nat.pow_le_pow_right (by omega) h7)
  have h2a : 2 ^ a < 2 ^ F.op.length := Nat.pow_lt_pow_right (by omega) ha1
  have ho := Nat.or_lt_two_pow hb h2a
  have ha7 : 2 ^ a < 2 ^ 7 := Nat.pow_lt_pow_right (by omega) (by omega)
  have hsh := u64_one_shl (a : Int) (by omega) (by omega)
  rw [Int.toNat_natCast] at hsh
  have hor := u64_or_nat b (2 ^ a) (by omega) (by omega)
  have C1 := Lib.hid (fun (wx : World) => list_any (b ||| 2 ^ a) F.op.length wx ho (by omega))
  have C3 := Lib.hid (fun (wx : World) => list_any b F.op.length wx hb (by omega))
  have hs1 : setB F (bitsL F.op.length (b ||| 2 ^ a)) = true := bitsL_set _
  have hs3 : setB F (bitsL F.op.length b) = true := bitsL_set _
  have hl1 := bitsL_len F.op.length (b ||| 2 ^ a)
  have hl3 := bitsL_len F.op.length b
  have C2 := Lib.hid (fun (wx : World) (hx : Kp _ wx) (Av : Option Addr) (cv : Nat) (hv : IntsAt wx Av (bitsL F.op.length (b ||| 2 ^ a))) => gain_any _ F worth Av _ _ cv wx (hFA.kp hx) hv rfl hg hs1 hw0 hw1)
  have C4 := Lib.hid (fun (wx : World) (hx : Kp _ wx) (Av : Option Addr) (cv : Nat) (hv : IntsAt wx Av (bitsL F.op.length b)) => gain_any _ F worth Av _ _ cv wx (hFA.kp hx) hv rfl hg hs3 hw0 hw1)
  have hm := Lib.hid (show gainF F worth (bitsL F.op.length (b ||| 2 ^ a)) - gainF F worth (bitsL F.op.length b) = moreF F worth (bitsL F.op.length b) a from by rw [bits_put ha1]; rfl)
  obtain ⟨b1, b2⟩ := gainF_bd hg hw0 hw1 (bitsL F.op.length (b ||| 2 ^ a))
  obtain ⟨b3, b4⟩ := gainF_bd hg hw0 hw1 (bitsL F.op.length b)
  clear hs1 hs3 hg hA hB ho hb h2a
  generalize 2 ^ a = pa at *
  go_enter Tryz.func29, Tryz.ntmps29
  go_wp2_with fail
  have hsz : Hid ((w.alloc (.cells #[.slice A F.op.length c, .slice B F.di.length d] 27)).heap.size = w.heap.size + 1) := by show _ = _; simp
  generalize w.alloc (.cells #[.slice A F.op.length c, .slice B F.di.length d] 27) = wb at *
  have hkb : Kp wb wb := Kp.refl _
  have hkw := hk0
  have q_d0 := hkb.get d0
  have q_d1 := hkb.get d1
  have tok1 : True := trivial
  go_wp2_with fail
  go_region_held3 (fun w' => w'.cell? ⟨w.heap.size, 0, none⟩ = some (.slice A F.op.length c) ∧ w'.cell? ⟨w.heap.size, 1, none⟩ = some (.slice B F.di.length d) ∧ Kp wb w')
    (first | (refine keepc2 d0 d1 ?_; exact (by repeat (first | with_reducible assumption | with_reducible exact Kp.refl _ | with_reducible refine Kp.drew ?_ | with_reducible refine Kp.alloc ?_ _ | with_reducible refine Kp.drewN ?_ _ | refine Kp.setCell ?_ (by dsimp only; omega) _))) | fail)
    (first
      | (have _t := tok1; go_at_call 51; with_reducible refine Calls.mono (C1.out _) ?_; rintro e wr1 ⟨v1, rfl, hov, hka⟩; have hr1 : Kp wb wr1 := Kp.trans (by repeat (first | with_reducible assumption | with_reducible exact Kp.refl _ | with_reducible refine Kp.drew ?_ | with_reducible refine Kp.alloc ?_ _ | with_reducible refine Kp.drewN ?_ _ | refine Kp.setCell ?_ (by dsimp only; omega) _)) hka; obtain ⟨Av, cv, hve, hiv⟩ := hov.ints (by omega); subst hve; have tok2 : True := trivial; clear tok1 _t)
      | (have _t := tok2; go_at_call 47; with_reducible refine Calls.mono (C2.out _ (by repeat (first | with_reducible assumption | with_reducible exact Kp.refl _ | with_reducible refine Kp.drew ?_ | with_reducible refine Kp.alloc ?_ _ | with_reducible refine Kp.drewN ?_ _ | refine Kp.setCell ?_ (by dsimp only; omega) _)) _ _ hiv) ?_; rintro e wr2 ⟨rfl, hka⟩; have hr2 : Kp wb wr2 := Kp.trans (by repeat (first | with_reducible assumption | with_reducible exact Kp.refl _ | with_reducible refine Kp.drew ?_ | with_reducible refine Kp.alloc ?_ _ | with_reducible refine Kp.drewN ?_ _ | refine Kp.setCell ?_ (by dsimp only; omega) _)) hka; have tok3 : True := trivial; clear tok2 _t)
      | (have _t := tok3; go_at_call 51; with_reducible refine Calls.mono (C3.out _) ?_; rintro e wr3 ⟨v3, rfl, hov3, hka⟩; have hr3 : Kp wb wr3 := Kp.trans (by repeat (first | with_reducible assumption | with_reducible exact Kp.refl _ | with_reducible refine Kp.drew ?_ | with_reducible refine Kp.alloc ?_ _ | with_reducible refine Kp.drewN ?_ _ | refine Kp.setCell ?_ (by dsimp only; omega) _)) hka; obtain ⟨Aw, cw, hwe, hiw⟩ := hov3.ints (by omega); subst hwe; have tok4 : True := trivial; clear tok3 _t)
      | (have _t := tok4; go_at_call 47; with_reducible refine Calls.mono (C4.out _ (by repeat (first | with_reducible assumption | with_reducible exact Kp.refl _ | with_reducible refine Kp.drew ?_ | with_reducible refine Kp.alloc ?_ _ | with_reducible refine Kp.drewN ?_ _ | refine Kp.setCell ?_ (by dsimp only; omega) _)) _ _ hiw) ?_; rintro e wr4 ⟨rfl, hka⟩; have hr4 : Kp wb wr4 := Kp.trans (by repeat (first | with_reducible assumption | with_reducible exact Kp.refl _ | with_reducible refine Kp.drew ?_ | with_reducible refine Kp.alloc ?_ _ | with_reducible refine Kp.drewN ?_ _ | refine Kp.setCell ?_ (by dsimp only; omega) _)) hka; have tok5 : True := trivial; clear tok4 _t)
      | fail)
  go_wp2_with fail
  go_ret
  exact ⟨ret_int (by rw [IntWalk.i64_in _ (by omega)]; exact hm.out), hkw.trans hr4⟩
end Go.Proofs.YtgfbjgdofhcmaaaGreat

namespace Go.Proofs.YtgfbjgdofhcmaaaGreat
open Go.RowKit Go.Sort

/-- A slice value that reads as this list. -/
def SetAt (w : World) (v : Value) (S : List Int) : Prop := ∃ A c, v = .slice A S.length c ∧ S.length ≤ c ∧ IntsAt w A S
theorem SetAt.kp {w w' : World} {v : Value} {S : List Int} (h : SetAt w v S) (hk : Kp w w') : SetAt w' v S := by
  obtain ⟨A, c, e, h1, h2⟩ := h
  exact ⟨A, c, e, h1, h2.kp hk⟩
theorem Own.setAt {w : World} {base : Nat} {v : Value} {S : List Int} (h : Own w base v S) (hl : S.length ≤ 9223372036854775807) : SetAt w v S := by
  obtain ⟨A, c, e, hi⟩ := h.ints hl
  exact ⟨A, c, e, h.cap e, hi⟩
def anyS : List Int → Bool := fun _ => true
theorem l8K_any (k : Int) (w : World) : Calls Tryz.prog 27 #[.int .i64 k] w fun e w' => e = .returned (.bool (inB k 0 7)) ∧ w = w' := by
  go_enter Tryz.func27, Tryz.ntmps27
  go_wp2_with fail
  with_reducible refine Calls.mono (l1In_any _ _ _ _) ?_
  rintro e w1 ⟨rfl, hw⟩
  obtain rfl := hw
  go_wp2_with fail
  go_ret
  exact ⟨rfl, rfl⟩
set_option maxRecDepth 100000 in
set_option maxHeartbeats 400000 in
theorem l8Next_any (f : Value) (F : Fld) (worth : Int) (A0 : Option Addr) (S : List Int) (n c0 : Nat) (w : World) (hf : FldAt w f F) (hS : IntsAt w A0 S) (hn : S.length = n) (hc : n ≤ c0) (hg : goodF F = true) (hs : setB F S = true) (hw0 : 0 ≤ worth) (hw1 : worth ≤ 999) :
    Calls Tryz.prog 54 #[f, .int .i64 worth, .slice A0 n c0] w fun e w' => e = .returned (.tuple #[.int .i64 (nextF F worth anyS S).1, .int .i64 (nextF F worth anyS S).2]) ∧ Kp w w' := by
  have h7 := (goodF_iff.1 hg).1.2
  obtain ⟨A, c, B, d, rfl, hA, hB⟩ := hf
  have hk0 : Kp w (w.alloc (.cells #[.slice A F.op.length c, .slice B F.di.length d] 27)) := (Kp.refl w).alloc _
  obtain ⟨d0, d1⟩ := box2 w (.slice A F.op.length c) (.slice B F.di.length d) 27
  have hFA := FldAt.kp (show FldAt w (.agg #[.slice A F.op.length c, .slice B F.di.length d]) F from ⟨A, c, B, d, rfl, hA, hB⟩) hk0
  have hS0 := hS.kp hk0
  have HG := Lib.hid hg
  have HS := Lib.hid hs
  have Hn := Lib.hid hn
  clear hS hA hB hg hs hn
  go_enter Tryz.func54, Tryz.ntmps54
  go_wp2_with fail
  have hsz : Hid ((w.alloc (.cells #[.slice A F.op.length c, .slice B F.di.length d] 27)).heap.size = w.heap.size + 1) := by show _ = _; simp
  generalize w.alloc (.cells #[.slice A F.op.length c, .slice B F.di.length d] 27) = wb at *
  have hkb : Kp wb wb := Kp.refl _
  have hkw := hk0
  go_loopw [8, 9, 10] (fun bv mv iv wr => ∃ k : Nat, k ≤ F.op.length ∧ iv = .int .i64 k ∧ bv = .int .i64 (nextTo F worth anyS S k).1 ∧ mv = .int .i64 (nextTo F worth anyS S k).2 ∧ Kp wb wr) (fun _ _ iv _ => F.op.length - (intOf iv).toNat)
  case atStart => exact ⟨0, by omega, rfl, rfl, rfl, Kp.refl _⟩
  case round =>
    obtain ⟨k, hk, rfl, rfl, rfl, hkb⟩ := hrel
    by_cases hlt : k < F.op.length
    · have q_d0 := hkb.get d0
      have q_d1 := hkb.get d1
      go_wp2_with fail
      have CC := Lib.hid (l1Has_any A0 S n c0 (k : Int) _ (hS0.kp hkb) Hn.out)
      with_reducible refine Calls.mono CC.out ?_
      rintro e w1 ⟨rfl, hw⟩
      obtain rfl := hw
      clear CC q_d0 q_d1
      cases hh : (S.any fun x => x == (k : Int))
      · have Hok : Hid (okF anyS S k = true) := by show okF anyS S k = true; simp only [okF, hh, anyS]; rfl
        clear hh
        have q_d0 := hkb.get d0
        have q_d1 := hkb.get d1
        go_wp2_with fail
        have CC := Lib.hid (l8More_any _ F worth A0 S n c0 (k : Int) _ (hFA.kp hkb) (hS0.kp hkb) Hn.out hc HG.out HS.out hw0 hw1 (by omega) (by omega))
        with_reducible refine Calls.mono CC.out ?_
        rintro e w2 ⟨rfl, hk2⟩
        clear CC q_d0 q_d1
        replace hkb := hkb.trans hk2
        by_cases hgt : (nextTo F worth anyS S k).2 < moreF F worth S k
        · have Hy := Lib.hid (pick_yes (val := fun a => moreF F worth S a) Hok.out hgt)
          have q_d0 := hkb.get d0
          have q_d1 := hkb.get d1
          go_wp2_with fail
          go_roundw
          case rel => exact ⟨k + 1, by omega, by go_num, by rw [nextTo, Hy.out], by rw [nextTo, Hy.out], hkb⟩
          case measure => simp [intOf]; omega
        · have Hy := Lib.hid (pick_less (ok := okF anyS S) (val := fun a => moreF F worth S a) hgt)
          have q_d0 := hkb.get d0
          have q_d1 := hkb.get d1
          go_wp2_with fail
          go_roundw
          case rel => exact ⟨k + 1, by omega, by go_num, by rw [nextTo, nextTo, Hy.out], by rw [nextTo, nextTo, Hy.out], hkb⟩
          case measure => simp [intOf]; omega
      · have Hy := Lib.hid (pick_no (ok := okF anyS S) (val := fun a => moreF F worth S a) (k := k) (by simp only [okF, hh]; rfl))
        clear hh
        have q_d0 := hkb.get d0
        have q_d1 := hkb.get d1
        go_wp2_with fail
        go_roundw
        case rel => exact ⟨k + 1, by omega, by go_num, by rw [nextTo, nextTo, Hy.out], by rw [nextTo, nextTo, Hy.out], hkb⟩
        case measure => simp [intOf]; omega
    · obtain rfl : k = F.op.length := by omega
      have q_d0 := hkb.get d0
      have q_d1 := hkb.get d1
      go_wp2_with fail
      go_ret2
      exact ⟨rfl, hkw.trans hkb⟩
theorem Apart.fresh {w w' w2 : World} {base : Nat} {v u : Value} {xs ys : List Int} (h : Own w base v xs) (h' : Own w' w2.heap.size u ys) (hl : w.heap.size ≤ w2.heap.size) : Apart v u := fun g hg hu => by
  have h1 := h.lt g hg
  have h2 := h'.lt g hu
  omega
theorem own_new2 (w : World) : Own ((w.alloc (.cells #[] 3)).alloc (.cells #[] 3)) w.heap.size (.slice (some ⟨w.heap.size + 1, 0, none⟩) 0 0) [] := by
  have := own_new0 (w.alloc (.cells #[] 3)) w.heap.size (by simp)
  simpa using this
theorem apart_new (w : World) (n m c d : Nat) : Apart (.slice (some ⟨w.heap.size, 0, none⟩) n c) (.slice (some ⟨w.heap.size + 1, 0, none⟩) m d) := fun g hg hu => by
  simp [Value.ownBlock] at hg hu
  omega
theorem next_nn {F : Fld} {worth : Int} {may : List Int → Bool} {S : List Int} (h : ¬ (nextF F worth may S).1 < 0) : (nextF F worth may S).2 ≠ 0 := fun e => h ((pick_neg _ _ _).2 e)
set_option maxRecDepth 100000 in
set_option maxHeartbeats 400000 in
theorem l8Greedy_any (f : Value) (F : Fld) (worth : Int) (K : Nat) (w : World) (hf : FldAt w f F) (hg : goodF F = true) (hK : K ≤ 7) (hw0 : 0 ≤ worth) (hw1 : worth ≤ 999) :
    Calls Tryz.prog 28 #[f, .int .i64 worth, .int .i64 K] w fun e w' => ∃ v, e = .returned v ∧ Own w' w.heap.size v (grd F worth anyS K [] []) ∧ Kp w w' := by
  have h7 := (goodF_iff.1 hg).1.2
  obtain ⟨A, c, B, d, rfl, hA, hB⟩ := hf
  have hk0 : Kp w (w.alloc (.cells #[.slice A F.op.length c, .slice B F.di.length d] 27)) := (Kp.refl w).alloc _
  obtain ⟨d0, d1⟩ := box2 w (.slice A F.op.length c) (.slice B F.di.length d) 27
  have hFA := FldAt.kp (show FldAt w (.agg #[.slice A F.op.length c, .slice B F.di.length d]) F from ⟨A, c, B, d, rfl, hA, hB⟩) hk0
  have HG := Lib.hid hg
  clear hA hB hg
  go_enter Tryz.func28, Tryz.ntmps28
  go_wp2_with fail
  have hsz : Hid ((w.alloc (.cells #[.slice A F.op.length c, .slice B F.di.length d] 27)).heap.size = w.heap.size + 1) := by show _ = _; simp
  generalize w.alloc (.cells #[.slice A F.op.length c, .slice B F.di.length d] 27) = wb at *
  have hkb : Kp wb wb := Kp.refl _
  have hkw := hk0
  have ho : Own ((wb.alloc (.cells #[] 3)).alloc (.cells #[] 3)) wb.heap.size (.slice (some ⟨w.heap.size + 1, 0, none⟩) 0 0) [] := by
    rw [← hsz.out]; exact (own_new0 wb wb.heap.size (Nat.le_refl _)).kp ((Kp.refl _).alloc _)
  have hs : Own ((wb.alloc (.cells #[] 3)).alloc (.cells #[] 3)) wb.heap.size (.slice (some ⟨w.heap.size + 1 + 1, 0, none⟩) 0 0) [] := by
    rw [← hsz.out]; exact own_new2 wb
  have hap : Apart (.slice (some ⟨w.heap.size + 1, 0, none⟩) 0 0) (.slice (some ⟨w.heap.size + 1 + 1, 0, none⟩) 0 0) := by
    rw [← hsz.out]; exact apart_new wb 0 0 0 0
  go_loopw [7, 8] (fun ov sv wr => ∃ out S, Own wr wb.heap.size ov out ∧ out.length ≤ K ∧ Own wr wb.heap.size sv S ∧ Apart ov sv ∧ setB F S = true ∧ Hid (S.length = out.length) ∧ Hid (grd F worth anyS (K - out.length) out S = grd F worth anyS K [] []) ∧ Kp wb wr) (fun ov _ _ => K - sLen ov)
  case atStart => exact ⟨[], [], ho, by simp, hs, hap, rfl, rfl, rfl, ((Kp.refl _).alloc _).alloc _⟩
  case round =>
    obtain ⟨out, S, hown, hle, hset, hap, hs, Hlen, HR, hkb⟩ := hrel
    obtain ⟨A9, c9, rfl⟩ := hown.shape
    obtain ⟨A8, c8, hv8, hS⟩ := hset.ints (by rw [Hlen.out]; omega)
    have hc8 := hset.cap hv8
    subst hv8
    have Hs := Lib.hid hs
    clear hs
    by_cases hlt : out.length < K
    · have q_d0 := hkb.get d0
      have q_d1 := hkb.get d1
      go_wp2_with fail
      have CC := Lib.hid (l8Next_any _ F worth A8 S S.length c8 _ (hFA.kp hkb) hS rfl hc8 HG.out Hs.out hw0 hw1)
      with_reducible refine Calls.mono CC.out ?_
      rintro e w1 ⟨rfl, hk1⟩
      clear CC q_d0 q_d1
      replace hkb := hkb.trans hk1
      replace hown := hown.kp hk1
      replace hset := hset.kp hk1
      replace hS := hS.kp hk1
      by_cases hneg : (nextF F worth anyS S).1 < 0
      · have hm : ((nextF F worth anyS S).2 == 0) = true := by rw [beq_iff_eq]; exact (pick_neg _ _ _).1 hneg
        have Hst := Lib.hid (grd_stop (j := K - out.length) (out := out) hneg)
        clear hneg
        have q_d0 := hkb.get d0
        have q_d1 := hkb.get d1
        go_wp2_with fail
        go_ret
        exact ⟨_, rfl, by rw [← HR.out, Hst.out]; exact hown.mono hkw.le, hkw.trans hkb⟩
      · have hm : ((nextF F worth anyS S).2 == 0) = false := by rw [beq_eq_false_iff_ne]; exact next_nn hneg
        have HN := Lib.hid (next_new hneg)
        have Hgo := Lib.hid (grd_go (j := K - (out.length + 1)) (out := out) hneg)
        replace hneg : 0 ≤ (nextF F worth anyS S).1 := by omega
        have hnl := HN.out.2
        have q_d0 := hkb.get d0
        have q_d1 := hkb.get d1
        go_wp2_with (at_builtin; go_loud (refine wpl_app rfl (.tmp 27) (.tmp 29) rfl (wb.heap.size) _ (out) ((nextF F worth anyS S).1) rfl rfl hown hkb.le (by omega) ?_; intro v' w' ho' ht' h4'; have hkb' := hown.kp_turn hkb (Nat.le_refl _) ht'; have r_d0 := hkb'.get d0; have r_d1 := hkb'.get d1))
        replace hkb := hkb'
        have hset2 := hset.apart_turn hap ht'
        have hS2 := hset2.intsOf (by rw [Hlen.out]; omega)
        have hop := ho'
        have CC := Lib.hid (l1Put_new A8 S S.length c8 (nextF F worth anyS S).1 _ hS2 rfl (ris_iff.1 Hs.out).1 hc8 (by rw [Hlen.out]; omega) HN.out.1)
        with_reducible refine Calls.mono CC.out ?_
        rintro e w2 ⟨v8, rfl, ho8, hk2⟩
        clear CC q_d0 q_d1 r_d0 r_d1
        replace hkb := hkb.trans hk2
        replace ho' := ho'.kp hk2
        have hap3 := Apart.fresh hop ho8 (Nat.le_refl _)
        obtain ⟨A7, c7, e7⟩ := ho'.shape
        rw [show (out ++ [(nextF F worth anyS S).1]).length = out.length + 1 from by simp] at e7
        subst e7
        have q_d0 := hkb.get d0
        have q_d1 := hkb.get d1
        go_wp2_with fail
        go_roundw
        case rel =>
          refine ⟨_, _, ho', by simp; omega, ho8.mono hkb'.le, hap3, setB_put Hs.out hneg hnl, ?_, ?_, hkb⟩
          · show (putL S (nextF F worth anyS S).1).length = (out ++ [(nextF F worth anyS S).1]).length
            rw [putL_new HN.out.1, Hlen.out]; simp
          · show grd F worth anyS (K - (out ++ [(nextF F worth anyS S).1]).length) _ _ = _
            rw [← HR.out, show K - out.length = K - (out.length + 1) + 1 from by omega, Hgo.out]; simp
        case measure => simp [sLen]; omega
    · have hst : Hid (grd F worth anyS (K - out.length) out S = out) := by show grd F worth anyS (K - out.length) out S = out; rw [show K - out.length = 0 from by omega]; rfl
      have q_d0 := hkb.get d0
      have q_d1 := hkb.get d1
      go_wp2_with fail
      go_ret
      exact ⟨_, rfl, by rw [← HR.out, hst.out]; exact hown.mono hkw.le, hkw.trans hkb⟩

/-- A function value that tells which sets may be taken. -/
def May (F : Fld) (FN : FuncId) (caps : Array Value) (may : List Int → Bool) (w : World) : Prop :=
  (∀ (args : Array Value) (w : World), Sem.run Tryz.prog (callFunc FN args) w = .ok (.enter FN args) w) ∧
  ∀ (S : List Int) (Av : Option Addr) (cv : Nat) (w' : World), Kp w w' → setB F S = true → IntsAt w' Av S → Calls Tryz.prog FN (#[.slice Av S.length cv] ++ caps) w' fun e w'' => e = .returned (.bool (may S)) ∧ Kp w' w''
theorem May.kp {F : Fld} {FN : FuncId} {caps : Array Value} {may : List Int → Bool} {w w' : World} (h : May F FN caps may w) (hk : Kp w w') : May F FN caps may w' :=
  ⟨h.1, fun S Av cv w2 h2 => h.2 S Av cv w2 (hk.trans h2)⟩
set_option maxRecDepth 100000 in
set_option maxHeartbeats 1000000 in
theorem greedyGain_any (FN : FuncId) (caps : Array Value) (may : List Int → Bool) (f : Value) (F : Fld) (worth : Int) (K : Nat) (w : World) (hf : FldAt w f F) (hm : May F FN caps may w) (hg : goodF F = true) (hK : K ≤ 7) (hw0 : 0 ≤ worth) (hw1 : worth ≤ 999) :
    Calls Tryz.prog 24 #[f, .int .i64 worth, .int .i64 K, .func (.func FN) #[] caps] w fun e w' => ∃ v, e = .returned v ∧ Own w' w.heap.size v (grd F worth may K [] []) ∧ Kp w w' := by
  have h7 := (goodF_iff.1 hg).1.2
  obtain ⟨A, c, B, d, rfl, hA, hB⟩ := hf
  have hk0 : Kp w (w.alloc (.cells #[.slice A F.op.length c, .slice B F.di.length d] 27)) := (Kp.refl w).alloc _
  obtain ⟨d0, d1⟩ := box2 w (.slice A F.op.length c) (.slice B F.di.length d) 27
  have hFA := FldAt.kp (show FldAt w (.agg #[.slice A F.op.length c, .slice B F.di.length d]) F from ⟨A, c, B, d, rfl, hA, hB⟩) hk0
  have HM := Lib.hid (hm.kp hk0)
  have HG := Lib.hid hg
  have HF := hm.1
  clear hA hB hg hm
  go_enter Tryz.func24, Tryz.ntmps24
  go_wp2_with fail
  have hsz : Hid ((w.alloc (.cells #[.slice A F.op.length c, .slice B F.di.length d] 27)).heap.size = w.heap.size + 1) := by show _ = _; simp
  generalize w.alloc (.cells #[.slice A F.op.length c, .slice B F.di.length d] 27) = wb at *
  have hkb : Kp wb wb := Kp.refl _
  have hkw := hk0
  have ho : Own (wb.alloc (.cells #[] 3)) wb.heap.size (.slice (some ⟨w.heap.size + 1, 0, none⟩) 0 0) [] := by
    rw [← hsz.out]; exact own_new0 wb wb.heap.size (Nat.le_refl _)
  go_loopw [9, 10] (fun ov tv wr => ∃ out b, Own wr wb.heap.size ov out ∧ out.length ≤ K ∧ tv = .int .u64 (b : Nat) ∧ b < 2 ^ F.op.length ∧ Hid (grd F worth may (K - out.length) out (bitsL F.op.length b) = grd F worth may K [] []) ∧ Kp wb wr) (fun ov _ _ => K - sLen ov)
  case atStart => exact ⟨[], 0, ho, by simp, rfl, Nat.two_pow_pos _, by rw [bits_zero]; exact rfl, (Kp.refl _).alloc _⟩
  case round =>
    obtain ⟨out, b, hown, hle, rfl, hb, HR, hkb⟩ := hrel
    obtain ⟨A9, c9, rfl⟩ := hown.shape
    have Hb := Lib.hid hb
    have hb7 : b < 128 := Nat.lt_of_lt_of_le hb (Nat.pow_le_pow_right (n := 2) (by omega) h7)
    clear hb
    by_cases hlt : out.length < K
    · have q_d0 := hkb.get d0
      have q_d1 := hkb.get d1
      go_wp2_with fail
      go_loopw [11, 12, 23] (fun bv mv iv ws => ∃ a : Nat, a ≤ F.op.length ∧ iv = .int .i64 a ∧ bv = .int .i64 (nextTo F worth may (bitsL F.op.length b) a).1 ∧ mv = .int .i64 (nextTo F worth may (bitsL F.op.length b) a).2 ∧ Kp wr ws) (fun _ _ iv _ => F.op.length - (intOf iv).toNat)
      case atStart => exact ⟨0, by omega, rfl, rfl, rfl, Kp.refl _⟩
      case round =>
        obtain ⟨a, ha, rfl, rfl, rfl, hki⟩ := hrel
        replace hkb := hkb.trans hki
        by_cases hla : a < F.op.length
        · clear q_d0 q_d1
          have q_d0 := hkb.get d0
          have q_d1 := hkb.get d1
          go_wp2_with fail
          with_reducible refine Calls.mono (has_any b a _ (by omega) (by omega)) ?_
          rintro e w1 ⟨rfl, hw⟩
          obtain rfl := hw
          clear q_d0 q_d1
          cases hbit : b.testBit a
          · have Hany : Hid (((bitsL F.op.length b).any fun x => x == (a : Int)) = false) := by show _ = _; rw [bits_any hla, hbit]
            have ho2 := Nat.or_lt_two_pow Hb.out (Nat.pow_lt_pow_right (by omega) hla : 2 ^ a < 2 ^ F.op.length)
            have ha7 : 2 ^ a < 2 ^ 7 := Nat.pow_lt_pow_right (by omega) (by omega)
            have hsh := u64_one_shl (a : Int) (by omega) (by omega)
            rw [Int.toNat_natCast] at hsh
            have hor := u64_or_nat b (2 ^ a) (by omega) (by omega)
            have HP := Lib.hid (bits_put (b := b) hla)
            have HSp := Lib.hid (bitsL_set (F := F) (b ||| 2 ^ a))
            have HO2 := Lib.hid ho2
            have hlp := bitsL_len F.op.length (b ||| 2 ^ a)
            clear ho2 hbit
            generalize 2 ^ a = pa at *
            have q_d0 := hkb.get d0
            have q_d1 := hkb.get d1
            go_wp2_with fail
            with_reducible refine Calls.mono (list_any (b ||| pa) F.op.length _ HO2.out (by omega)) ?_
            rintro e w2 ⟨v1, rfl, hov, hk2⟩
            clear q_d0 q_d1
            replace hkb := hkb.trans hk2
            replace hki := hki.trans hk2
            obtain ⟨Av, cv, hve, hiv⟩ := hov.ints (by omega)
            subst hve
            clear hlp hsh hor
            have q_d0 := hkb.get d0
            have q_d1 := hkb.get d1
            go_wp2_with fail
            have CC := Lib.hid (HM.out.2 _ Av cv _ hkb HSp.out hiv)
            with_reducible refine Calls.mono CC.out ?_
            rintro e w3 ⟨rfl, hk3⟩
            clear CC q_d0 q_d1
            replace hkb := hkb.trans hk3
            replace hki := hki.trans hk3
            cases hmay : may (bitsL F.op.length (b ||| pa))
            · have Hy := Lib.hid (pick_no (ok := okF may (bitsL F.op.length b)) (val := fun a => moreF F worth (bitsL F.op.length b) a) (k := a) (by simp only [okF, ← HP.out, hmay]; simp))
              clear hmay
              have q_d0 := hkb.get d0
              have q_d1 := hkb.get d1
              go_wp2_with fail
              go_roundw
              case rel => exact ⟨a + 1, by omega, by go_num, by rw [nextTo, nextTo, Hy.out], by rw [nextTo, nextTo, Hy.out], hki⟩
              case measure => simp [intOf]; omega
            · have Hok : Hid (okF may (bitsL F.op.length b) a = true) := by show okF _ _ _ = true; simp only [okF, ← HP.out, hmay, Hany.out]; rfl
              clear hmay
              have q_d0 := hkb.get d0
              have q_d1 := hkb.get d1
              go_wp2_with fail
              have CC := Lib.hid (marginal_any _ F worth b a _ (hFA.kp hkb) HG.out Hb.out hw0 hw1 hla)
              with_reducible refine Calls.mono CC.out ?_
              rintro e w4 ⟨rfl, hk4⟩
              clear CC q_d0 q_d1
              replace hkb := hkb.trans hk4
              replace hki := hki.trans hk4
              by_cases hgt : (nextTo F worth may (bitsL F.op.length b) a).2 < moreF F worth (bitsL F.op.length b) a
              · have Hy := Lib.hid (pick_yes (val := fun a => moreF F worth (bitsL F.op.length b) a) Hok.out hgt)
                have q_d0 := hkb.get d0
                have q_d1 := hkb.get d1
                go_wp2_with fail
                go_roundw
                case rel => exact ⟨a + 1, by omega, by go_num, by rw [nextTo, Hy.out], by rw [nextTo, Hy.out], hki⟩
                case measure => simp [intOf]; omega
              · have Hy := Lib.hid (pick_less (ok := okF may (bitsL F.op.length b)) (val := fun a => moreF F worth (bitsL F.op.length b) a) hgt)
                have q_d0 := hkb.get d0
                have q_d1 := hkb.get d1
                go_wp2_with fail
                go_roundw
                case rel => exact ⟨a + 1, by omega, by go_num, by rw [nextTo, nextTo, Hy.out], by rw [nextTo, nextTo, Hy.out], hki⟩
                case measure => simp [intOf]; omega
          · have Hy := Lib.hid (pick_no (ok := okF may (bitsL F.op.length b)) (val := fun a => moreF F worth (bitsL F.op.length b) a) (k := a) (by rw [okF, bits_any hla, hbit]; rfl))
            clear hbit
            have q_d0 := hkb.get d0
            have q_d1 := hkb.get d1
            go_wp2_with fail
            go_roundw
            case rel => exact ⟨a + 1, by omega, by go_num, by rw [nextTo, nextTo, Hy.out], by rw [nextTo, nextTo, Hy.out], hki⟩
            case measure => simp [intOf]; omega
        · obtain rfl : a = F.op.length := by omega
          have hown2 := hown.kp hki
          have Hn2 : Hid (nextTo F worth may (bitsL F.op.length b) F.op.length = nextF F worth may (bitsL F.op.length b)) := rfl
          rw [Hn2.out]
          by_cases hneg : (nextF F worth may (bitsL F.op.length b)).1 < 0
          · have Hst := Lib.hid (grd_stop (j := K - out.length) (out := out) hneg)
            clear q_d0 q_d1
            have q_d0 := hkb.get d0
            have q_d1 := hkb.get d1
            go_wp2_with fail
            go_ret
            exact ⟨_, rfl, by rw [← HR.out, Hst.out]; exact hown2.mono hkw.le, hkw.trans hkb⟩
          · have HN := Lib.hid (next_new hneg)
            have Hgo := Lib.hid (grd_go (j := K - (out.length + 1)) (out := out) hneg)
            replace hneg : 0 ≤ (nextF F worth may (bitsL F.op.length b)).1 := by omega
            have hnl := HN.out.2
            obtain ⟨z, hz⟩ := Int.eq_ofNat_of_zero_le hneg
            rw [hz]
            have hzl : z < F.op.length := by omega
            have ho2 := Nat.or_lt_two_pow Hb.out (Nat.pow_lt_pow_right (by omega) hzl : 2 ^ z < 2 ^ F.op.length)
            have ha7 : 2 ^ z < 2 ^ 7 := Nat.pow_lt_pow_right (by omega) (by omega)
            have hsh := u64_one_shl (z : Int) (by omega) (by omega)
            rw [Int.toNat_natCast] at hsh
            have hor := u64_or_nat b (2 ^ z) (by omega) (by omega)
            have HP := Lib.hid (bits_put (b := b) hzl)
            have HO2 := Lib.hid ho2
            have HZ := Lib.hid hz
            clear ho2 hz hneg hnl
            generalize 2 ^ z = pa at *
            clear q_d0 q_d1
            have q_d0 := hkb.get d0
            have q_d1 := hkb.get d1
            have tok1 : True := trivial
            go_wp2_with fail
            go_region_held3? (fun w' => w'.cell? ⟨w.heap.size, 0, none⟩ = some (.slice A F.op.length c) ∧ w'.cell? ⟨w.heap.size, 1, none⟩ = some (.slice B F.di.length d) ∧ Kp wb w')
              (first | (refine keepc2 d0 d1 ?_; exact (by repeat (first | with_reducible assumption | with_reducible exact Kp.refl _ | with_reducible refine Kp.drew ?_ | with_reducible refine Kp.alloc ?_ _ | with_reducible refine Kp.drewN ?_ _ | refine Kp.setCell ?_ (by dsimp only; omega) _))) | fail)
              (first
                | (have _t := tok1; refine step_app_all (by rfl) (.tmp 52) (.tmp 54) (by rfl) wb.heap.size _ out [(z : Int)] (some ⟨wr.heap.size, 0, none⟩) 1 1 (by rfl) (by rfl) ((hown2.kp ((Kp.refl _).alloc _)).drew) ((one_new _ _).kp (Kp.refl _).drew) rfl (Nat.le_trans hkb.le (by simp)) (by simp; omega) ?_; intro v' w' ho' ht' _; have hk4 : Kp wb w' := ((hown2.kp ((Kp.refl _).alloc _)).drew).kp_turn (by repeat (first | with_reducible assumption | with_reducible exact Kp.refl _ | with_reducible refine Kp.drew ?_ | with_reducible refine Kp.alloc ?_ _ | with_reducible refine Kp.drewN ?_ _ | refine Kp.setCell ?_ (by dsimp only; omega) _)) (Nat.le_refl _) ht'; have tok2 : True := trivial; clear tok1 _t)
                | fail)
            obtain ⟨A7, c7, e7⟩ := ho'.shape
            rw [show (out ++ [(z : Int)]).length = out.length + 1 from by simp] at e7
            subst e7
            go_wp2_with fail
            go_roundw
            case rel =>
              refine ⟨_, b ||| pa, ho', by simp; omega, by go_num, HO2.out, ?_, hk4⟩
              show grd F worth may (K - (out ++ [(z : Int)]).length) _ _ = _
              rw [HP.out, ← HR.out, show K - out.length = K - (out.length + 1) + 1 from by omega, Hgo.out, HZ.out]; simp
            case measure => simp [sLen]; omega
    · have hst : Hid (grd F worth may (K - out.length) out (bitsL F.op.length b) = out) := by show grd F worth may (K - out.length) out _ = out; rw [show K - out.length = 0 from by omega]; rfl
      have q_d0 := hkb.get d0
      have q_d1 := hkb.get d1
      go_wp2_with fail
      go_ret
      exact ⟨_, rfl, by rw [← HR.out, hst.out]; exact hown.mono hkw.le, hkw.trans hkb⟩
end Go.Proofs.YtgfbjgdofhcmaaaGreat

namespace Go.Proofs.YtgfbjgdofhcmaaaGreat
open Go.RowKit Go.Sort

def grdOk (F : Fld) (worth k : Int) : Bool := goodF F && worthB worth && inB k 0 7
def grdL (F : Fld) (worth k : Int) : List Int := if grdOk F worth k = true then grd F worth anyS k.toNat [] [] else []
theorem grdL_yes {F : Fld} {worth k : Int} (h : grdOk F worth k = true) : grdL F worth k = grd F worth anyS k.toNat [] [] := if_pos h
theorem grdL_no {F : Fld} {worth k : Int} (h : grdOk F worth k = false) : grdL F worth k = [] := if_neg (by simp [h])
theorem grdOk_parts {F : Fld} {worth k : Int} (h : grdOk F worth k = true) : goodF F = true ∧ (0 ≤ worth ∧ worth ≤ 999) ∧ 0 ≤ k ∧ k ≤ 7 := by
  simp only [grdOk, Bool.and_eq_true, worthB, inB_iff] at h
  exact ⟨h.1.1, h.1.2, h.2⟩
theorem grdL_len (F : Fld) (worth k : Int) : (grdL F worth k).length ≤ 1048576 := by
  by_cases h : grdOk F worth k = true
  · rw [grdL_yes h]
    have h1 := grd_len (F := F) (worth := worth) (may := anyS) k.toNat [] []
    have h2 := (grdOk_parts h).2.2
    simp at h1; omega
  · rw [grdL_no (by simpa using h)]; simp
theorem any_may (F : Fld) (w : World) : May F 25 #[] anyS w := by
  refine ⟨callFunc_of Tryz.func25 (by kernel_rfl) (by kernel_rfl), fun S Av cv w' _ _ _ => ?_⟩
  go_enter Tryz.func25, Tryz.ntmps25
  go_wp2_with fail
  go_ret
  exact ⟨rfl, Kp.refl _⟩
set_option maxRecDepth 100000 in
set_option maxHeartbeats 400000 in
theorem specGreedy_any (f : Value) (F : Fld) (worth k : Int) (w : World) (hf : FldAt w f F) :
    Calls Tryz.prog 7 #[f, .int .i64 worth, .int .i64 k] w fun e w' => ∃ v, e = .returned (.tuple #[v, .bool (grdOk F worth k)]) ∧ Own w' w.heap.size v (grdL F worth k) ∧ Kp w w' := by
  obtain ⟨A, c, B, d, rfl, hA, hB⟩ := hf
  have hk0 : Kp w (w.alloc (.cells #[.slice A F.op.length c, .slice B F.di.length d] 27)) := (Kp.refl w).alloc _
  obtain ⟨d0, d1⟩ := box2 w (.slice A F.op.length c) (.slice B F.di.length d) 27
  have hFA := FldAt.kp (show FldAt w (.agg #[.slice A F.op.length c, .slice B F.di.length d]) F from ⟨A, c, B, d, rfl, hA, hB⟩) hk0
  clear hA hB
  go_enter Tryz.func7, Tryz.ntmps7
  go_wp2_with fail
  have hsz : Hid ((w.alloc (.cells #[.slice A F.op.length c, .slice B F.di.length d] 27)).heap.size = w.heap.size + 1) := by show _ = _; simp
  generalize w.alloc (.cells #[.slice A F.op.length c, .slice B F.di.length d] 27) = wb at *
  have hkb : Kp wb wb := Kp.refl _
  have hkw := hk0
  have CC := Lib.hid (l8Good_any _ F worth _ (hFA.kp hkb))
  with_reducible refine Calls.mono CC.out ?_
  rintro e w1 ⟨rfl, hk1⟩
  clear CC
  replace hkb := hkb.trans hk1
  cases hg_ : (goodF F && worthB worth)
  · have Hno : Hid (grdOk F worth k = false) := by show grdOk F worth k = false; rw [grdOk, hg_]; rfl
    clear hg_
    have q_d0 := hkb.get d0
    have q_d1 := hkb.get d1
    go_wp2_with fail
    have ho := (own_new0 w1 w.heap.size (Nat.le_trans hkw.le hkb.le))
    go_ret2
    exact ⟨_, by rw [Hno.out]; rfl, by rw [grdL_no Hno.out]; exact ho, (hkw.trans hkb).alloc _⟩
  have Hg := Lib.hid hg_; clear hg_
  have q_d0 := hkb.get d0
  have q_d1 := hkb.get d1
  go_wp2_with fail
  with_reducible refine Calls.mono (l8K_any k _) ?_
  rintro e w2 ⟨rfl, hw⟩
  obtain rfl := hw
  clear q_d0 q_d1
  cases hg_ : inB k 0 7
  · have Hno : Hid (grdOk F worth k = false) := by show grdOk F worth k = false; rw [grdOk, Hg.out, hg_]; rfl
    clear hg_
    have q_d0 := hkb.get d0
    have q_d1 := hkb.get d1
    go_wp2_with fail
    have ho := (own_new0 w1 w.heap.size (Nat.le_trans hkw.le hkb.le))
    go_ret2
    exact ⟨_, by rw [Hno.out]; rfl, by rw [grdL_no Hno.out]; exact ho, (hkw.trans hkb).alloc _⟩
  have Hok : Hid (grdOk F worth k = true) := by show grdOk F worth k = true; rw [grdOk, Hg.out, hg_]; rfl
  clear hg_
  have HP := Lib.hid (grdOk_parts Hok.out)
  have hk0' := HP.out.2.2.1
  have hk7 := HP.out.2.2.2
  obtain ⟨K, rfl⟩ := Int.eq_ofNat_of_zero_le hk0'
  have q_d0 := hkb.get d0
  have q_d1 := hkb.get d1
  go_wp2_with fail
  have CC := Lib.hid (l8Greedy_any _ F worth K _ (hFA.kp hkb) HP.out.1 (by omega) HP.out.2.1.1 HP.out.2.1.2)
  with_reducible refine Calls.mono CC.out ?_
  rintro e w3 ⟨v, rfl, ho, hk3⟩
  clear CC q_d0 q_d1
  replace hkb := hkb.trans hk3
  have q_d0 := hkb.get d0
  have q_d1 := hkb.get d1
  go_wp2_with fail
  go_ret2
  exact ⟨_, by rw [Hok.out]; rfl, by rw [grdL_yes Hok.out]; exact ho.mono (Nat.le_trans hkw.le hk1.le), hkw.trans hkb⟩
set_option maxRecDepth 100000 in
set_option maxHeartbeats 400000 in
theorem implGreedy_any (f : Value) (F : Fld) (worth k : Int) (w : World) (hf : FldAt w f F) :
    Calls Tryz.prog 6 #[f, .int .i64 worth, .int .i64 k] w fun e w' => ∃ v, e = .returned (.tuple #[v, .bool (grdOk F worth k)]) ∧ Own w' w.heap.size v (grdL F worth k) ∧ Kp w w' := by
  obtain ⟨A, c, B, d, rfl, hA, hB⟩ := hf
  have hk0 : Kp w (w.alloc (.cells #[.slice A F.op.length c, .slice B F.di.length d] 27)) := (Kp.refl w).alloc _
  obtain ⟨d0, d1⟩ := box2 w (.slice A F.op.length c) (.slice B F.di.length d) 27
  have hFA := FldAt.kp (show FldAt w (.agg #[.slice A F.op.length c, .slice B F.di.length d]) F from ⟨A, c, B, d, rfl, hA, hB⟩) hk0
  clear hA hB
  go_enter Tryz.func6, Tryz.ntmps6
  go_wp2_with fail
  have hsz : Hid ((w.alloc (.cells #[.slice A F.op.length c, .slice B F.di.length d] 27)).heap.size = w.heap.size + 1) := by show _ = _; simp
  generalize w.alloc (.cells #[.slice A F.op.length c, .slice B F.di.length d] 27) = wb at *
  have hkb : Kp wb wb := Kp.refl _
  have hkw := hk0
  have CC := Lib.hid (isWorth_any _ F worth none [] 0 0 _ (hFA.kp hkb) (IntsAt.nil _ none) rfl)
  with_reducible refine Calls.mono CC.out ?_
  rintro e w1 ⟨rfl, hk1⟩
  clear CC
  replace hkb := hkb.trans hk1
  have hgo : gainOk F worth [] = (goodF F && worthB worth) := by simp [gainOk, setB, risB]
  rw [hgo]
  clear hgo
  cases hg_ : (goodF F && worthB worth)
  · have Hno : Hid (grdOk F worth k = false) := by show grdOk F worth k = false; rw [grdOk, hg_]; rfl
    clear hg_
    have q_d0 := hkb.get d0
    have q_d1 := hkb.get d1
    go_wp2_with fail
    go_ret2
    exact ⟨_, by rw [Hno.out]; rfl, by rw [grdL_no Hno.out]; exact Own.nil _ _, hkw.trans hkb⟩
  have Hg := Lib.hid hg_; clear hg_
  have q_d0 := hkb.get d0
  have q_d1 := hkb.get d1
  go_wp2_with fail
  with_reducible refine Calls.mono (between_any k 0 7 _) ?_
  rintro e w2 ⟨rfl, hw⟩
  obtain rfl := hw
  clear q_d0 q_d1
  cases hg_ : inB k 0 7
  · have Hno : Hid (grdOk F worth k = false) := by show grdOk F worth k = false; rw [grdOk, Hg.out, hg_]; rfl
    clear hg_
    have q_d0 := hkb.get d0
    have q_d1 := hkb.get d1
    go_wp2_with fail
    go_ret2
    exact ⟨_, by rw [Hno.out]; rfl, by rw [grdL_no Hno.out]; exact Own.nil _ _, hkw.trans hkb⟩
  have Hok : Hid (grdOk F worth k = true) := by show grdOk F worth k = true; rw [grdOk, Hg.out, hg_]; rfl
  clear hg_
  have HP := Lib.hid (grdOk_parts Hok.out)
  have hk0' := HP.out.2.2.1
  have hk7 := HP.out.2.2.2
  obtain ⟨K, rfl⟩ := Int.eq_ofNat_of_zero_le hk0'
  have q_d0 := hkb.get d0
  have q_d1 := hkb.get d1
  go_wp2_with fail
  have CC := Lib.hid (greedyGain_any 25 #[] anyS _ F worth K _ (hFA.kp hkb) (any_may F _) HP.out.1 (by omega) HP.out.2.1.1 HP.out.2.1.2)
  with_reducible refine Calls.mono CC.out ?_
  rintro e w3 ⟨v, rfl, ho, hk3⟩
  clear CC q_d0 q_d1
  replace hkb := hkb.trans hk3
  have q_d0 := hkb.get d0
  have q_d1 := hkb.get d1
  go_wp2_with fail
  go_ret2
  exact ⟨_, by rw [Hok.out]; rfl, by rw [grdL_yes Hok.out]; exact ho.mono (Nat.le_trans hkw.le hk1.le), hkw.trans hkb⟩
end Go.Proofs.YtgfbjgdofhcmaaaGreat
