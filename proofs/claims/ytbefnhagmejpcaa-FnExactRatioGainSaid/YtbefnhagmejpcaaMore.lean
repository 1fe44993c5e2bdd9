/- What a site adds, as the reference and the program tell it. No condition. -/
import Derived.Test.YtbefnhagmejpcaaPut3
import Derived.Test.YtbefnhagmejpcaaKeep
import Derived.Test.YtbefnhagmejpcaaBits
import Derived.IntWalk
namespace Go.Proofs.Ytbefnhagmejpcaa
open Go.RowKit Go.Sort

set_option maxRecDepth 100000 in
set_option maxHeartbeats 400000 in
theorem l8More_any (f : Value) (F : Fld) (worth : Int) (A0 : Option Addr) (S : List Int) (n c0 : Nat) (a : Int) (w : World) (hf : FldAt w f F) (hS : IntsAt w A0 S) (hn : S.length = n) (hc : n ≤ c0) (hg : goodF F = true) (hs : setB F S = true) (hw0 : 0 ≤ worth) (hw1 : worth ≤ 999) (ha0 : 0 ≤ a) (ha1 : a < F.op.length) :
    Calls Try.prog 84 #[f, .int .i64 worth, .slice A0 n c0, .int .i64 a] w fun e w' => e = .returned (.int .i64 (moreF F worth S a)) ∧ Kp w w' := by
  obtain ⟨A, c, B, d, rfl, hA, hB⟩ := hf
  have hk0 : Kp w (w.alloc (.cells #[.slice A F.op.length c, .slice B F.di.length d] 29)) := (Kp.refl w).alloc _
  obtain ⟨d0, d1⟩ := box2 w (.slice A F.op.length c) (.slice B F.di.length d) 29
  have hFA := FldAt.kp (show FldAt w (.agg #[.slice A F.op.length c, .slice B F.di.length d]) F from ⟨A, c, B, d, rfl, hA, hB⟩) hk0
  have hS0 := hS.kp hk0
  have hsp := setB_put hs ha0 ha1
  have h7 := (goodF_iff.1 hg).1.2
  have hl7 := setB_len hs
  have CP := Lib.hid (fun (wx : World) (hx : Kp _ wx) => l1Put_any A0 S n c0 a wx (hS0.kp hx) hn (ris_iff.1 hs).1 hc (by omega))
  have CG := Lib.hid (fun (wx : World) (hx : Kp _ wx) (Av : Option Addr) (cv : Nat) (hv : IntsAt wx Av (putL S a)) => l8Gain_any _ F worth Av (putL S a) (putL S a).length cv wx (hFA.kp hx) hv rfl hg hsp hw0 hw1)
  have CS := Lib.hid (fun (wx : World) (hx : Kp _ wx) => l8Gain_any _ F worth A0 S n c0 wx (hFA.kp hx) (hS0.kp hx) hn hg hs hw0 hw1)
  obtain ⟨b1, b2⟩ := gainF_bd hg hw0 hw1 S
  obtain ⟨b3, b4⟩ := gainF_bd hg hw0 hw1 (putL S a)
  clear hsp hS hg hs hS0 hA hB hn hc hl7 h7
  go_enter Try.func84, Try.ntmps84
  go_wp2_with fail
  have hsz : Hid ((w.alloc (.cells #[.slice A F.op.length c, .slice B F.di.length d] 29)).heap.size = w.heap.size + 1) := by show _ = _; simp
  generalize w.alloc (.cells #[.slice A F.op.length c, .slice B F.di.length d] 29) = wb at *
  have hkb : Kp wb wb := Kp.refl _
  have hkw := hk0
  have q_d0 := hkb.get d0
  have q_d1 := hkb.get d1
  have tok1 : True := trivial
  go_wp2_with fail
  go_region_held3 (fun w' => w'.cell? ⟨w.heap.size, 0, none⟩ = some (.slice A F.op.length c) ∧ w'.cell? ⟨w.heap.size, 1, none⟩ = some (.slice B F.di.length d) ∧ Kp wb w')
    (first | (refine keepc2 d0 d1 ?_; exact (by repeat (first | with_reducible assumption | with_reducible exact Kp.refl _ | with_reducible refine Kp.drew ?_ | with_reducible refine Kp.alloc ?_ _ | with_reducible refine Kp.drewN ?_ _))) | fail)
    (first
      | (have _t := tok1; go_at_call 61; with_reducible refine Calls.mono (CP.out _ (by repeat (first | with_reducible assumption | with_reducible exact Kp.refl _ | with_reducible refine Kp.drew ?_ | with_reducible refine Kp.alloc ?_ _ | with_reducible refine Kp.drewN ?_ _))) ?_; rintro e wr1 ⟨Av, cv, rfl, hcv, hiv, hka⟩; have hr1 : Kp wb wr1 := Kp.trans (by repeat (first | with_reducible assumption | with_reducible exact Kp.refl _ | with_reducible refine Kp.drew ?_ | with_reducible refine Kp.alloc ?_ _ | with_reducible refine Kp.drewN ?_ _)) hka; have tok2 : True := trivial; clear tok1 _t)
      | (have _t := tok2; go_at_call 34; with_reducible refine Calls.mono (CG.out _ (by repeat (first | with_reducible assumption | with_reducible exact Kp.refl _ | with_reducible refine Kp.drew ?_ | with_reducible refine Kp.alloc ?_ _ | with_reducible refine Kp.drewN ?_ _)) _ _ hiv) ?_; rintro e wr2 ⟨rfl, hka⟩; have hr2 : Kp wb wr2 := Kp.trans (by repeat (first | with_reducible assumption | with_reducible exact Kp.refl _ | with_reducible refine Kp.drew ?_ | with_reducible refine Kp.alloc ?_ _ | with_reducible refine Kp.drewN ?_ _)) hka; have tok3 : True := trivial; clear tok2 _t)
      | (have _t := tok3; go_at_call 34; with_reducible refine Calls.mono (CS.out _ (by repeat (first | with_reducible assumption | with_reducible exact Kp.refl _ | with_reducible refine Kp.drew ?_ | with_reducible refine Kp.alloc ?_ _ | with_reducible refine Kp.drewN ?_ _))) ?_; rintro e wr3 ⟨rfl, hka⟩; have hr3 : Kp wb wr3 := Kp.trans (by repeat (first | with_reducible assumption | with_reducible exact Kp.refl _ | with_reducible refine Kp.drew ?_ | with_reducible refine Kp.alloc ?_ _ | with_reducible refine Kp.drewN ?_ _)) hka; have tok4 : True := trivial; clear tok3 _t)
      | fail)
  go_wp2_with fail
  go_ret
  exact ⟨ret_int (by rw [IntWalk.i64_in _ (by omega)]; rfl), hkw.trans hr3⟩

theorem bagN_bits {n b : Nat} (h : b < 2 ^ n) : bagN (bitsL n b) = b := by
  apply Nat.eq_of_testBit_eq
  intro i
  rw [bagN_bit (fun y hy => (mem_bitsL.1 hy).1)]
  by_cases hi : i < n
  · rw [Bool.eq_iff_iff, decide_eq_true_eq, mem_bitsL]
    constructor
    · rintro ⟨_, _, h⟩; simpa using h
    · intro h; exact ⟨by omega, by omega, by simpa using h⟩
  · rw [Nat.testBit_lt_two_pow (Nat.lt_of_lt_of_le h (Nat.pow_le_pow_right (by omega) (by omega)))]
    rw [decide_eq_false]
    intro hm
    have := (mem_bitsL.1 hm).2.1
    omega
set_option maxRecDepth 100000 in
set_option maxHeartbeats 400000 in
theorem marginal_any (f : Value) (F : Fld) (worth : Int) (b a : Nat) (w : World) (hf : FldAt w f F) (hg : goodF F = true) (hb : b < 2 ^ F.op.length) (hw0 : 0 ≤ worth) (hw1 : worth ≤ 999) (ha1 : a < F.op.length) :
    Calls Try.prog 52 #[f, .int .i64 worth, .int .u64 b, .int .i64 a] w fun e w' => e = .returned (.int .i64 (moreF F worth (bitsL F.op.length b) a)) ∧ Kp w w' := by
  obtain ⟨A, c, B, d, rfl, hA, hB⟩ := hf
  have hk0 : Kp w (w.alloc (.cells #[.slice A F.op.length c, .slice B F.di.length d] 29)) := (Kp.refl w).alloc _
  obtain ⟨d0, d1⟩ := box2 w (.slice A F.op.length c) (.slice B F.di.length d) 29
  have hFA := FldAt.kp (show FldAt w (.agg #[.slice A F.op.length c, .slice B F.di.length d]) F from ⟨A, c, B, d, rfl, hA, hB⟩) hk0
  have h7 := (goodF_iff.1 hg).1.2
  have hb7 : b < 2 ^ 7 := Nat.lt_of_lt_of_le hb (Nat.pow_le_pow_right (by omega) h7)
  have h2a : 2 ^ a < 2 ^ F.op.length := Nat.pow_lt_pow_right (by omega) ha1
  have ho := Nat.or_lt_two_pow hb h2a
  have ha7 : 2 ^ a < 2 ^ 7 := Nat.pow_lt_pow_right (by omega) (by omega)
  have hsh := u64_one_shl (a : Int) (by omega) (by omega)
  rw [Int.toNat_natCast] at hsh
  have hor := u64_or_nat b (2 ^ a) (by omega) (by omega)
  have C1 := Lib.hid (fun (wx : World) => list_any (b ||| 2 ^ a) F.op.length wx ho (by omega))
  have C3 := Lib.hid (fun (wx : World) => list_any b F.op.length wx hb (by omega))
  have hs1 : setB F (bitsL F.op.length (b ||| 2 ^ a)) = true := bitsL_set _
  have hs3 : setB F (bitsL F.op.length b) = true := bitsL_set _
  have hl1 := bitsL_len F.op.length (b ||| 2 ^ a)
  have hl3 := bitsL_len F.op.length b
  have C2 := Lib.hid (fun (wx : World) (hx : Kp _ wx) (Av : Option Addr) (cv : Nat) (hv : IntsAt wx Av (bitsL F.op.length (b ||| 2 ^ a))) => gain_any _ F worth Av _ _ cv wx (hFA.kp hx) hv rfl hg hs1 hw0 hw1)
  have C4 := Lib.hid (fun (wx : World) (hx : Kp _ wx) (Av : Option Addr) (cv : Nat) (hv : IntsAt wx Av (bitsL F.op.length b)) => gain_any _ F worth Av _ _ cv wx (hFA.kp hx) hv rfl hg hs3 hw0 hw1)
  have hm := Lib.hid (show gainF F worth (bitsL F.op.length (b ||| 2 ^ a)) - gainF F worth (bitsL F.op.length b) = moreF F worth (bitsL F.op.length b) a from by rw [bits_put ha1]; rfl)
  obtain ⟨b1, b2⟩ := gainF_bd hg hw0 hw1 (bitsL F.op.length (b ||| 2 ^ a))
  obtain ⟨b3, b4⟩ := gainF_bd hg hw0 hw1 (bitsL F.op.length b)
  clear hs1 hs3 hg hA hB ho hb h2a
  generalize 2 ^ a = pa at *
  go_enter Try.func52, Try.ntmps52
  go_wp2_with fail
  have hsz : Hid ((w.alloc (.cells #[.slice A F.op.length c, .slice B F.di.length d] 29)).heap.size = w.heap.size + 1) := by show _ = _; simp
  generalize w.alloc (.cells #[.slice A F.op.length c, .slice B F.di.length d] 29) = wb at *
  have hkb : Kp wb wb := Kp.refl _
  have hkw := hk0
  have q_d0 := hkb.get d0
  have q_d1 := hkb.get d1
  have tok1 : True := trivial
  go_wp2_with fail
  go_region_held3 (fun w' => w'.cell? ⟨w.heap.size, 0, none⟩ = some (.slice A F.op.length c) ∧ w'.cell? ⟨w.heap.size, 1, none⟩ = some (.slice B F.di.length d) ∧ Kp wb w')
    (first | (refine keepc2 d0 d1 ?_; exact (by repeat (first | with_reducible assumption | with_reducible exact Kp.refl _ | with_reducible refine Kp.drew ?_ | with_reducible refine Kp.alloc ?_ _ | with_reducible refine Kp.drewN ?_ _))) | fail)
    (first
      | (have _t := tok1; go_at_call 54; with_reducible refine Calls.mono (C1.out _) ?_; rintro e wr1 ⟨v1, rfl, hov, hka⟩; have hr1 : Kp wb wr1 := Kp.trans (by repeat (first | with_reducible assumption | with_reducible exact Kp.refl _ | with_reducible refine Kp.drew ?_ | with_reducible refine Kp.alloc ?_ _ | with_reducible refine Kp.drewN ?_ _)) hka; obtain ⟨Av, cv, hve, hiv⟩ := hov.ints (by omega); subst hve; have tok2 : True := trivial; clear tok1 _t)
      | (have _t := tok2; go_at_call 56; with_reducible refine Calls.mono (C2.out _ (by repeat (first | with_reducible assumption | with_reducible exact Kp.refl _ | with_reducible refine Kp.drew ?_ | with_reducible refine Kp.alloc ?_ _ | with_reducible refine Kp.drewN ?_ _)) _ _ hiv) ?_; rintro e wr2 ⟨rfl, hka⟩; have hr2 : Kp wb wr2 := Kp.trans (by repeat (first | with_reducible assumption | with_reducible exact Kp.refl _ | with_reducible refine Kp.drew ?_ | with_reducible refine Kp.alloc ?_ _ | with_reducible refine Kp.drewN ?_ _)) hka; have tok3 : True := trivial; clear tok2 _t)
      | (have _t := tok3; go_at_call 54; with_reducible refine Calls.mono (C3.out _) ?_; rintro e wr3 ⟨v3, rfl, hov3, hka⟩; have hr3 : Kp wb wr3 := Kp.trans (by repeat (first | with_reducible assumption | with_reducible exact Kp.refl _ | with_reducible refine Kp.drew ?_ | with_reducible refine Kp.alloc ?_ _ | with_reducible refine Kp.drewN ?_ _)) hka; obtain ⟨Aw, cw, hwe, hiw⟩ := hov3.ints (by omega); subst hwe; have tok4 : True := trivial; clear tok3 _t)
      | (have _t := tok4; go_at_call 56; with_reducible refine Calls.mono (C4.out _ (by repeat (first | with_reducible assumption | with_reducible exact Kp.refl _ | with_reducible refine Kp.drew ?_ | with_reducible refine Kp.alloc ?_ _ | with_reducible refine Kp.drewN ?_ _)) _ _ hiw) ?_; rintro e wr4 ⟨rfl, hka⟩; have hr4 : Kp wb wr4 := Kp.trans (by repeat (first | with_reducible assumption | with_reducible exact Kp.refl _ | with_reducible refine Kp.drew ?_ | with_reducible refine Kp.alloc ?_ _ | with_reducible refine Kp.drewN ?_ _)) hka; have tok5 : True := trivial; clear tok4 _t)
      | fail)
  go_wp2_with fail
  go_ret
  exact ⟨ret_int (by rw [IntWalk.i64_in _ (by omega)]; exact hm.out), hkw.trans hr4⟩
end Go.Proofs.Ytbefnhagmejpcaa
