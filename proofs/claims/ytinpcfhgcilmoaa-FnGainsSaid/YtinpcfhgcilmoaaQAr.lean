/- FnGains: the walk of the law. No condition. -/
import Derived.Test.YtinpcfhgcilmoaaQAb
import Derived.Test.YtinpcfhgcilmoaaQAo
import Derived.Test.YtinpcfhgcilmoaaQAq
namespace Go.Proofs.Ytinpcfhgcilmoaa
open Go.ChangeShapes Go.WideShapes Go.ChangeAt Go.RowKit Go.Sort

theorem DFld.open {w : World} {b : Nat} {v : Value} (h : DFld w b v) : ∃ F A c B d, v = .agg #[.slice A F.op.length c, .slice B F.di.length d] ∧ FldAt w v F := by
  obtain ⟨F, hf⟩ := h
  have hfa := hf.fld
  obtain ⟨A, c, B, d, e, _⟩ := hf
  exact ⟨F, A, c, B, d, e, hfa⟩
theorem Own.open {w : World} {base : Nat} {v : Value} {xs : List Int} (h : Own w base v xs) (hl : xs.length ≤ 1048576) : ∃ A c, v = .slice A xs.length c ∧ IntsAt w A xs := h.ints (by omega)
set_option maxRecDepth 100000 in
set_option maxHeartbeats 8000000 in
theorem gn_law (A : Option Addr) (n c : Nat) (w : World) (hb : BytesAt w A n) :
    Calls Try.prog 3 #[.slice A n c] w fun e w' => e = .returned (.bool true) ∧ Kp w w' := by
  have CB := Lib.hid (rBig_any A n c w)
  by_cases hbig : 65536 < n
  · have hd : decide (65536 < (n : Int)) = true := decide_eq_true (by omega)
    rw [hd] at CB
    go_enter Try.func3, Try.ntmps3
    go_wp2_with fail
    with_reducible refine Calls.mono CB.out ?_
    rintro e w1 ⟨rfl, rfl⟩
    go_wp2_with fail
    go_ret
    exact ⟨rfl, Kp.refl _⟩
  have hd : decide (65536 < (n : Int)) = false := decide_eq_false (by omega)
  rw [hd] at CB
  have CG := Lib.hid (drawGainTable_any A n c w hb)
  go_enter Try.func3, Try.ntmps3
  go_wp2_with fail
  with_reducible refine Calls.mono CB.out ?_
  rintro e w1 ⟨rfl, rfl⟩
  clear CB hd
  go_wp2_with fail
  with_reducible refine Calls.mono CG.out ?_
  rintro e w1 ⟨v, r1, rfl, hv, k1⟩
  clear CG
  obtain ⟨F1, A1, c1, B1, d1, rfl, hf1⟩ := hv.open
  have kv : Kp w1 (w1.alloc (.cells #[.slice A1 F1.op.length c1, .slice B1 F1.di.length d1] 27)) := (Kp.refl w1).alloc _
  obtain ⟨x0, x1⟩ := box2 w1 (.slice A1 F1.op.length c1) (.slice B1 F1.di.length d1) 27
  have hfv := hf1.kp kv
  have K0 := k1.trans kv
  clear hv hf1 k1 kv
  go_wp2_with fail
  generalize w1.alloc (.cells #[.slice A1 F1.op.length c1, .slice B1 F1.di.length d1] 27) = wv at *
  generalize w1.heap.size = b3 at *
  have CC := Lib.hid (implTab_any _ F1 r1 wv hfv)
  with_reducible refine Calls.mono CC.out ?_
  rintro e w2 ⟨v2, rfl, ho2, k2⟩
  clear CC
  have K := k2
  have Hlt := Lib.hid (tabL_len F1 r1)
  have q0 := K.get x0
  have q1 := K.get x1
  have n1 : ((tabOk F1 r1) != (tabOk F1 r1)) = false := by simp
  go_wp2_with fail
  have CC := Lib.hid (specTab_any _ F1 r1 w2 (hfv.kp K))
  with_reducible refine Calls.mono CC.out ?_
  rintro e w3 ⟨v3, rfl, ho3, k3⟩
  clear CC q0 q1
  replace K := K.trans k3
  obtain ⟨A2, c2, hv2, hi2⟩ := (ho2.kp k3).open Hlt.out
  obtain ⟨A3, c3, hv3, hi3⟩ := ho3.open Hlt.out
  obtain ⟨L1, hL1⟩ : ∃ l, (tabL F1 r1).length = l := ⟨_, rfl⟩
  rw [hL1] at hv2 hv3
  subst hv2
  subst hv3
  have HL1 := Lib.hid hL1
  clear ho2 ho3 k2 k3 hL1
  go_wp2_with fail
  have CC := Lib.hid (rInts_same A2 A3 (tabL F1 r1) L1 c2 c3 w3 hi2 hi3 HL1.out)
  with_reducible refine Calls.mono CC.out ?_
  rintro e w4 ⟨rfl, k4⟩
  clear CC n1 hi3
  replace K := K.trans k4
  replace hi2 := hi2.kp k4
  have hb4 := (hb.kp K0).kp K
  go_wp2_with fail
  have CC := Lib.hid (drawIsSubmodular_any A n c w4 hb4)
  with_reducible refine Calls.mono CC.out ?_
  rintro e w5 ⟨a5, l5, rfl, hl5, k5⟩
  clear CC hb4
  replace K := K.trans k5
  replace hi2 := hi2.kp k5
  obtain ⟨A5, c5, xs5, rfl, hi5, hn5, _⟩ := hl5.ints
  obtain ⟨L5, HL5⟩ : ∃ l, Hid (xs5.length = l) := ⟨_, Lib.hid rfl⟩
  rw [HL5.out]
  clear hl5 k5
  go_wp2_with fail
  have CC := Lib.hid (implSub_any A5 xs5 L5 c5 a5 w5 hi5 HL5.out)
  with_reducible refine Calls.mono CC.out ?_
  rintro e w6 ⟨rfl, k6⟩
  clear CC
  replace K := K.trans k6
  replace hi5 := hi5.kp k6
  replace hi2 := hi2.kp k6
  clear k6
  go_wp2_with fail
  have CC := Lib.hid (specSub_any A5 xs5 L5 c5 a5 w6 hi5 HL5.out)
  with_reducible refine Calls.mono CC.out ?_
  rintro e w7 ⟨rfl, k7⟩
  clear CC
  replace K := K.trans k7
  replace hi5 := hi5.kp k7
  replace hi2 := hi2.kp k7
  clear k7
  obtain ⟨t5, Ht5⟩ : ∃ b, Hid (isTab a5 xs5 = b) := ⟨_, Lib.hid rfl⟩
  obtain ⟨s5, Hs5⟩ : ∃ b, Hid ((isTab a5 xs5 && subB xs5) = b) := ⟨_, Lib.hid rfl⟩
  obtain ⟨m5, Hm5⟩ : ∃ b, Hid ((isTab a5 xs5 && monoB xs5) = b) := ⟨_, Lib.hid rfl⟩
  rw [Hs5.out, Ht5.out]
  have n2 : (t5 != t5) = false := by simp
  have n3 : (s5 != s5) = false := by simp
  have n4 : (m5 != m5) = false := by simp
  go_wp2_with fail
  have CC := Lib.hid (implMono_any A5 xs5 L5 c5 a5 w7 hi5 HL5.out)
  rw [Hm5.out, Ht5.out] at CC
  with_reducible refine Calls.mono CC.out ?_
  rintro e w8 ⟨rfl, k8⟩
  clear CC
  replace K := K.trans k8
  replace hi5 := hi5.kp k8
  replace hi2 := hi2.kp k8
  clear k8
  go_wp2_with fail
  have CC := Lib.hid (specMono_any A5 xs5 L5 c5 a5 w8 hi5 HL5.out)
  rw [Hm5.out, Ht5.out] at CC
  with_reducible refine Calls.mono CC.out ?_
  rintro e w9 ⟨rfl, k9⟩
  clear CC
  replace K := K.trans k9
  replace hi2 := hi2.kp k9
  clear k9 hi5
  have hb9 := (hb.kp K0).kp K
  go_wp2_with fail
  have CC := Lib.hid (drawMarginalGain_any A n c w9 hb9)
  with_reducible refine Calls.mono CC.out ?_
  rintro e w10 ⟨v10, r10, l10, a10, rfl, hv10, hl10, k10⟩
  clear CC hb9 n2 n3 n4 Ht5 Hs5 Hm5
  replace K := K.trans k10
  replace hi2 := hi2.kp k10
  obtain ⟨F2, A10, c10, B10, d10, rfl, hf10⟩ := hv10.open
  obtain ⟨As, cs, S, rfl, hiS, hnS, hcS⟩ := hl10.ints
  obtain ⟨LS, HLS⟩ : ∃ l, Hid (S.length = l) := ⟨_, Lib.hid rfl⟩
  rw [HLS.out] at hcS ⊢
  have kv : Kp w10 (w10.alloc (.cells #[.slice A10 F2.op.length c10, .slice B10 F2.di.length d10] 27)) := (Kp.refl w10).alloc _
  obtain ⟨y0, y1⟩ := box2 w10 (.slice A10 F2.op.length c10) (.slice B10 F2.di.length d10) 27
  have hf2 := hf10.kp kv
  have hS2 := hiS.kp kv
  replace K := K.trans kv
  replace hi2 := hi2.kp kv
  clear hv10 hl10 k10 hf10 hiS kv
  go_wp2_with fail
  generalize w10.alloc (.cells #[.slice A10 F2.op.length c10, .slice B10 F2.di.length d10] 27) = wu at *
  generalize w10.heap.size = b19 at *
  have CC := Lib.hid (implMarg_any _ F2 r10 As S LS cs a10 wu hf2 hS2 HLS.out)
  with_reducible refine Calls.mono CC.out ?_
  rintro e w11 ⟨rfl, k11⟩
  clear CC
  have U := k11
  replace K := K.trans k11
  replace hi2 := hi2.kp k11
  have q0 := U.get y0
  have q1 := U.get y1
  obtain ⟨mo, Hmo⟩ : ∃ b, Hid (margOk F2 r10 S a10 = b) := ⟨_, Lib.hid rfl⟩
  obtain ⟨mr, Hmr⟩ : ∃ b, Hid (margR F2 r10 S a10 = b) := ⟨_, Lib.hid rfl⟩
  rw [Hmo.out, Hmr.out]
  have n2 : (mo != mo) = false := by simp
  have n3 : (mr != mr) = false := by simp
  go_wp2_with fail
  have CC := Lib.hid (specMargC_any _ F2 r10 As S LS cs a10 w11 (hf2.kp U) (hS2.kp U) HLS.out hcS)
  rw [Hmo.out, Hmr.out] at CC
  with_reducible refine Calls.mono CC.out ?_
  rintro e w12 ⟨rfl, k12⟩
  clear CC q0 q1 k11
  replace U := U.trans k12
  replace K := K.trans k12
  replace hi2 := hi2.kp k12
  have q0 := U.get y0
  have q1 := U.get y1
  obtain ⟨go, Hgo⟩ : ∃ b, Hid (gainOk F2 r10 S = b) := ⟨_, Lib.hid rfl⟩
  obtain ⟨gr, Hgr⟩ : ∃ b, Hid (gainR F2 r10 S = b) := ⟨_, Lib.hid rfl⟩
  have n4 : (go != go) = false := by simp
  have n5 : (gr != gr) = false := by simp
  go_wp2_with fail
  have CC := Lib.hid (implGainOf_any _ F2 r10 As S LS cs w12 (hf2.kp U) (hS2.kp U) HLS.out)
  rw [Hgo.out, Hgr.out] at CC
  with_reducible refine Calls.mono CC.out ?_
  rintro e w13 ⟨rfl, k13⟩
  clear CC q0 q1 k12 n2 n3
  replace U := U.trans k13
  replace K := K.trans k13
  replace hi2 := hi2.kp k13
  have q0 := U.get y0
  have q1 := U.get y1
  go_wp2_with fail
  have CC := Lib.hid (specGainOf_any _ F2 r10 As S LS cs w13 (hf2.kp U) (hS2.kp U) HLS.out)
  rw [Hgo.out, Hgr.out] at CC
  with_reducible refine Calls.mono CC.out ?_
  rintro e w14 ⟨rfl, k14⟩
  clear CC q0 q1 k13
  replace U := U.trans k14
  replace K := K.trans k14
  replace hi2 := hi2.kp k14
  clear k14
  have q0 := U.get y0
  have q1 := U.get y1
  cases mo
  · have hb14 := (hb.kp K0).kp K
    have CD := Lib.hid (drawWorthReached_any A n c w14 hb14)
    clear hb14 q0 q1 U hf2 hS2 y0 y1
    go_wp2_with fail
    with_reducible refine Calls.mono CD.out ?_
    rintro e w20 ⟨v20, l20, a20, rfl, hv20, hl20, k20⟩
    clear CD
    replace K := K.trans k20
    replace hi2 := hi2.kp k20
    obtain ⟨F3, A20, c20, B20, d20, rfl, hf20⟩ := hv20.open
    obtain ⟨Ap, cp, P, rfl, hiP, hnP, _⟩ := hl20.ints
    obtain ⟨LP, HLP⟩ : ∃ l, Hid (P.length = l) := ⟨_, Lib.hid rfl⟩
    rw [HLP.out]
    have kv : Kp w20 (w20.alloc (.cells #[.slice A20 F3.op.length c20, .slice B20 F3.di.length d20] 27)) := (Kp.refl w20).alloc _
    obtain ⟨z0, z1⟩ := box2 w20 (.slice A20 F3.op.length c20) (.slice B20 F3.di.length d20) 27
    have hf3 := hf20.kp kv
    have hP3 := hiP.kp kv
    replace K := K.trans kv
    replace hi2 := hi2.kp kv
    clear hv20 hl20 k20 hf20 hiP kv
    go_wp2_with fail
    generalize w20.alloc (.cells #[.slice A20 F3.op.length c20, .slice B20 F3.di.length d20] 27) = wx at *
    generalize w20.heap.size = b33 at *
    have CC := Lib.hid (implWorth_any _ F3 Ap P LP cp a20 wx hf3 hP3 HLP.out)
    with_reducible refine Calls.mono CC.out ?_
    rintro e w21 ⟨rfl, k21⟩
    clear CC
    have X := k21
    replace K := K.trans k21
    replace hi2 := hi2.kp k21
    clear k21
    have u0 := X.get z0
    have u1 := X.get z1
    obtain ⟨wo, Hwo⟩ : ∃ b, Hid (worthOk F3 P a20 = b) := ⟨_, Lib.hid rfl⟩
    obtain ⟨wV, HwV⟩ : ∃ b, Hid (worthV F3 P a20 = b) := ⟨_, Lib.hid rfl⟩
    rw [Hwo.out, HwV.out]
    have n7 : (wo != wo) = false := by simp
    have n8 : (wV != wV) = false := by simp
    go_wp2_with fail
    have CC := Lib.hid (specWorth_any _ F3 Ap P LP cp a20 w21 (hf3.kp X) (hP3.kp X) HLP.out)
    rw [Hwo.out, HwV.out] at CC
    with_reducible refine Calls.mono CC.out ?_
    rintro e w22 ⟨rfl, k22⟩
    clear CC u0 u1
    replace X := X.trans k22
    replace K := K.trans k22
    replace hi2 := hi2.kp k22
    clear k22
    have u0 := X.get z0
    have u1 := X.get z1
    cases wo
    · have qe0 := K.get x0
      have qe1 := K.get x1
      cases hok : tabOk F1 r1
      · go_wp2_with fail
        go_ret
        exact ⟨rfl, K0.trans K⟩
      · have h7 := (goodF_iff.1 (tabOk_parts hok).1).1
        obtain ⟨Pw, HPw, hpw, hPw⟩ := pow_wrap (F1.op.length : Int) (by omega) (by omega)
        rw [Int.toNat_natCast] at hpw HPw
        have hLP : L1 = Pw := by rw [← HL1.out, tab_len hok, HPw.out]
        have hL0 : 0 < (tabL F1 r1).length := by rw [tab_len hok]; exact Nat.two_pow_pos _
        have CQ := Lib.hid (fun (wx : World) (hx : Kp w22 wx) => implSub_any A2 (tabL F1 r1) L1 c2 (F1.op.length : Int) wx (hi2.kp hx) HL1.out)
        have CM := Lib.hid (fun (wx : World) (hx : Kp w22 wx) => implMono_any A2 (tabL F1 r1) L1 c2 (F1.op.length : Int) wx (hi2.kp hx) HL1.out)
        rw [tab_is hok, tab_subB hok] at CQ
        rw [tab_is hok, tab_monoB hok] at CM
        have Ht0 := Lib.hid (tab_get0 hok hL0)
        have hpw2 : wrap64 (2 ^ F1.op.length) = (L1 : Int) := by rw [hpw, hLP]
        have n10 : ((L1 : Int) == (L1 : Int)) = true := by simp
        clear hLP hpw HPw hPw
        go_wp2_with fail
        with_reducible refine Calls.mono (CQ.out _ (Kp.refl _)) ?_
        rintro e w30 ⟨rfl, k30⟩
        replace qe0 := k30.get qe0
        replace qe1 := k30.get qe1
        go_wp2_with fail
        with_reducible refine Calls.mono (CM.out _ k30) ?_
        rintro e w31 ⟨rfl, k31⟩
        replace qe0 := k31.get qe0
        replace qe1 := k31.get qe1
        obtain ⟨at2, rfl, hc0⟩ := ((hi2.kp k30).kp k31).at_ hL0
        rw [Ht0.out] at hc0
        have e00 : at2.add 0 = at2 := by unfold Addr.add; simp
        have hc1 := hc0
        rw [e00] at hc1
        have hLI : (0 : Int) < (L1 : Int) := by have := HL1.out; omega
        go_wp2_with fail
        go_ret
        exact ⟨rfl, (K0.trans K).trans (k30.trans k31)⟩
    · obtain ⟨g1, g2, g3, g4⟩ := worth_gain Hwo.out
      rw [HwV.out] at g1 g2 g3 g4
      have CQ := Lib.hid (implGainOf_any _ F3 wV Ap P LP cp w22 (hf3.kp X) (hP3.kp X) HLP.out)
      rw [g1] at CQ
      obtain ⟨gq, Hgq⟩ : ∃ b, Hid (gainR F3 wV P = b) := ⟨_, Lib.hid rfl⟩
      rw [Hgq.out] at CQ g2
      clear g1
      have n9 : decide (gq < a20) = false := decide_eq_false (by omega)
      go_wp2_with fail
      with_reducible refine Calls.mono CQ.out ?_
      rintro e w23 ⟨rfl, k23⟩
      clear CQ u0 u1
      replace X := X.trans k23
      replace K := K.trans k23
      replace hi2 := hi2.kp k23
      clear k23
      have u0 := X.get z0
      have u1 := X.get z1
      by_cases hpos : 0 < wV
      · obtain ⟨e1, e2⟩ := worth_less Hwo.out (by rw [HwV.out]; exact hpos)
        rw [HwV.out] at e1 e2
        have hw2 : wrap64 (wV - 1) = wV - 1 := IntWalk.wrap64_in _ (by omega)
        have CQ := Lib.hid (implGainOf_any _ F3 (wV - 1) Ap P LP cp w23 (hf3.kp X) (hP3.kp X) HLP.out)
        obtain ⟨gz, Hgz⟩ : ∃ b, Hid (gainR F3 (wV - 1) P = b) := ⟨_, Lib.hid rfl⟩
        rw [e1, Hgz.out] at CQ
        rw [Hgz.out] at e2
        clear e1
        go_wp2_with fail
        with_reducible refine Calls.mono CQ.out ?_
        rintro e w24 ⟨rfl, k24⟩
        clear CQ u0 u1
        replace K := K.trans k24
        replace hi2 := hi2.kp k24
        have qe0 := K.get x0
        have qe1 := K.get x1
        cases hok : tabOk F1 r1
        · go_wp2_with fail
          go_ret
          exact ⟨rfl, K0.trans K⟩
        · have h7 := (goodF_iff.1 (tabOk_parts hok).1).1
          obtain ⟨Pw, HPw, hpw, hPw⟩ := pow_wrap (F1.op.length : Int) (by omega) (by omega)
          rw [Int.toNat_natCast] at hpw HPw
          have hLP : L1 = Pw := by rw [← HL1.out, tab_len hok, HPw.out]
          have hL0 : 0 < (tabL F1 r1).length := by rw [tab_len hok]; exact Nat.two_pow_pos _
          have CQ := Lib.hid (fun (wx : World) (hx : Kp w24 wx) => implSub_any A2 (tabL F1 r1) L1 c2 (F1.op.length : Int) wx (hi2.kp hx) HL1.out)
          have CM := Lib.hid (fun (wx : World) (hx : Kp w24 wx) => implMono_any A2 (tabL F1 r1) L1 c2 (F1.op.length : Int) wx (hi2.kp hx) HL1.out)
          rw [tab_is hok, tab_subB hok] at CQ
          rw [tab_is hok, tab_monoB hok] at CM
          have Ht0 := Lib.hid (tab_get0 hok hL0)
          have hpw2 : wrap64 (2 ^ F1.op.length) = (L1 : Int) := by rw [hpw, hLP]
          have n10 : ((L1 : Int) == (L1 : Int)) = true := by simp
          clear hLP hpw HPw hPw
          go_wp2_with fail
          with_reducible refine Calls.mono (CQ.out _ (Kp.refl _)) ?_
          rintro e w30 ⟨rfl, k30⟩
          replace qe0 := k30.get qe0
          replace qe1 := k30.get qe1
          go_wp2_with fail
          with_reducible refine Calls.mono (CM.out _ k30) ?_
          rintro e w31 ⟨rfl, k31⟩
          replace qe0 := k31.get qe0
          replace qe1 := k31.get qe1
          obtain ⟨at2, rfl, hc0⟩ := ((hi2.kp k30).kp k31).at_ hL0
          rw [Ht0.out] at hc0
          have e00 : at2.add 0 = at2 := by unfold Addr.add; simp
          have hc1 := hc0
          rw [e00] at hc1
          have hLI : (0 : Int) < (L1 : Int) := by have := HL1.out; omega
          go_wp2_with fail
          go_ret
          exact ⟨rfl, (K0.trans K).trans (k30.trans k31)⟩
      · have qe0 := K.get x0
        have qe1 := K.get x1
        cases hok : tabOk F1 r1
        · go_wp2_with fail
          go_ret
          exact ⟨rfl, K0.trans K⟩
        · have h7 := (goodF_iff.1 (tabOk_parts hok).1).1
          obtain ⟨Pw, HPw, hpw, hPw⟩ := pow_wrap (F1.op.length : Int) (by omega) (by omega)
          rw [Int.toNat_natCast] at hpw HPw
          have hLP : L1 = Pw := by rw [← HL1.out, tab_len hok, HPw.out]
          have hL0 : 0 < (tabL F1 r1).length := by rw [tab_len hok]; exact Nat.two_pow_pos _
          have CQ := Lib.hid (fun (wx : World) (hx : Kp w23 wx) => implSub_any A2 (tabL F1 r1) L1 c2 (F1.op.length : Int) wx (hi2.kp hx) HL1.out)
          have CM := Lib.hid (fun (wx : World) (hx : Kp w23 wx) => implMono_any A2 (tabL F1 r1) L1 c2 (F1.op.length : Int) wx (hi2.kp hx) HL1.out)
          rw [tab_is hok, tab_subB hok] at CQ
          rw [tab_is hok, tab_monoB hok] at CM
          have Ht0 := Lib.hid (tab_get0 hok hL0)
          have hpw2 : wrap64 (2 ^ F1.op.length) = (L1 : Int) := by rw [hpw, hLP]
          have n10 : ((L1 : Int) == (L1 : Int)) = true := by simp
          clear hLP hpw HPw hPw
          go_wp2_with fail
          with_reducible refine Calls.mono (CQ.out _ (Kp.refl _)) ?_
          rintro e w30 ⟨rfl, k30⟩
          replace qe0 := k30.get qe0
          replace qe1 := k30.get qe1
          go_wp2_with fail
          with_reducible refine Calls.mono (CM.out _ k30) ?_
          rintro e w31 ⟨rfl, k31⟩
          replace qe0 := k31.get qe0
          replace qe1 := k31.get qe1
          obtain ⟨at2, rfl, hc0⟩ := ((hi2.kp k30).kp k31).at_ hL0
          rw [Ht0.out] at hc0
          have e00 : at2.add 0 = at2 := by unfold Addr.add; simp
          have hc1 := hc0
          rw [e00] at hc1
          have hLI : (0 : Int) < (L1 : Int) := by have := HL1.out; omega
          go_wp2_with fail
          go_ret
          exact ⟨rfl, (K0.trans K).trans (k30.trans k31)⟩
  · obtain ⟨hgp, hsum, hnn, hgo1⟩ := marg_next Hmo.out
    have hgo2 : go = true := by rw [← Hgo.out]; exact hgo1
    subst hgo2
    have hS14 := hS2.kp U
    have hsrt : srtTo ([a10] ++ S) 1002 = putL S a10 := by
      obtain ⟨⟨e1, e2, _, _⟩, e3, e4⟩ := margOk_parts Hmo.out
      have h7 := (goodF_iff.1 e1).1.2
      refine rising_ext (srtTo_sorted _ _) (putL_sorted (ris_iff.1 e2).1 a10) (fun x => ?_)
      rw [mem_srtTo, mem_putL, List.mem_append, List.mem_singleton]
      constructor
      · rintro ⟨h | h, _, _⟩
        · exact .inr h
        · exact .inl h
      · rintro (h | h)
        · have := set_mem e2 x h
          exact ⟨.inr h, by omega, by omega⟩
        · subst h
          exact ⟨.inl rfl, by omega, by omega⟩
    have HSRT := Lib.hid hsrt
    clear hsrt
    have hbds : (0 ≤ gr ∧ gr ≤ 6993) ∧ (0 ≤ mr ∧ mr ≤ 6993) := by
      obtain ⟨⟨e1, e2, e3, e4⟩, e5, e6⟩ := margOk_parts Hmo.out
      have g1 := gainF_bd e1 e3 e4 S
      have g2 := moreF_bd e1 e3 e4 S a10
      have g3 : gr = gainF F2 r10 S := by rw [← Hgr.out]; unfold gainR; rw [if_pos hgo1]
      have g4 : mr = moreF F2 r10 S a10 := by rw [← Hmr.out]; unfold margR; rw [if_pos Hmo.out]
      rw [Hmr.out] at hnn
      omega
    rw [Hgr.out, Hmr.out] at hsum
    have HSUM := Lib.hid hsum
    have HGP := Lib.hid hgp
    clear hsum hgp hgo1 hnn
    have hone := own_oneD w14.drew w14.heap.size a10 (Nat.le_refl _)
    have hka : Kp w14.drew (w14.drew.alloc (.cells #[.int .i64 a10] 3)) := (Kp.refl _).alloc _
    have hSa := hS14.kp ((Kp.refl w14).drew.trans hka)
    have hla : ([a10] : List Int).length + S.length ≤ 4194304 := by simp; omega
    have s0 := (Kp.refl w14).drew.get q0
    have s1 := (Kp.refl w14).drew.get q1
    go_wp2_with fail
    refine wp_region_held_drew (S := fun w' => w'.cell? ⟨b19, 0, none⟩ = some (.slice A10 F2.op.length c10) ∧ w'.cell? ⟨b19, 1, none⟩ = some (.slice B10 F2.di.length d10)) (by kernel_rfl) ⟨s0, s1⟩ (fun hHeld => ?_)
    refine wpAnyH_take (i := 0) (v := ?_) rfl (by kernel_rfl) (by kernel_rfl) (by kernel_rfl) (fun _ _ _ h => h) (Or.inl ⟨by rfl, ?_⟩) (by assumption) ?_
    rotate_left
    · intro w hSw; (try dsimp only at hSw); go_simp <;> with_reducible rfl
    (try simp only [Act.put, List.setIfInBounds_toArray, List.set_cons_zero, List.set_cons_succ])
    refine wpAnyH_take (i := 1) (v := ?_) rfl (by kernel_rfl) (by kernel_rfl) (by kernel_rfl) (fun _ _ _ h => h) (Or.inl ⟨by rfl, ?_⟩) (by assumption) ?_
    rotate_left
    · intro w hSw; (try dsimp only at hSw); go_simp <;> with_reducible rfl
    (try simp only [Act.put, List.setIfInBounds_toArray, List.set_cons_zero, List.set_cons_succ])
    refine wpAnyH_take (i := 2) (v := ?_) rfl (by kernel_rfl) (by kernel_rfl) (by kernel_rfl) (fun _ _ _ h => h) (Or.inl ⟨by rfl, ?_⟩) (by assumption) ?_
    rotate_left
    · intro w hSw; (try dsimp only at hSw); go_simp <;> with_reducible rfl
    (try simp only [Act.put, List.setIfInBounds_toArray, List.set_cons_zero, List.set_cons_succ])
    refine wpAnyH_take (i := 4) (v := ?_) rfl (by kernel_rfl) (by kernel_rfl) (by kernel_rfl) (fun _ _ _ h => h) (Or.inl ⟨by rfl, ?_⟩) (by assumption) ?_
    rotate_left
    · intro w hSw; (try dsimp only at hSw); go_simp <;> with_reducible rfl
    (try simp only [Act.put, List.setIfInBounds_toArray, List.set_cons_zero, List.set_cons_succ])
    refine wpAnyH_ready (rs := [3]) (by kernel_rfl) (by simp) ?_
    refine AllReadyH.cons rfl (fun K hK => ?_) AllReadyH.nil
    go_simp
    refine hK.out _ _ ?_ (fun hHeld => ?_)
    · (try dsimp only); exact ⟨hka.get s0, hka.get s1⟩
    clear hK K
    (try simp only [Act.put, List.setIfInBounds_toArray, List.set_cons_zero, List.set_cons_succ])
    refine wpAnyH_ready (rs := [5]) (by kernel_rfl) (by simp) ?_
    refine AllReadyH.cons rfl (fun K hK => ?_) AllReadyH.nil
    refine step_app_all (by rfl) (.tmp 191) (.tmp 192) (by rfl) w14.heap.size _ [a10] S As LS cs (by rfl) (by rfl) hone hSa HLS.out hka.le hla ?_
    intro v15 w15 ho15 ht15 h415
    have k15 : Kp w14 w15 := ((Kp.refl w14).drew.trans hka).turn ht15 (fun i hi => (hone.lt i hi).1)
    obtain ⟨A15, c15, hv15, hi15⟩ := ho15.ints (by rw [List.length_append]; omega)
    obtain ⟨L15, HL15⟩ : ∃ l, Hid (([a10] ++ S).length = l) := ⟨_, Lib.hid rfl⟩
    rw [HL15.out] at hv15
    subst hv15
    have s0b := k15.get q0
    have s1b := k15.get q1
    refine hK.out _ _ ?_ (fun hHeld => ?_)
    · (try dsimp only); exact ⟨s0b, s1b⟩
    clear hK K
    (try simp only [Act.put, List.setIfInBounds_toArray, List.set_cons_zero, List.set_cons_succ])
    have CS := Lib.hid (rSorted_any A15 ([a10] ++ S) L15 c15 w15 hi15 HL15.out)
    refine wpAnyH_ready (rs := [6]) (by kernel_rfl) (by simp) ?_
    refine AllReadyH.cons rfl (fun K hK => ?_) AllReadyH.nil
    go_simp
    with_reducible refine Calls.mono CS.out ?_
    rintro e w16 ⟨v16, rfl, ho16, k16⟩
    clear CS
    (try go_wp2_with fail)
    rw [HSRT.out] at ho16
    obtain ⟨A16, c16, hv16, hi16⟩ := ho16.ints (by have := putL_len S a10; omega)
    obtain ⟨L16, HL16⟩ : ∃ l, Hid ((putL S a10).length = l) := ⟨_, Lib.hid rfl⟩
    rw [HL16.out] at hv16
    subst hv16
    have s0c := k16.get s0b
    have s1c := k16.get s1b
    refine hK.out _ _ ?_ (fun hHeld => ?_)
    · (try dsimp only); exact ⟨s0c, s1c⟩
    clear hK K
    (try simp only [Act.put, List.setIfInBounds_toArray, List.set_cons_zero, List.set_cons_succ])
    have kU := (U.trans k15).trans k16
    have CQ := Lib.hid (implGainOf_any _ F2 r10 A16 (putL S a10) L16 c16 w16 (hf2.kp kU) hi16 HL16.out)
    rw [HGP.out, HSUM.out] at CQ
    refine wpAnyH_ready (rs := [7]) (by kernel_rfl) (by simp) ?_
    refine AllReadyH.cons rfl (fun K hK => ?_) AllReadyH.nil
    go_simp
    with_reducible refine Calls.mono CQ.out ?_
    rintro e w17 ⟨rfl, k17⟩
    clear CQ
    (try go_wp2_with fail)
    refine hK.out _ _ ?_ (fun hHeld => ?_)
    · (try dsimp only); exact ⟨k17.get s0c, k17.get s1c⟩
    clear hK K
    (try simp only [Act.put, List.setIfInBounds_toArray, List.set_cons_zero, List.set_cons_succ])
    refine wpAnyH_take (i := 8) (v := ?_) rfl (by kernel_rfl) (by kernel_rfl) (by kernel_rfl) (fun _ _ _ h => h) (Or.inl ⟨by rfl, ?_⟩) (by assumption) ?_
    rotate_left
    · intro w hSw; (try dsimp only at hSw); go_simp <;> with_reducible rfl
    (try simp only [Act.put, List.setIfInBounds_toArray, List.set_cons_zero, List.set_cons_succ])
    refine wpAnyH_take (i := 9) (v := ?_) rfl (by kernel_rfl) (by kernel_rfl) (by kernel_rfl) (fun _ _ _ h => h) (Or.inl ⟨by rfl, ?_⟩) (by assumption) ?_
    rotate_left
    · intro w hSw; (try dsimp only at hSw); go_simp <;> with_reducible rfl
    (try simp only [Act.put, List.setIfInBounds_toArray, List.set_cons_zero, List.set_cons_succ])
    refine wpAnyH_take (i := 10) (v := ?_) rfl (by kernel_rfl) (by kernel_rfl) (by kernel_rfl) (fun _ _ _ h => h) (Or.inl ⟨by rfl, ?_⟩) (by assumption) ?_
    rotate_left
    · intro w hSw; (try dsimp only at hSw); go_simp <;> with_reducible rfl
    (try simp only [Act.put, List.setIfInBounds_toArray, List.set_cons_zero, List.set_cons_succ])
    refine wpAnyH_take (i := 11) (v := ?_) rfl (by kernel_rfl) (by kernel_rfl) (by kernel_rfl) (fun _ _ _ h => h) (Or.inl ⟨by rfl, ?_⟩) (by assumption) ?_
    rotate_left
    · intro w hSw; (try dsimp only at hSw); go_simp <;> with_reducible rfl
    (try simp only [Act.put, List.setIfInBounds_toArray, List.set_cons_zero, List.set_cons_succ])
    refine wpAnyH_take (i := 12) (v := ?_) rfl (by kernel_rfl) (by kernel_rfl) (by kernel_rfl) (fun _ _ _ h => h) (Or.inl ⟨by rfl, ?_⟩) (by assumption) ?_
    rotate_left
    · intro w hSw; (try dsimp only at hSw); go_simp <;> with_reducible rfl
    (try simp only [Act.put, List.setIfInBounds_toArray, List.set_cons_zero, List.set_cons_succ])
    refine wpAnyH_done (by kernel_rfl) ?_ _
    replace K := ((K.trans k15).trans k16).trans k17
    replace hi2 := ((hi2.kp k15).kp k16).kp k17
    have hw1 : wrap64 (gr + mr) = gr + mr := IntWalk.wrap64_in _ (by omega)
    have n6 : ((gr + mr) != (gr + mr)) = false := by simp
    have hb17 := (hb.kp K0).kp K
    have CD := Lib.hid (drawWorthReached_any A n c w17 hb17)
    clear hb17 q0 q1 s0 s1 s0b s1b s0c s1c U hf2 hS2 y0 y1 ho15 ht15 h415 k15 k16 k17 kU ho16 hi15 hi16 hone hka hSa hS14
    go_wp2_with fail
    with_reducible refine Calls.mono CD.out ?_
    rintro e w20 ⟨v20, l20, a20, rfl, hv20, hl20, k20⟩
    clear CD
    replace K := K.trans k20
    replace hi2 := hi2.kp k20
    obtain ⟨F3, A20, c20, B20, d20, rfl, hf20⟩ := hv20.open
    obtain ⟨Ap, cp, P, rfl, hiP, hnP, _⟩ := hl20.ints
    obtain ⟨LP, HLP⟩ : ∃ l, Hid (P.length = l) := ⟨_, Lib.hid rfl⟩
    rw [HLP.out]
    have kv : Kp w20 (w20.alloc (.cells #[.slice A20 F3.op.length c20, .slice B20 F3.di.length d20] 27)) := (Kp.refl w20).alloc _
    obtain ⟨z0, z1⟩ := box2 w20 (.slice A20 F3.op.length c20) (.slice B20 F3.di.length d20) 27
    have hf3 := hf20.kp kv
    have hP3 := hiP.kp kv
    replace K := K.trans kv
    replace hi2 := hi2.kp kv
    clear hv20 hl20 k20 hf20 hiP kv
    go_wp2_with fail
    generalize w20.alloc (.cells #[.slice A20 F3.op.length c20, .slice B20 F3.di.length d20] 27) = wx at *
    generalize w20.heap.size = b33 at *
    have CC := Lib.hid (implWorth_any _ F3 Ap P LP cp a20 wx hf3 hP3 HLP.out)
    with_reducible refine Calls.mono CC.out ?_
    rintro e w21 ⟨rfl, k21⟩
    clear CC
    have X := k21
    replace K := K.trans k21
    replace hi2 := hi2.kp k21
    clear k21
    have u0 := X.get z0
    have u1 := X.get z1
    obtain ⟨wo, Hwo⟩ : ∃ b, Hid (worthOk F3 P a20 = b) := ⟨_, Lib.hid rfl⟩
    obtain ⟨wV, HwV⟩ : ∃ b, Hid (worthV F3 P a20 = b) := ⟨_, Lib.hid rfl⟩
    rw [Hwo.out, HwV.out]
    have n7 : (wo != wo) = false := by simp
    have n8 : (wV != wV) = false := by simp
    go_wp2_with fail
    have CC := Lib.hid (specWorth_any _ F3 Ap P LP cp a20 w21 (hf3.kp X) (hP3.kp X) HLP.out)
    rw [Hwo.out, HwV.out] at CC
    with_reducible refine Calls.mono CC.out ?_
    rintro e w22 ⟨rfl, k22⟩
    clear CC u0 u1
    replace X := X.trans k22
    replace K := K.trans k22
    replace hi2 := hi2.kp k22
    clear k22
    have u0 := X.get z0
    have u1 := X.get z1
    cases wo
    · have qe0 := K.get x0
      have qe1 := K.get x1
      cases hok : tabOk F1 r1
      · go_wp2_with fail
        go_ret
        exact ⟨rfl, K0.trans K⟩
      · have h7 := (goodF_iff.1 (tabOk_parts hok).1).1
        obtain ⟨Pw, HPw, hpw, hPw⟩ := pow_wrap (F1.op.length : Int) (by omega) (by omega)
        rw [Int.toNat_natCast] at hpw HPw
        have hLP : L1 = Pw := by rw [← HL1.out, tab_len hok, HPw.out]
        have hL0 : 0 < (tabL F1 r1).length := by rw [tab_len hok]; exact Nat.two_pow_pos _
        have CQ := Lib.hid (fun (wx : World) (hx : Kp w22 wx) => implSub_any A2 (tabL F1 r1) L1 c2 (F1.op.length : Int) wx (hi2.kp hx) HL1.out)
        have CM := Lib.hid (fun (wx : World) (hx : Kp w22 wx) => implMono_any A2 (tabL F1 r1) L1 c2 (F1.op.length : Int) wx (hi2.kp hx) HL1.out)
        rw [tab_is hok, tab_subB hok] at CQ
        rw [tab_is hok, tab_monoB hok] at CM
        have Ht0 := Lib.hid (tab_get0 hok hL0)
        have hpw2 : wrap64 (2 ^ F1.op.length) = (L1 : Int) := by rw [hpw, hLP]
        have n10 : ((L1 : Int) == (L1 : Int)) = true := by simp
        clear hLP hpw HPw hPw
        go_wp2_with fail
        with_reducible refine Calls.mono (CQ.out _ (Kp.refl _)) ?_
        rintro e w30 ⟨rfl, k30⟩
        replace qe0 := k30.get qe0
        replace qe1 := k30.get qe1
        go_wp2_with fail
        with_reducible refine Calls.mono (CM.out _ k30) ?_
        rintro e w31 ⟨rfl, k31⟩
        replace qe0 := k31.get qe0
        replace qe1 := k31.get qe1
        obtain ⟨at2, rfl, hc0⟩ := ((hi2.kp k30).kp k31).at_ hL0
        rw [Ht0.out] at hc0
        have e00 : at2.add 0 = at2 := by unfold Addr.add; simp
        have hc1 := hc0
        rw [e00] at hc1
        have hLI : (0 : Int) < (L1 : Int) := by have := HL1.out; omega
        go_wp2_with fail
        go_ret
        exact ⟨rfl, (K0.trans K).trans (k30.trans k31)⟩
    · obtain ⟨g1, g2, g3, g4⟩ := worth_gain Hwo.out
      rw [HwV.out] at g1 g2 g3 g4
      have CQ := Lib.hid (implGainOf_any _ F3 wV Ap P LP cp w22 (hf3.kp X) (hP3.kp X) HLP.out)
      rw [g1] at CQ
      obtain ⟨gq, Hgq⟩ : ∃ b, Hid (gainR F3 wV P = b) := ⟨_, Lib.hid rfl⟩
      rw [Hgq.out] at CQ g2
      clear g1
      have n9 : decide (gq < a20) = false := decide_eq_false (by omega)
      go_wp2_with fail
      with_reducible refine Calls.mono CQ.out ?_
      rintro e w23 ⟨rfl, k23⟩
      clear CQ u0 u1
      replace X := X.trans k23
      replace K := K.trans k23
      replace hi2 := hi2.kp k23
      clear k23
      have u0 := X.get z0
      have u1 := X.get z1
      by_cases hpos : 0 < wV
      · obtain ⟨e1, e2⟩ := worth_less Hwo.out (by rw [HwV.out]; exact hpos)
        rw [HwV.out] at e1 e2
        have hw2 : wrap64 (wV - 1) = wV - 1 := IntWalk.wrap64_in _ (by omega)
        have CQ := Lib.hid (implGainOf_any _ F3 (wV - 1) Ap P LP cp w23 (hf3.kp X) (hP3.kp X) HLP.out)
        obtain ⟨gz, Hgz⟩ : ∃ b, Hid (gainR F3 (wV - 1) P = b) := ⟨_, Lib.hid rfl⟩
        rw [e1, Hgz.out] at CQ
        rw [Hgz.out] at e2
        clear e1
        go_wp2_with fail
        with_reducible refine Calls.mono CQ.out ?_
        rintro e w24 ⟨rfl, k24⟩
        clear CQ u0 u1
        replace K := K.trans k24
        replace hi2 := hi2.kp k24
        have qe0 := K.get x0
        have qe1 := K.get x1
        cases hok : tabOk F1 r1
        · go_wp2_with fail
          go_ret
          exact ⟨rfl, K0.trans K⟩
        · have h7 := (goodF_iff.1 (tabOk_parts hok).1).1
          obtain ⟨Pw, HPw, hpw, hPw⟩ := pow_wrap (F1.op.length : Int) (by omega) (by omega)
          rw [Int.toNat_natCast] at hpw HPw
          have hLP : L1 = Pw := by rw [← HL1.out, tab_len hok, HPw.out]
          have hL0 : 0 < (tabL F1 r1).length := by rw [tab_len hok]; exact Nat.two_pow_pos _
          have CQ := Lib.hid (fun (wx : World) (hx : Kp w24 wx) => implSub_any A2 (tabL F1 r1) L1 c2 (F1.op.length : Int) wx (hi2.kp hx) HL1.out)
          have CM := Lib.hid (fun (wx : World) (hx : Kp w24 wx) => implMono_any A2 (tabL F1 r1) L1 c2 (F1.op.length : Int) wx (hi2.kp hx) HL1.out)
          rw [tab_is hok, tab_subB hok] at CQ
          rw [tab_is hok, tab_monoB hok] at CM
          have Ht0 := Lib.hid (tab_get0 hok hL0)
          have hpw2 : wrap64 (2 ^ F1.op.length) = (L1 : Int) := by rw [hpw, hLP]
          have n10 : ((L1 : Int) == (L1 : Int)) = true := by simp
          clear hLP hpw HPw hPw
          go_wp2_with fail
          with_reducible refine Calls.mono (CQ.out _ (Kp.refl _)) ?_
          rintro e w30 ⟨rfl, k30⟩
          replace qe0 := k30.get qe0
          replace qe1 := k30.get qe1
          go_wp2_with fail
          with_reducible refine Calls.mono (CM.out _ k30) ?_
          rintro e w31 ⟨rfl, k31⟩
          replace qe0 := k31.get qe0
          replace qe1 := k31.get qe1
          obtain ⟨at2, rfl, hc0⟩ := ((hi2.kp k30).kp k31).at_ hL0
          rw [Ht0.out] at hc0
          have e00 : at2.add 0 = at2 := by unfold Addr.add; simp
          have hc1 := hc0
          rw [e00] at hc1
          have hLI : (0 : Int) < (L1 : Int) := by have := HL1.out; omega
          go_wp2_with fail
          go_ret
          exact ⟨rfl, (K0.trans K).trans (k30.trans k31)⟩
      · have qe0 := K.get x0
        have qe1 := K.get x1
        cases hok : tabOk F1 r1
        · go_wp2_with fail
          go_ret
          exact ⟨rfl, K0.trans K⟩
        · have h7 := (goodF_iff.1 (tabOk_parts hok).1).1
          obtain ⟨Pw, HPw, hpw, hPw⟩ := pow_wrap (F1.op.length : Int) (by omega) (by omega)
          rw [Int.toNat_natCast] at hpw HPw
          have hLP : L1 = Pw := by rw [← HL1.out, tab_len hok, HPw.out]
          have hL0 : 0 < (tabL F1 r1).length := by rw [tab_len hok]; exact Nat.two_pow_pos _
          have CQ := Lib.hid (fun (wx : World) (hx : Kp w23 wx) => implSub_any A2 (tabL F1 r1) L1 c2 (F1.op.length : Int) wx (hi2.kp hx) HL1.out)
          have CM := Lib.hid (fun (wx : World) (hx : Kp w23 wx) => implMono_any A2 (tabL F1 r1) L1 c2 (F1.op.length : Int) wx (hi2.kp hx) HL1.out)
          rw [tab_is hok, tab_subB hok] at CQ
          rw [tab_is hok, tab_monoB hok] at CM
          have Ht0 := Lib.hid (tab_get0 hok hL0)
          have hpw2 : wrap64 (2 ^ F1.op.length) = (L1 : Int) := by rw [hpw, hLP]
          have n10 : ((L1 : Int) == (L1 : Int)) = true := by simp
          clear hLP hpw HPw hPw
          go_wp2_with fail
          with_reducible refine Calls.mono (CQ.out _ (Kp.refl _)) ?_
          rintro e w30 ⟨rfl, k30⟩
          replace qe0 := k30.get qe0
          replace qe1 := k30.get qe1
          go_wp2_with fail
          with_reducible refine Calls.mono (CM.out _ k30) ?_
          rintro e w31 ⟨rfl, k31⟩
          replace qe0 := k31.get qe0
          replace qe1 := k31.get qe1
          obtain ⟨at2, rfl, hc0⟩ := ((hi2.kp k30).kp k31).at_ hL0
          rw [Ht0.out] at hc0
          have e00 : at2.add 0 = at2 := by unfold Addr.add; simp
          have hc1 := hc0
          rw [e00] at hc1
          have hLI : (0 : Int) < (L1 : Int) := by have := HL1.out; omega
          go_wp2_with fail
          go_ret
          exact ⟨rfl, (K0.trans K).trans (k30.trans k31)⟩
end Go.Proofs.Ytinpcfhgcilmoaa
