/- FnLimitedGains: the walk of the law. No condition. -/
import Derived.Test.YtlglonjijfpgaaaGreatQAc
import Derived.Test.YtlglonjijfpgaaaGreatQAm
import Derived.Test.YtlglonjijfpgaaaGreatQAx
import Derived.Test.YtlglonjijfpgaaaGreatQAb
namespace Go.Proofs.YtlglonjijfpgaaaGreat
open Go.ChangeShapes Go.WideShapes Go.ChangeAt Go.RowKit Go.Sort

theorem DFld.open {w : World} {b : Nat} {v : Value} (h : DFld w b v) : ∃ F A c B d, v = .agg #[.slice A F.op.length c, .slice B F.di.length d] ∧ FldAt w v F := by
  obtain ⟨F, hf⟩ := h
  have hfa := hf.fld
  obtain ⟨A, c, B, d, e, _⟩ := hf
  exact ⟨F, A, c, B, d, e, hfa⟩
theorem Own.openL {w : World} {base : Nat} {v : Value} {xs : List Int} (h : Own w base v xs) {L : Nat} (hl : Hid (xs.length = L)) (h2 : L ≤ 1048576) : ∃ A c, v = .slice A L c ∧ IntsAt w A xs := by
  have := hl.out
  obtain ⟨A, c, e, hi⟩ := h.ints (by omega)
  exact ⟨A, c, by rw [← this]; exact e, hi⟩
theorem lim_nums {low high : Int} (h1 : 0 ≤ low ∧ low ≤ 6993) (h2 : 0 ≤ high ∧ high ≤ 6993) : wrap64 (2 * low) = 2 * low ∧ wrap64 (1000 * low) = 1000 * low ∧ wrap64 (316 * high) = 316 * high :=
  ⟨IntWalk.wrap64_in _ (by omega), IntWalk.wrap64_in _ (by omega), IntWalk.wrap64_in _ (by omega)⟩
set_option maxRecDepth 100000 in
set_option maxHeartbeats 8000000 in
theorem lim_law (A : Option Addr) (n c : Nat) (w : World) (hb : BytesAt w A n) (hnc : n ≤ c) :
    Calls Tryz.prog 3 #[.slice A n c] w fun e w' => e = .returned (.bool true) ∧ Kp w w' := by
  have CB := Lib.hid (rBig_any A n c w)
  by_cases hbig : 65536 < n
  · have hd : decide (65536 < (n : Int)) = true := decide_eq_true (by omega)
    rw [hd] at CB
    go_enter Tryz.func3, Tryz.ntmps3
    go_wp2_with fail
    with_reducible refine Calls.mono CB.out ?_
    rintro e w1 ⟨rfl, rfl⟩
    go_wp2_with fail
    go_ret
    exact ⟨rfl, Kp.refl _⟩
  have hn6 : n ≤ 65536 := by omega
  have hd : decide (65536 < (n : Int)) = false := decide_eq_false (by omega)
  rw [hd] at CB
  go_enter Tryz.func3, Tryz.ntmps3
  go_wp2_with fail
  with_reducible refine Calls.mono CB.out ?_
  rintro e w1 ⟨rfl, rfl⟩
  clear CB hd hbig
  have K0 : Kp w w := Kp.refl _
  have H0 := Lib.hid hb
  clear hb
  go_wp2_with fail
  have CC := Lib.hid (drawGreedyAllowed_any A n c w H0.out)
  with_reducible refine Calls.mono CC.out ?_
  rintro e w1 ⟨v, worth, cv, lv, rfl, hv, h1, h2, hk1⟩
  clear CC
  replace K0 := K0.trans hk1
  obtain ⟨F, A1, c1, B1, d1, rfl, hf⟩ := hv.open
  obtain ⟨A5, c5, cl, L5, rfl, i5, H5, _, _⟩ := h1.list
  obtain ⟨A6, c6, li, L6, rfl, i6, H6, _, _⟩ := h2.list
  have kv : Kp w1 (World.alloc w1 (.cells #[.slice A1 F.op.length c1, .slice B1 F.di.length d1] 27)) := (Kp.refl _).alloc _
  obtain ⟨x1, y1⟩ := box2 w1 (.slice A1 F.op.length c1) (.slice B1 F.di.length d1) 27
  replace K0 := K0.trans kv
  replace hf := hf.kp kv
  replace i5 := i5.kp kv
  replace i6 := i6.kp kv
  clear hv h1 h2
  go_wp2_with fail
  generalize w1.alloc (.cells #[.slice A1 F.op.length c1, .slice B1 F.di.length d1] 27) = wf at *
  generalize w1.heap.size = b1 at *
  clear kv
  have KF : Kp wf wf := Kp.refl _
  obtain ⟨ok, Hok⟩ : ∃ b, Hid (galOk F worth cl li = b) := ⟨_, Lib.hid rfl⟩
  obtain ⟨L7, HL7⟩ : ∃ b, Hid ((galL F worth cl li).length = b) := ⟨_, Lib.hid rfl⟩
  obtain ⟨L11, HL11⟩ : ∃ b, Hid ((baL F worth cl li).length = b) := ⟨_, Lib.hid rfl⟩
  have hL7 : L7 ≤ 1048576 := by rw [← HL7.out]; exact galL_len F worth cl li
  have hL11 : L11 ≤ 1048576 := by rw [← HL11.out]; exact baL_len F worth cl li
  have Hba : Hid (baOk F worth cl li = ok) := Hok
  have n1 : (ok != ok) = false := by simp
  have CC := Lib.hid (implGal_any _ F worth A5 cl L5 c5 A6 li L6 c6 wf hf i5 H5.out i6 H6.out)
  with_reducible refine Calls.mono CC.out ?_
  rintro e w2 ⟨gv, rfl, ho, hk2⟩
  clear CC
  replace K0 := K0.trans hk2
  replace KF := KF.trans hk2
  replace hf := hf.kp hk2
  replace i5 := i5.kp hk2
  replace i6 := i6.kp hk2
  rw [Hok.out]
  obtain ⟨A7, c7, rfl, i7⟩ := ho.openL HL7 hL7
  clear ho
  have q_x1 := KF.get x1
  have q_y1 := KF.get y1
  go_wp2_with fail
  have CC := Lib.hid (specGal_any _ F worth A5 cl L5 c5 A6 li L6 c6 w2 hf i5 H5.out i6 H6.out)
  with_reducible refine Calls.mono CC.out ?_
  rintro e w3 ⟨gv, rfl, ho, hk3⟩
  clear CC q_x1 q_y1
  replace K0 := K0.trans hk3
  replace KF := KF.trans hk3
  replace hf := hf.kp hk3
  replace i5 := i5.kp hk3
  replace i6 := i6.kp hk3
  replace i7 := i7.kp hk3
  rw [Hok.out]
  obtain ⟨A9, c9, rfl, i9⟩ := ho.openL HL7 hL7
  clear ho
  have q_x1 := KF.get x1
  have q_y1 := KF.get y1
  go_wp2_with fail
  have CC := Lib.hid (rInts_same A7 A9 (galL F worth cl li) L7 c7 c9 w3 i7 i9 HL7.out)
  with_reducible refine Calls.mono CC.out ?_
  rintro e w4 ⟨rfl, hk4⟩
  clear CC q_x1 q_y1
  replace K0 := K0.trans hk4
  replace KF := KF.trans hk4
  replace hf := hf.kp hk4
  replace i5 := i5.kp hk4
  replace i6 := i6.kp hk4
  replace i7 := i7.kp hk4
  replace i9 := i9.kp hk4
  clear i9
  have q_x1 := KF.get x1
  have q_y1 := KF.get y1
  go_wp2_with fail
  have CC := Lib.hid (implBa_any _ F worth A5 cl L5 c5 A6 li L6 c6 w4 hf i5 H5.out i6 H6.out)
  with_reducible refine Calls.mono CC.out ?_
  rintro e w5 ⟨gv, rfl, ho, hk5⟩
  clear CC q_x1 q_y1
  replace K0 := K0.trans hk5
  replace KF := KF.trans hk5
  replace hf := hf.kp hk5
  replace i5 := i5.kp hk5
  replace i6 := i6.kp hk5
  replace i7 := i7.kp hk5
  rw [Hba.out]
  obtain ⟨A11, c11, rfl, i11⟩ := ho.openL HL11 hL11
  clear ho
  have q_x1 := KF.get x1
  have q_y1 := KF.get y1
  go_wp2_with fail
  have CC := Lib.hid (specBa_any _ F worth A5 cl L5 c5 A6 li L6 c6 w5 hf i5 H5.out i6 H6.out)
  with_reducible refine Calls.mono CC.out ?_
  rintro e w6 ⟨gv, rfl, ho, hk6⟩
  clear CC q_x1 q_y1
  replace K0 := K0.trans hk6
  replace KF := KF.trans hk6
  replace hf := hf.kp hk6
  replace i5 := i5.kp hk6
  replace i6 := i6.kp hk6
  replace i7 := i7.kp hk6
  replace i11 := i11.kp hk6
  rw [Hba.out]
  obtain ⟨A13, c13, rfl, i13⟩ := ho.openL HL11 hL11
  clear ho
  have q_x1 := KF.get x1
  have q_y1 := KF.get y1
  go_wp2_with fail
  have CC := Lib.hid (rInts_same A11 A13 (baL F worth cl li) L11 c11 c13 w6 i11 i13 HL11.out)
  with_reducible refine Calls.mono CC.out ?_
  rintro e w7 ⟨rfl, hk7⟩
  clear CC q_x1 q_y1
  replace K0 := K0.trans hk7
  replace KF := KF.trans hk7
  replace hf := hf.kp hk7
  replace i5 := i5.kp hk7
  replace i6 := i6.kp hk7
  replace i7 := i7.kp hk7
  replace i11 := i11.kp hk7
  replace i13 := i13.kp hk7
  clear i13
  clear n1
  cases ok
  · obtain ⟨wt, rfl⟩ : ∃ q : World, q = w7 := ⟨_, rfl⟩
    have CC := Lib.hid (drawIsAllowed_any A n c wt (H0.out.kp K0))
    go_wp2_with fail
    with_reducible refine Calls.mono CC.out ?_
    rintro e wa ⟨v, cv, lv, sv, rfl, hv, h1, h2, h3, hka⟩
    clear CC
    obtain ⟨G, A23, c23, B23, d23, rfl, hg⟩ := hv.open
    obtain ⟨A24, c24, gc, L24, rfl, i24, H24, _, _⟩ := h1.list
    obtain ⟨A25, c25, gl, L25, rfl, i25, H25, _, _⟩ := h2.list
    obtain ⟨A26, c26, gs, L26, rfl, i26, H26, _, _⟩ := h3.list
    have kv : Kp wa (World.alloc wa (.cells #[.slice A23 G.op.length c23, .slice B23 G.di.length d23] 27)) := (Kp.refl _).alloc _
    obtain ⟨x23, y23⟩ := box2 wa (.slice A23 G.op.length c23) (.slice B23 G.di.length d23) 27
    replace K0 := (K0.trans hka).trans kv
    replace hg := hg.kp kv
    replace i24 := i24.kp kv
    replace i25 := i25.kp kv
    replace i26 := i26.kp kv
    clear hv h1 h2 h3 hka
    go_wp2_with fail
    generalize wa.alloc (.cells #[.slice A23 G.op.length c23, .slice B23 G.di.length d23] 27) = wb at *
    generalize wa.heap.size = b23 at *
    clear kv
    obtain ⟨ir, Hir⟩ : ∃ b, Hid (allowR G gc gl gs = b) := ⟨_, Lib.hid rfl⟩
    obtain ⟨ik, Hik⟩ : ∃ b, Hid (allowOk G gc gl gs = b) := ⟨_, Lib.hid rfl⟩
    have m1 : (ir != ir) = false := by simp
    have m2 : (ik != ik) = false := by simp
    have CC := Lib.hid (implIsAllowed_any _ G A24 gc L24 c24 A25 gl L25 c25 A26 gs L26 c26 wb hg i24 H24.out i25 H25.out i26 H26.out)
    rw [Hir.out, Hik.out] at CC
    with_reducible refine Calls.mono CC.out ?_
    rintro e wc ⟨rfl, hkc⟩
    clear CC
    have q0 := hkc.get x23
    have q1 := hkc.get y23
    have CC := Lib.hid (specIsAllowed_any _ G A24 gc L24 c24 A25 gl L25 c25 A26 gs L26 c26 wc (hg.kp hkc) (i24.kp hkc) H24.out (i25.kp hkc) H25.out (i26.kp hkc) H26.out)
    rw [Hir.out, Hik.out] at CC
    go_wp2_with fail
    with_reducible refine Calls.mono CC.out ?_
    rintro e wd ⟨rfl, hkd⟩
    clear CC q0 q1 x23 y23
    replace K0 := K0.trans (hkc.trans hkd)
    clear hg i24 i25 i26 hkc hkd
    have CC := Lib.hid (drawRatioGain_any A n c wd (H0.out.kp K0))
    go_wp2_with fail
    with_reducible refine Calls.mono CC.out ?_
    rintro e we ⟨v, w2, k2, rfl, hv, hke⟩
    clear CC m1 m2
    obtain ⟨H, A31, c31, B31, d31, rfl, hh⟩ := hv.open
    have kv : Kp we (World.alloc we (.cells #[.slice A31 H.op.length c31, .slice B31 H.di.length d31] 27)) := (Kp.refl _).alloc _
    obtain ⟨x31, y31⟩ := box2 we (.slice A31 H.op.length c31) (.slice B31 H.di.length d31) 27
    replace K0 := (K0.trans hke).trans kv
    replace hh := hh.kp kv
    clear hv hke
    go_wp2_with fail
    generalize we.alloc (.cells #[.slice A31 H.op.length c31, .slice B31 H.di.length d31] 27) = wf at *
    generalize we.heap.size = b31 at *
    clear kv
    have KH : Kp wf wf := Kp.refl _
    obtain ⟨rk, Hrk⟩ : ∃ b, Hid (bbOk H w2 k2 = b) := ⟨_, Lib.hid rfl⟩
    obtain ⟨L34, HL34⟩ : ∃ b, Hid ((rgL H w2 k2).length = b) := ⟨_, Lib.hid rfl⟩
    obtain ⟨L38, HL38⟩ : ∃ b, Hid ((bbL H w2 k2).length = b) := ⟨_, Lib.hid rfl⟩
    have hL34 : L34 ≤ 1048576 := by rw [← HL34.out]; exact rgL_len H w2 k2
    have hL38 : L38 ≤ 1048576 := by rw [← HL38.out]; exact bbL_len H w2 k2
    have m3 : (rk != rk) = false := by simp
    have CC := Lib.hid (implRg_any _ H w2 k2 wf hh)
    rw [Hrk.out] at CC
    with_reducible refine Calls.mono CC.out ?_
    rintro e wg ⟨gv, rfl, ho, hkg⟩
    clear CC
    obtain ⟨A34, c34, rfl, i34⟩ := ho.openL HL34 hL34
    clear ho
    replace KH := KH.trans hkg
    have q0 := KH.get x31
    have q1 := KH.get y31
    have CC := Lib.hid (specRg_any _ H w2 k2 wg (hh.kp KH))
    rw [Hrk.out] at CC
    go_wp2_with fail
    with_reducible refine Calls.mono CC.out ?_
    rintro e wi ⟨gv, rfl, ho, hkg⟩
    clear CC q0 q1
    obtain ⟨A36, c36, rfl, i36⟩ := ho.openL HL34 hL34
    clear ho
    replace KH := KH.trans hkg
    replace i34 := i34.kp hkg
    clear hkg
    have q0 := KH.get x31
    have q1 := KH.get y31
    have CC := Lib.hid (rInts_same A34 A36 (rgL H w2 k2) L34 c34 c36 wi i34 i36 HL34.out)
    go_wp2_with fail
    with_reducible refine Calls.mono CC.out ?_
    rintro e wj ⟨rfl, hkg⟩
    clear CC q0 q1 i36
    replace KH := KH.trans hkg
    replace i34 := i34.kp hkg
    clear hkg
    have q0 := KH.get x31
    have q1 := KH.get y31
    have CC := Lib.hid (implBb_any _ H w2 k2 wj (hh.kp KH))
    rw [Hrk.out] at CC
    go_wp2_with fail
    with_reducible refine Calls.mono CC.out ?_
    rintro e wk ⟨gv, rfl, ho, hkg⟩
    clear CC q0 q1
    obtain ⟨A38, c38, rfl, i38⟩ := ho.openL HL38 hL38
    clear ho
    replace KH := KH.trans hkg
    replace i34 := i34.kp hkg
    clear hkg
    have q0 := KH.get x31
    have q1 := KH.get y31
    have CC := Lib.hid (specBb_any _ H w2 k2 wk (hh.kp KH))
    rw [Hrk.out] at CC
    go_wp2_with fail
    with_reducible refine Calls.mono CC.out ?_
    rintro e wl ⟨gv, rfl, ho, hkg⟩
    clear CC q0 q1
    obtain ⟨A40, c40, rfl, i40⟩ := ho.openL HL38 hL38
    clear ho
    replace KH := KH.trans hkg
    replace i34 := i34.kp hkg
    replace i38 := i38.kp hkg
    clear hkg
    have CC := Lib.hid (rInts_same A38 A40 (bbL H w2 k2) L38 c38 c40 wl i38 i40 HL38.out)
    go_wp2_with fail
    with_reducible refine Calls.mono CC.out ?_
    rintro e wm ⟨rfl, hkg⟩
    clear CC i40
    replace KH := KH.trans hkg
    replace i34 := i34.kp hkg
    replace i38 := i38.kp hkg
    clear hkg m3
    cases rk
    · go_wp2_with fail
      go_ret
      exact ⟨rfl, K0.trans KH⟩
    · have HR := Lib.hid (rg_parts Hrk.out)
      obtain ⟨p1, Hp1⟩ : ∃ b, Hid (poOk H (rgL H w2 k2) = b) := ⟨_, Lib.hid rfl⟩
      obtain ⟨p2, Hp2⟩ : ∃ b, Hid (poOk H (bbL H w2 k2) = b) := ⟨_, Lib.hid rfl⟩
      obtain ⟨g1, Hg1⟩ : ∃ b, Hid (gainOk H w2 (rgL H w2 k2) = b) := ⟨_, Lib.hid rfl⟩
      obtain ⟨g2, Hg2⟩ : ∃ b, Hid (gainOk H w2 (bbL H w2 k2) = b) := ⟨_, Lib.hid rfl⟩
      obtain ⟨pa, Hpa⟩ : ∃ b, Hid (poR H (rgL H w2 k2) = b) := ⟨_, Lib.hid rfl⟩
      obtain ⟨pb, Hpb⟩ : ∃ b, Hid (poR H (bbL H w2 k2) = b) := ⟨_, Lib.hid rfl⟩
      obtain ⟨lo, Hlo⟩ : ∃ b, Hid (gainR H w2 (rgL H w2 k2) = b) := ⟨_, Lib.hid rfl⟩
      obtain ⟨hi, Hhi⟩ : ∃ b, Hid (gainR H w2 (bbL H w2 k2) = b) := ⟨_, Lib.hid rfl⟩
      rw [Hp1.out, Hp2.out, Hg1.out, Hg2.out, Hpa.out, Hpb.out, Hlo.out, Hhi.out] at HR
      obtain rfl := HR.out.a1
      obtain rfl := HR.out.a2
      obtain rfl := HR.out.a5
      obtain rfl := HR.out.a6
      have hbd := HR.out.bd
      obtain ⟨_, s2, s3⟩ := lim_nums (low := lo) (high := hi) ⟨hbd.1, Int.le_trans HR.out.le hbd.2⟩ ⟨Int.le_trans hbd.1 HR.out.le, hbd.2⟩
      have t1 : decide (pa ≤ k2) = true := decide_eq_true HR.out.pa
      have t2 : decide (pb ≤ k2) = true := decide_eq_true HR.out.pb
      have t3 : decide (lo ≤ hi) = true := decide_eq_true HR.out.le
      have t4 : decide (316 * hi ≤ 1000 * lo) = true := decide_eq_true HR.out.share
      clear hbd
      have q0 := KH.get x31
      have q1 := KH.get y31
      have CC := Lib.hid (implPo_any _ H A34 (rgL H w2 k2) L34 c34 wm (hh.kp KH) i34 HL34.out)
      rw [Hpa.out, Hp1.out] at CC
      go_wp2_with fail
      with_reducible refine Calls.mono CC.out ?_
      rintro e wn ⟨rfl, hkg⟩
      clear CC q0 q1
      replace KH := KH.trans hkg
      replace i34 := i34.kp hkg
      replace i38 := i38.kp hkg
      clear hkg
      have q0 := KH.get x31
      have q1 := KH.get y31
      have CC := Lib.hid (implPo_any _ H A38 (bbL H w2 k2) L38 c38 wn (hh.kp KH) i38 HL38.out)
      rw [Hpb.out, Hp2.out] at CC
      go_wp2_with fail
      with_reducible refine Calls.mono CC.out ?_
      rintro e wo ⟨rfl, hkg⟩
      clear CC q0 q1
      replace KH := KH.trans hkg
      replace i34 := i34.kp hkg
      replace i38 := i38.kp hkg
      clear hkg
      have q0 := KH.get x31
      have q1 := KH.get y31
      have CC := Lib.hid (implGainOf_any _ H w2 A34 (rgL H w2 k2) L34 c34 wo (hh.kp KH) i34 HL34.out)
      rw [Hlo.out, Hg1.out] at CC
      go_wp2_with fail
      with_reducible refine Calls.mono CC.out ?_
      rintro e wp ⟨rfl, hkg⟩
      clear CC q0 q1
      replace KH := KH.trans hkg
      replace i38 := i38.kp hkg
      clear hkg
      have q0 := KH.get x31
      have q1 := KH.get y31
      have CC := Lib.hid (implGainOf_any _ H w2 A38 (bbL H w2 k2) L38 c38 wp (hh.kp KH) i38 HL38.out)
      rw [Hhi.out, Hg2.out] at CC
      go_wp2_with fail
      with_reducible refine Calls.mono CC.out ?_
      rintro e wq ⟨rfl, hkg⟩
      clear CC q0 q1
      go_wp2_with fail
      go_ret
      exact ⟨by simp, K0.trans (KH.trans hkg)⟩
  · have HA := Lib.hid (lim_parts Hok.out)
    obtain ⟨sr, Hsr⟩ : ∃ b, Hid (allowR F cl li (srtTo (galL F worth cl li) 1002) = b) := ⟨_, Lib.hid rfl⟩
    obtain ⟨sk, Hsk⟩ : ∃ b, Hid (allowOk F cl li (srtTo (galL F worth cl li) 1002) = b) := ⟨_, Lib.hid rfl⟩
    obtain ⟨br, Hbr⟩ : ∃ b, Hid (allowR F cl li (baL F worth cl li) = b) := ⟨_, Lib.hid rfl⟩
    obtain ⟨bk, Hbk⟩ : ∃ b, Hid (allowOk F cl li (baL F worth cl li) = b) := ⟨_, Lib.hid rfl⟩
    obtain ⟨o1, Ho1⟩ : ∃ b, Hid (gainOk F worth (srtTo (galL F worth cl li) 1002) = b) := ⟨_, Lib.hid rfl⟩
    obtain ⟨o2, Ho2⟩ : ∃ b, Hid (gainOk F worth (baL F worth cl li) = b) := ⟨_, Lib.hid rfl⟩
    obtain ⟨lw, Hlw⟩ : ∃ b, Hid (gainR F worth (srtTo (galL F worth cl li) 1002) = b) := ⟨_, Lib.hid rfl⟩
    obtain ⟨hw, Hhw⟩ : ∃ b, Hid (gainR F worth (baL F worth cl li) = b) := ⟨_, Lib.hid rfl⟩
    rw [Hsr.out, Hsk.out, Hbr.out, Hbk.out, Ho1.out, Ho2.out, Hlw.out, Hhw.out] at HA
    obtain rfl := HA.out.a1
    obtain rfl := HA.out.a2
    obtain rfl := HA.out.a3
    obtain rfl := HA.out.a4
    obtain rfl := HA.out.a5
    obtain rfl := HA.out.a6
    have hbd := HA.out.bd
    obtain ⟨s1, _, _⟩ := lim_nums (low := lw) (high := hw) ⟨hbd.1, Int.le_trans HA.out.le hbd.2⟩ ⟨Int.le_trans hbd.1 HA.out.le, hbd.2⟩
    have r1 : decide (hw < lw) = false := decide_eq_false (Int.not_lt.2 HA.out.le)
    have r2 : decide (2 * lw < hw) = false := decide_eq_false (Int.not_lt.2 HA.out.half)
    clear hbd
    obtain ⟨LS, HLS⟩ : ∃ l, Hid ((srtTo (galL F worth cl li) 1002).length = l) := ⟨_, Lib.hid rfl⟩
    have hLS : LS ≤ 1048576 := by have := srtTo_len (galL F worth cl li) 1002; have := HLS.out; omega
    have kd := (Kp.refl w7).drew
    have s0 := (KF.trans kd).get x1
    have s3 := (KF.trans kd).get y1
    have CS := Lib.hid (rSorted_any A7 (galL F worth cl li) L7 c7 (w7).drew (i7.kp kd) HL7.out)
    go_wp2_with fail
    refine wp_region_held_drew (S := fun w' => w'.cell? ⟨b1, 0, none⟩ = some (.slice A1 F.op.length c1) ∧ w'.cell? ⟨b1, 1, none⟩ = some (.slice B1 F.di.length d1)) (by kernel_rfl) ⟨s0, s3⟩ (fun hHeld => ?_)
    refine wpAnyH_take (i := 0) (v := ?_) rfl (by kernel_rfl) (by kernel_rfl) (by kernel_rfl) (fun _ _ _ h => h) (Or.inl ⟨by rfl, ?_⟩) (by assumption) ?_
    rotate_left
    · intro w hSw; (try dsimp only at hSw); go_simp <;> with_reducible rfl
    (try simp only [Act.put, List.setIfInBounds_toArray, List.set_cons_zero, List.set_cons_succ])
    refine wpAnyH_take (i := 1) (v := ?_) rfl (by kernel_rfl) (by kernel_rfl) (by kernel_rfl) (fun _ _ _ h => h) (Or.inl ⟨by rfl, ?_⟩) (by assumption) ?_
    rotate_left
    · intro w hSw; (try dsimp only at hSw); go_simp <;> with_reducible rfl
    (try simp only [Act.put, List.setIfInBounds_toArray, List.set_cons_zero, List.set_cons_succ])
    refine wpAnyH_take (i := 2) (v := ?_) rfl (by kernel_rfl) (by kernel_rfl) (by kernel_rfl) (fun _ _ _ h => h) (Or.inl ⟨by rfl, ?_⟩) (by assumption) ?_
    rotate_left
    · intro w hSw; (try dsimp only at hSw); go_simp <;> with_reducible rfl
    (try simp only [Act.put, List.setIfInBounds_toArray, List.set_cons_zero, List.set_cons_succ])
    refine wpAnyH_take (i := 3) (v := ?_) rfl (by kernel_rfl) (by kernel_rfl) (by kernel_rfl) (fun _ _ _ h => h) (Or.inl ⟨by rfl, ?_⟩) (by assumption) ?_
    rotate_left
    · intro w hSw; (try dsimp only at hSw); go_simp <;> with_reducible rfl
    (try simp only [Act.put, List.setIfInBounds_toArray, List.set_cons_zero, List.set_cons_succ])
    refine wpAnyH_ready (rs := [4]) (by kernel_rfl) (by simp) ?_
    refine AllReadyH.cons rfl (fun K hK => ?_) AllReadyH.nil
    go_simp
    with_reducible refine Calls.mono CS.out ?_
    rintro e wu ⟨sv, rfl, hso, hku⟩
    clear CS
    (try go_wp2_with fail)
    obtain ⟨As, cs, hse, his⟩ := hso.openL HLS hLS
    subst hse
    clear hso
    have s0b := hku.get s0
    have s3b := hku.get s3
    have ku := kd.trans hku
    refine hK.out _ _ ?_ (fun hHeld => ?_)
    · (try dsimp only); exact ⟨s0b, s3b⟩
    clear hK K
    (try simp only [Act.put, List.setIfInBounds_toArray, List.set_cons_zero, List.set_cons_succ])
    have CG := Lib.hid (implIsAllowed_any _ F A5 cl L5 c5 A6 li L6 c6 As (srtTo (galL F worth cl li) 1002) LS cs wu (hf.kp ku) (i5.kp ku) H5.out (i6.kp ku) H6.out his HLS.out)
    rw [Hsr.out, Hsk.out] at CG
    refine wpAnyH_ready (rs := [5]) (by kernel_rfl) (by simp) ?_
    refine AllReadyH.cons rfl (fun K hK => ?_) AllReadyH.nil
    go_simp
    with_reducible refine Calls.mono CG.out ?_
    rintro e wv ⟨rfl, hkv⟩
    clear CG
    (try go_wp2_with fail)
    refine hK.out _ _ ?_ (fun hHeld => ?_)
    · (try dsimp only); exact ⟨hkv.get s0b, hkv.get s3b⟩
    clear hK K
    (try simp only [Act.put, List.setIfInBounds_toArray, List.set_cons_zero, List.set_cons_succ])
    refine wpAnyH_take (i := 6) (v := ?_) rfl (by kernel_rfl) (by kernel_rfl) (by kernel_rfl) (fun _ _ _ h => h) (Or.inl ⟨by rfl, ?_⟩) (by assumption) ?_
    rotate_left
    · intro w hSw; (try dsimp only at hSw); go_simp <;> with_reducible rfl
    (try simp only [Act.put, List.setIfInBounds_toArray, List.set_cons_zero, List.set_cons_succ])
    refine wpAnyH_take (i := 7) (v := ?_) rfl (by kernel_rfl) (by kernel_rfl) (by kernel_rfl) (fun _ _ _ h => h) (Or.inl ⟨by rfl, ?_⟩) (by assumption) ?_
    rotate_left
    · intro w hSw; (try dsimp only at hSw); go_simp <;> with_reducible rfl
    (try simp only [Act.put, List.setIfInBounds_toArray, List.set_cons_zero, List.set_cons_succ])
    refine wpAnyH_take (i := 8) (v := ?_) rfl (by kernel_rfl) (by kernel_rfl) (by kernel_rfl) (fun _ _ _ h => h) (Or.inl ⟨by rfl, ?_⟩) (by assumption) ?_
    rotate_left
    · intro w hSw; (try dsimp only at hSw); go_simp <;> with_reducible rfl
    (try simp only [Act.put, List.setIfInBounds_toArray, List.set_cons_zero, List.set_cons_succ])
    refine wpAnyH_take (i := 9) (v := ?_) rfl (by kernel_rfl) (by kernel_rfl) (by kernel_rfl) (fun _ _ _ h => h) (Or.inl ⟨by rfl, ?_⟩) (by assumption) ?_
    rotate_left
    · intro w hSw; (try dsimp only at hSw); go_simp <;> with_reducible rfl
    (try simp only [Act.put, List.setIfInBounds_toArray, List.set_cons_zero, List.set_cons_succ])
    refine wpAnyH_take (i := 10) (v := ?_) rfl (by kernel_rfl) (by kernel_rfl) (by kernel_rfl) (fun _ _ _ h => h) (Or.inl ⟨by rfl, ?_⟩) (by assumption) ?_
    rotate_left
    · intro w hSw; (try dsimp only at hSw); go_simp <;> with_reducible rfl
    (try simp only [Act.put, List.setIfInBounds_toArray, List.set_cons_zero, List.set_cons_succ])
    refine wpAnyH_done (by kernel_rfl) ?_ _
    replace K0 := K0.trans (ku.trans hkv)
    replace KF := KF.trans (ku.trans hkv)
    replace hf := hf.kp (ku.trans hkv)
    replace i5 := i5.kp (ku.trans hkv)
    replace i6 := i6.kp (ku.trans hkv)
    replace i7 := i7.kp (ku.trans hkv)
    replace i11 := i11.kp (ku.trans hkv)
    (try clear s0 s3 s0b s3b his)
    clear ku hkv
    have q0 := KF.get x1
    have q1 := KF.get y1
    have CC := Lib.hid (implIsAllowed_any _ F A5 cl L5 c5 A6 li L6 c6 A11 (baL F worth cl li) L11 c11 wv hf i5 H5.out i6 H6.out i11 HL11.out)
    rw [Hbr.out, Hbk.out] at CC
    go_wp2_with fail
    with_reducible refine Calls.mono CC.out ?_
    rintro e wx ⟨rfl, hkv⟩
    clear CC q0 q1
    have ku : Kp wv wv := Kp.refl _
    replace K0 := K0.trans (ku.trans hkv)
    replace KF := KF.trans (ku.trans hkv)
    replace hf := hf.kp (ku.trans hkv)
    replace i5 := i5.kp (ku.trans hkv)
    replace i6 := i6.kp (ku.trans hkv)
    replace i7 := i7.kp (ku.trans hkv)
    replace i11 := i11.kp (ku.trans hkv)
    (try clear s0 s3 s0b s3b his)
    clear ku hkv
    have kd := (Kp.refl wx).drew
    have s0 := (KF.trans kd).get x1
    have s3 := (KF.trans kd).get y1
    have CS := Lib.hid (rSorted_any A7 (galL F worth cl li) L7 c7 (wx).drew (i7.kp kd) HL7.out)
    go_wp2_with fail
    refine wp_region_held_drew (S := fun w' => w'.cell? ⟨b1, 0, none⟩ = some (.slice A1 F.op.length c1) ∧ w'.cell? ⟨b1, 1, none⟩ = some (.slice B1 F.di.length d1)) (by kernel_rfl) ⟨s0, s3⟩ (fun hHeld => ?_)
    refine wpAnyH_take (i := 0) (v := ?_) rfl (by kernel_rfl) (by kernel_rfl) (by kernel_rfl) (fun _ _ _ h => h) (Or.inl ⟨by rfl, ?_⟩) (by assumption) ?_
    rotate_left
    · intro w hSw; (try dsimp only at hSw); go_simp <;> with_reducible rfl
    (try simp only [Act.put, List.setIfInBounds_toArray, List.set_cons_zero, List.set_cons_succ])
    refine wpAnyH_take (i := 1) (v := ?_) rfl (by kernel_rfl) (by kernel_rfl) (by kernel_rfl) (fun _ _ _ h => h) (Or.inl ⟨by rfl, ?_⟩) (by assumption) ?_
    rotate_left
    · intro w hSw; (try dsimp only at hSw); go_simp <;> with_reducible rfl
    (try simp only [Act.put, List.setIfInBounds_toArray, List.set_cons_zero, List.set_cons_succ])
    refine wpAnyH_take (i := 2) (v := ?_) rfl (by kernel_rfl) (by kernel_rfl) (by kernel_rfl) (fun _ _ _ h => h) (Or.inl ⟨by rfl, ?_⟩) (by assumption) ?_
    rotate_left
    · intro w hSw; (try dsimp only at hSw); go_simp <;> with_reducible rfl
    (try simp only [Act.put, List.setIfInBounds_toArray, List.set_cons_zero, List.set_cons_succ])
    skip
    refine wpAnyH_ready (rs := [3]) (by kernel_rfl) (by simp) ?_
    refine AllReadyH.cons rfl (fun K hK => ?_) AllReadyH.nil
    go_simp
    with_reducible refine Calls.mono CS.out ?_
    rintro e wu ⟨sv, rfl, hso, hku⟩
    clear CS
    (try go_wp2_with fail)
    obtain ⟨As, cs, hse, his⟩ := hso.openL HLS hLS
    subst hse
    clear hso
    have s0b := hku.get s0
    have s3b := hku.get s3
    have ku := kd.trans hku
    refine hK.out _ _ ?_ (fun hHeld => ?_)
    · (try dsimp only); exact ⟨s0b, s3b⟩
    clear hK K
    (try simp only [Act.put, List.setIfInBounds_toArray, List.set_cons_zero, List.set_cons_succ])
    have CG := Lib.hid (implGainOf_any _ F worth As (srtTo (galL F worth cl li) 1002) LS cs wu (hf.kp ku) his HLS.out)
    rw [Hlw.out, Ho1.out] at CG
    refine wpAnyH_ready (rs := [4]) (by kernel_rfl) (by simp) ?_
    refine AllReadyH.cons rfl (fun K hK => ?_) AllReadyH.nil
    go_simp
    with_reducible refine Calls.mono CG.out ?_
    rintro e wv ⟨rfl, hkv⟩
    clear CG
    (try go_wp2_with fail)
    refine hK.out _ _ ?_ (fun hHeld => ?_)
    · (try dsimp only); exact ⟨hkv.get s0b, hkv.get s3b⟩
    clear hK K
    (try simp only [Act.put, List.setIfInBounds_toArray, List.set_cons_zero, List.set_cons_succ])
    refine wpAnyH_take (i := 5) (v := ?_) rfl (by kernel_rfl) (by kernel_rfl) (by kernel_rfl) (fun _ _ _ h => h) (Or.inl ⟨by rfl, ?_⟩) (by assumption) ?_
    rotate_left
    · intro w hSw; (try dsimp only at hSw); go_simp <;> with_reducible rfl
    (try simp only [Act.put, List.setIfInBounds_toArray, List.set_cons_zero, List.set_cons_succ])
    refine wpAnyH_take (i := 6) (v := ?_) rfl (by kernel_rfl) (by kernel_rfl) (by kernel_rfl) (fun _ _ _ h => h) (Or.inl ⟨by rfl, ?_⟩) (by assumption) ?_
    rotate_left
    · intro w hSw; (try dsimp only at hSw); go_simp <;> with_reducible rfl
    (try simp only [Act.put, List.setIfInBounds_toArray, List.set_cons_zero, List.set_cons_succ])
    refine wpAnyH_take (i := 7) (v := ?_) rfl (by kernel_rfl) (by kernel_rfl) (by kernel_rfl) (fun _ _ _ h => h) (Or.inl ⟨by rfl, ?_⟩) (by assumption) ?_
    rotate_left
    · intro w hSw; (try dsimp only at hSw); go_simp <;> with_reducible rfl
    (try simp only [Act.put, List.setIfInBounds_toArray, List.set_cons_zero, List.set_cons_succ])
    refine wpAnyH_take (i := 8) (v := ?_) rfl (by kernel_rfl) (by kernel_rfl) (by kernel_rfl) (fun _ _ _ h => h) (Or.inl ⟨by rfl, ?_⟩) (by assumption) ?_
    rotate_left
    · intro w hSw; (try dsimp only at hSw); go_simp <;> with_reducible rfl
    (try simp only [Act.put, List.setIfInBounds_toArray, List.set_cons_zero, List.set_cons_succ])
    refine wpAnyH_take (i := 9) (v := ?_) rfl (by kernel_rfl) (by kernel_rfl) (by kernel_rfl) (fun _ _ _ h => h) (Or.inl ⟨by rfl, ?_⟩) (by assumption) ?_
    rotate_left
    · intro w hSw; (try dsimp only at hSw); go_simp <;> with_reducible rfl
    (try simp only [Act.put, List.setIfInBounds_toArray, List.set_cons_zero, List.set_cons_succ])
    refine wpAnyH_done (by kernel_rfl) ?_ _
    replace K0 := K0.trans (ku.trans hkv)
    replace KF := KF.trans (ku.trans hkv)
    replace hf := hf.kp (ku.trans hkv)
    replace i5 := i5.kp (ku.trans hkv)
    replace i6 := i6.kp (ku.trans hkv)
    replace i7 := i7.kp (ku.trans hkv)
    replace i11 := i11.kp (ku.trans hkv)
    (try clear s0 s3 s0b s3b his)
    clear ku hkv
    have q0 := KF.get x1
    have q1 := KF.get y1
    have CC := Lib.hid (implGainOf_any _ F worth A11 (baL F worth cl li) L11 c11 wv hf i11 HL11.out)
    rw [Hhw.out, Ho2.out] at CC
    go_wp2_with fail
    with_reducible refine Calls.mono CC.out ?_
    rintro e wz ⟨rfl, hkv⟩
    clear CC q0 q1
    replace K0 := K0.trans hkv
    clear KF hf i5 i6 i7 i11 hkv
    go_upto_region 19 with fail
    clear r1 r2 s1
    obtain ⟨wt, rfl⟩ : ∃ q : World, q = wz := ⟨_, rfl⟩
    have CC := Lib.hid (drawIsAllowed_any A n c wt (H0.out.kp K0))
    go_wp2_with fail
    with_reducible refine Calls.mono CC.out ?_
    rintro e wa ⟨v, cv, lv, sv, rfl, hv, h1, h2, h3, hka⟩
    clear CC
    obtain ⟨G, A23, c23, B23, d23, rfl, hg⟩ := hv.open
    obtain ⟨A24, c24, gc, L24, rfl, i24, H24, _, _⟩ := h1.list
    obtain ⟨A25, c25, gl, L25, rfl, i25, H25, _, _⟩ := h2.list
    obtain ⟨A26, c26, gs, L26, rfl, i26, H26, _, _⟩ := h3.list
    have kv : Kp wa (World.alloc wa (.cells #[.slice A23 G.op.length c23, .slice B23 G.di.length d23] 27)) := (Kp.refl _).alloc _
    obtain ⟨x23, y23⟩ := box2 wa (.slice A23 G.op.length c23) (.slice B23 G.di.length d23) 27
    replace K0 := (K0.trans hka).trans kv
    replace hg := hg.kp kv
    replace i24 := i24.kp kv
    replace i25 := i25.kp kv
    replace i26 := i26.kp kv
    clear hv h1 h2 h3 hka
    go_wp2_with fail
    generalize wa.alloc (.cells #[.slice A23 G.op.length c23, .slice B23 G.di.length d23] 27) = wb at *
    generalize wa.heap.size = b23 at *
    clear kv
    obtain ⟨ir, Hir⟩ : ∃ b, Hid (allowR G gc gl gs = b) := ⟨_, Lib.hid rfl⟩
    obtain ⟨ik, Hik⟩ : ∃ b, Hid (allowOk G gc gl gs = b) := ⟨_, Lib.hid rfl⟩
    have m1 : (ir != ir) = false := by simp
    have m2 : (ik != ik) = false := by simp
    have CC := Lib.hid (implIsAllowed_any _ G A24 gc L24 c24 A25 gl L25 c25 A26 gs L26 c26 wb hg i24 H24.out i25 H25.out i26 H26.out)
    rw [Hir.out, Hik.out] at CC
    with_reducible refine Calls.mono CC.out ?_
    rintro e wc ⟨rfl, hkc⟩
    clear CC
    have q0 := hkc.get x23
    have q1 := hkc.get y23
    have CC := Lib.hid (specIsAllowed_any _ G A24 gc L24 c24 A25 gl L25 c25 A26 gs L26 c26 wc (hg.kp hkc) (i24.kp hkc) H24.out (i25.kp hkc) H25.out (i26.kp hkc) H26.out)
    rw [Hir.out, Hik.out] at CC
    go_wp2_with fail
    with_reducible refine Calls.mono CC.out ?_
    rintro e wd ⟨rfl, hkd⟩
    clear CC q0 q1 x23 y23
    replace K0 := K0.trans (hkc.trans hkd)
    clear hg i24 i25 i26 hkc hkd
    have CC := Lib.hid (drawRatioGain_any A n c wd (H0.out.kp K0))
    go_wp2_with fail
    with_reducible refine Calls.mono CC.out ?_
    rintro e we ⟨v, w2, k2, rfl, hv, hke⟩
    clear CC m1 m2
    obtain ⟨H, A31, c31, B31, d31, rfl, hh⟩ := hv.open
    have kv : Kp we (World.alloc we (.cells #[.slice A31 H.op.length c31, .slice B31 H.di.length d31] 27)) := (Kp.refl _).alloc _
    obtain ⟨x31, y31⟩ := box2 we (.slice A31 H.op.length c31) (.slice B31 H.di.length d31) 27
    replace K0 := (K0.trans hke).trans kv
    replace hh := hh.kp kv
    clear hv hke
    go_wp2_with fail
    generalize we.alloc (.cells #[.slice A31 H.op.length c31, .slice B31 H.di.length d31] 27) = wf at *
    generalize we.heap.size = b31 at *
    clear kv
    have KH : Kp wf wf := Kp.refl _
    obtain ⟨rk, Hrk⟩ : ∃ b, Hid (bbOk H w2 k2 = b) := ⟨_, Lib.hid rfl⟩
    obtain ⟨L34, HL34⟩ : ∃ b, Hid ((rgL H w2 k2).length = b) := ⟨_, Lib.hid rfl⟩
    obtain ⟨L38, HL38⟩ : ∃ b, Hid ((bbL H w2 k2).length = b) := ⟨_, Lib.hid rfl⟩
    have hL34 : L34 ≤ 1048576 := by rw [← HL34.out]; exact rgL_len H w2 k2
    have hL38 : L38 ≤ 1048576 := by rw [← HL38.out]; exact bbL_len H w2 k2
    have m3 : (rk != rk) = false := by simp
    have CC := Lib.hid (implRg_any _ H w2 k2 wf hh)
    rw [Hrk.out] at CC
    with_reducible refine Calls.mono CC.out ?_
    rintro e wg ⟨gv, rfl, ho, hkg⟩
    clear CC
    obtain ⟨A34, c34, rfl, i34⟩ := ho.openL HL34 hL34
    clear ho
    replace KH := KH.trans hkg
    have q0 := KH.get x31
    have q1 := KH.get y31
    have CC := Lib.hid (specRg_any _ H w2 k2 wg (hh.kp KH))
    rw [Hrk.out] at CC
    go_wp2_with fail
    with_reducible refine Calls.mono CC.out ?_
    rintro e wi ⟨gv, rfl, ho, hkg⟩
    clear CC q0 q1
    obtain ⟨A36, c36, rfl, i36⟩ := ho.openL HL34 hL34
    clear ho
    replace KH := KH.trans hkg
    replace i34 := i34.kp hkg
    clear hkg
    have q0 := KH.get x31
    have q1 := KH.get y31
    have CC := Lib.hid (rInts_same A34 A36 (rgL H w2 k2) L34 c34 c36 wi i34 i36 HL34.out)
    go_wp2_with fail
    with_reducible refine Calls.mono CC.out ?_
    rintro e wj ⟨rfl, hkg⟩
    clear CC q0 q1 i36
    replace KH := KH.trans hkg
    replace i34 := i34.kp hkg
    clear hkg
    have q0 := KH.get x31
    have q1 := KH.get y31
    have CC := Lib.hid (implBb_any _ H w2 k2 wj (hh.kp KH))
    rw [Hrk.out] at CC
    go_wp2_with fail
    with_reducible refine Calls.mono CC.out ?_
    rintro e wk ⟨gv, rfl, ho, hkg⟩
    clear CC q0 q1
    obtain ⟨A38, c38, rfl, i38⟩ := ho.openL HL38 hL38
    clear ho
    replace KH := KH.trans hkg
    replace i34 := i34.kp hkg
    clear hkg
    have q0 := KH.get x31
    have q1 := KH.get y31
    have CC := Lib.hid (specBb_any _ H w2 k2 wk (hh.kp KH))
    rw [Hrk.out] at CC
    go_wp2_with fail
    with_reducible refine Calls.mono CC.out ?_
    rintro e wl ⟨gv, rfl, ho, hkg⟩
    clear CC q0 q1
    obtain ⟨A40, c40, rfl, i40⟩ := ho.openL HL38 hL38
    clear ho
    replace KH := KH.trans hkg
    replace i34 := i34.kp hkg
    replace i38 := i38.kp hkg
    clear hkg
    have CC := Lib.hid (rInts_same A38 A40 (bbL H w2 k2) L38 c38 c40 wl i38 i40 HL38.out)
    go_wp2_with fail
    with_reducible refine Calls.mono CC.out ?_
    rintro e wm ⟨rfl, hkg⟩
    clear CC i40
    replace KH := KH.trans hkg
    replace i34 := i34.kp hkg
    replace i38 := i38.kp hkg
    clear hkg m3
    cases rk
    · go_wp2_with fail
      go_ret
      exact ⟨rfl, K0.trans KH⟩
    · have HR := Lib.hid (rg_parts Hrk.out)
      obtain ⟨p1, Hp1⟩ : ∃ b, Hid (poOk H (rgL H w2 k2) = b) := ⟨_, Lib.hid rfl⟩
      obtain ⟨p2, Hp2⟩ : ∃ b, Hid (poOk H (bbL H w2 k2) = b) := ⟨_, Lib.hid rfl⟩
      obtain ⟨g1, Hg1⟩ : ∃ b, Hid (gainOk H w2 (rgL H w2 k2) = b) := ⟨_, Lib.hid rfl⟩
      obtain ⟨g2, Hg2⟩ : ∃ b, Hid (gainOk H w2 (bbL H w2 k2) = b) := ⟨_, Lib.hid rfl⟩
      obtain ⟨pa, Hpa⟩ : ∃ b, Hid (poR H (rgL H w2 k2) = b) := ⟨_, Lib.hid rfl⟩
      obtain ⟨pb, Hpb⟩ : ∃ b, Hid (poR H (bbL H w2 k2) = b) := ⟨_, Lib.hid rfl⟩
      obtain ⟨lo, Hlo⟩ : ∃ b, Hid (gainR H w2 (rgL H w2 k2) = b) := ⟨_, Lib.hid rfl⟩
      obtain ⟨hi, Hhi⟩ : ∃ b, Hid (gainR H w2 (bbL H w2 k2) = b) := ⟨_, Lib.hid rfl⟩
      rw [Hp1.out, Hp2.out, Hg1.out, Hg2.out, Hpa.out, Hpb.out, Hlo.out, Hhi.out] at HR
      obtain rfl := HR.out.a1
      obtain rfl := HR.out.a2
      obtain rfl := HR.out.a5
      obtain rfl := HR.out.a6
      have hbd := HR.out.bd
      obtain ⟨_, s2, s3⟩ := lim_nums (low := lo) (high := hi) ⟨hbd.1, Int.le_trans HR.out.le hbd.2⟩ ⟨Int.le_trans hbd.1 HR.out.le, hbd.2⟩
      have t1 : decide (pa ≤ k2) = true := decide_eq_true HR.out.pa
      have t2 : decide (pb ≤ k2) = true := decide_eq_true HR.out.pb
      have t3 : decide (lo ≤ hi) = true := decide_eq_true HR.out.le
      have t4 : decide (316 * hi ≤ 1000 * lo) = true := decide_eq_true HR.out.share
      clear hbd
      have q0 := KH.get x31
      have q1 := KH.get y31
      have CC := Lib.hid (implPo_any _ H A34 (rgL H w2 k2) L34 c34 wm (hh.kp KH) i34 HL34.out)
      rw [Hpa.out, Hp1.out] at CC
      go_wp2_with fail
      with_reducible refine Calls.mono CC.out ?_
      rintro e wn ⟨rfl, hkg⟩
      clear CC q0 q1
      replace KH := KH.trans hkg
      replace i34 := i34.kp hkg
      replace i38 := i38.kp hkg
      clear hkg
      have q0 := KH.get x31
      have q1 := KH.get y31
      have CC := Lib.hid (implPo_any _ H A38 (bbL H w2 k2) L38 c38 wn (hh.kp KH) i38 HL38.out)
      rw [Hpb.out, Hp2.out] at CC
      go_wp2_with fail
      with_reducible refine Calls.mono CC.out ?_
      rintro e wo ⟨rfl, hkg⟩
      clear CC q0 q1
      replace KH := KH.trans hkg
      replace i34 := i34.kp hkg
      replace i38 := i38.kp hkg
      clear hkg
      have q0 := KH.get x31
      have q1 := KH.get y31
      have CC := Lib.hid (implGainOf_any _ H w2 A34 (rgL H w2 k2) L34 c34 wo (hh.kp KH) i34 HL34.out)
      rw [Hlo.out, Hg1.out] at CC
      go_wp2_with fail
      with_reducible refine Calls.mono CC.out ?_
      rintro e wp ⟨rfl, hkg⟩
      clear CC q0 q1
      replace KH := KH.trans hkg
      replace i38 := i38.kp hkg
      clear hkg
      have q0 := KH.get x31
      have q1 := KH.get y31
      have CC := Lib.hid (implGainOf_any _ H w2 A38 (bbL H w2 k2) L38 c38 wp (hh.kp KH) i38 HL38.out)
      rw [Hhi.out, Hg2.out] at CC
      go_wp2_with fail
      with_reducible refine Calls.mono CC.out ?_
      rintro e wq ⟨rfl, hkg⟩
      clear CC q0 q1
      go_wp2_with fail
      go_ret
      exact ⟨by simp, K0.trans (KH.trans hkg)⟩
end Go.Proofs.YtlglonjijfpgaaaGreat
