/- FnLeastFlows: the walk of the law. No condition. -/
import Derived.Test.YtgdicmeabppngaaQAc
import Derived.Test.YtgdicmeabppngaaQAw
import Derived.Test.YtgdicmeabppngaaQBh
import Derived.Test.YtgdicmeabppngaaQBk
import Derived.Test.YtgdicmeabppngaaQBl
import Derived.Test.YtgdicmeabppngaaQBm
import Derived.Test.YtgdicmeabppngaaQBo
import Derived.Test.YtgdicmeabppngaaQBq
import Derived.Test.YtgdicmeabppngaaQAb
namespace Go.Proofs.Ytgdicmeabppngaa
open Go.ChangeShapes Go.WideShapes Go.ChangeAt Go.RowKit Go.Sort

theorem DFld.open {w : World} {b : Nat} {v : Value} (h : DFld w b v) : ∃ F A c B d, v = .agg #[.slice A F.op.length c, .slice B F.di.length d] ∧ FldAt w v F := by
  obtain ⟨F, hf⟩ := h
  have hfa := hf.fld
  obtain ⟨A, c, B, d, e, _⟩ := hf
  exact ⟨F, A, c, B, d, e, hfa⟩
theorem DInts.listL {w : World} {b : Nat} {v : Value} (h : DInts w b v) : ∃ A c xs L, v = .slice A L c ∧ IntsAt w A xs ∧ Hid (xs.length = L) ∧ L ≤ 200 := by
  obtain ⟨A, c, xs, e, hi, hl, _⟩ := h.ints
  exact ⟨A, c, xs, _, e, hi, Lib.hid rfl, hl⟩
theorem Own.openL {w : World} {base : Nat} {v : Value} {xs : List Int} (h : Own w base v xs) {L : Nat} (hl : Hid (xs.length = L)) (h2 : L ≤ 1048576) : ∃ A c, v = .slice A L c ∧ IntsAt w A xs := by
  have := hl.out
  obtain ⟨A, c, e, hi⟩ := h.ints (by omega)
  exact ⟨A, c, by rw [← this]; exact e, hi⟩
theorem GridV.openL {w : World} {v : Value} {rows : List (List Int)} (h : GridV w v rows) {L : Nat} (hl : Hid (rows.length = L)) : ∃ A c, v = .slice A L c ∧ GridAt w A rows := by
  obtain ⟨A, c, e, hg⟩ := h
  exact ⟨A, c, by rw [← hl.out]; exact e, hg⟩
theorem ls_round {F : Fld} {R N S : List Int} (h : lfOk F R N S = true) {k : Nat} (hk : k < S.length) : ∃ b : Nat, S[k] = (b : Int) ∧ b < F.op.length ∧ R.length = F.op.length ∧ (lpW F R N S).length = F.op.length ∧ 0 ≤ lget R b ∧ lget R b ≤ 20 := by
  have h0 := h
  unfold lfOk at h0
  rw [Bool.and_eq_true, decide_eq_true_eq] at h0
  have hP := haul_p h0.1
  have h1 := set_mem hP.set_ _ (List.getElem_mem hk)
  refine ⟨(S[k]).toNat, by omega, by omega, hP.rl, ?_, hP.rb _⟩
  unfold lpW
  rw [if_pos h, mapTo_len]
set_option maxRecDepth 100000 in
set_option maxHeartbeats 8000000 in
theorem lfw_law (A : Option Addr) (n c : Nat) (w : World) (hb : BytesAt w A n) (hnc : n ≤ c) :
    Calls Try.prog 3 #[.slice A n c] w fun e w' => e = .returned (.bool true) ∧ Kp w w' := by
  have CB := Lib.hid (vBig_any A n c w)
  by_cases hbig : 65536 < n
  · have hd : decide (65536 < (n : Int)) = true := decide_eq_true (by omega)
    rw [hd] at CB
    go_enter Try.func3, Try.ntmps3
    go_wp2_with fail
    with_reducible refine Calls.mono CB.out ?_
    rintro e w1 ⟨rfl, rfl⟩
    go_wp2_with fail
    go_ret
    exact ⟨rfl, Kp.refl _⟩
  have hn6 : n ≤ 65536 := by omega
  have hd : decide (65536 < (n : Int)) = false := decide_eq_false (by omega)
  rw [hd] at CB
  go_enter Try.func3, Try.ntmps3
  go_wp2_with fail
  with_reducible refine Calls.mono CB.out ?_
  rintro e w1 ⟨rfl, rfl⟩
  clear CB hd hbig
  have K0 : Kp w w := Kp.refl _
  have H0 := Lib.hid hb
  clear hb
  go_wp2_with fail
  have CC := Lib.hid (drawLeastFlow_any A n c w H0.out)
  with_reducible refine Calls.mono CC.out ?_
  rintro e w1 ⟨v, rv, nv, sv, rfl, hv, h2, h3, h4, hk1⟩
  clear CC
  replace K0 := K0.trans hk1
  obtain ⟨F, A1, c1, B1, d1, rfl, hf⟩ := hv.open
  obtain ⟨A2, c2, R, L2, rfl, i2, H2, b2⟩ := h2.listL
  obtain ⟨A3, c3, N, L3, rfl, i3, H3, b3⟩ := h3.listL
  obtain ⟨A4, c4, S, L4, rfl, i4, H4, b4⟩ := h4.listL
  have kv : Kp w1 (World.alloc w1 (.cells #[.slice A1 F.op.length c1, .slice B1 F.di.length d1] 27)) := (Kp.refl _).alloc _
  obtain ⟨x1, y1⟩ := box2 w1 (.slice A1 F.op.length c1) (.slice B1 F.di.length d1) 27
  replace K0 := K0.trans kv
  replace hf := hf.kp kv
  replace i2 := i2.kp kv
  replace i3 := i3.kp kv
  replace i4 := i4.kp kv
  clear hv h2 h3 h4
  go_wp2_with fail
  generalize w1.alloc (.cells #[.slice A1 F.op.length c1, .slice B1 F.di.length d1] 27) = wf at *
  generalize w1.heap.size = b1 at *
  clear kv
  have KF : Kp wf wf := Kp.refl _
  obtain ⟨ok, Hok⟩ : ∃ b, Hid (lfOk F R N S = b) := ⟨_, Lib.hid rfl⟩
  obtain ⟨L7, HL7⟩ : ∃ l, Hid ((lsL F R N S).length = l) := ⟨_, Lib.hid rfl⟩
  obtain ⟨LU, HLU⟩ : ∃ l, Hid ((lpU F R N S).length = l) := ⟨_, Lib.hid rfl⟩
  obtain ⟨LW, HLW⟩ : ∃ l, Hid ((lpW F R N S).length = l) := ⟨_, Lib.hid rfl⟩
  have hLU : LU ≤ 1048576 := by rw [← HLU.out]; exact lpU_len F R N S
  have hLW : LW ≤ 1048576 := by rw [← HLW.out]; exact lpW_len F R N S
  have CC := Lib.hid (implLs_any _ F A2 R L2 c2 A3 N L3 c3 A4 S L4 c4 wf hf i2 H2.out i3 H3.out i4 H4.out)
  with_reducible refine Calls.mono CC.out ?_
  rintro e w2 ⟨gv, rfl, hg, hk2⟩
  clear CC
  replace K0 := K0.trans hk2
  replace KF := KF.trans hk2
  replace hf := hf.kp hk2
  replace i2 := i2.kp hk2
  replace i3 := i3.kp hk2
  replace i4 := i4.kp hk2
  rw [Hok.out]
  obtain ⟨A7, c7, rfl, i7⟩ := (hg.gridv (lsL_sm F R N S)).openL HL7
  clear hg
  have q_x1 := KF.get x1
  have q_y1 := KF.get y1
  go_wp2_with fail
  have CC := Lib.hid (specLs_any _ F A2 R L2 c2 A3 N L3 c3 A4 S L4 c4 w2 hf i2 H2.out i3 H3.out i4 H4.out)
  with_reducible refine Calls.mono CC.out ?_
  rintro e w3 ⟨gv, rfl, hg, hk3⟩
  clear CC q_x1 q_y1
  replace K0 := K0.trans hk3
  replace KF := KF.trans hk3
  replace hf := hf.kp hk3
  replace i2 := i2.kp hk3
  replace i3 := i3.kp hk3
  replace i4 := i4.kp hk3
  replace i7 := i7.kp hk3
  rw [Hok.out]
  obtain ⟨A9, c9, rfl, i9⟩ := hg.openL HL7
  clear hg
  have q_x1 := KF.get x1
  have q_y1 := KF.get y1
  go_wp2_with fail
  have CC := Lib.hid (implLp_any _ F A2 R L2 c2 A3 N L3 c3 A4 S L4 c4 w3 hf i2 H2.out i3 H3.out i4 H4.out)
  with_reducible refine Calls.mono CC.out ?_
  rintro e w4 ⟨uv, wv, rfl, hu, hw, ap, hk4⟩
  clear CC q_x1 q_y1
  replace K0 := K0.trans hk4
  replace KF := KF.trans hk4
  replace hf := hf.kp hk4
  replace i2 := i2.kp hk4
  replace i3 := i3.kp hk4
  replace i4 := i4.kp hk4
  replace i7 := i7.kp hk4
  replace i9 := i9.kp hk4
  rw [Hok.out]
  obtain ⟨A11, c11, rfl, i11⟩ := hu.openL HLU hLU
  obtain ⟨A12, c12, rfl, i12⟩ := hw.openL HLW hLW
  clear hu hw ap
  have q_x1 := KF.get x1
  have q_y1 := KF.get y1
  go_wp2_with fail
  have CC := Lib.hid (specLp_any _ F A2 R L2 c2 A3 N L3 c3 A4 S L4 c4 w4 hf i2 H2.out i3 H3.out i4 H4.out)
  with_reducible refine Calls.mono CC.out ?_
  rintro e w5 ⟨uv, wv, rfl, hu, hw, ap, hk5⟩
  clear CC q_x1 q_y1
  replace K0 := K0.trans hk5
  replace KF := KF.trans hk5
  replace hf := hf.kp hk5
  replace i2 := i2.kp hk5
  replace i3 := i3.kp hk5
  replace i4 := i4.kp hk5
  replace i7 := i7.kp hk5
  replace i9 := i9.kp hk5
  replace i11 := i11.kp hk5
  replace i12 := i12.kp hk5
  rw [Hok.out]
  obtain ⟨A14, c14, rfl, i14⟩ := hu.openL HLU hLU
  obtain ⟨A15, c15, rfl, i15⟩ := hw.openL HLW hLW
  clear hu hw ap
  have q_x1 := KF.get x1
  have q_y1 := KF.get y1
  go_wp2_with fail
  have CC := Lib.hid (vCut_all A n c 1 w5 (H0.out.kp K0) hn6 hnc)
  with_reducible refine Calls.mono CC.out ?_
  rintro e w6 ⟨A', n', c', rfl, ⟨hb8, hc8, hn8⟩, hk6⟩
  clear CC q_x1 q_y1
  replace K0 := K0.trans hk6
  replace KF := KF.trans hk6
  replace hf := hf.kp hk6
  replace i2 := i2.kp hk6
  replace i3 := i3.kp hk6
  replace i4 := i4.kp hk6
  replace i7 := i7.kp hk6
  replace i9 := i9.kp hk6
  replace i11 := i11.kp hk6
  replace i12 := i12.kp hk6
  replace i14 := i14.kp hk6
  replace i15 := i15.kp hk6
  have q_x1 := KF.get x1
  have q_y1 := KF.get y1
  go_wp2_with fail
  have CC := Lib.hid (drawWholeFlow_any A' n' c' w6 hb8)
  with_reducible refine Calls.mono CC.out ?_
  rintro e w7 ⟨v, rv, nv, sv, rfl, hv, h2, h3, h4, hk7⟩
  clear CC q_x1 q_y1
  replace K0 := K0.trans hk7
  replace KF := KF.trans hk7
  replace hf := hf.kp hk7
  replace i2 := i2.kp hk7
  replace i3 := i3.kp hk7
  replace i4 := i4.kp hk7
  replace i7 := i7.kp hk7
  replace i9 := i9.kp hk7
  replace i11 := i11.kp hk7
  replace i12 := i12.kp hk7
  replace i14 := i14.kp hk7
  replace i15 := i15.kp hk7
  obtain ⟨G, A17, c17, B17, d17, rfl, hg⟩ := hv.open
  obtain ⟨A18, c18, R2, L18, rfl, i18, H18, b18⟩ := h2.listL
  obtain ⟨A19, c19, N2, L19, rfl, i19, H19, b19⟩ := h3.listL
  obtain ⟨A20, c20, S2, L20, rfl, i20, H20, b20⟩ := h4.listL
  have kv : Kp w7 (World.alloc w7 (.cells #[.slice A17 G.op.length c17, .slice B17 G.di.length d17] 27)) := (Kp.refl _).alloc _
  obtain ⟨x17, y17⟩ := box2 w7 (.slice A17 G.op.length c17) (.slice B17 G.di.length d17) 27
  replace K0 := K0.trans kv
  replace KF := KF.trans kv
  replace hf := hf.kp kv
  replace i2 := i2.kp kv
  replace i3 := i3.kp kv
  replace i4 := i4.kp kv
  replace i7 := i7.kp kv
  replace i9 := i9.kp kv
  replace i11 := i11.kp kv
  replace i12 := i12.kp kv
  replace i14 := i14.kp kv
  replace i15 := i15.kp kv
  replace hg := hg.kp kv
  replace i18 := i18.kp kv
  replace i19 := i19.kp kv
  replace i20 := i20.kp kv
  clear hv h2 h3 h4 hb8 hc8 hn8
  go_wp2_with fail
  generalize w7.alloc (.cells #[.slice A17 G.op.length c17, .slice B17 G.di.length d17] 27) = wg at *
  generalize w7.heap.size = b17 at *
  clear kv
  have KG : Kp wg wg := Kp.refl _
  have HW2 := Lib.hid (wh_parts G R2 N2 S2 H19.out)
  obtain ⟨wf2, Hwf2⟩ : ∃ b, Hid (whF G R2 N2 S2 = b) := ⟨_, Lib.hid rfl⟩
  obtain ⟨wc2, Hwc2⟩ : ∃ b, Hid (whC G R2 N2 S2 = b) := ⟨_, Lib.hid rfl⟩
  obtain ⟨ok2, Hok2⟩ : ∃ b, Hid (lfOk G R2 N2 S2 = b) := ⟨_, Lib.hid rfl⟩
  obtain ⟨lv2, Hlv2⟩ : ∃ b, Hid (lfV G R2 N2 S2 = b) := ⟨_, Lib.hid rfl⟩
  obtain ⟨mo2, Hmo2⟩ : ∃ b, Hid (mostT N2 L19 = b) := ⟨_, Lib.hid rfl⟩
  rw [Hwf2.out, Hwc2.out, Hok2.out, Hlv2.out, Hmo2.out] at HW2
  obtain ⟨LS, HLS⟩ : ∃ l, Hid ((whL G R2 N2 S2).length = l) := ⟨_, Lib.hid rfl⟩
  have hLS : LS ≤ 1048576 := by rw [← HLS.out]; exact whL_len G R2 N2 S2
  have CC := Lib.hid (implWh_any _ G A18 R2 L18 c18 A19 N2 L19 c19 A20 S2 L20 c20 wg hg i18 H18.out i19 H19.out i20 H20.out)
  with_reducible refine Calls.mono CC.out ?_
  rintro e w8 ⟨sv, rfl, hs, hk8⟩
  clear CC
  replace K0 := K0.trans hk8
  replace KF := KF.trans hk8
  replace KG := KG.trans hk8
  replace hf := hf.kp hk8
  replace i2 := i2.kp hk8
  replace i3 := i3.kp hk8
  replace i4 := i4.kp hk8
  replace i7 := i7.kp hk8
  replace i9 := i9.kp hk8
  replace i11 := i11.kp hk8
  replace i12 := i12.kp hk8
  replace i14 := i14.kp hk8
  replace i15 := i15.kp hk8
  replace hg := hg.kp hk8
  replace i18 := i18.kp hk8
  replace i19 := i19.kp hk8
  replace i20 := i20.kp hk8
  rw [Hwc2.out, Hwf2.out]
  obtain ⟨A21, c21, rfl, i21⟩ := hs.openL HLS hLS
  clear hs
  have q_x1 := KF.get x1
  have q_y1 := KF.get y1
  have q_x17 := KG.get x17
  have q_y17 := KG.get y17
  go_wp2_with fail
  have CC := Lib.hid (specWh_any _ G A18 R2 L18 c18 A19 N2 L19 c19 A20 S2 L20 c20 w8 hg i18 H18.out i19 H19.out i20 H20.out)
  with_reducible refine Calls.mono CC.out ?_
  rintro e w9 ⟨sv, rfl, hs, hk9⟩
  clear CC q_x1 q_y1 q_x17 q_y17
  replace K0 := K0.trans hk9
  replace KF := KF.trans hk9
  replace KG := KG.trans hk9
  replace hf := hf.kp hk9
  replace i2 := i2.kp hk9
  replace i3 := i3.kp hk9
  replace i4 := i4.kp hk9
  replace i7 := i7.kp hk9
  replace i9 := i9.kp hk9
  replace i11 := i11.kp hk9
  replace i12 := i12.kp hk9
  replace i14 := i14.kp hk9
  replace i15 := i15.kp hk9
  replace hg := hg.kp hk9
  replace i18 := i18.kp hk9
  replace i19 := i19.kp hk9
  replace i20 := i20.kp hk9
  replace i21 := i21.kp hk9
  rw [Hwc2.out, Hwf2.out]
  obtain ⟨A24, c24, rfl, i24⟩ := hs.openL HLS hLS
  clear hs
  have n1 : (ok != ok) = false := by simp
  have n2 : (wc2 != wc2) = false := by simp
  have n3 : (wf2 != wf2) = false := by simp
  have q_x1 := KF.get x1
  have q_y1 := KF.get y1
  have q_x17 := KG.get x17
  have q_y17 := KG.get y17
  go_wp2_with fail
  have CC := Lib.hid (vTable_same A7 A9 (lsL F R N S) L7 c7 c9 w9 i7 i9 HL7.out)
  with_reducible refine Calls.mono CC.out ?_
  rintro e w10 ⟨rfl, hk10⟩
  clear CC q_x1 q_y1 q_x17 q_y17
  replace K0 := K0.trans hk10
  replace KF := KF.trans hk10
  replace KG := KG.trans hk10
  replace hf := hf.kp hk10
  replace i2 := i2.kp hk10
  replace i3 := i3.kp hk10
  replace i4 := i4.kp hk10
  replace i7 := i7.kp hk10
  replace i9 := i9.kp hk10
  replace i11 := i11.kp hk10
  replace i12 := i12.kp hk10
  replace i14 := i14.kp hk10
  replace i15 := i15.kp hk10
  replace hg := hg.kp hk10
  replace i18 := i18.kp hk10
  replace i19 := i19.kp hk10
  replace i20 := i20.kp hk10
  replace i21 := i21.kp hk10
  replace i24 := i24.kp hk10
  have q_x1 := KF.get x1
  have q_y1 := KF.get y1
  have q_x17 := KG.get x17
  have q_y17 := KG.get y17
  go_wp2_with fail
  have CC := Lib.hid (vInts_same A11 A14 (lpU F R N S) LU c11 c14 w10 i11 i14 HLU.out)
  with_reducible refine Calls.mono CC.out ?_
  rintro e w11 ⟨rfl, hk11⟩
  clear CC q_x1 q_y1 q_x17 q_y17
  replace K0 := K0.trans hk11
  replace KF := KF.trans hk11
  replace KG := KG.trans hk11
  replace hf := hf.kp hk11
  replace i2 := i2.kp hk11
  replace i3 := i3.kp hk11
  replace i4 := i4.kp hk11
  replace i7 := i7.kp hk11
  replace i9 := i9.kp hk11
  replace i11 := i11.kp hk11
  replace i12 := i12.kp hk11
  replace i14 := i14.kp hk11
  replace i15 := i15.kp hk11
  replace hg := hg.kp hk11
  replace i18 := i18.kp hk11
  replace i19 := i19.kp hk11
  replace i20 := i20.kp hk11
  replace i21 := i21.kp hk11
  replace i24 := i24.kp hk11
  have q_x1 := KF.get x1
  have q_y1 := KF.get y1
  have q_x17 := KG.get x17
  have q_y17 := KG.get y17
  go_wp2_with fail
  have CC := Lib.hid (vInts_same A12 A15 (lpW F R N S) LW c12 c15 w11 i12 i15 HLW.out)
  with_reducible refine Calls.mono CC.out ?_
  rintro e w12 ⟨rfl, hk12⟩
  clear CC q_x1 q_y1 q_x17 q_y17
  replace K0 := K0.trans hk12
  replace KF := KF.trans hk12
  replace KG := KG.trans hk12
  replace hf := hf.kp hk12
  replace i2 := i2.kp hk12
  replace i3 := i3.kp hk12
  replace i4 := i4.kp hk12
  replace i7 := i7.kp hk12
  replace i9 := i9.kp hk12
  replace i11 := i11.kp hk12
  replace i12 := i12.kp hk12
  replace i14 := i14.kp hk12
  replace i15 := i15.kp hk12
  replace hg := hg.kp hk12
  replace i18 := i18.kp hk12
  replace i19 := i19.kp hk12
  replace i20 := i20.kp hk12
  replace i21 := i21.kp hk12
  replace i24 := i24.kp hk12
  have q_x1 := KF.get x1
  have q_y1 := KF.get y1
  have q_x17 := KG.get x17
  have q_y17 := KG.get y17
  go_wp2_with fail
  have CC := Lib.hid (vInts_same A21 A24 (whL G R2 N2 S2) LS c21 c24 w12 i21 i24 HLS.out)
  with_reducible refine Calls.mono CC.out ?_
  rintro e w13 ⟨rfl, hk13⟩
  clear CC q_x1 q_y1 q_x17 q_y17
  replace K0 := K0.trans hk13
  replace KF := KF.trans hk13
  replace KG := KG.trans hk13
  replace hf := hf.kp hk13
  replace i2 := i2.kp hk13
  replace i3 := i3.kp hk13
  replace i4 := i4.kp hk13
  replace i7 := i7.kp hk13
  replace i9 := i9.kp hk13
  replace i11 := i11.kp hk13
  replace i12 := i12.kp hk13
  replace i14 := i14.kp hk13
  replace i15 := i15.kp hk13
  replace hg := hg.kp hk13
  replace i18 := i18.kp hk13
  replace i19 := i19.kp hk13
  replace i20 := i20.kp hk13
  replace i21 := i21.kp hk13
  replace i24 := i24.kp hk13
  clear n1 n2 n3 i9 i14 i15 i21 i24
  cases wf2
  · obtain ⟨wt, hwt⟩ : ∃ q : World, q = w13 := ⟨_, rfl⟩
    cases ok
    · have q_x1 := KF.get x1
      have q_y1 := KF.get y1
      have q_x17 := KG.get x17
      have q_y17 := KG.get y17
      go_wp2_with fail
      go_ret
      exact ⟨rfl, K0⟩
    · obtain ⟨fl, ho⟩ := opt_ex _ F A2 R L2 c2 A3 N L3 c3 A4 S L4 c4 w13 hf i2 H2.out i3 H3.out i4 H4.out Hok.out
      have HO := Lib.hid ho
      obtain ⟨lv, Hlv⟩ : ∃ z, Hid (lfV F R N S = z) := ⟨_, Lib.hid rfl⟩
      obtain ⟨q1, q2⟩ := ls_flow Hok.out
      obtain ⟨q3, q4, _⟩ := ls_proof Hok.out ho
      have HLB := Lib.hid (lf_bd0 F R N S)
      rw [Hlv.out] at HLB
      clear ho hwt wt
      have q_x1 := KF.get x1
      have q_y1 := KF.get y1
      have q_x17 := KG.get x17
      have q_y17 := KG.get y17
      go_wp2_with fail
      have CC := Lib.hid (implLf_any _ F A2 R L2 c2 A3 N L3 c3 A4 S L4 c4 w13 hf i2 H2.out i3 H3.out i4 H4.out)
      with_reducible refine Calls.mono CC.out ?_
      rintro e w14 ⟨rfl, hk14⟩
      clear CC q_x1 q_y1 q_x17 q_y17
      replace K0 := K0.trans hk14
      replace KF := KF.trans hk14
      replace KG := KG.trans hk14
      replace hf := hf.kp hk14
      replace i2 := i2.kp hk14
      replace i3 := i3.kp hk14
      replace i4 := i4.kp hk14
      replace i7 := i7.kp hk14
      replace i11 := i11.kp hk14
      replace i12 := i12.kp hk14
      replace hg := hg.kp hk14
      replace i18 := i18.kp hk14
      replace i19 := i19.kp hk14
      replace i20 := i20.kp hk14
      rw [Hlv.out, Hok.out]
      have CF := Lib.hid (implFc_any _ F A2 R L2 c2 A3 N L3 c3 A4 S L4 c4 A7 (lsL F R N S) L7 c7 w14 hf i2 H2.out i3 H3.out i4 H4.out i7 HL7.out)
      rw [q2, Hlv.out, q1] at CF
      clear q1 q2
      have q_x1 := KF.get x1
      have q_y1 := KF.get y1
      have q_x17 := KG.get x17
      have q_y17 := KG.get y17
      go_wp2_with fail
      with_reducible refine Calls.mono (CF.out) ?_
      rintro e w15 ⟨rfl, hk15⟩
      clear q_x1 q_y1 q_x17 q_y17
      replace K0 := K0.trans hk15
      replace KF := KF.trans hk15
      replace KG := KG.trans hk15
      replace hf := hf.kp hk15
      replace i2 := i2.kp hk15
      replace i3 := i3.kp hk15
      replace i4 := i4.kp hk15
      replace i7 := i7.kp hk15
      replace i11 := i11.kp hk15
      replace i12 := i12.kp hk15
      replace hg := hg.kp hk15
      replace i18 := i18.kp hk15
      replace i19 := i19.kp hk15
      replace i20 := i20.kp hk15
      have CI := Lib.hid (implIp_any _ F A2 R L2 c2 A3 N L3 c3 A4 S L4 c4 A7 (lsL F R N S) L7 c7 A11 (lpU F R N S) LU c11 A12 (lpW F R N S) LW c12 w15 hf i2 H2.out i3 H3.out i4 H4.out i7 HL7.out i11 HLU.out i12 HLW.out)
      rw [q3, q4] at CI
      clear q3 q4 CF
      have q_x1 := KF.get x1
      have q_y1 := KF.get y1
      have q_x17 := KG.get x17
      have q_y17 := KG.get y17
      go_wp2_with fail
      with_reducible refine Calls.mono (CI.out) ?_
      rintro e w16 ⟨rfl, hk16⟩
      clear q_x1 q_y1 q_x17 q_y17
      replace K0 := K0.trans hk16
      replace KF := KF.trans hk16
      replace KG := KG.trans hk16
      replace hf := hf.kp hk16
      replace i2 := i2.kp hk16
      replace i3 := i3.kp hk16
      replace i4 := i4.kp hk16
      replace i7 := i7.kp hk16
      replace i11 := i11.kp hk16
      replace i12 := i12.kp hk16
      replace hg := hg.kp hk16
      replace i18 := i18.kp hk16
      replace i19 := i19.kp hk16
      replace i20 := i20.kp hk16
      clear CI
      have n4 : (lv != lv) = false := by simp
      have q_x1 := KF.get x1
      have q_y1 := KF.get y1
      have q_x17 := KG.get x17
      have q_y17 := KG.get y17
      go_wp2_with fail
      obtain ⟨wl, rfl⟩ : ∃ q : World, q = w16 := ⟨_, rfl⟩
      go_loopw [35, 36, 37, 38] (fun iv av bv cv wr => ∃ k : Nat, iv = .int .i64 k ∧ k ≤ L4 ∧ Kp wl wr) (fun iv _ _ _ _ => L4 - (intOf iv).toNat)
      case atStart => exact ⟨0, rfl, by omega, Kp.refl _⟩
      case round =>
        obtain ⟨k, rfl, hk4, hkr⟩ := hrel
        by_cases hlt : k < L4
        · have lx : k < S.length := by rw [H4.out]; exact hlt
          obtain ⟨b, e1, e2, e3, e4, e5, e6⟩ := ls_round Hok.out lx
          have hb2 : b < L2 := by have := H2.out; omega
          have hbI : (b : Int) < (L2 : Int) := by omega
          obtain ⟨sd, rfl, hsc⟩ := (i4.kp hkr).at_ lx
          rw [e1] at hsc
          have hbw : b < (lpW F R N S).length := by omega
          obtain ⟨wd, rfl, hwc⟩ := (i12.kp hkr).at_ hbw
          obtain ⟨pw, Hpw⟩ : ∃ z, Hid ((lpW F R N S)[b] = z) := ⟨_, Lib.hid rfl⟩
          have Hpl : Hid (lget (lpW F R N S) b = pw) := by
            show _ = _
            rw [← Hpw.out]; exact lget_at hbw
          rw [Hpw.out] at hwc
          have hbW : (b : Int) < (LW : Int) := by have := HLW.out; omega
          have CO := Lib.hid (vOwn_any A2 R L2 c2 wr (i2.kp hkr) H2.out (by omega))
          go_wp2_with fail
          with_reducible refine Calls.mono CO.out ?_
          rintro e wq ⟨v, rfl, ho, hkq⟩
          clear CO
          obtain ⟨g, cp, rfl⟩ := ho.at0 H2.out (by omega)
          have hgs := (ho.lt g rfl).1
          obtain ⟨t1, tf, tp⟩ := ho.slotL H2.out hb2
          obtain ⟨o5, t5⟩ := tp (lget R b + 1)
          clear tp t5
          have hrw : wrap64 (lget R b + 1) = lget R b + 1 := IntWalk.wrap64_in _ (by omega)
          have hks : Kp wr (wq.setCell ⟨g, b, none⟩ (.int .i64 (lget R b + 1))) := hkq.setCell (p := ⟨g, b, none⟩) hgs (.int .i64 (lget R b + 1))
          have i5 : IntsAt (wq.setCell ⟨g, b, none⟩ (.int .i64 (lget R b + 1))) (some ⟨g, 0, none⟩) (R.set b (lget R b + 1)) := by
            obtain ⟨A', c', e', i'⟩ := o5.ints (by rw [List.length_set, H2.out]; omega)
            injection e' with h1 h2 h3
            subst h1
            exact i'
          have l5 : (R.set b (lget R b + 1)).length = L2 := by rw [List.length_set]; exact H2.out
          have I5 := Lib.hid i5
          have L5 := Lib.hid l5
          clear i5 l5 ho o5
          have q0 := hkq.get hsc
          have q1 := (KF.trans (hkr.trans hks)).get x1
          have q2 := (KF.trans (hkr.trans hks)).get y1
          go_wp2_with fail
          have CL := Lib.hid (implLf_any _ F (some ⟨g, 0, none⟩) (R.set b (lget R b + 1)) L2 cp A3 N L3 c3 (some sd) S L4 c4 _ (hf.kp (hkr.trans hks)) I5.out L5.out (i3.kp (hkr.trans hks)) H3.out (i4.kp (hkr.trans hks)) H4.out)
          with_reducible refine Calls.mono CL.out ?_
          rintro e wz ⟨rfl, hkz⟩
          clear CL q0 q1 q2 I5 L5
          have q3 := (hks.trans hkz).get hsc
          have q4 := (hks.trans hkz).get hwc
          have HMR := Lib.hid (fun h2 => more_room Hok.out HO.out e2 h2)
          have HLZ := Lib.hid (lf_bd0 F (R.set b (lget R b + 1)) N S)
          obtain ⟨lz, Hlz⟩ : ∃ z, Hid (lfV F (R.set b (lget R b + 1)) N S = z) := ⟨_, Lib.hid rfl⟩
          obtain ⟨oz, Hoz⟩ : ∃ z, Hid (lfOk F (R.set b (lget R b + 1)) N S = z) := ⟨_, Lib.hid rfl⟩
          rw [Hlz.out, Hoz.out, Hlv.out, Hpl.out] at HMR
          rw [Hlz.out] at HLZ
          rw [Hlz.out, Hoz.out]
          have hb1 := HLB.out
          have hb3 := HLZ.out
          have hkz2 := hkr.trans (hks.trans hkz)
          cases oz
          · go_wp2_with fail
            go_roundw
            case rel => exact ⟨k + 1, by go_num, by omega, hkz2⟩
            case measure => simp [intOf]; omega
          · obtain ⟨m1, m2⟩ := HMR.out rfl
            have s1 : IntKind.i64.wrap (lv - lz) = lv - lz := IntWalk.i64_in _ (by omega)
            have p8 : decide (lv < lz) = false := decide_eq_false (by omega)
            have p9 : decide (pw < lv - lz) = false := decide_eq_false (by omega)
            go_wp2_with fail
            go_roundw
            case rel => exact ⟨k + 1, by go_num, by omega, hkz2⟩
            case measure => simp [intOf]; omega
        · obtain rfl : k = L4 := by omega
          go_wp2_with fail
          go_ret
          exact ⟨rfl, K0.trans hkr⟩
  · obtain ⟨rfl, hle, heq⟩ := HW2.out.a rfl
    have p1 : decide (wc2 < lv2) = false := decide_eq_false (by omega)
    have HEQ := Lib.hid heq
    clear heq
    have q_x1 := KF.get x1
    have q_y1 := KF.get y1
    have q_x17 := KG.get x17
    have q_y17 := KG.get y17
    go_wp2_with fail
    have CC := Lib.hid (implLf_any _ G A18 R2 L18 c18 A19 N2 L19 c19 A20 S2 L20 c20 w13 hg i18 H18.out i19 H19.out i20 H20.out)
    with_reducible refine Calls.mono CC.out ?_
    rintro e w17 ⟨rfl, hk17⟩
    clear CC q_x1 q_y1 q_x17 q_y17
    replace K0 := K0.trans hk17
    replace KF := KF.trans hk17
    replace KG := KG.trans hk17
    replace hf := hf.kp hk17
    replace i2 := i2.kp hk17
    replace i3 := i3.kp hk17
    replace i4 := i4.kp hk17
    replace i7 := i7.kp hk17
    replace i11 := i11.kp hk17
    replace i12 := i12.kp hk17
    replace hg := hg.kp hk17
    replace i18 := i18.kp hk17
    replace i19 := i19.kp hk17
    replace i20 := i20.kp hk17
    rw [Hlv2.out, Hok2.out]
    have q_x1 := KF.get x1
    have q_y1 := KF.get y1
    have q_x17 := KG.get x17
    have q_y17 := KG.get y17
    go_wp2_with fail
    have CC := Lib.hid (vMost_any A19 N2 L19 c19 w17 i19 H19.out)
    with_reducible refine Calls.mono CC.out ?_
    rintro e w18 ⟨rfl, hw⟩
    obtain rfl := hw
    clear CC q_x1 q_y1 q_x17 q_y17
    rw [Hmo2.out]
    by_cases hmo : mo2 ≤ 1
    · have p2 : decide (mo2 ≤ 1) = true := decide_eq_true hmo
      have p3 : (wc2 != lv2) = false := by rw [HEQ.out hmo]; simp
      obtain ⟨wt, hwt⟩ : ∃ q : World, q = w17 := ⟨_, rfl⟩
      cases ok
      · have q_x1 := KF.get x1
        have q_y1 := KF.get y1
        have q_x17 := KG.get x17
        have q_y17 := KG.get y17
        go_wp2_with fail
        go_ret
        exact ⟨rfl, K0⟩
      · obtain ⟨fl, ho⟩ := opt_ex _ F A2 R L2 c2 A3 N L3 c3 A4 S L4 c4 w17 hf i2 H2.out i3 H3.out i4 H4.out Hok.out
        have HO := Lib.hid ho
        obtain ⟨lv, Hlv⟩ : ∃ z, Hid (lfV F R N S = z) := ⟨_, Lib.hid rfl⟩
        obtain ⟨q1, q2⟩ := ls_flow Hok.out
        obtain ⟨q3, q4, _⟩ := ls_proof Hok.out ho
        have HLB := Lib.hid (lf_bd0 F R N S)
        rw [Hlv.out] at HLB
        clear ho hwt wt
        have q_x1 := KF.get x1
        have q_y1 := KF.get y1
        have q_x17 := KG.get x17
        have q_y17 := KG.get y17
        go_wp2_with fail
        have CC := Lib.hid (implLf_any _ F A2 R L2 c2 A3 N L3 c3 A4 S L4 c4 w17 hf i2 H2.out i3 H3.out i4 H4.out)
        with_reducible refine Calls.mono CC.out ?_
        rintro e w19 ⟨rfl, hk19⟩
        clear CC q_x1 q_y1 q_x17 q_y17
        replace K0 := K0.trans hk19
        replace KF := KF.trans hk19
        replace KG := KG.trans hk19
        replace hf := hf.kp hk19
        replace i2 := i2.kp hk19
        replace i3 := i3.kp hk19
        replace i4 := i4.kp hk19
        replace i7 := i7.kp hk19
        replace i11 := i11.kp hk19
        replace i12 := i12.kp hk19
        replace hg := hg.kp hk19
        replace i18 := i18.kp hk19
        replace i19 := i19.kp hk19
        replace i20 := i20.kp hk19
        rw [Hlv.out, Hok.out]
        have CF := Lib.hid (implFc_any _ F A2 R L2 c2 A3 N L3 c3 A4 S L4 c4 A7 (lsL F R N S) L7 c7 w19 hf i2 H2.out i3 H3.out i4 H4.out i7 HL7.out)
        rw [q2, Hlv.out, q1] at CF
        clear q1 q2
        have q_x1 := KF.get x1
        have q_y1 := KF.get y1
        have q_x17 := KG.get x17
        have q_y17 := KG.get y17
        go_wp2_with fail
        with_reducible refine Calls.mono (CF.out) ?_
        rintro e w20 ⟨rfl, hk20⟩
        clear q_x1 q_y1 q_x17 q_y17
        replace K0 := K0.trans hk20
        replace KF := KF.trans hk20
        replace KG := KG.trans hk20
        replace hf := hf.kp hk20
        replace i2 := i2.kp hk20
        replace i3 := i3.kp hk20
        replace i4 := i4.kp hk20
        replace i7 := i7.kp hk20
        replace i11 := i11.kp hk20
        replace i12 := i12.kp hk20
        replace hg := hg.kp hk20
        replace i18 := i18.kp hk20
        replace i19 := i19.kp hk20
        replace i20 := i20.kp hk20
        have CI := Lib.hid (implIp_any _ F A2 R L2 c2 A3 N L3 c3 A4 S L4 c4 A7 (lsL F R N S) L7 c7 A11 (lpU F R N S) LU c11 A12 (lpW F R N S) LW c12 w20 hf i2 H2.out i3 H3.out i4 H4.out i7 HL7.out i11 HLU.out i12 HLW.out)
        rw [q3, q4] at CI
        clear q3 q4 CF
        have q_x1 := KF.get x1
        have q_y1 := KF.get y1
        have q_x17 := KG.get x17
        have q_y17 := KG.get y17
        go_wp2_with fail
        with_reducible refine Calls.mono (CI.out) ?_
        rintro e w21 ⟨rfl, hk21⟩
        clear q_x1 q_y1 q_x17 q_y17
        replace K0 := K0.trans hk21
        replace KF := KF.trans hk21
        replace KG := KG.trans hk21
        replace hf := hf.kp hk21
        replace i2 := i2.kp hk21
        replace i3 := i3.kp hk21
        replace i4 := i4.kp hk21
        replace i7 := i7.kp hk21
        replace i11 := i11.kp hk21
        replace i12 := i12.kp hk21
        replace hg := hg.kp hk21
        replace i18 := i18.kp hk21
        replace i19 := i19.kp hk21
        replace i20 := i20.kp hk21
        clear CI
        have n4 : (lv != lv) = false := by simp
        have q_x1 := KF.get x1
        have q_y1 := KF.get y1
        have q_x17 := KG.get x17
        have q_y17 := KG.get y17
        go_wp2_with fail
        obtain ⟨wl, rfl⟩ : ∃ q : World, q = w21 := ⟨_, rfl⟩
        go_loopw [35, 36, 37, 38] (fun iv av bv cv wr => ∃ k : Nat, iv = .int .i64 k ∧ k ≤ L4 ∧ Kp wl wr) (fun iv _ _ _ _ => L4 - (intOf iv).toNat)
        case atStart => exact ⟨0, rfl, by omega, Kp.refl _⟩
        case round =>
          obtain ⟨k, rfl, hk4, hkr⟩ := hrel
          by_cases hlt : k < L4
          · have lx : k < S.length := by rw [H4.out]; exact hlt
            obtain ⟨b, e1, e2, e3, e4, e5, e6⟩ := ls_round Hok.out lx
            have hb2 : b < L2 := by have := H2.out; omega
            have hbI : (b : Int) < (L2 : Int) := by omega
            obtain ⟨sd, rfl, hsc⟩ := (i4.kp hkr).at_ lx
            rw [e1] at hsc
            have hbw : b < (lpW F R N S).length := by omega
            obtain ⟨wd, rfl, hwc⟩ := (i12.kp hkr).at_ hbw
            obtain ⟨pw, Hpw⟩ : ∃ z, Hid ((lpW F R N S)[b] = z) := ⟨_, Lib.hid rfl⟩
            have Hpl : Hid (lget (lpW F R N S) b = pw) := by
              show _ = _
              rw [← Hpw.out]; exact lget_at hbw
            rw [Hpw.out] at hwc
            have hbW : (b : Int) < (LW : Int) := by have := HLW.out; omega
            have CO := Lib.hid (vOwn_any A2 R L2 c2 wr (i2.kp hkr) H2.out (by omega))
            go_wp2_with fail
            with_reducible refine Calls.mono CO.out ?_
            rintro e wq ⟨v, rfl, ho, hkq⟩
            clear CO
            obtain ⟨g, cp, rfl⟩ := ho.at0 H2.out (by omega)
            have hgs := (ho.lt g rfl).1
            obtain ⟨t1, tf, tp⟩ := ho.slotL H2.out hb2
            obtain ⟨o5, t5⟩ := tp (lget R b + 1)
            clear tp t5
            have hrw : wrap64 (lget R b + 1) = lget R b + 1 := IntWalk.wrap64_in _ (by omega)
            have hks : Kp wr (wq.setCell ⟨g, b, none⟩ (.int .i64 (lget R b + 1))) := hkq.setCell (p := ⟨g, b, none⟩) hgs (.int .i64 (lget R b + 1))
            have i5 : IntsAt (wq.setCell ⟨g, b, none⟩ (.int .i64 (lget R b + 1))) (some ⟨g, 0, none⟩) (R.set b (lget R b + 1)) := by
              obtain ⟨A', c', e', i'⟩ := o5.ints (by rw [List.length_set, H2.out]; omega)
              injection e' with h1 h2 h3
              subst h1
              exact i'
            have l5 : (R.set b (lget R b + 1)).length = L2 := by rw [List.length_set]; exact H2.out
            have I5 := Lib.hid i5
            have L5 := Lib.hid l5
            clear i5 l5 ho o5
            have q0 := hkq.get hsc
            have q1 := (KF.trans (hkr.trans hks)).get x1
            have q2 := (KF.trans (hkr.trans hks)).get y1
            go_wp2_with fail
            have CL := Lib.hid (implLf_any _ F (some ⟨g, 0, none⟩) (R.set b (lget R b + 1)) L2 cp A3 N L3 c3 (some sd) S L4 c4 _ (hf.kp (hkr.trans hks)) I5.out L5.out (i3.kp (hkr.trans hks)) H3.out (i4.kp (hkr.trans hks)) H4.out)
            with_reducible refine Calls.mono CL.out ?_
            rintro e wz ⟨rfl, hkz⟩
            clear CL q0 q1 q2 I5 L5
            have q3 := (hks.trans hkz).get hsc
            have q4 := (hks.trans hkz).get hwc
            have HMR := Lib.hid (fun h2 => more_room Hok.out HO.out e2 h2)
            have HLZ := Lib.hid (lf_bd0 F (R.set b (lget R b + 1)) N S)
            obtain ⟨lz, Hlz⟩ : ∃ z, Hid (lfV F (R.set b (lget R b + 1)) N S = z) := ⟨_, Lib.hid rfl⟩
            obtain ⟨oz, Hoz⟩ : ∃ z, Hid (lfOk F (R.set b (lget R b + 1)) N S = z) := ⟨_, Lib.hid rfl⟩
            rw [Hlz.out, Hoz.out, Hlv.out, Hpl.out] at HMR
            rw [Hlz.out] at HLZ
            rw [Hlz.out, Hoz.out]
            have hb1 := HLB.out
            have hb3 := HLZ.out
            have hkz2 := hkr.trans (hks.trans hkz)
            cases oz
            · go_wp2_with fail
              go_roundw
              case rel => exact ⟨k + 1, by go_num, by omega, hkz2⟩
              case measure => simp [intOf]; omega
            · obtain ⟨m1, m2⟩ := HMR.out rfl
              have s1 : IntKind.i64.wrap (lv - lz) = lv - lz := IntWalk.i64_in _ (by omega)
              have p8 : decide (lv < lz) = false := decide_eq_false (by omega)
              have p9 : decide (pw < lv - lz) = false := decide_eq_false (by omega)
              go_wp2_with fail
              go_roundw
              case rel => exact ⟨k + 1, by go_num, by omega, hkz2⟩
              case measure => simp [intOf]; omega
          · obtain rfl : k = L4 := by omega
            go_wp2_with fail
            go_ret
            exact ⟨rfl, K0.trans hkr⟩
    · have p2 : decide (mo2 ≤ 1) = false := decide_eq_false hmo
      obtain ⟨wt, hwt⟩ : ∃ q : World, q = w17 := ⟨_, rfl⟩
      cases ok
      · have q_x1 := KF.get x1
        have q_y1 := KF.get y1
        have q_x17 := KG.get x17
        have q_y17 := KG.get y17
        go_wp2_with fail
        go_ret
        exact ⟨rfl, K0⟩
      · obtain ⟨fl, ho⟩ := opt_ex _ F A2 R L2 c2 A3 N L3 c3 A4 S L4 c4 w17 hf i2 H2.out i3 H3.out i4 H4.out Hok.out
        have HO := Lib.hid ho
        obtain ⟨lv, Hlv⟩ : ∃ z, Hid (lfV F R N S = z) := ⟨_, Lib.hid rfl⟩
        obtain ⟨q1, q2⟩ := ls_flow Hok.out
        obtain ⟨q3, q4, _⟩ := ls_proof Hok.out ho
        have HLB := Lib.hid (lf_bd0 F R N S)
        rw [Hlv.out] at HLB
        clear ho hwt wt
        have q_x1 := KF.get x1
        have q_y1 := KF.get y1
        have q_x17 := KG.get x17
        have q_y17 := KG.get y17
        go_wp2_with fail
        have CC := Lib.hid (implLf_any _ F A2 R L2 c2 A3 N L3 c3 A4 S L4 c4 w17 hf i2 H2.out i3 H3.out i4 H4.out)
        with_reducible refine Calls.mono CC.out ?_
        rintro e w22 ⟨rfl, hk22⟩
        clear CC q_x1 q_y1 q_x17 q_y17
        replace K0 := K0.trans hk22
        replace KF := KF.trans hk22
        replace KG := KG.trans hk22
        replace hf := hf.kp hk22
        replace i2 := i2.kp hk22
        replace i3 := i3.kp hk22
        replace i4 := i4.kp hk22
        replace i7 := i7.kp hk22
        replace i11 := i11.kp hk22
        replace i12 := i12.kp hk22
        replace hg := hg.kp hk22
        replace i18 := i18.kp hk22
        replace i19 := i19.kp hk22
        replace i20 := i20.kp hk22
        rw [Hlv.out, Hok.out]
        have CF := Lib.hid (implFc_any _ F A2 R L2 c2 A3 N L3 c3 A4 S L4 c4 A7 (lsL F R N S) L7 c7 w22 hf i2 H2.out i3 H3.out i4 H4.out i7 HL7.out)
        rw [q2, Hlv.out, q1] at CF
        clear q1 q2
        have q_x1 := KF.get x1
        have q_y1 := KF.get y1
        have q_x17 := KG.get x17
        have q_y17 := KG.get y17
        go_wp2_with fail
        with_reducible refine Calls.mono (CF.out) ?_
        rintro e w23 ⟨rfl, hk23⟩
        clear q_x1 q_y1 q_x17 q_y17
        replace K0 := K0.trans hk23
        replace KF := KF.trans hk23
        replace KG := KG.trans hk23
        replace hf := hf.kp hk23
        replace i2 := i2.kp hk23
        replace i3 := i3.kp hk23
        replace i4 := i4.kp hk23
        replace i7 := i7.kp hk23
        replace i11 := i11.kp hk23
        replace i12 := i12.kp hk23
        replace hg := hg.kp hk23
        replace i18 := i18.kp hk23
        replace i19 := i19.kp hk23
        replace i20 := i20.kp hk23
        have CI := Lib.hid (implIp_any _ F A2 R L2 c2 A3 N L3 c3 A4 S L4 c4 A7 (lsL F R N S) L7 c7 A11 (lpU F R N S) LU c11 A12 (lpW F R N S) LW c12 w23 hf i2 H2.out i3 H3.out i4 H4.out i7 HL7.out i11 HLU.out i12 HLW.out)
        rw [q3, q4] at CI
        clear q3 q4 CF
        have q_x1 := KF.get x1
        have q_y1 := KF.get y1
        have q_x17 := KG.get x17
        have q_y17 := KG.get y17
        go_wp2_with fail
        with_reducible refine Calls.mono (CI.out) ?_
        rintro e w24 ⟨rfl, hk24⟩
        clear q_x1 q_y1 q_x17 q_y17
        replace K0 := K0.trans hk24
        replace KF := KF.trans hk24
        replace KG := KG.trans hk24
        replace hf := hf.kp hk24
        replace i2 := i2.kp hk24
        replace i3 := i3.kp hk24
        replace i4 := i4.kp hk24
        replace i7 := i7.kp hk24
        replace i11 := i11.kp hk24
        replace i12 := i12.kp hk24
        replace hg := hg.kp hk24
        replace i18 := i18.kp hk24
        replace i19 := i19.kp hk24
        replace i20 := i20.kp hk24
        clear CI
        have n4 : (lv != lv) = false := by simp
        have q_x1 := KF.get x1
        have q_y1 := KF.get y1
        have q_x17 := KG.get x17
        have q_y17 := KG.get y17
        go_wp2_with fail
        obtain ⟨wl, rfl⟩ : ∃ q : World, q = w24 := ⟨_, rfl⟩
        go_loopw [35, 36, 37, 38] (fun iv av bv cv wr => ∃ k : Nat, iv = .int .i64 k ∧ k ≤ L4 ∧ Kp wl wr) (fun iv _ _ _ _ => L4 - (intOf iv).toNat)
        case atStart => exact ⟨0, rfl, by omega, Kp.refl _⟩
        case round =>
          obtain ⟨k, rfl, hk4, hkr⟩ := hrel
          by_cases hlt : k < L4
          · have lx : k < S.length := by rw [H4.out]; exact hlt
            obtain ⟨b, e1, e2, e3, e4, e5, e6⟩ := ls_round Hok.out lx
            have hb2 : b < L2 := by have := H2.out; omega
            have hbI : (b : Int) < (L2 : Int) := by omega
            obtain ⟨sd, rfl, hsc⟩ := (i4.kp hkr).at_ lx
            rw [e1] at hsc
            have hbw : b < (lpW F R N S).length := by omega
            obtain ⟨wd, rfl, hwc⟩ := (i12.kp hkr).at_ hbw
            obtain ⟨pw, Hpw⟩ : ∃ z, Hid ((lpW F R N S)[b] = z) := ⟨_, Lib.hid rfl⟩
            have Hpl : Hid (lget (lpW F R N S) b = pw) := by
              show _ = _
              rw [← Hpw.out]; exact lget_at hbw
            rw [Hpw.out] at hwc
            have hbW : (b : Int) < (LW : Int) := by have := HLW.out; omega
            have CO := Lib.hid (vOwn_any A2 R L2 c2 wr (i2.kp hkr) H2.out (by omega))
            go_wp2_with fail
            with_reducible refine Calls.mono CO.out ?_
            rintro e wq ⟨v, rfl, ho, hkq⟩
            clear CO
            obtain ⟨g, cp, rfl⟩ := ho.at0 H2.out (by omega)
            have hgs := (ho.lt g rfl).1
            obtain ⟨t1, tf, tp⟩ := ho.slotL H2.out hb2
            obtain ⟨o5, t5⟩ := tp (lget R b + 1)
            clear tp t5
            have hrw : wrap64 (lget R b + 1) = lget R b + 1 := IntWalk.wrap64_in _ (by omega)
            have hks : Kp wr (wq.setCell ⟨g, b, none⟩ (.int .i64 (lget R b + 1))) := hkq.setCell (p := ⟨g, b, none⟩) hgs (.int .i64 (lget R b + 1))
            have i5 : IntsAt (wq.setCell ⟨g, b, none⟩ (.int .i64 (lget R b + 1))) (some ⟨g, 0, none⟩) (R.set b (lget R b + 1)) := by
              obtain ⟨A', c', e', i'⟩ := o5.ints (by rw [List.length_set, H2.out]; omega)
              injection e' with h1 h2 h3
              subst h1
              exact i'
            have l5 : (R.set b (lget R b + 1)).length = L2 := by rw [List.length_set]; exact H2.out
            have I5 := Lib.hid i5
            have L5 := Lib.hid l5
            clear i5 l5 ho o5
            have q0 := hkq.get hsc
            have q1 := (KF.trans (hkr.trans hks)).get x1
            have q2 := (KF.trans (hkr.trans hks)).get y1
            go_wp2_with fail
            have CL := Lib.hid (implLf_any _ F (some ⟨g, 0, none⟩) (R.set b (lget R b + 1)) L2 cp A3 N L3 c3 (some sd) S L4 c4 _ (hf.kp (hkr.trans hks)) I5.out L5.out (i3.kp (hkr.trans hks)) H3.out (i4.kp (hkr.trans hks)) H4.out)
            with_reducible refine Calls.mono CL.out ?_
            rintro e wz ⟨rfl, hkz⟩
            clear CL q0 q1 q2 I5 L5
            have q3 := (hks.trans hkz).get hsc
            have q4 := (hks.trans hkz).get hwc
            have HMR := Lib.hid (fun h2 => more_room Hok.out HO.out e2 h2)
            have HLZ := Lib.hid (lf_bd0 F (R.set b (lget R b + 1)) N S)
            obtain ⟨lz, Hlz⟩ : ∃ z, Hid (lfV F (R.set b (lget R b + 1)) N S = z) := ⟨_, Lib.hid rfl⟩
            obtain ⟨oz, Hoz⟩ : ∃ z, Hid (lfOk F (R.set b (lget R b + 1)) N S = z) := ⟨_, Lib.hid rfl⟩
            rw [Hlz.out, Hoz.out, Hlv.out, Hpl.out] at HMR
            rw [Hlz.out] at HLZ
            rw [Hlz.out, Hoz.out]
            have hb1 := HLB.out
            have hb3 := HLZ.out
            have hkz2 := hkr.trans (hks.trans hkz)
            cases oz
            · go_wp2_with fail
              go_roundw
              case rel => exact ⟨k + 1, by go_num, by omega, hkz2⟩
              case measure => simp [intOf]; omega
            · obtain ⟨m1, m2⟩ := HMR.out rfl
              have s1 : IntKind.i64.wrap (lv - lz) = lv - lz := IntWalk.i64_in _ (by omega)
              have p8 : decide (lv < lz) = false := decide_eq_false (by omega)
              have p9 : decide (pw < lv - lz) = false := decide_eq_false (by omega)
              go_wp2_with fail
              go_roundw
              case rel => exact ⟨k + 1, by go_num, by omega, hkz2⟩
              case measure => simp [intOf]; omega
          · obtain rfl : k = L4 := by omega
            go_wp2_with fail
            go_ret
            exact ⟨rfl, K0.trans hkr⟩
end Go.Proofs.Ytgdicmeabppngaa
