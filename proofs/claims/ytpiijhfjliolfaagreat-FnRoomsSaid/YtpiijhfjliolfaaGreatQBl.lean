/- FnRooms: the walk of the law. No condition. -/
import Derived.Test.YtpiijhfjliolfaaGreatQAc
import Derived.Test.YtpiijhfjliolfaaGreatQAg
import Derived.Test.YtpiijhfjliolfaaGreatQAh
import Derived.Test.YtpiijhfjliolfaaGreatQAw
import Derived.Test.YtpiijhfjliolfaaGreatQAy
import Derived.Test.YtpiijhfjliolfaaGreatQAz
import Derived.Test.YtpiijhfjliolfaaGreatQBk
namespace Go.Proofs.YtpiijhfjliolfaaGreat
open Go.ChangeShapes Go.WideShapes Go.ChangeAt Go.RowKit Go.Sort

theorem DFld.openR {w : World} {b : Nat} {v : Value} (h : DFld w b v) : ∃ F A c B d, v = .agg #[.slice A F.op.length c, .slice B F.di.length d] ∧ FldAt w v F := by
  obtain ⟨F, hf⟩ := h
  have hfa := hf.fld
  obtain ⟨A, c, B, d, e, _⟩ := hf
  exact ⟨F, A, c, B, d, e, hfa⟩
theorem Own.openR {w : World} {base : Nat} {v : Value} {xs : List Int} (h : Own w base v xs) {L : Nat} (hl : Hid (xs.length = L)) (h2 : L ≤ 1048576) : ∃ A c, v = .slice A L c ∧ IntsAt w A xs := by
  have := hl.out
  obtain ⟨A, c, e, hi⟩ := h.ints (by omega)
  exact ⟨A, c, by rw [← this]; exact e, hi⟩
theorem DInts.openR {w : World} {b : Nat} {v : Value} (h : DInts w b v) : ∃ A c L xs, v = .slice A L c ∧ IntsAt w A xs ∧ Hid (xs.length = L) ∧ L ≤ 200 := by
  obtain ⟨A, c, xs, e, hi, h1, h2⟩ := h.ints
  exact ⟨A, c, xs.length, xs, e, hi, Lib.hid rfl, h1⟩
set_option maxRecDepth 100000 in
set_option maxHeartbeats 8000000 in
theorem rom_law (A : Option Addr) (n c : Nat) (w : World) (hb : BytesAt w A n) (hnc : n ≤ c) :
    Calls Tryz.prog 3 #[.slice A n c] w fun e w' => e = .returned (.bool true) ∧ Kp w w' := by
  have CB := Lib.hid (vBig_any A n c w)
  by_cases hbig : 65536 < n
  · have hd : decide (65536 < (n : Int)) = true := decide_eq_true (by omega)
    rw [hd] at CB
    go_enter Tryz.func3, Tryz.ntmps3
    go_wp2_with fail
    with_reducible refine Calls.mono CB.out ?_
    rintro e w1 ⟨rfl, rfl⟩
    go_wp2_with fail
    go_ret
    exact ⟨rfl, Kp.refl _⟩
  have hn6 : n ≤ 65536 := by omega
  have hd : decide (65536 < (n : Int)) = false := decide_eq_false (by omega)
  rw [hd] at CB
  go_enter Tryz.func3, Tryz.ntmps3
  go_wp2_with fail
  with_reducible refine Calls.mono CB.out ?_
  rintro e w1 ⟨rfl, rfl⟩
  clear CB hd hbig
  have K0 : Kp w w := Kp.refl _
  have H0 := Lib.hid hb
  clear hb
  go_wp2_with fail
  have CC := Lib.hid (drawCanServe_any A n c w H0.out)
  with_reducible refine Calls.mono CC.out ?_
  rintro e w1 ⟨v, rv, nv, sv, r0, rfl, hv, hrv, hnv, hsv, hk1⟩
  clear CC
  replace K0 := K0.trans hk1
  obtain ⟨F1, A3, c3, B3, d3, rfl, hf1⟩ := DFld.openR hv
  have kv : Kp w1 (World.alloc w1 (.cells #[.slice A3 F1.op.length c3, .slice B3 F1.di.length d3] 27)) := (Kp.refl _).alloc _
  obtain ⟨x3, y3⟩ := box2 w1 (.slice A3 F1.op.length c3) (.slice B3 F1.di.length d3) 27
  replace hf1 := hf1.kp kv
  obtain ⟨A4, c4, L4, R1, rfl, i4, HL4, _⟩ := (hrv).openR
  replace i4 := i4.kp kv
  obtain ⟨A5, c5, L5, N1, rfl, i5, HL5, _⟩ := (hnv).openR
  replace i5 := i5.kp kv
  obtain ⟨A6, c6, L6, S1, rfl, i6, HL6, _⟩ := (hsv).openR
  replace i6 := i6.kp kv
  replace K0 := K0.trans kv
  go_wp2_with fail
  generalize w1.alloc (.cells #[.slice A3 F1.op.length c3, .slice B3 F1.di.length d3] 27) = wf at *
  generalize w1.heap.size = b3 at *
  clear hv kv hrv hnv hsv
  have KF : Kp wf wf := Kp.refl _
  obtain ⟨cv, Hcv⟩ : ∃ b, Hid (csV F1 R1 N1 S1 r0 = b) := ⟨_, Lib.hid rfl⟩
  obtain ⟨co, Hco⟩ : ∃ b, Hid (csOk F1 R1 N1 S1 r0 = b) := ⟨_, Lib.hid rfl⟩
  have CC := Lib.hid (implCs_any _ F1 A4 R1 L4 c4 A5 N1 L5 c5 A6 S1 L6 c6 r0 wf hf1 i4 HL4.out i5 HL5.out i6 HL6.out)
  with_reducible refine Calls.mono CC.out ?_
  rintro e w2 ⟨rfl, hk2⟩
  clear CC
  replace K0 := K0.trans hk2
  replace KF := KF.trans hk2
  replace hf1 := hf1.kp hk2
  replace i4 := i4.kp hk2
  replace i5 := i5.kp hk2
  replace i6 := i6.kp hk2
  rw [Hcv.out, Hco.out]
  have q_x3 := KF.get x3
  have q_y3 := KF.get y3
  go_wp2_with fail
  have CC := Lib.hid (specCs_any _ F1 A4 R1 L4 c4 A5 N1 L5 c5 A6 S1 L6 c6 r0 w2 hf1 i4 HL4.out i5 HL5.out i6 HL6.out)
  with_reducible refine Calls.mono CC.out ?_
  rintro e w3 ⟨rfl, hk3⟩
  clear CC q_x3 q_y3
  replace K0 := K0.trans hk3
  replace KF := KF.trans hk3
  replace hf1 := hf1.kp hk3
  replace i4 := i4.kp hk3
  replace i5 := i5.kp hk3
  replace i6 := i6.kp hk3
  rw [Hcv.out, Hco.out]
  obtain ⟨ho, Hho⟩ : ∃ b, Hid (hcOk F1 R1 N1 S1 r0 = b) := ⟨_, Lib.hid rfl⟩
  obtain ⟨L12, HL12⟩ : ∃ l, Hid ((hcL F1 R1 N1 S1 r0).length = l) := ⟨_, Lib.hid rfl⟩
  have hl12 : L12 ≤ 1048576 := by rw [← HL12.out]; exact hcL_len F1 R1 N1 S1 r0
  have q_x3 := KF.get x3
  have q_y3 := KF.get y3
  go_wp2_with fail
  have CC := Lib.hid (implHc_any _ F1 A4 R1 L4 c4 A5 N1 L5 c5 A6 S1 L6 c6 r0 w3 hf1 i4 HL4.out i5 HL5.out i6 HL6.out)
  with_reducible refine Calls.mono CC.out ?_
  rintro e w4 ⟨v, rfl, hov, hk4⟩
  clear CC q_x3 q_y3
  replace K0 := K0.trans hk4
  replace KF := KF.trans hk4
  replace hf1 := hf1.kp hk4
  replace i4 := i4.kp hk4
  replace i5 := i5.kp hk4
  replace i6 := i6.kp hk4
  rw [Hho.out]
  obtain ⟨A12, c12, rfl, i12⟩ := hov.openR HL12 hl12
  clear hov
  have q_x3 := KF.get x3
  have q_y3 := KF.get y3
  go_wp2_with fail
  have CC := Lib.hid (specHc_any _ F1 A4 R1 L4 c4 A5 N1 L5 c5 A6 S1 L6 c6 r0 w4 hf1 i4 HL4.out i5 HL5.out i6 HL6.out)
  with_reducible refine Calls.mono CC.out ?_
  rintro e w5 ⟨v, rfl, hov, hk5⟩
  clear CC q_x3 q_y3
  replace K0 := K0.trans hk5
  replace KF := KF.trans hk5
  replace hf1 := hf1.kp hk5
  replace i4 := i4.kp hk5
  replace i5 := i5.kp hk5
  replace i6 := i6.kp hk5
  replace i12 := i12.kp hk5
  rw [Hho.out]
  obtain ⟨A14, c14, rfl, i14⟩ := hov.openR HL12 hl12
  clear hov
  have HX : co = true → ho = !cv := fun h => by
    have := hall_cs (F := F1) (rooms := R1) (needs := N1) (S := S1) (r := r0) (by rw [Hco.out]; exact h)
    rw [Hcv.out, Hho.out] at this
    exact this
  clear hf1 i4 i5 i6 HL4 HL5 HL6 Hcv Hco Hho x3 y3 KF
  go_wp2_with fail
  have CC := Lib.hid (vCut_all A n c 1 w5 (H0.out.kp K0) hn6 hnc)
  with_reducible refine Calls.mono CC.out ?_
  rintro e w6 ⟨A', n', c', rfl, ⟨hb8, hc8, hn8⟩, hk6⟩
  clear CC
  replace K0 := K0.trans hk6
  replace i12 := i12.kp hk6
  replace i14 := i14.kp hk6
  go_wp2_with fail
  have CC := Lib.hid (drawBestRooms_any A' n' c' w6 hb8)
  with_reducible refine Calls.mono CC.out ?_
  rintro e w7 ⟨v, rv, nv, rfl, hv, hrv, hnv, hk7⟩
  clear CC
  replace K0 := K0.trans hk7
  replace i12 := i12.kp hk7
  replace i14 := i14.kp hk7
  obtain ⟨F2, A16, c16, B16, d16, rfl, hf2⟩ := DFld.openR hv
  have kv : Kp w7 (World.alloc w7 (.cells #[.slice A16 F2.op.length c16, .slice B16 F2.di.length d16] 27)) := (Kp.refl _).alloc _
  obtain ⟨x16, y16⟩ := box2 w7 (.slice A16 F2.op.length c16) (.slice B16 F2.di.length d16) 27
  replace hf2 := hf2.kp kv
  obtain ⟨A17, c17, L17, R2, rfl, i17, HL17, _⟩ := (hrv).openR
  replace i17 := i17.kp kv
  obtain ⟨A18, c18, L18, N2, rfl, i18, HL18, _⟩ := (hnv).openR
  replace i18 := i18.kp kv
  replace K0 := K0.trans kv
  replace i12 := i12.kp kv
  replace i14 := i14.kp kv
  go_wp2_with fail
  generalize w7.alloc (.cells #[.slice A16 F2.op.length c16, .slice B16 F2.di.length d16] 27) = wg at *
  generalize w7.heap.size = b16 at *
  clear hv kv hrv hnv hb8 hc8 hn8
  have KG : Kp wg wg := Kp.refl _
  obtain ⟨bo, Hbo⟩ : ∃ b, Hid (brOk F2 R2 N2 = b) := ⟨_, Lib.hid rfl⟩
  obtain ⟨bv, Hbv⟩ : ∃ b, Hid (brVal F2 R2 N2 = b) := ⟨_, Lib.hid rfl⟩
  obtain ⟨L19, HL19⟩ : ∃ l, Hid ((brL F2 R2 N2).length = l) := ⟨_, Lib.hid rfl⟩
  have hl19 : L19 ≤ 1048576 := by rw [← HL19.out]; exact brL_len F2 R2 N2
  have CC := Lib.hid (implBr_any _ F2 A17 R2 L17 c17 A18 N2 L18 c18 wg hf2 i17 HL17.out i18 HL18.out)
  with_reducible refine Calls.mono CC.out ?_
  rintro e w8 ⟨v, rfl, hov, hk8⟩
  clear CC
  replace K0 := K0.trans hk8
  replace KG := KG.trans hk8
  replace i12 := i12.kp hk8
  replace i14 := i14.kp hk8
  replace hf2 := hf2.kp hk8
  replace i17 := i17.kp hk8
  replace i18 := i18.kp hk8
  rw [Hbo.out, Hbv.out]
  obtain ⟨A19, c19, rfl, i19⟩ := hov.openR HL19 hl19
  clear hov
  have q_x16 := KG.get x16
  have q_y16 := KG.get y16
  go_wp2_with fail
  have CC := Lib.hid (specBr_any _ F2 A17 R2 L17 c17 A18 N2 L18 c18 w8 hf2 i17 HL17.out i18 HL18.out)
  with_reducible refine Calls.mono CC.out ?_
  rintro e w9 ⟨v, rfl, hov, hk9⟩
  clear CC q_x16 q_y16
  replace K0 := K0.trans hk9
  replace KG := KG.trans hk9
  replace i12 := i12.kp hk9
  replace i14 := i14.kp hk9
  replace hf2 := hf2.kp hk9
  replace i17 := i17.kp hk9
  replace i18 := i18.kp hk9
  replace i19 := i19.kp hk9
  rw [Hbo.out, Hbv.out]
  obtain ⟨A22, c22, rfl, i22⟩ := hov.openR HL19 hl19
  clear hov
  have q_x16 := KG.get x16
  have q_y16 := KG.get y16
  go_wp2_with fail
  have CC := Lib.hid (vCut_all A n c 2 w9 (H0.out.kp K0) hn6 hnc)
  with_reducible refine Calls.mono CC.out ?_
  rintro e w10 ⟨A', n', c', rfl, ⟨hb8, hc8, hn8⟩, hk10⟩
  clear CC q_x16 q_y16
  replace K0 := K0.trans hk10
  replace KG := KG.trans hk10
  replace i12 := i12.kp hk10
  replace i14 := i14.kp hk10
  replace hf2 := hf2.kp hk10
  replace i17 := i17.kp hk10
  replace i18 := i18.kp hk10
  replace i19 := i19.kp hk10
  replace i22 := i22.kp hk10
  have q_x16 := KG.get x16
  have q_y16 := KG.get y16
  go_wp2_with fail
  have CC := Lib.hid (drawRoomReach_any A' n' c' w10 hb8)
  with_reducible refine Calls.mono CC.out ?_
  rintro e w11 ⟨v, rv, nv, k0, rfl, hv, hrv, hnv, hk11⟩
  clear CC q_x16 q_y16
  replace K0 := K0.trans hk11
  replace KG := KG.trans hk11
  replace i12 := i12.kp hk11
  replace i14 := i14.kp hk11
  replace hf2 := hf2.kp hk11
  replace i17 := i17.kp hk11
  replace i18 := i18.kp hk11
  replace i19 := i19.kp hk11
  replace i22 := i22.kp hk11
  obtain ⟨F3, A25, c25, B25, d25, rfl, hf3⟩ := DFld.openR hv
  have kv : Kp w11 (World.alloc w11 (.cells #[.slice A25 F3.op.length c25, .slice B25 F3.di.length d25] 27)) := (Kp.refl _).alloc _
  obtain ⟨x25, y25⟩ := box2 w11 (.slice A25 F3.op.length c25) (.slice B25 F3.di.length d25) 27
  replace hf3 := hf3.kp kv
  obtain ⟨A26, c26, L26, R3, rfl, i26, HL26, _⟩ := (hrv).openR
  replace i26 := i26.kp kv
  obtain ⟨A27, c27, L27, N3, rfl, i27, HL27, _⟩ := (hnv).openR
  replace i27 := i27.kp kv
  replace K0 := K0.trans kv
  replace KG := KG.trans kv
  replace i12 := i12.kp kv
  replace i14 := i14.kp kv
  replace hf2 := hf2.kp kv
  replace i17 := i17.kp kv
  replace i18 := i18.kp kv
  replace i19 := i19.kp kv
  replace i22 := i22.kp kv
  go_wp2_with fail
  generalize w11.alloc (.cells #[.slice A25 F3.op.length c25, .slice B25 F3.di.length d25] 27) = wh at *
  generalize w11.heap.size = b25 at *
  clear hv kv hrv hnv hb8 hc8 hn8
  have KH : Kp wh wh := Kp.refl _
  obtain ⟨rb, Hrb⟩ : ∃ b, Hid (rrB F3 R3 N3 k0 = b) := ⟨_, Lib.hid rfl⟩
  obtain ⟨rv, Hrv⟩ : ∃ b, Hid (rrV F3 R3 N3 k0 = b) := ⟨_, Lib.hid rfl⟩
  have CC := Lib.hid (implRr_any _ F3 A26 R3 L26 c26 A27 N3 L27 c27 k0 wh hf3 i26 HL26.out i27 HL27.out)
  with_reducible refine Calls.mono CC.out ?_
  rintro e w12 ⟨rfl, hk12⟩
  clear CC
  replace K0 := K0.trans hk12
  replace KG := KG.trans hk12
  replace KH := KH.trans hk12
  replace i12 := i12.kp hk12
  replace i14 := i14.kp hk12
  replace hf2 := hf2.kp hk12
  replace i17 := i17.kp hk12
  replace i18 := i18.kp hk12
  replace i19 := i19.kp hk12
  replace i22 := i22.kp hk12
  replace hf3 := hf3.kp hk12
  replace i26 := i26.kp hk12
  replace i27 := i27.kp hk12
  rw [Hrb.out, Hrv.out]
  have q_x16 := KG.get x16
  have q_y16 := KG.get y16
  have q_x25 := KH.get x25
  have q_y25 := KH.get y25
  go_wp2_with fail
  have CC := Lib.hid (specRr_any _ F3 A26 R3 L26 c26 A27 N3 L27 c27 k0 w12 hf3 i26 HL26.out i27 HL27.out)
  with_reducible refine Calls.mono CC.out ?_
  rintro e w13 ⟨rfl, hk13⟩
  clear CC q_x16 q_y16 q_x25 q_y25
  replace K0 := K0.trans hk13
  replace KG := KG.trans hk13
  replace KH := KH.trans hk13
  replace i12 := i12.kp hk13
  replace i14 := i14.kp hk13
  replace hf2 := hf2.kp hk13
  replace i17 := i17.kp hk13
  replace i18 := i18.kp hk13
  replace i19 := i19.kp hk13
  replace i22 := i22.kp hk13
  replace hf3 := hf3.kp hk13
  replace i26 := i26.kp hk13
  replace i27 := i27.kp hk13
  rw [Hrb.out, Hrv.out]
  have n1 : (cv != cv) = false := by simp
  have n2 : (co != co) = false := by simp
  have n3 : (ho != ho) = false := by simp
  have n4 : (bo != bo) = false := by simp
  have n5 : (bv != bv) = false := by simp
  have n6 : (rv != rv) = false := by simp
  have n7 : (rb != rb) = false := by simp
  have q_x16 := KG.get x16
  have q_y16 := KG.get y16
  have q_x25 := KH.get x25
  have q_y25 := KH.get y25
  go_wp2_with fail
  have CC := Lib.hid (vInts_same A12 A14 (hcL F1 R1 N1 S1 r0) L12 c12 c14 w13 i12 i14 HL12.out)
  with_reducible refine Calls.mono CC.out ?_
  rintro e w14 ⟨rfl, hk14⟩
  clear CC q_x16 q_y16 q_x25 q_y25
  replace K0 := K0.trans hk14
  replace KG := KG.trans hk14
  replace KH := KH.trans hk14
  replace i12 := i12.kp hk14
  replace i14 := i14.kp hk14
  replace hf2 := hf2.kp hk14
  replace i17 := i17.kp hk14
  replace i18 := i18.kp hk14
  replace i19 := i19.kp hk14
  replace i22 := i22.kp hk14
  replace hf3 := hf3.kp hk14
  replace i26 := i26.kp hk14
  replace i27 := i27.kp hk14
  have q_x16 := KG.get x16
  have q_y16 := KG.get y16
  have q_x25 := KH.get x25
  have q_y25 := KH.get y25
  go_wp2_with fail
  have CC := Lib.hid (vInts_same A19 A22 (brL F2 R2 N2) L19 c19 c22 w14 i19 i22 HL19.out)
  with_reducible refine Calls.mono CC.out ?_
  rintro e w15 ⟨rfl, hk15⟩
  clear CC q_x16 q_y16 q_x25 q_y25
  replace K0 := K0.trans hk15
  replace KG := KG.trans hk15
  replace KH := KH.trans hk15
  replace i12 := i12.kp hk15
  replace i14 := i14.kp hk15
  replace hf2 := hf2.kp hk15
  replace i17 := i17.kp hk15
  replace i18 := i18.kp hk15
  replace i19 := i19.kp hk15
  replace i22 := i22.kp hk15
  replace hf3 := hf3.kp hk15
  replace i26 := i26.kp hk15
  replace i27 := i27.kp hk15
  clear n1 n2 n3 n4 n5 n6 n7
  cases co
  · obtain ⟨ws, rfl⟩ : ∃ q : World, q = w15 := ⟨_, rfl⟩
    cases bo
    · obtain ⟨wt, rfl⟩ : ∃ q : World, q = ws := ⟨_, rfl⟩
      cases rb
      · go_wp2_with fail
        go_ret
        exact ⟨rfl, K0⟩
      · go_wp2_with fail
        go_loopw [43] (fun jv wr => ∃ j : Nat, jv = .int .i64 j ∧ j ≤ L27 ∧ Hid (∀ i, i < j → lget N3 i ≠ 0) ∧ Kp wt wr) (fun jv _ => L27 - (intOf jv).toNat)
        case atStart => exact ⟨0, rfl, by omega, Lib.hid (fun i hi => by omega), Kp.refl _⟩
        case round =>
          obtain ⟨j, rfl, hj, Hz, hkr⟩ := hrel
          by_cases hlt : j < L27
          · have lx : j < N3.length := by rw [HL27.out]; exact hlt
            obtain ⟨ad, rfl, hc⟩ := (i27.kp hkr).at_ lx
            obtain ⟨z, hz⟩ : ∃ z, N3[j] = z := ⟨_, rfl⟩
            rw [hz] at hc
            have hlz : lget N3 j = z := by rw [lget_at lx]; exact hz
            have hltI : (j : Int) < (L27 : Int) := by omega
            have e8 : ((j : Int)).toNat = j := Int.toNat_natCast j
            by_cases h0 : z = 0
            · have n1 : (z == 0) = true := by simp [h0]
              clear hz hlz h0
              go_wp2_with fail
              go_ret
              exact ⟨rfl, K0.trans hkr⟩
            · have n1 : (z == 0) = false := by simp [h0]
              have Hz2 : Hid (∀ i, i < j + 1 → lget N3 i ≠ 0) := Lib.hid (fun i hi => by
                by_cases e : i = j
                · subst e; rw [hlz]; exact h0
                · exact Hz.out i (by omega))
              clear hz hlz h0
              go_wp2_with fail
              go_roundw
              case rel => exact ⟨j + 1, by go_num, by omega, Hz2, hkr⟩
              case measure => simp [intOf]; omega
          · obtain rfl : j = L27 := by omega
            obtain ⟨hok, hre⟩ := rr_reach Hrb.out (fun i hi => Hz.out i (by rw [HL27.out] at hi; exact hi))
            have hmc : mcB F3 k0 = true := by
              have h1 := rr_mc hok
              unfold mcB
              rw [h1.1, h1.2]; rfl
            rw [Hrv.out] at hre
            have CC := Lib.hid (centreReach_any _ F3 k0 wr (hf3.kp hkr) hmc)
            obtain ⟨re, Hre⟩ : ∃ z, Hid (reachF F3 (cenL F3 k0) = z) := ⟨_, Lib.hid rfl⟩
            rw [Hre.out] at CC hre
            have p1 : decide (re ≤ rv) = true := decide_eq_true hre
            have q25 := (KH.trans hkr).get x25
            have r25 := (KH.trans hkr).get y25
            clear hok hmc hre Hre
            go_wp2_with fail
            with_reducible refine Calls.mono CC.out ?_
            rintro e wq ⟨rfl, hkq⟩
            clear CC q25 r25
            go_wp2_with fail
            go_ret
            exact ⟨rfl, K0.trans (hkr.trans hkq)⟩
    · have BL := br_law Hbo.out
      rw [Hbv.out] at BL
      obtain ⟨le, Hle⟩ : ∃ z, Hid (lfV F2 R2 N2 (brL F2 R2 N2) = z) := ⟨_, Lib.hid rfl⟩
      obtain ⟨lo, Hlo⟩ : ∃ z, Hid (lfOk F2 R2 N2 (brL F2 R2 N2) = z) := ⟨_, Lib.hid rfl⟩
      obtain ⟨pa, Hpa⟩ : ∃ z, Hid (poR F2 (brL F2 R2 N2) = z) := ⟨_, Lib.hid rfl⟩
      obtain ⟨po, Hpo⟩ : ∃ z, Hid (poOk F2 (brL F2 R2 N2) = z) := ⟨_, Lib.hid rfl⟩
      rw [Hle.out, Hpa.out] at BL
      have CL := Lib.hid (implLf_any _ F2 A17 R2 L17 c17 A18 N2 L18 c18 A19 (brL F2 R2 N2) L19 c19 ws hf2 i17 HL17.out i18 HL18.out i19 HL19.out)
      rw [Hle.out, Hlo.out] at CL
      have q16 := KG.get x16
      have r16 := KG.get y16
      go_wp2_with fail
      with_reducible refine Calls.mono CL.out ?_
      rintro e wa ⟨rfl, hka⟩
      clear CL q16 r16
      have q16 := (KG.trans hka).get x16
      have r16 := (KG.trans hka).get y16
      have CP := Lib.hid (implPo_any _ F2 A19 (brL F2 R2 N2) L19 c19 wa (hf2.kp hka) (i19.kp hka) HL19.out)
      rw [Hpa.out, Hpo.out] at CP
      go_wp2_with fail
      with_reducible refine Calls.mono CP.out ?_
      rintro e wb2 ⟨rfl, hkb⟩
      clear CP q16 r16
      have hk2 := hka.trans hkb
      have h7 := (goodF_iff.1 BL.good).1
      obtain ⟨P, HP, hpw, hP⟩ := pow_wrap (F2.op.length : Int) (by omega) (by omega)
      rw [Int.toNat_natCast] at hpw HP
      have hP1 : 1 ≤ P := by rw [HP.out]; exact Nat.one_le_two_pow
      have HB := Lib.hid BL
      have hbd := BL.bd
      have hsm := BL.sum
      clear BL Hle Hlo Hpa Hpo hka hkb
      go_wp2_with fail
      go_loopw [37] (fun qv wr => ∃ q : Nat, qv = .int .i64 q ∧ 1 ≤ q ∧ q ≤ P ∧ Kp ws wr) (fun qv _ => P - (intOf qv).toNat)
      case atStart => exact ⟨1, rfl, by omega, hP1, hk2⟩
      case round =>
        clear hk2
        obtain ⟨q, rfl, hq1, hq, hkr⟩ := hrel
        have q16 := (KG.trans hkr).get x16
        have r16 := (KG.trans hkr).get y16
        by_cases hlt : q < P
        · have hltI : (q : Int) < (P : Int) := by omega
          have CV := Lib.hid (vBits_any F2.op.length q wr (by omega) (by omega))
          go_wp2_with fail
          with_reducible refine Calls.mono CV.out ?_
          rintro e wx ⟨v, rfl, hov, hkx⟩
          clear CV q16 r16
          have hall := HB.out.all q (by omega) (by rw [← HP.out]; exact hlt)
          obtain ⟨SB, HSB⟩ : ∃ z, Hid (bitsL F2.op.length q = z) := ⟨_, Lib.hid rfl⟩
          rw [HSB.out] at hall hov
          obtain ⟨LS, HLS⟩ : ∃ z, Hid (SB.length = z) := ⟨_, Lib.hid rfl⟩
          have hls : LS ≤ 1048576 := by rw [← HLS.out, ← HSB.out]; have := bitsL_len F2.op.length q; omega
          obtain ⟨AS, cS, rfl, iS⟩ := hov.openR HLS hls
          obtain ⟨ok2, Hok2⟩ : ∃ z, Hid (lfOk F2 R2 N2 SB = z) := ⟨_, Lib.hid rfl⟩
          obtain ⟨v2, Hv2⟩ : ∃ z, Hid (lfV F2 R2 N2 SB = z) := ⟨_, Lib.hid rfl⟩
          obtain ⟨p2, Hp2⟩ : ∃ z, Hid (poR F2 SB = z) := ⟨_, Lib.hid rfl⟩
          obtain ⟨pk2, Hpk2⟩ : ∃ z, Hid (poOk F2 SB = z) := ⟨_, Lib.hid rfl⟩
          rw [Hok2.out, Hv2.out, Hp2.out] at hall
          have kx := hkr.trans hkx
          have CL := Lib.hid (implLf_any _ F2 A17 R2 L17 c17 A18 N2 L18 c18 AS SB LS cS wx (hf2.kp kx) (i17.kp kx) HL17.out (i18.kp kx) HL18.out iS HLS.out)
          rw [Hv2.out, Hok2.out] at CL
          have q16 := (KG.trans kx).get x16
          have r16 := (KG.trans kx).get y16
          have HALL := Lib.hid hall
          clear hall hov
          go_wp2_with fail
          with_reducible refine Calls.mono CL.out ?_
          rintro e wy ⟨rfl, hky⟩
          clear CL q16 r16
          have ky := kx.trans hky
          have q16 := (KG.trans ky).get x16
          have r16 := (KG.trans ky).get y16
          have CP := Lib.hid (implPo_any _ F2 AS SB LS cS wy (hf2.kp ky) (iS.kp hky) HLS.out)
          rw [Hp2.out, Hpk2.out] at CP
          go_wp2_with fail
          with_reducible refine Calls.mono CP.out ?_
          rintro e wz ⟨rfl, hkz⟩
          clear CP q16 r16 Hok2 Hv2 Hp2 Hpk2 iS
          cases ok2
          · clear HALL
            go_wp2_with fail
            go_roundw
            case rel => exact ⟨q + 1, by go_num, by omega, by omega, ky.trans hkz⟩
            case measure => simp [intOf]; omega
          · have hall := HALL.out rfl
            have s1 : IntKind.i64.wrap (v2 + p2) = v2 + p2 := IntWalk.i64_in _ (by omega)
            have s2 : wrap64 (v2 + p2) = v2 + p2 := IntWalk.wrap64_in _ (by omega)
            have p1 : decide (v2 + p2 < bv) = false := decide_eq_false (by omega)
            clear HALL hall
            go_wp2_with fail
            go_roundw
            case rel => exact ⟨q + 1, by go_num, by omega, by omega, ky.trans hkz⟩
            case measure => simp [intOf]; omega
        · obtain rfl : q = P := by omega
          have hltI : ¬ (q : Int) < (q : Int) := by omega
          have s1 : IntKind.i64.wrap (le + pa) = bv := by rw [IntWalk.i64_in _ (by omega)]; exact hsm
          have s2 : wrap64 (le + pa) = bv := by rw [IntWalk.wrap64_in _ (by omega)]; exact hsm
          have s3 : (bv != bv) = false := by simp
          replace K0 := K0.trans hkr
          replace hf3 := hf3.kp hkr
          replace i27 := i27.kp hkr
          replace KH := KH.trans hkr
          clear hbd hsm HB HP
          obtain ⟨wt, rfl⟩ : ∃ q : World, q = wr := ⟨_, rfl⟩
          cases rb
          · go_wp2_with fail
            go_ret
            exact ⟨rfl, K0⟩
          · go_wp2_with fail
            go_loopw [43] (fun jv wr => ∃ j : Nat, jv = .int .i64 j ∧ j ≤ L27 ∧ Hid (∀ i, i < j → lget N3 i ≠ 0) ∧ Kp wt wr) (fun jv _ => L27 - (intOf jv).toNat)
            case atStart => exact ⟨0, rfl, by omega, Lib.hid (fun i hi => by omega), Kp.refl _⟩
            case round =>
              obtain ⟨j, rfl, hj, Hz, hkr⟩ := hrel
              by_cases hlt : j < L27
              · have lx : j < N3.length := by rw [HL27.out]; exact hlt
                obtain ⟨ad, rfl, hc⟩ := (i27.kp hkr).at_ lx
                obtain ⟨z, hz⟩ : ∃ z, N3[j] = z := ⟨_, rfl⟩
                rw [hz] at hc
                have hlz : lget N3 j = z := by rw [lget_at lx]; exact hz
                have hltI : (j : Int) < (L27 : Int) := by omega
                have e8 : ((j : Int)).toNat = j := Int.toNat_natCast j
                by_cases h0 : z = 0
                · have n1 : (z == 0) = true := by simp [h0]
                  clear hz hlz h0
                  go_wp2_with fail
                  go_ret
                  exact ⟨rfl, K0.trans hkr⟩
                · have n1 : (z == 0) = false := by simp [h0]
                  have Hz2 : Hid (∀ i, i < j + 1 → lget N3 i ≠ 0) := Lib.hid (fun i hi => by
                    by_cases e : i = j
                    · subst e; rw [hlz]; exact h0
                    · exact Hz.out i (by omega))
                  clear hz hlz h0
                  go_wp2_with fail
                  go_roundw
                  case rel => exact ⟨j + 1, by go_num, by omega, Hz2, hkr⟩
                  case measure => simp [intOf]; omega
              · obtain rfl : j = L27 := by omega
                obtain ⟨hok, hre⟩ := rr_reach Hrb.out (fun i hi => Hz.out i (by rw [HL27.out] at hi; exact hi))
                have hmc : mcB F3 k0 = true := by
                  have h1 := rr_mc hok
                  unfold mcB
                  rw [h1.1, h1.2]; rfl
                rw [Hrv.out] at hre
                have CC := Lib.hid (centreReach_any _ F3 k0 wr (hf3.kp hkr) hmc)
                obtain ⟨re, Hre⟩ : ∃ z, Hid (reachF F3 (cenL F3 k0) = z) := ⟨_, Lib.hid rfl⟩
                rw [Hre.out] at CC hre
                have p1 : decide (re ≤ rv) = true := decide_eq_true hre
                have q25 := (KH.trans hkr).get x25
                have r25 := (KH.trans hkr).get y25
                clear hok hmc hre Hre
                go_wp2_with fail
                with_reducible refine Calls.mono CC.out ?_
                rintro e wq ⟨rfl, hkq⟩
                clear CC q25 r25
                go_wp2_with fail
                go_ret
                exact ⟨rfl, K0.trans (hkr.trans hkq)⟩
  · have hx : ho = !cv := HX rfl
    have n8 : (ho == cv) = false := by rw [hx]; cases cv <;> rfl
    clear hx
    obtain ⟨ws, rfl⟩ : ∃ q : World, q = w15 := ⟨_, rfl⟩
    cases bo
    · obtain ⟨wt, rfl⟩ : ∃ q : World, q = ws := ⟨_, rfl⟩
      cases rb
      · go_wp2_with fail
        go_ret
        exact ⟨rfl, K0⟩
      · go_wp2_with fail
        go_loopw [43] (fun jv wr => ∃ j : Nat, jv = .int .i64 j ∧ j ≤ L27 ∧ Hid (∀ i, i < j → lget N3 i ≠ 0) ∧ Kp wt wr) (fun jv _ => L27 - (intOf jv).toNat)
        case atStart => exact ⟨0, rfl, by omega, Lib.hid (fun i hi => by omega), Kp.refl _⟩
        case round =>
          obtain ⟨j, rfl, hj, Hz, hkr⟩ := hrel
          by_cases hlt : j < L27
          · have lx : j < N3.length := by rw [HL27.out]; exact hlt
            obtain ⟨ad, rfl, hc⟩ := (i27.kp hkr).at_ lx
            obtain ⟨z, hz⟩ : ∃ z, N3[j] = z := ⟨_, rfl⟩
            rw [hz] at hc
            have hlz : lget N3 j = z := by rw [lget_at lx]; exact hz
            have hltI : (j : Int) < (L27 : Int) := by omega
            have e8 : ((j : Int)).toNat = j := Int.toNat_natCast j
            by_cases h0 : z = 0
            · have n1 : (z == 0) = true := by simp [h0]
              clear hz hlz h0
              go_wp2_with fail
              go_ret
              exact ⟨rfl, K0.trans hkr⟩
            · have n1 : (z == 0) = false := by simp [h0]
              have Hz2 : Hid (∀ i, i < j + 1 → lget N3 i ≠ 0) := Lib.hid (fun i hi => by
                by_cases e : i = j
                · subst e; rw [hlz]; exact h0
                · exact Hz.out i (by omega))
              clear hz hlz h0
              go_wp2_with fail
              go_roundw
              case rel => exact ⟨j + 1, by go_num, by omega, Hz2, hkr⟩
              case measure => simp [intOf]; omega
          · obtain rfl : j = L27 := by omega
            obtain ⟨hok, hre⟩ := rr_reach Hrb.out (fun i hi => Hz.out i (by rw [HL27.out] at hi; exact hi))
            have hmc : mcB F3 k0 = true := by
              have h1 := rr_mc hok
              unfold mcB
              rw [h1.1, h1.2]; rfl
            rw [Hrv.out] at hre
            have CC := Lib.hid (centreReach_any _ F3 k0 wr (hf3.kp hkr) hmc)
            obtain ⟨re, Hre⟩ : ∃ z, Hid (reachF F3 (cenL F3 k0) = z) := ⟨_, Lib.hid rfl⟩
            rw [Hre.out] at CC hre
            have p1 : decide (re ≤ rv) = true := decide_eq_true hre
            have q25 := (KH.trans hkr).get x25
            have r25 := (KH.trans hkr).get y25
            clear hok hmc hre Hre
            go_wp2_with fail
            with_reducible refine Calls.mono CC.out ?_
            rintro e wq ⟨rfl, hkq⟩
            clear CC q25 r25
            go_wp2_with fail
            go_ret
            exact ⟨rfl, K0.trans (hkr.trans hkq)⟩
    · have BL := br_law Hbo.out
      rw [Hbv.out] at BL
      obtain ⟨le, Hle⟩ : ∃ z, Hid (lfV F2 R2 N2 (brL F2 R2 N2) = z) := ⟨_, Lib.hid rfl⟩
      obtain ⟨lo, Hlo⟩ : ∃ z, Hid (lfOk F2 R2 N2 (brL F2 R2 N2) = z) := ⟨_, Lib.hid rfl⟩
      obtain ⟨pa, Hpa⟩ : ∃ z, Hid (poR F2 (brL F2 R2 N2) = z) := ⟨_, Lib.hid rfl⟩
      obtain ⟨po, Hpo⟩ : ∃ z, Hid (poOk F2 (brL F2 R2 N2) = z) := ⟨_, Lib.hid rfl⟩
      rw [Hle.out, Hpa.out] at BL
      have CL := Lib.hid (implLf_any _ F2 A17 R2 L17 c17 A18 N2 L18 c18 A19 (brL F2 R2 N2) L19 c19 ws hf2 i17 HL17.out i18 HL18.out i19 HL19.out)
      rw [Hle.out, Hlo.out] at CL
      have q16 := KG.get x16
      have r16 := KG.get y16
      go_wp2_with fail
      with_reducible refine Calls.mono CL.out ?_
      rintro e wa ⟨rfl, hka⟩
      clear CL q16 r16
      have q16 := (KG.trans hka).get x16
      have r16 := (KG.trans hka).get y16
      have CP := Lib.hid (implPo_any _ F2 A19 (brL F2 R2 N2) L19 c19 wa (hf2.kp hka) (i19.kp hka) HL19.out)
      rw [Hpa.out, Hpo.out] at CP
      go_wp2_with fail
      with_reducible refine Calls.mono CP.out ?_
      rintro e wb2 ⟨rfl, hkb⟩
      clear CP q16 r16
      have hk2 := hka.trans hkb
      have h7 := (goodF_iff.1 BL.good).1
      obtain ⟨P, HP, hpw, hP⟩ := pow_wrap (F2.op.length : Int) (by omega) (by omega)
      rw [Int.toNat_natCast] at hpw HP
      have hP1 : 1 ≤ P := by rw [HP.out]; exact Nat.one_le_two_pow
      have HB := Lib.hid BL
      have hbd := BL.bd
      have hsm := BL.sum
      clear BL Hle Hlo Hpa Hpo hka hkb
      go_wp2_with fail
      go_loopw [37] (fun qv wr => ∃ q : Nat, qv = .int .i64 q ∧ 1 ≤ q ∧ q ≤ P ∧ Kp ws wr) (fun qv _ => P - (intOf qv).toNat)
      case atStart => exact ⟨1, rfl, by omega, hP1, hk2⟩
      case round =>
        clear hk2
        obtain ⟨q, rfl, hq1, hq, hkr⟩ := hrel
        have q16 := (KG.trans hkr).get x16
        have r16 := (KG.trans hkr).get y16
        by_cases hlt : q < P
        · have hltI : (q : Int) < (P : Int) := by omega
          have CV := Lib.hid (vBits_any F2.op.length q wr (by omega) (by omega))
          go_wp2_with fail
          with_reducible refine Calls.mono CV.out ?_
          rintro e wx ⟨v, rfl, hov, hkx⟩
          clear CV q16 r16
          have hall := HB.out.all q (by omega) (by rw [← HP.out]; exact hlt)
          obtain ⟨SB, HSB⟩ : ∃ z, Hid (bitsL F2.op.length q = z) := ⟨_, Lib.hid rfl⟩
          rw [HSB.out] at hall hov
          obtain ⟨LS, HLS⟩ : ∃ z, Hid (SB.length = z) := ⟨_, Lib.hid rfl⟩
          have hls : LS ≤ 1048576 := by rw [← HLS.out, ← HSB.out]; have := bitsL_len F2.op.length q; omega
          obtain ⟨AS, cS, rfl, iS⟩ := hov.openR HLS hls
          obtain ⟨ok2, Hok2⟩ : ∃ z, Hid (lfOk F2 R2 N2 SB = z) := ⟨_, Lib.hid rfl⟩
          obtain ⟨v2, Hv2⟩ : ∃ z, Hid (lfV F2 R2 N2 SB = z) := ⟨_, Lib.hid rfl⟩
          obtain ⟨p2, Hp2⟩ : ∃ z, Hid (poR F2 SB = z) := ⟨_, Lib.hid rfl⟩
          obtain ⟨pk2, Hpk2⟩ : ∃ z, Hid (poOk F2 SB = z) := ⟨_, Lib.hid rfl⟩
          rw [Hok2.out, Hv2.out, Hp2.out] at hall
          have kx := hkr.trans hkx
          have CL := Lib.hid (implLf_any _ F2 A17 R2 L17 c17 A18 N2 L18 c18 AS SB LS cS wx (hf2.kp kx) (i17.kp kx) HL17.out (i18.kp kx) HL18.out iS HLS.out)
          rw [Hv2.out, Hok2.out] at CL
          have q16 := (KG.trans kx).get x16
          have r16 := (KG.trans kx).get y16
          have HALL := Lib.hid hall
          clear hall hov
          go_wp2_with fail
          with_reducible refine Calls.mono CL.out ?_
          rintro e wy ⟨rfl, hky⟩
          clear CL q16 r16
          have ky := kx.trans hky
          have q16 := (KG.trans ky).get x16
          have r16 := (KG.trans ky).get y16
          have CP := Lib.hid (implPo_any _ F2 AS SB LS cS wy (hf2.kp ky) (iS.kp hky) HLS.out)
          rw [Hp2.out, Hpk2.out] at CP
          go_wp2_with fail
          with_reducible refine Calls.mono CP.out ?_
          rintro e wz ⟨rfl, hkz⟩
          clear CP q16 r16 Hok2 Hv2 Hp2 Hpk2 iS
          cases ok2
          · clear HALL
            go_wp2_with fail
            go_roundw
            case rel => exact ⟨q + 1, by go_num, by omega, by omega, ky.trans hkz⟩
            case measure => simp [intOf]; omega
          · have hall := HALL.out rfl
            have s1 : IntKind.i64.wrap (v2 + p2) = v2 + p2 := IntWalk.i64_in _ (by omega)
            have s2 : wrap64 (v2 + p2) = v2 + p2 := IntWalk.wrap64_in _ (by omega)
            have p1 : decide (v2 + p2 < bv) = false := decide_eq_false (by omega)
            clear HALL hall
            go_wp2_with fail
            go_roundw
            case rel => exact ⟨q + 1, by go_num, by omega, by omega, ky.trans hkz⟩
            case measure => simp [intOf]; omega
        · obtain rfl : q = P := by omega
          have hltI : ¬ (q : Int) < (q : Int) := by omega
          have s1 : IntKind.i64.wrap (le + pa) = bv := by rw [IntWalk.i64_in _ (by omega)]; exact hsm
          have s2 : wrap64 (le + pa) = bv := by rw [IntWalk.wrap64_in _ (by omega)]; exact hsm
          have s3 : (bv != bv) = false := by simp
          replace K0 := K0.trans hkr
          replace hf3 := hf3.kp hkr
          replace i27 := i27.kp hkr
          replace KH := KH.trans hkr
          clear hbd hsm HB HP
          obtain ⟨wt, rfl⟩ : ∃ q : World, q = wr := ⟨_, rfl⟩
          cases rb
          · go_wp2_with fail
            go_ret
            exact ⟨rfl, K0⟩
          · go_wp2_with fail
            go_loopw [43] (fun jv wr => ∃ j : Nat, jv = .int .i64 j ∧ j ≤ L27 ∧ Hid (∀ i, i < j → lget N3 i ≠ 0) ∧ Kp wt wr) (fun jv _ => L27 - (intOf jv).toNat)
            case atStart => exact ⟨0, rfl, by omega, Lib.hid (fun i hi => by omega), Kp.refl _⟩
            case round =>
              obtain ⟨j, rfl, hj, Hz, hkr⟩ := hrel
              by_cases hlt : j < L27
              · have lx : j < N3.length := by rw [HL27.out]; exact hlt
                obtain ⟨ad, rfl, hc⟩ := (i27.kp hkr).at_ lx
                obtain ⟨z, hz⟩ : ∃ z, N3[j] = z := ⟨_, rfl⟩
                rw [hz] at hc
                have hlz : lget N3 j = z := by rw [lget_at lx]; exact hz
                have hltI : (j : Int) < (L27 : Int) := by omega
                have e8 : ((j : Int)).toNat = j := Int.toNat_natCast j
                by_cases h0 : z = 0
                · have n1 : (z == 0) = true := by simp [h0]
                  clear hz hlz h0
                  go_wp2_with fail
                  go_ret
                  exact ⟨rfl, K0.trans hkr⟩
                · have n1 : (z == 0) = false := by simp [h0]
                  have Hz2 : Hid (∀ i, i < j + 1 → lget N3 i ≠ 0) := Lib.hid (fun i hi => by
                    by_cases e : i = j
                    · subst e; rw [hlz]; exact h0
                    · exact Hz.out i (by omega))
                  clear hz hlz h0
                  go_wp2_with fail
                  go_roundw
                  case rel => exact ⟨j + 1, by go_num, by omega, Hz2, hkr⟩
                  case measure => simp [intOf]; omega
              · obtain rfl : j = L27 := by omega
                obtain ⟨hok, hre⟩ := rr_reach Hrb.out (fun i hi => Hz.out i (by rw [HL27.out] at hi; exact hi))
                have hmc : mcB F3 k0 = true := by
                  have h1 := rr_mc hok
                  unfold mcB
                  rw [h1.1, h1.2]; rfl
                rw [Hrv.out] at hre
                have CC := Lib.hid (centreReach_any _ F3 k0 wr (hf3.kp hkr) hmc)
                obtain ⟨re, Hre⟩ : ∃ z, Hid (reachF F3 (cenL F3 k0) = z) := ⟨_, Lib.hid rfl⟩
                rw [Hre.out] at CC hre
                have p1 : decide (re ≤ rv) = true := decide_eq_true hre
                have q25 := (KH.trans hkr).get x25
                have r25 := (KH.trans hkr).get y25
                clear hok hmc hre Hre
                go_wp2_with fail
                with_reducible refine Calls.mono CC.out ?_
                rintro e wq ⟨rfl, hkq⟩
                clear CC q25 r25
                go_wp2_with fail
                go_ret
                exact ⟨rfl, K0.trans (hkr.trans hkq)⟩
end Go.Proofs.YtpiijhfjliolfaaGreat
