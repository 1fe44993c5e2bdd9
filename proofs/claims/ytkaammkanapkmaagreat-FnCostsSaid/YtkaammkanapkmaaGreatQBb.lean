/- FnCosts: the walk of the law. No condition. -/
import Derived.Test.YtkaammkanapkmaaGreatQAc
import Derived.Test.YtkaammkanapkmaaGreatQAl
import Derived.Test.YtkaammkanapkmaaGreatQAm
import Derived.Test.YtkaammkanapkmaaGreatQAo
import Derived.Test.YtkaammkanapkmaaGreatQAf
import Derived.Test.YtkaammkanapkmaaGreatQBa
import Derived.Test.YtkaammkanapkmaaGreatQAb
namespace Go.Proofs.YtkaammkanapkmaaGreat
open Go.ChangeShapes Go.WideShapes Go.ChangeAt Go.RowKit Go.Sort

theorem DFld.open {w : World} {b : Nat} {v : Value} (h : DFld w b v) : ∃ F A c B d, v = .agg #[.slice A F.op.length c, .slice B F.di.length d] ∧ FldAt w v F := by
  obtain ⟨F, hf⟩ := h
  have hfa := hf.fld
  obtain ⟨A, c, B, d, e, _⟩ := hf
  exact ⟨F, A, c, B, d, e, hfa⟩
theorem Own.openL {w : World} {base : Nat} {v : Value} {xs : List Int} (h : Own w base v xs) {L : Nat} (hl : Hid (xs.length = L)) (h2 : L ≤ 1048576) : ∃ A c, v = .slice A L c ∧ IntsAt w A xs := by
  have := hl.out
  obtain ⟨A, c, e, hi⟩ := h.ints (by omega)
  exact ⟨A, c, by rw [← this]; exact e, hi⟩
theorem tot_wrap {F : Fld} (h : goodF F = true) : wrap64 (totF F (bestF F)) = totF F (bestF F) := by
  have := tot_bd h (best_set h).1
  exact IntWalk.wrap64_in _ (by omega)
set_option maxRecDepth 100000 in
set_option maxHeartbeats 8000000 in
theorem cst_law (A : Option Addr) (n c : Nat) (w : World) (hb : BytesAt w A n) (hnc : n ≤ c) :
    Calls Tryz.prog 3 #[.slice A n c] w fun e w' => e = .returned (.bool true) ∧ Kp w w' := by
  have CB := Lib.hid (vBig_any A n c w)
  by_cases hbig : 65536 < n
  · have hd : decide (65536 < (n : Int)) = true := decide_eq_true (by omega)
    rw [hd] at CB
    go_enter Tryz.func3, Tryz.ntmps3
    go_wp2_with fail
    with_reducible refine Calls.mono CB.out ?_
    rintro e w1 ⟨rfl, rfl⟩
    go_wp2_with fail
    go_ret
    exact ⟨rfl, Kp.refl _⟩
  have hn6 : n ≤ 65536 := by omega
  have hd : decide (65536 < (n : Int)) = false := decide_eq_false (by omega)
  rw [hd] at CB
  go_enter Tryz.func3, Tryz.ntmps3
  go_wp2_with fail
  with_reducible refine Calls.mono CB.out ?_
  rintro e w1 ⟨rfl, rfl⟩
  clear CB hd hbig
  have K0 : Kp w w := Kp.refl _
  have H0 := Lib.hid hb
  clear hb
  go_wp2_with fail
  have CC := Lib.hid (drawCostTable_any A n c w H0.out)
  with_reducible refine Calls.mono CC.out ?_
  rintro e w1 ⟨v, rfl, hv, hk1⟩
  clear CC
  replace K0 := K0.trans hk1
  obtain ⟨F1, A1, c1, B1, d1, rfl, hf1⟩ := DFld.open hv
  have kv : Kp w1 (World.alloc w1 (.cells #[.slice A1 F1.op.length c1, .slice B1 F1.di.length d1] 27)) := (Kp.refl _).alloc _
  obtain ⟨x1, y1⟩ := box2 w1 (.slice A1 F1.op.length c1) (.slice B1 F1.di.length d1) 27
  replace hf1 := hf1.kp kv
  replace K0 := K0.trans kv
  go_wp2_with fail
  generalize w1.alloc (.cells #[.slice A1 F1.op.length c1, .slice B1 F1.di.length d1] 27) = wf at *
  generalize w1.heap.size = b1 at *
  clear hv kv
  have KF : Kp wf wf := Kp.refl _
  obtain ⟨g1, Hg1⟩ : ∃ b, Hid (goodF F1 = b) := ⟨_, Lib.hid rfl⟩
  have CC := Lib.hid (implCt_any _ F1 wf hf1)
  with_reducible refine Calls.mono CC.out ?_
  rintro e w2 ⟨v, rfl, ho, hk2⟩
  clear CC
  replace K0 := K0.trans hk2
  replace KF := KF.trans hk2
  replace hf1 := hf1.kp hk2
  rw [Hg1.out]
  obtain ⟨L4, HL4⟩ : ∃ l, Hid ((ctL F1).length = l) := ⟨_, Lib.hid rfl⟩
  have hl4 : L4 ≤ 1048576 := by rw [← HL4.out]; exact ctL_len F1
  obtain ⟨A4, c4, rfl, i4⟩ := ho.openL HL4 hl4
  clear ho
  have q_x1 := KF.get x1
  have q_y1 := KF.get y1
  go_wp2_with fail
  have CC := Lib.hid (specCt_any _ F1 w2 hf1)
  with_reducible refine Calls.mono CC.out ?_
  rintro e w3 ⟨v, rfl, ho, hk3⟩
  clear CC q_x1 q_y1
  replace K0 := K0.trans hk3
  replace KF := KF.trans hk3
  replace hf1 := hf1.kp hk3
  replace i4 := i4.kp hk3
  rw [Hg1.out]
  obtain ⟨A6, c6, rfl, i6⟩ := ho.openL HL4 hl4
  clear ho
  have q_x1 := KF.get x1
  have q_y1 := KF.get y1
  go_wp2_with fail
  have CC := Lib.hid (vCut_all A n c 1 w3 (H0.out.kp K0) hn6 hnc)
  with_reducible refine Calls.mono CC.out ?_
  rintro e w4 ⟨A', n', c', rfl, ⟨hb8, hc8, hn8⟩, hk4⟩
  clear CC q_x1 q_y1
  replace K0 := K0.trans hk4
  replace KF := KF.trans hk4
  replace hf1 := hf1.kp hk4
  replace i4 := i4.kp hk4
  replace i6 := i6.kp hk4
  have q_x1 := KF.get x1
  have q_y1 := KF.get y1
  go_wp2_with fail
  have CC := Lib.hid (drawCostOfClients_any A' n' c' w4 hb8)
  with_reducible refine Calls.mono CC.out ?_
  rintro e w5 ⟨v, l, rfl, hv, hl, hk5⟩
  clear CC q_x1 q_y1
  replace K0 := K0.trans hk5
  replace KF := KF.trans hk5
  replace hf1 := hf1.kp hk5
  replace i4 := i4.kp hk5
  replace i6 := i6.kp hk5
  obtain ⟨F2, A8, c8, B8, d8, rfl, hf2⟩ := DFld.open hv
  have kv : Kp w5 (World.alloc w5 (.cells #[.slice A8 F2.op.length c8, .slice B8 F2.di.length d8] 27)) := (Kp.refl _).alloc _
  obtain ⟨x8, y8⟩ := box2 w5 (.slice A8 F2.op.length c8) (.slice B8 F2.di.length d8) 27
  replace hf2 := hf2.kp kv
  obtain ⟨A9, c9, C2, rfl, i9, hn9, _⟩ := hl.ints
  replace i9 := i9.kp kv
  replace K0 := K0.trans kv
  replace KF := KF.trans kv
  replace hf1 := hf1.kp kv
  replace i4 := i4.kp kv
  replace i6 := i6.kp kv
  obtain ⟨L9, HL9⟩ : ∃ l, Hid (C2.length = l) := ⟨_, Lib.hid rfl⟩
  rw [HL9.out]
  go_wp2_with fail
  generalize w5.alloc (.cells #[.slice A8 F2.op.length c8, .slice B8 F2.di.length d8] 27) = wg at *
  generalize w5.heap.size = b8 at *
  clear hv kv hl hn9 hb8 hc8 hn8
  have KG : Kp wg wg := Kp.refl _
  obtain ⟨co, Hco⟩ : ∃ b, Hid (cocOk F2 C2 = b) := ⟨_, Lib.hid rfl⟩
  obtain ⟨cv, Hcv⟩ : ∃ b, Hid (cocR F2 C2 = b) := ⟨_, Lib.hid rfl⟩
  have CC := Lib.hid (implCoc_any _ F2 A9 C2 L9 c9 wg hf2 i9 HL9.out)
  with_reducible refine Calls.mono CC.out ?_
  rintro e w6 ⟨rfl, hk6⟩
  clear CC
  replace K0 := K0.trans hk6
  replace KF := KF.trans hk6
  replace KG := KG.trans hk6
  replace hf1 := hf1.kp hk6
  replace i4 := i4.kp hk6
  replace i6 := i6.kp hk6
  replace hf2 := hf2.kp hk6
  replace i9 := i9.kp hk6
  rw [Hco.out, Hcv.out]
  have q_x1 := KF.get x1
  have q_y1 := KF.get y1
  have q_x8 := KG.get x8
  have q_y8 := KG.get y8
  go_wp2_with fail
  have CC := Lib.hid (specCoc_any _ F2 A9 C2 L9 c9 w6 hf2 i9 HL9.out)
  with_reducible refine Calls.mono CC.out ?_
  rintro e w7 ⟨rfl, hk7⟩
  clear CC q_x1 q_y1 q_x8 q_y8
  replace K0 := K0.trans hk7
  replace KF := KF.trans hk7
  replace KG := KG.trans hk7
  replace hf1 := hf1.kp hk7
  replace i4 := i4.kp hk7
  replace i6 := i6.kp hk7
  replace hf2 := hf2.kp hk7
  replace i9 := i9.kp hk7
  rw [Hco.out, Hcv.out]
  clear hf2 i9 Hco Hcv HL9 KG x8 y8
  have q_x1 := KF.get x1
  have q_y1 := KF.get y1
  go_wp2_with fail
  have CC := Lib.hid (vCut_all A n c 2 w7 (H0.out.kp K0) hn6 hnc)
  with_reducible refine Calls.mono CC.out ?_
  rintro e w8 ⟨A', n', c', rfl, ⟨hb8, hc8, hn8⟩, hk8⟩
  clear CC q_x1 q_y1
  replace K0 := K0.trans hk8
  replace KF := KF.trans hk8
  replace hf1 := hf1.kp hk8
  replace i4 := i4.kp hk8
  replace i6 := i6.kp hk8
  have q_x1 := KF.get x1
  have q_y1 := KF.get y1
  go_wp2_with fail
  have CC := Lib.hid (drawMarginalShares_any A' n' c' w8 hb8)
  with_reducible refine Calls.mono CC.out ?_
  rintro e w9 ⟨v, l, rfl, hv, hl, hk9⟩
  clear CC q_x1 q_y1
  replace K0 := K0.trans hk9
  replace KF := KF.trans hk9
  replace hf1 := hf1.kp hk9
  replace i4 := i4.kp hk9
  replace i6 := i6.kp hk9
  obtain ⟨F3, A14, c14, B14, d14, rfl, hf3⟩ := DFld.open hv
  have kv : Kp w9 (World.alloc w9 (.cells #[.slice A14 F3.op.length c14, .slice B14 F3.di.length d14] 27)) := (Kp.refl _).alloc _
  obtain ⟨x14, y14⟩ := box2 w9 (.slice A14 F3.op.length c14) (.slice B14 F3.di.length d14) 27
  replace hf3 := hf3.kp kv
  obtain ⟨A15, c15, O3, rfl, i15, hn15, _⟩ := hl.ints
  replace i15 := i15.kp kv
  replace K0 := K0.trans kv
  replace KF := KF.trans kv
  replace hf1 := hf1.kp kv
  replace i4 := i4.kp kv
  replace i6 := i6.kp kv
  obtain ⟨L15, HL15⟩ : ∃ l, Hid (O3.length = l) := ⟨_, Lib.hid rfl⟩
  rw [HL15.out]
  go_wp2_with fail
  generalize w9.alloc (.cells #[.slice A14 F3.op.length c14, .slice B14 F3.di.length d14] 27) = wg at *
  generalize w9.heap.size = b14 at *
  clear hv kv hl hn15 hb8 hc8 hn8
  have KG : Kp wg wg := Kp.refl _
  obtain ⟨mo, Hmo⟩ : ∃ b, Hid (msOk F3 O3 = b) := ⟨_, Lib.hid rfl⟩
  obtain ⟨L16, HL16⟩ : ∃ l, Hid ((msL F3 O3).length = l) := ⟨_, Lib.hid rfl⟩
  have hl16 : L16 ≤ 1048576 := by rw [← HL16.out]; exact msL_len F3 O3
  have CC := Lib.hid (implMs_any _ F3 A15 O3 L15 c15 wg hf3 i15 HL15.out)
  with_reducible refine Calls.mono CC.out ?_
  rintro e w10 ⟨v, rfl, ho, hk10⟩
  clear CC
  replace K0 := K0.trans hk10
  replace KF := KF.trans hk10
  replace KG := KG.trans hk10
  replace hf1 := hf1.kp hk10
  replace i4 := i4.kp hk10
  replace i6 := i6.kp hk10
  replace hf3 := hf3.kp hk10
  replace i15 := i15.kp hk10
  rw [Hmo.out]
  obtain ⟨A16, c16, rfl, i16⟩ := ho.openL HL16 hl16
  clear ho
  have q_x1 := KF.get x1
  have q_y1 := KF.get y1
  have q_x14 := KG.get x14
  have q_y14 := KG.get y14
  go_wp2_with fail
  have CC := Lib.hid (specMs_any _ F3 A15 O3 L15 c15 w10 hf3 i15 HL15.out)
  with_reducible refine Calls.mono CC.out ?_
  rintro e w11 ⟨v, rfl, ho, hk11⟩
  clear CC q_x1 q_y1 q_x14 q_y14
  replace K0 := K0.trans hk11
  replace KF := KF.trans hk11
  replace KG := KG.trans hk11
  replace hf1 := hf1.kp hk11
  replace i4 := i4.kp hk11
  replace i6 := i6.kp hk11
  replace hf3 := hf3.kp hk11
  replace i15 := i15.kp hk11
  replace i16 := i16.kp hk11
  rw [Hmo.out]
  obtain ⟨A18, c18, rfl, i18⟩ := ho.openL HL16 hl16
  clear ho
  have q_x1 := KF.get x1
  have q_y1 := KF.get y1
  have q_x14 := KG.get x14
  have q_y14 := KG.get y14
  go_wp2_with fail
  obtain ⟨L20, HL20⟩ : ∃ l, Hid ((frL F1).length = l) := ⟨_, Lib.hid rfl⟩
  have hl20 : L20 ≤ 1048576 := by rw [← HL20.out]; exact frL_len F1
  obtain ⟨fm, Hfm⟩ : ∃ b, Hid (frM F1 = b) := ⟨_, Lib.hid rfl⟩
  have CC := Lib.hid (implFr_any _ F1 w11 hf1)
  with_reducible refine Calls.mono CC.out ?_
  rintro e w12 ⟨v, rfl, ho, hk12⟩
  clear CC q_x1 q_y1 q_x14 q_y14
  replace K0 := K0.trans hk12
  replace KF := KF.trans hk12
  replace KG := KG.trans hk12
  replace hf1 := hf1.kp hk12
  replace i4 := i4.kp hk12
  replace i6 := i6.kp hk12
  replace hf3 := hf3.kp hk12
  replace i15 := i15.kp hk12
  replace i16 := i16.kp hk12
  replace i18 := i18.kp hk12
  rw [Hg1.out, Hfm.out]
  obtain ⟨A20, c20, rfl, i20⟩ := ho.openL HL20 hl20
  clear ho
  have q_x1 := KF.get x1
  have q_y1 := KF.get y1
  have q_x14 := KG.get x14
  have q_y14 := KG.get y14
  go_wp2_with fail
  have CC := Lib.hid (specFr_any _ F1 w12 hf1)
  with_reducible refine Calls.mono CC.out ?_
  rintro e w13 ⟨v, rfl, ho, hk13⟩
  clear CC q_x1 q_y1 q_x14 q_y14
  replace K0 := K0.trans hk13
  replace KF := KF.trans hk13
  replace KG := KG.trans hk13
  replace hf1 := hf1.kp hk13
  replace i4 := i4.kp hk13
  replace i6 := i6.kp hk13
  replace hf3 := hf3.kp hk13
  replace i15 := i15.kp hk13
  replace i16 := i16.kp hk13
  replace i18 := i18.kp hk13
  replace i20 := i20.kp hk13
  rw [Hg1.out, Hfm.out]
  obtain ⟨A23, c23, rfl, i23⟩ := ho.openL HL20 hl20
  clear ho
  have n1 : (g1 != g1) = false := by simp
  have n2 : (cv != cv) = false := by simp
  have n3 : (co != co) = false := by simp
  have n4 : (mo != mo) = false := by simp
  have n5 : (fm != fm) = false := by simp
  have q_x1 := KF.get x1
  have q_y1 := KF.get y1
  have q_x14 := KG.get x14
  have q_y14 := KG.get y14
  go_wp2_with fail
  have CC := Lib.hid (vInts_same A4 A6 (ctL F1) L4 c4 c6 w13 i4 i6 HL4.out)
  with_reducible refine Calls.mono CC.out ?_
  rintro e w14 ⟨rfl, hk14⟩
  clear CC q_x1 q_y1 q_x14 q_y14
  replace K0 := K0.trans hk14
  replace KF := KF.trans hk14
  replace KG := KG.trans hk14
  replace hf1 := hf1.kp hk14
  replace i4 := i4.kp hk14
  replace i6 := i6.kp hk14
  replace hf3 := hf3.kp hk14
  replace i15 := i15.kp hk14
  replace i16 := i16.kp hk14
  replace i18 := i18.kp hk14
  replace i20 := i20.kp hk14
  replace i23 := i23.kp hk14
  have q_x1 := KF.get x1
  have q_y1 := KF.get y1
  have q_x14 := KG.get x14
  have q_y14 := KG.get y14
  go_wp2_with fail
  have CC := Lib.hid (vInts_same A16 A18 (msL F3 O3) L16 c16 c18 w14 i16 i18 HL16.out)
  with_reducible refine Calls.mono CC.out ?_
  rintro e w15 ⟨rfl, hk15⟩
  clear CC q_x1 q_y1 q_x14 q_y14
  replace K0 := K0.trans hk15
  replace KF := KF.trans hk15
  replace KG := KG.trans hk15
  replace hf1 := hf1.kp hk15
  replace i4 := i4.kp hk15
  replace i6 := i6.kp hk15
  replace hf3 := hf3.kp hk15
  replace i15 := i15.kp hk15
  replace i16 := i16.kp hk15
  replace i18 := i18.kp hk15
  replace i20 := i20.kp hk15
  replace i23 := i23.kp hk15
  have q_x1 := KF.get x1
  have q_y1 := KF.get y1
  have q_x14 := KG.get x14
  have q_y14 := KG.get y14
  go_wp2_with fail
  have CC := Lib.hid (vInts_same A20 A23 (frL F1) L20 c20 c23 w15 i20 i23 HL20.out)
  with_reducible refine Calls.mono CC.out ?_
  rintro e w16 ⟨rfl, hk16⟩
  clear CC q_x1 q_y1 q_x14 q_y14
  replace K0 := K0.trans hk16
  replace KF := KF.trans hk16
  replace KG := KG.trans hk16
  replace hf1 := hf1.kp hk16
  replace i4 := i4.kp hk16
  replace i6 := i6.kp hk16
  replace hf3 := hf3.kp hk16
  replace i15 := i15.kp hk16
  replace i16 := i16.kp hk16
  replace i18 := i18.kp hk16
  replace i20 := i20.kp hk16
  replace i23 := i23.kp hk16
  clear n1 n2 n3 n4 n5
  cases mo
  · obtain ⟨wt, rfl⟩ : ∃ q : World, q = w16 := ⟨_, rfl⟩
    cases g1
    · go_wp2_with fail
      go_ret
      exact ⟨rfl, K0⟩
    · have CP := Lib.hid (ct_parts Hg1.out)
      obtain ⟨P, HP⟩ : ∃ l, Hid (2 ^ F1.di.length = l) := ⟨_, Lib.hid rfl⟩
      rw [HP.out] at CP
      obtain rfl : L4 = P := by have h1 := CP.out.len; have h2 := HL4.out; omega
      have hP0 := CP.out.pos
      go_wp2_with fail
      go_loopw [31, 32] (fun av bv wr => ∃ a : Nat, av = .int .i64 a ∧ a ≤ L4 ∧ Kp wt wr) (fun av _ _ => L4 - (intOf av).toNat)
      case atStart => exact ⟨0, rfl, by omega, Kp.refl _⟩
      case round =>
        obtain ⟨a, rfl, ha, hka⟩ := hrel
        by_cases hlt : a < L4
        · go_wp2_with fail
          go_loopw [32] (fun bv wi => ∃ b : Nat, bv = .int .i64 b ∧ b ≤ L4 ∧ Kp wt wi) (fun bv _ => L4 - (intOf bv).toNat)
          case atStart => exact ⟨0, rfl, by omega, hka⟩
          case round =>
            obtain ⟨b, rfl, hbl, hkb⟩ := hrel
            by_cases hlb : b < L4
            · have lx : a < (ctL F1).length := by rw [HL4.out]; exact hlt
              have ly : b < (ctL F1).length := by rw [HL4.out]; exact hlb
              have l2 := CP.out.or_ a b hlt hlb
              have lo : a ||| b < (ctL F1).length := by rw [HL4.out]; exact l2
              obtain ⟨ad, rfl, hc⟩ := (i4.kp hkb).at_ lx
              have hd := (i4.kp hkb).some_ ly
              have hc2 := (i4.kp hkb).some_ lo
              have hor := i64_or_nat a b (by omega) (by omega)
              obtain ⟨t1, t2⟩ := CP.out.cup a b lx ly lo
              obtain ⟨t3, t4⟩ := CP.out.bd a lx
              obtain ⟨t5, t6⟩ := CP.out.bd b ly
              obtain ⟨za, hza⟩ : ∃ z, (ctL F1)[a] = z := ⟨_, rfl⟩
              obtain ⟨zb, hzb⟩ : ∃ z, (ctL F1)[b] = z := ⟨_, rfl⟩
              obtain ⟨zc, hzc⟩ : ∃ z, (ctL F1)[a ||| b] = z := ⟨_, rfl⟩
              rw [hza] at hc t1 t2 t3 t4
              rw [hzb] at hd t1 t5 t6
              rw [hzc] at hc2 t1 t2
              clear hza hzb hzc
              have s1 : IntKind.i64.wrap (za + zb) = za + zb := IntWalk.i64_in _ (by omega)
              have p1 : decide (za + zb < zc) = false := decide_eq_false (by omega)
              have p2 : decide (zc < za) = false := decide_eq_false (by omega)
              go_wp2_with fail
              go_quiet (fail)
              go_wp2_with fail
              go_roundw
              case rel => exact ⟨b + 1, by go_num, by omega, hkb.drewN _⟩
              case measure => simp [intOf]; omega
            · go_wp2_with fail
              go_roundw
              case rel => exact ⟨a + 1, by go_num, by omega, hkb⟩
              case measure => simp [intOf]; omega
        · obtain rfl : a = L4 := by omega
          obtain ⟨Q, HQ⟩ : ∃ Q, Hid (a - 1 = Q) := ⟨_, Lib.hid rfl⟩
          have hQ : Q < a := by have := HQ.out; omega
          have hPi : a - 1 < (ctL F1).length := by rw [HL4.out]; omega
          have HF := CP.out.fair hPi
          obtain ⟨ad, rfl, hc⟩ := (i4.kp hka).at_ hPi
          obtain ⟨tv, Htv⟩ : ∃ z, Hid ((ctL F1)[a - 1] = z) := ⟨_, Lib.hid rfl⟩
          rw [Htv.out] at hc HF
          rw [Hfm.out] at HF
          rw [HQ.out] at hc
          have e1 : (a : Int) - 1 = (Q : Int) := by have := HQ.out; omega
          have e2 : IntKind.i64.wrap (Q : Int) = (Q : Int) := IntWalk.i64_in _ (by omega)
          have hQI : (Q : Int) < (a : Int) := by omega
          have CS := Lib.hid (fun (wx : World) (hx : Kp wr wx) => vSum_any A20 (frL F1) L20 c20 wx ((i20.kp hka).kp hx) HL20.out)
          rw [HF] at CS
          have KT : Kp wr wr := Kp.refl _
          have K9 := K0.trans hka
          clear HF Htv HQ hlt
          have q_hc := KT.get hc
          have tok1 : True := trivial
          go_wp2_with fail
          go_region_held3 (fun w' => w'.cell? (ad.add Q) = some (.int .i64 tv) ∧ Kp wr w')
            (first | (refine keepc1 hc ?_; exact (by repeat (first | with_reducible assumption | with_reducible exact Kp.refl _ | with_reducible refine Kp.drew ?_ | with_reducible refine Kp.alloc ?_ _ | with_reducible refine Kp.drewN ?_ _ | refine Kp.setCell ?_ (by dsimp only; omega) _))) | fail)
            (first
              | (have _t := tok1; go_at_call 19; with_reducible refine Calls.mono (CS.out _ (by repeat (first | with_reducible assumption | with_reducible exact Kp.refl _ | with_reducible refine Kp.drew ?_ | with_reducible refine Kp.alloc ?_ _ | with_reducible refine Kp.drewN ?_ _ | refine Kp.setCell ?_ (by dsimp only; omega) _))) ?_; rintro e wr1 ⟨rfl, hka⟩; have hr1 : Kp wr wr1 := Kp.trans (by repeat (first | with_reducible assumption | with_reducible exact Kp.refl _ | with_reducible refine Kp.drew ?_ | with_reducible refine Kp.alloc ?_ _ | with_reducible refine Kp.drewN ?_ _ | refine Kp.setCell ?_ (by dsimp only; omega) _)) hka; have tok2 : True := trivial; clear tok1 _t)
              | fail)
          rw [show (wrap64 (fm * tv) == IntKind.i64.wrap (fm * tv)) = true from by rw [IntWalk.i64_left]; simp]
          go_wp2_with fail
          go_ret
          exact ⟨rfl, K9.trans hr1⟩
  · have MP := Lib.hid (ms_parts Hmo.out)
    obtain ⟨tb, Htb⟩ : ∃ t, Hid (totF F3 (bestF F3) = t) := ⟨_, Lib.hid rfl⟩
    have q_x1 := KF.get x1
    have q_y1 := KF.get y1
    have q_x14 := KG.get x14
    have q_y14 := KG.get y14
    go_wp2_with fail
    have CC := Lib.hid (bestTotal_any _ F3 w16 hf3 MP.out.good)
    with_reducible refine Calls.mono CC.out ?_
    rintro e w17 ⟨rfl, hk17⟩
    clear CC q_x1 q_y1 q_x14 q_y14
    replace K0 := K0.trans hk17
    replace KF := KF.trans hk17
    replace KG := KG.trans hk17
    replace hf1 := hf1.kp hk17
    replace i4 := i4.kp hk17
    replace i6 := i6.kp hk17
    replace hf3 := hf3.kp hk17
    replace i15 := i15.kp hk17
    replace i16 := i16.kp hk17
    replace i18 := i18.kp hk17
    replace i20 := i20.kp hk17
    replace i23 := i23.kp hk17
    rw [Htb.out]
    by_cases h0 : 0 < F3.di.length
    · have p0 : decide ((0 : Int) < (F3.di.length : Int)) = true := decide_eq_true (by omega)
      have CS := Lib.hid (vSum_any A16 (msL F3 O3) L16 c16 w17 i16 HL16.out)
      rw [MP.out.sum h0, Htb.out] at CS
      have n6 : (wrap64 tb != tb) = false := by rw [← Htb.out, tot_wrap MP.out.good]; simp
      have q_x1 := KF.get x1
      have q_y1 := KF.get y1
      have q_x14 := KG.get x14
      have q_y14 := KG.get y14
      go_wp2_with fail
      with_reducible refine Calls.mono (CS.out) ?_
      rintro e w18 ⟨rfl, hk18⟩
      clear q_x1 q_y1 q_x14 q_y14
      replace K0 := K0.trans hk18
      replace KF := KF.trans hk18
      replace KG := KG.trans hk18
      replace hf1 := hf1.kp hk18
      replace i4 := i4.kp hk18
      replace i6 := i6.kp hk18
      replace hf3 := hf3.kp hk18
      replace i15 := i15.kp hk18
      replace i16 := i16.kp hk18
      replace i18 := i18.kp hk18
      replace i20 := i20.kp hk18
      replace i23 := i23.kp hk18
      have q_x1 := KF.get x1
      have q_y1 := KF.get y1
      have q_x14 := KG.get x14
      have q_y14 := KG.get y14
      go_wp2_with fail
      obtain ⟨wl, rfl⟩ : ∃ q : World, q = w18 := ⟨_, rfl⟩
      go_loopw [28, 29, 30] (fun jv av bv wr => ∃ j : Nat, jv = .int .i64 j ∧ j ≤ L16 ∧ Kp wl wr) (fun jv _ _ _ => L16 - (intOf jv).toNat)
      case atStart => exact ⟨0, rfl, by omega, Kp.refl _⟩
      case round =>
        obtain ⟨j, rfl, hj, hkr⟩ := hrel
        by_cases hlt : j < L16
        · have lx : j < (msL F3 O3).length := by rw [HL16.out]; exact hlt
          obtain ⟨s1, s2⟩ := MP.out.at_ j lx
          obtain ⟨ad, rfl, hc⟩ := (i16.kp hkr).at_ lx
          obtain ⟨sv, Hsv⟩ : ∃ z, Hid ((msL F3 O3)[j] = z) := ⟨_, Lib.hid rfl⟩
          rw [Hsv.out] at s1 s2 hc
          obtain ⟨al, Hal⟩ : ∃ z, Hid (cocR F3 [(j : Int)] = z) := ⟨_, Lib.hid rfl⟩
          rw [Hal.out] at s2
          have p1 : decide (sv < 0) = false := decide_eq_false (by omega)
          have p2 : decide (al < sv) = false := decide_eq_false (by omega)
          have q14 := (KG.trans hkr).get x14
          have r14 := (KG.trans hkr).get y14
          obtain ⟨kl, hlit⟩ := j_lit1 (Kp.refl wr) (j : Int)
          have CC := Lib.hid (implCoc_any _ F3 (some ⟨wr.heap.size, 0, none⟩) [(j : Int)] 1 1 (wr.alloc (.cells #[.int .i64 (j : Int)] 3)) ((hf3.kp hkr).kp kl) hlit rfl)
          rw [Hal.out] at CC
          clear hlit
          go_wp2_with fail
          with_reducible refine Calls.mono CC.out ?_
          rintro e wq ⟨rfl, hkq⟩
          have hcq := (kl.trans hkq).get hc
          clear hc q14 r14 CC
          go_wp2_with fail
          go_roundw
          case rel => exact ⟨j + 1, by go_num, by omega, hkr.trans (kl.trans hkq)⟩
          case measure => simp [intOf]; omega
        · obtain rfl : j = L16 := by omega
          replace K0 := K0.trans hkr
          replace i4 := i4.kp hkr
          replace i20 := i20.kp hkr
          obtain ⟨wt, rfl⟩ : ∃ q : World, q = wr := ⟨_, rfl⟩
          cases g1
          · go_wp2_with fail
            go_ret
            exact ⟨rfl, K0⟩
          · have CP := Lib.hid (ct_parts Hg1.out)
            obtain ⟨P, HP⟩ : ∃ l, Hid (2 ^ F1.di.length = l) := ⟨_, Lib.hid rfl⟩
            rw [HP.out] at CP
            obtain rfl : L4 = P := by have h1 := CP.out.len; have h2 := HL4.out; omega
            have hP0 := CP.out.pos
            go_wp2_with fail
            go_loopw [31, 32] (fun av bv wr => ∃ a : Nat, av = .int .i64 a ∧ a ≤ L4 ∧ Kp wt wr) (fun av _ _ => L4 - (intOf av).toNat)
            case atStart => exact ⟨0, rfl, by omega, Kp.refl _⟩
            case round =>
              obtain ⟨a, rfl, ha, hka⟩ := hrel
              by_cases hlt : a < L4
              · go_wp2_with fail
                go_loopw [32] (fun bv wi => ∃ b : Nat, bv = .int .i64 b ∧ b ≤ L4 ∧ Kp wt wi) (fun bv _ => L4 - (intOf bv).toNat)
                case atStart => exact ⟨0, rfl, by omega, hka⟩
                case round =>
                  obtain ⟨b, rfl, hbl, hkb⟩ := hrel
                  by_cases hlb : b < L4
                  · have lx : a < (ctL F1).length := by rw [HL4.out]; exact hlt
                    have ly : b < (ctL F1).length := by rw [HL4.out]; exact hlb
                    have l2 := CP.out.or_ a b hlt hlb
                    have lo : a ||| b < (ctL F1).length := by rw [HL4.out]; exact l2
                    obtain ⟨ad, rfl, hc⟩ := (i4.kp hkb).at_ lx
                    have hd := (i4.kp hkb).some_ ly
                    have hc2 := (i4.kp hkb).some_ lo
                    have hor := i64_or_nat a b (by omega) (by omega)
                    obtain ⟨t1, t2⟩ := CP.out.cup a b lx ly lo
                    obtain ⟨t3, t4⟩ := CP.out.bd a lx
                    obtain ⟨t5, t6⟩ := CP.out.bd b ly
                    obtain ⟨za, hza⟩ : ∃ z, (ctL F1)[a] = z := ⟨_, rfl⟩
                    obtain ⟨zb, hzb⟩ : ∃ z, (ctL F1)[b] = z := ⟨_, rfl⟩
                    obtain ⟨zc, hzc⟩ : ∃ z, (ctL F1)[a ||| b] = z := ⟨_, rfl⟩
                    rw [hza] at hc t1 t2 t3 t4
                    rw [hzb] at hd t1 t5 t6
                    rw [hzc] at hc2 t1 t2
                    clear hza hzb hzc
                    have s1 : IntKind.i64.wrap (za + zb) = za + zb := IntWalk.i64_in _ (by omega)
                    have p1 : decide (za + zb < zc) = false := decide_eq_false (by omega)
                    have p2 : decide (zc < za) = false := decide_eq_false (by omega)
                    go_wp2_with fail
                    go_quiet (fail)
                    go_wp2_with fail
                    go_roundw
                    case rel => exact ⟨b + 1, by go_num, by omega, hkb.drewN _⟩
                    case measure => simp [intOf]; omega
                  · go_wp2_with fail
                    go_roundw
                    case rel => exact ⟨a + 1, by go_num, by omega, hkb⟩
                    case measure => simp [intOf]; omega
              · obtain rfl : a = L4 := by omega
                obtain ⟨Q, HQ⟩ : ∃ Q, Hid (a - 1 = Q) := ⟨_, Lib.hid rfl⟩
                have hQ : Q < a := by have := HQ.out; omega
                have hPi : a - 1 < (ctL F1).length := by rw [HL4.out]; omega
                have HF := CP.out.fair hPi
                obtain ⟨ad, rfl, hc⟩ := (i4.kp hka).at_ hPi
                obtain ⟨tv, Htv⟩ : ∃ z, Hid ((ctL F1)[a - 1] = z) := ⟨_, Lib.hid rfl⟩
                rw [Htv.out] at hc HF
                rw [Hfm.out] at HF
                rw [HQ.out] at hc
                have e1 : (a : Int) - 1 = (Q : Int) := by have := HQ.out; omega
                have e2 : IntKind.i64.wrap (Q : Int) = (Q : Int) := IntWalk.i64_in _ (by omega)
                have hQI : (Q : Int) < (a : Int) := by omega
                have CS := Lib.hid (fun (wx : World) (hx : Kp wr wx) => vSum_any A20 (frL F1) L20 c20 wx ((i20.kp hka).kp hx) HL20.out)
                rw [HF] at CS
                have KT : Kp wr wr := Kp.refl _
                have K9 := K0.trans hka
                clear HF Htv HQ hlt
                clear q_x1 q_y1 q_x14 q_y14
                have q_hc := KT.get hc
                have tok1 : True := trivial
                go_wp2_with fail
                go_region_held3 (fun w' => w'.cell? (ad.add Q) = some (.int .i64 tv) ∧ Kp wr w')
                  (first | (refine keepc1 hc ?_; exact (by repeat (first | with_reducible assumption | with_reducible exact Kp.refl _ | with_reducible refine Kp.drew ?_ | with_reducible refine Kp.alloc ?_ _ | with_reducible refine Kp.drewN ?_ _ | refine Kp.setCell ?_ (by dsimp only; omega) _))) | fail)
                  (first
                    | (have _t := tok1; go_at_call 19; with_reducible refine Calls.mono (CS.out _ (by repeat (first | with_reducible assumption | with_reducible exact Kp.refl _ | with_reducible refine Kp.drew ?_ | with_reducible refine Kp.alloc ?_ _ | with_reducible refine Kp.drewN ?_ _ | refine Kp.setCell ?_ (by dsimp only; omega) _))) ?_; rintro e wr1 ⟨rfl, hka⟩; have hr1 : Kp wr wr1 := Kp.trans (by repeat (first | with_reducible assumption | with_reducible exact Kp.refl _ | with_reducible refine Kp.drew ?_ | with_reducible refine Kp.alloc ?_ _ | with_reducible refine Kp.drewN ?_ _ | refine Kp.setCell ?_ (by dsimp only; omega) _)) hka; have tok2 : True := trivial; clear tok1 _t)
                    | fail)
                rw [show (wrap64 (fm * tv) == IntKind.i64.wrap (fm * tv)) = true from by rw [IntWalk.i64_left]; simp]
                go_wp2_with fail
                go_ret
                exact ⟨rfl, K9.trans hr1⟩
    · have p0 : decide ((0 : Int) < (F3.di.length : Int)) = false := decide_eq_false (by omega)
      have q_x1 := KF.get x1
      have q_y1 := KF.get y1
      have q_x14 := KG.get x14
      have q_y14 := KG.get y14
      go_wp2_with fail
      obtain ⟨wl, rfl⟩ : ∃ q : World, q = w17 := ⟨_, rfl⟩
      go_loopw [28, 29, 30] (fun jv av bv wr => ∃ j : Nat, jv = .int .i64 j ∧ j ≤ L16 ∧ Kp wl wr) (fun jv _ _ _ => L16 - (intOf jv).toNat)
      case atStart => exact ⟨0, rfl, by omega, Kp.refl _⟩
      case round =>
        obtain ⟨j, rfl, hj, hkr⟩ := hrel
        by_cases hlt : j < L16
        · have lx : j < (msL F3 O3).length := by rw [HL16.out]; exact hlt
          obtain ⟨s1, s2⟩ := MP.out.at_ j lx
          obtain ⟨ad, rfl, hc⟩ := (i16.kp hkr).at_ lx
          obtain ⟨sv, Hsv⟩ : ∃ z, Hid ((msL F3 O3)[j] = z) := ⟨_, Lib.hid rfl⟩
          rw [Hsv.out] at s1 s2 hc
          obtain ⟨al, Hal⟩ : ∃ z, Hid (cocR F3 [(j : Int)] = z) := ⟨_, Lib.hid rfl⟩
          rw [Hal.out] at s2
          have p1 : decide (sv < 0) = false := decide_eq_false (by omega)
          have p2 : decide (al < sv) = false := decide_eq_false (by omega)
          have q14 := (KG.trans hkr).get x14
          have r14 := (KG.trans hkr).get y14
          obtain ⟨kl, hlit⟩ := j_lit1 (Kp.refl wr) (j : Int)
          have CC := Lib.hid (implCoc_any _ F3 (some ⟨wr.heap.size, 0, none⟩) [(j : Int)] 1 1 (wr.alloc (.cells #[.int .i64 (j : Int)] 3)) ((hf3.kp hkr).kp kl) hlit rfl)
          rw [Hal.out] at CC
          clear hlit
          go_wp2_with fail
          with_reducible refine Calls.mono CC.out ?_
          rintro e wq ⟨rfl, hkq⟩
          have hcq := (kl.trans hkq).get hc
          clear hc q14 r14 CC
          go_wp2_with fail
          go_roundw
          case rel => exact ⟨j + 1, by go_num, by omega, hkr.trans (kl.trans hkq)⟩
          case measure => simp [intOf]; omega
        · obtain rfl : j = L16 := by omega
          replace K0 := K0.trans hkr
          replace i4 := i4.kp hkr
          replace i20 := i20.kp hkr
          obtain ⟨wt, rfl⟩ : ∃ q : World, q = wr := ⟨_, rfl⟩
          cases g1
          · go_wp2_with fail
            go_ret
            exact ⟨rfl, K0⟩
          · have CP := Lib.hid (ct_parts Hg1.out)
            obtain ⟨P, HP⟩ : ∃ l, Hid (2 ^ F1.di.length = l) := ⟨_, Lib.hid rfl⟩
            rw [HP.out] at CP
            obtain rfl : L4 = P := by have h1 := CP.out.len; have h2 := HL4.out; omega
            have hP0 := CP.out.pos
            go_wp2_with fail
            go_loopw [31, 32] (fun av bv wr => ∃ a : Nat, av = .int .i64 a ∧ a ≤ L4 ∧ Kp wt wr) (fun av _ _ => L4 - (intOf av).toNat)
            case atStart => exact ⟨0, rfl, by omega, Kp.refl _⟩
            case round =>
              obtain ⟨a, rfl, ha, hka⟩ := hrel
              by_cases hlt : a < L4
              · go_wp2_with fail
                go_loopw [32] (fun bv wi => ∃ b : Nat, bv = .int .i64 b ∧ b ≤ L4 ∧ Kp wt wi) (fun bv _ => L4 - (intOf bv).toNat)
                case atStart => exact ⟨0, rfl, by omega, hka⟩
                case round =>
                  obtain ⟨b, rfl, hbl, hkb⟩ := hrel
                  by_cases hlb : b < L4
                  · have lx : a < (ctL F1).length := by rw [HL4.out]; exact hlt
                    have ly : b < (ctL F1).length := by rw [HL4.out]; exact hlb
                    have l2 := CP.out.or_ a b hlt hlb
                    have lo : a ||| b < (ctL F1).length := by rw [HL4.out]; exact l2
                    obtain ⟨ad, rfl, hc⟩ := (i4.kp hkb).at_ lx
                    have hd := (i4.kp hkb).some_ ly
                    have hc2 := (i4.kp hkb).some_ lo
                    have hor := i64_or_nat a b (by omega) (by omega)
                    obtain ⟨t1, t2⟩ := CP.out.cup a b lx ly lo
                    obtain ⟨t3, t4⟩ := CP.out.bd a lx
                    obtain ⟨t5, t6⟩ := CP.out.bd b ly
                    obtain ⟨za, hza⟩ : ∃ z, (ctL F1)[a] = z := ⟨_, rfl⟩
                    obtain ⟨zb, hzb⟩ : ∃ z, (ctL F1)[b] = z := ⟨_, rfl⟩
                    obtain ⟨zc, hzc⟩ : ∃ z, (ctL F1)[a ||| b] = z := ⟨_, rfl⟩
                    rw [hza] at hc t1 t2 t3 t4
                    rw [hzb] at hd t1 t5 t6
                    rw [hzc] at hc2 t1 t2
                    clear hza hzb hzc
                    have s1 : IntKind.i64.wrap (za + zb) = za + zb := IntWalk.i64_in _ (by omega)
                    have p1 : decide (za + zb < zc) = false := decide_eq_false (by omega)
                    have p2 : decide (zc < za) = false := decide_eq_false (by omega)
                    go_wp2_with fail
                    go_quiet (fail)
                    go_wp2_with fail
                    go_roundw
                    case rel => exact ⟨b + 1, by go_num, by omega, hkb.drewN _⟩
                    case measure => simp [intOf]; omega
                  · go_wp2_with fail
                    go_roundw
                    case rel => exact ⟨a + 1, by go_num, by omega, hkb⟩
                    case measure => simp [intOf]; omega
              · obtain rfl : a = L4 := by omega
                obtain ⟨Q, HQ⟩ : ∃ Q, Hid (a - 1 = Q) := ⟨_, Lib.hid rfl⟩
                have hQ : Q < a := by have := HQ.out; omega
                have hPi : a - 1 < (ctL F1).length := by rw [HL4.out]; omega
                have HF := CP.out.fair hPi
                obtain ⟨ad, rfl, hc⟩ := (i4.kp hka).at_ hPi
                obtain ⟨tv, Htv⟩ : ∃ z, Hid ((ctL F1)[a - 1] = z) := ⟨_, Lib.hid rfl⟩
                rw [Htv.out] at hc HF
                rw [Hfm.out] at HF
                rw [HQ.out] at hc
                have e1 : (a : Int) - 1 = (Q : Int) := by have := HQ.out; omega
                have e2 : IntKind.i64.wrap (Q : Int) = (Q : Int) := IntWalk.i64_in _ (by omega)
                have hQI : (Q : Int) < (a : Int) := by omega
                have CS := Lib.hid (fun (wx : World) (hx : Kp wr wx) => vSum_any A20 (frL F1) L20 c20 wx ((i20.kp hka).kp hx) HL20.out)
                rw [HF] at CS
                have KT : Kp wr wr := Kp.refl _
                have K9 := K0.trans hka
                clear HF Htv HQ hlt
                clear q_x1 q_y1 q_x14 q_y14
                have q_hc := KT.get hc
                have tok1 : True := trivial
                go_wp2_with fail
                go_region_held3 (fun w' => w'.cell? (ad.add Q) = some (.int .i64 tv) ∧ Kp wr w')
                  (first | (refine keepc1 hc ?_; exact (by repeat (first | with_reducible assumption | with_reducible exact Kp.refl _ | with_reducible refine Kp.drew ?_ | with_reducible refine Kp.alloc ?_ _ | with_reducible refine Kp.drewN ?_ _ | refine Kp.setCell ?_ (by dsimp only; omega) _))) | fail)
                  (first
                    | (have _t := tok1; go_at_call 19; with_reducible refine Calls.mono (CS.out _ (by repeat (first | with_reducible assumption | with_reducible exact Kp.refl _ | with_reducible refine Kp.drew ?_ | with_reducible refine Kp.alloc ?_ _ | with_reducible refine Kp.drewN ?_ _ | refine Kp.setCell ?_ (by dsimp only; omega) _))) ?_; rintro e wr1 ⟨rfl, hka⟩; have hr1 : Kp wr wr1 := Kp.trans (by repeat (first | with_reducible assumption | with_reducible exact Kp.refl _ | with_reducible refine Kp.drew ?_ | with_reducible refine Kp.alloc ?_ _ | with_reducible refine Kp.drewN ?_ _ | refine Kp.setCell ?_ (by dsimp only; omega) _)) hka; have tok2 : True := trivial; clear tok1 _t)
                    | fail)
                rw [show (wrap64 (fm * tv) == IntKind.i64.wrap (fm * tv)) = true from by rw [IntWalk.i64_left]; simp]
                go_wp2_with fail
                go_ret
                exact ⟨rfl, K9.trans hr1⟩
end Go.Proofs.YtkaammkanapkmaaGreat
