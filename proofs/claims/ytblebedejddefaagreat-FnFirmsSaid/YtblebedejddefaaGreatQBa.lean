/- FnFirms: the walk of the law. No condition. -/
import Derived.Test.YtblebedejddefaaGreatQAc
import Derived.Test.YtblebedejddefaaGreatQAn
import Derived.Test.YtblebedejddefaaGreatQAx
import Derived.Test.YtblebedejddefaaGreatQAy
import Derived.Test.YtblebedejddefaaGreatQAz
import Derived.Test.YtblebedejddefaaGreatQAk
import Derived.Test.YtblebedejddefaaGreatQAe
import Derived.Test.YtblebedejddefaaGreatQAb
namespace Go.Proofs.YtblebedejddefaaGreat
open Go.ChangeShapes Go.WideShapes Go.ChangeAt Go.RowKit Go.Sort

theorem DFld.open {w : World} {b : Nat} {v : Value} (h : DFld w b v) : ∃ F A c B d, v = .agg #[.slice A F.op.length c, .slice B F.di.length d] ∧ FldAt w v F := by
  obtain ⟨F, hf⟩ := h
  have hfa := hf.fld
  obtain ⟨A, c, B, d, e, _⟩ := hf
  exact ⟨F, A, c, B, d, e, hfa⟩
theorem Own.openL {w : World} {base : Nat} {v : Value} {xs : List Int} (h : Own w base v xs) {L : Nat} (hl : Hid (xs.length = L)) (h2 : L ≤ 1048576) : ∃ A c, v = .slice A L c ∧ IntsAt w A xs := by
  have := hl.out
  obtain ⟨A, c, e, hi⟩ := h.ints (by omega)
  exact ⟨A, c, by rw [← this]; exact e, hi⟩
theorem takenL_few (F : Fld) (L S : List Int) : (takenL F L S).length ≤ 1048576 := by
  cases h : takenOk F L S
  · rw [takenL_no h]; simp
  · rw [takenL_yes h]
    simp only [takenOk, Bool.and_eq_true] at h
    have h7 := (goodF_iff.1 (openedB_parts h.1.1).1).2.2.1
    unfold takenTo
    rw [List.length_map]
    have := List.length_filter_le (takenB F L S) (List.range F.di.length)
    rw [List.length_range] at this
    omega
theorem rem_nums {q : Nat} : (q : Int).tmod 2 = ((q % 2 : Nat) : Int) := by rw [Int.tmod_eq_emod_of_nonneg (by omega)]; omega
theorem f_lit1 {w0 w : World} (h : Kp w0 w) (x : Int) : Kp w (w.alloc (.cells #[.int .i64 x] 3)) ∧ IntsAt (w.alloc (.cells #[.int .i64 x] 3)) (some ⟨w.heap.size, 0, none⟩) [x] := by
  have := lit_intsD w [x] (by simp)
  exact ⟨(Kp.refl w).alloc _, by simpa using this⟩
set_option maxRecDepth 100000 in
set_option maxHeartbeats 8000000 in
theorem frm_law (A : Option Addr) (n c : Nat) (w : World) (hb : BytesAt w A n) (hnc : n ≤ c) :
    Calls Tryz.prog 3 #[.slice A n c] w fun e w' => e = .returned (.bool true) ∧ Kp w w' := by
  have CB := Lib.hid (vBig_any A n c w)
  by_cases hbig : 65536 < n
  · have hd : decide (65536 < (n : Int)) = true := decide_eq_true (by omega)
    rw [hd] at CB
    go_enter Tryz.func3, Tryz.ntmps3
    go_wp2_with fail
    with_reducible refine Calls.mono CB.out ?_
    rintro e w1 ⟨rfl, rfl⟩
    go_wp2_with fail
    go_ret
    exact ⟨rfl, Kp.refl _⟩
  have hn6 : n ≤ 65536 := by omega
  have hd : decide (65536 < (n : Int)) = false := decide_eq_false (by omega)
  rw [hd] at CB
  go_enter Tryz.func3, Tryz.ntmps3
  go_wp2_with fail
  with_reducible refine Calls.mono CB.out ?_
  rintro e w1 ⟨rfl, rfl⟩
  clear CB hd hbig
  have K0 : Kp w w := Kp.refl _
  have H0 := Lib.hid hb
  clear hb
  go_wp2_with fail
  have CC := Lib.hid (drawFirmPlay_any A n c w H0.out)
  with_reducible refine Calls.mono CC.out ?_
  rintro e w1 ⟨v, k, rfl, hv, hk1⟩
  clear CC
  replace K0 := K0.trans hk1
  obtain ⟨F, A1, c1, B1, d1, rfl, hf⟩ := hv.open
  have kv : Kp w1 (World.alloc w1 (.cells #[.slice A1 F.op.length c1, .slice B1 F.di.length d1] 27)) := (Kp.refl _).alloc _
  obtain ⟨x1, y1⟩ := box2 w1 (.slice A1 F.op.length c1) (.slice B1 F.di.length d1) 27
  replace K0 := K0.trans kv
  replace hf := hf.kp kv
  clear hv
  go_wp2_with fail
  generalize w1.alloc (.cells #[.slice A1 F.op.length c1, .slice B1 F.di.length d1] 27) = wf at *
  generalize w1.heap.size = b1 at *
  clear kv
  have KF : Kp wf wf := Kp.refl _
  obtain ⟨du, Hdu⟩ : ∃ b, Hid (duelB F k = b) := ⟨_, Lib.hid rfl⟩
  obtain ⟨fv, Hfv⟩ : ∃ b, Hid (fvV F k = b) := ⟨_, Lib.hid rfl⟩
  obtain ⟨L9, HL9⟩ : ∃ b, Hid ((fpL F k).length = b) := ⟨_, Lib.hid rfl⟩
  have hL9 : L9 ≤ 1048576 := by rw [← HL9.out]; exact fpL_len F k
  have CC := Lib.hid (implFv_any _ F k wf hf)
  with_reducible refine Calls.mono CC.out ?_
  rintro e w2 ⟨rfl, hk2⟩
  clear CC
  replace K0 := K0.trans hk2
  replace KF := KF.trans hk2
  replace hf := hf.kp hk2
  rw [Hfv.out, Hdu.out]
  have q_x1 := KF.get x1
  have q_y1 := KF.get y1
  go_wp2_with fail
  have CC := Lib.hid (specFv_any _ F k w2 hf)
  with_reducible refine Calls.mono CC.out ?_
  rintro e w3 ⟨rfl, hk3⟩
  clear CC q_x1 q_y1
  replace K0 := K0.trans hk3
  replace KF := KF.trans hk3
  replace hf := hf.kp hk3
  rw [Hfv.out, Hdu.out]
  have q_x1 := KF.get x1
  have q_y1 := KF.get y1
  go_wp2_with fail
  have CC := Lib.hid (implFp_any _ F k w3 hf)
  with_reducible refine Calls.mono CC.out ?_
  rintro e w4 ⟨gv, rfl, ho, hk4⟩
  clear CC q_x1 q_y1
  replace K0 := K0.trans hk4
  replace KF := KF.trans hk4
  replace hf := hf.kp hk4
  rw [Hdu.out]
  obtain ⟨A9, c9, rfl, i9⟩ := ho.openL HL9 hL9
  clear ho
  have q_x1 := KF.get x1
  have q_y1 := KF.get y1
  go_wp2_with fail
  have CC := Lib.hid (specFp_any _ F k w4 hf)
  with_reducible refine Calls.mono CC.out ?_
  rintro e w5 ⟨gv, rfl, ho, hk5⟩
  clear CC q_x1 q_y1
  replace K0 := K0.trans hk5
  replace KF := KF.trans hk5
  replace hf := hf.kp hk5
  replace i9 := i9.kp hk5
  rw [Hdu.out]
  obtain ⟨A11, c11, rfl, i11⟩ := ho.openL HL9 hL9
  clear ho
  have q_x1 := KF.get x1
  have q_y1 := KF.get y1
  go_wp2_with fail
  have CC := Lib.hid (vCut_all A n c 1 w5 (H0.out.kp K0) hn6 hnc)
  with_reducible refine Calls.mono CC.out ?_
  rintro e w6 ⟨A', n', c', rfl, ⟨hb8, hc8, hn8⟩, hk6⟩
  clear CC q_x1 q_y1
  replace K0 := K0.trans hk6
  replace KF := KF.trans hk6
  replace hf := hf.kp hk6
  replace i9 := i9.kp hk6
  replace i11 := i11.kp hk6
  have q_x1 := KF.get x1
  have q_y1 := KF.get y1
  go_wp2_with fail
  have CC := Lib.hid (drawBestLeader_any A' n' c' w6 hb8)
  with_reducible refine Calls.mono CC.out ?_
  rintro e w7 ⟨v, m1, m2, rfl, hv, hk7⟩
  clear CC q_x1 q_y1
  replace K0 := K0.trans hk7
  replace KF := KF.trans hk7
  replace hf := hf.kp hk7
  replace i9 := i9.kp hk7
  replace i11 := i11.kp hk7
  obtain ⟨G, A13, c13, B13, d13, rfl, hg⟩ := hv.open
  have kv : Kp w7 (World.alloc w7 (.cells #[.slice A13 G.op.length c13, .slice B13 G.di.length d13] 27)) := (Kp.refl _).alloc _
  obtain ⟨x13, y13⟩ := box2 w7 (.slice A13 G.op.length c13) (.slice B13 G.di.length d13) 27
  replace K0 := K0.trans kv
  replace KF := KF.trans kv
  replace hf := hf.kp kv
  replace i9 := i9.kp kv
  replace i11 := i11.kp kv
  replace hg := hg.kp kv
  clear hv hb8 hc8 hn8
  go_wp2_with fail
  generalize w7.alloc (.cells #[.slice A13 G.op.length c13, .slice B13 G.di.length d13] 27) = wg at *
  generalize w7.heap.size = b13 at *
  clear kv
  have KG : Kp wg wg := Kp.refl _
  obtain ⟨le, Hle⟩ : ∃ b, Hid (leadOk G m1 m2 = b) := ⟨_, Lib.hid rfl⟩
  obtain ⟨lo, Hlo⟩ : ∃ b, Hid (leadM G m1 m2 = b) := ⟨_, Lib.hid rfl⟩
  obtain ⟨L16, HL16⟩ : ∃ b, Hid ((leadL G m1 m2).length = b) := ⟨_, Lib.hid rfl⟩
  have hL16 : L16 ≤ 1048576 := by rw [← HL16.out]; exact leadL_len G m1 m2
  have CC := Lib.hid (implBl_any _ G m1 m2 wg hg)
  with_reducible refine Calls.mono CC.out ?_
  rintro e w8 ⟨gv, rfl, ho, hk8⟩
  clear CC
  replace K0 := K0.trans hk8
  replace KF := KF.trans hk8
  replace KG := KG.trans hk8
  replace hf := hf.kp hk8
  replace i9 := i9.kp hk8
  replace i11 := i11.kp hk8
  replace hg := hg.kp hk8
  rw [Hle.out, Hlo.out]
  obtain ⟨A16, c16, rfl, i16⟩ := ho.openL HL16 hL16
  clear ho
  have q_x1 := KF.get x1
  have q_y1 := KF.get y1
  have q_x13 := KG.get x13
  have q_y13 := KG.get y13
  go_wp2_with fail
  have CC := Lib.hid (specBl_any _ G m1 m2 w8 hg)
  with_reducible refine Calls.mono CC.out ?_
  rintro e w9 ⟨gv, rfl, ho, hk9⟩
  clear CC q_x1 q_y1 q_x13 q_y13
  replace K0 := K0.trans hk9
  replace KF := KF.trans hk9
  replace KG := KG.trans hk9
  replace hf := hf.kp hk9
  replace i9 := i9.kp hk9
  replace i11 := i11.kp hk9
  replace hg := hg.kp hk9
  replace i16 := i16.kp hk9
  rw [Hle.out, Hlo.out]
  obtain ⟨A19, c19, rfl, i19⟩ := ho.openL HL16 hL16
  clear ho
  have q_x1 := KF.get x1
  have q_y1 := KF.get y1
  have q_x13 := KG.get x13
  have q_y13 := KG.get y13
  go_wp2_with fail
  have CC := Lib.hid (vCut_all A n c 2 w9 (H0.out.kp K0) hn6 hnc)
  with_reducible refine Calls.mono CC.out ?_
  rintro e w10 ⟨A', n', c', rfl, ⟨hb8, hc8, hn8⟩, hk10⟩
  clear CC q_x1 q_y1 q_x13 q_y13
  replace K0 := K0.trans hk10
  replace KF := KF.trans hk10
  replace KG := KG.trans hk10
  replace hf := hf.kp hk10
  replace i9 := i9.kp hk10
  replace i11 := i11.kp hk10
  replace hg := hg.kp hk10
  replace i16 := i16.kp hk10
  replace i19 := i19.kp hk10
  have q_x1 := KF.get x1
  have q_y1 := KF.get y1
  have q_x13 := KG.get x13
  have q_y13 := KG.get y13
  go_wp2_with fail
  have CC := Lib.hid (drawBestFollower_any A' n' c' w10 hb8)
  with_reducible refine Calls.mono CC.out ?_
  rintro e w11 ⟨v, lv, m3, rfl, hv, hl, hk11⟩
  clear CC q_x1 q_y1 q_x13 q_y13
  replace K0 := K0.trans hk11
  replace KF := KF.trans hk11
  replace KG := KG.trans hk11
  replace hf := hf.kp hk11
  replace i9 := i9.kp hk11
  replace i11 := i11.kp hk11
  replace hg := hg.kp hk11
  replace i16 := i16.kp hk11
  replace i19 := i19.kp hk11
  obtain ⟨H, A22, c22, B22, d22, rfl, hh⟩ := hv.open
  obtain ⟨A23, c23, S, L23, rfl, i23, H23, _, _⟩ := hl.list
  have kv : Kp w11 (World.alloc w11 (.cells #[.slice A22 H.op.length c22, .slice B22 H.di.length d22] 27)) := (Kp.refl _).alloc _
  obtain ⟨x22, y22⟩ := box2 w11 (.slice A22 H.op.length c22) (.slice B22 H.di.length d22) 27
  replace K0 := K0.trans kv
  replace KF := KF.trans kv
  replace KG := KG.trans kv
  replace hf := hf.kp kv
  replace i9 := i9.kp kv
  replace i11 := i11.kp kv
  replace hg := hg.kp kv
  replace i16 := i16.kp kv
  replace i19 := i19.kp kv
  replace hh := hh.kp kv
  replace i23 := i23.kp kv
  clear hv hl hb8 hc8 hn8
  go_wp2_with fail
  generalize w11.alloc (.cells #[.slice A22 H.op.length c22, .slice B22 H.di.length d22] 27) = wh at *
  generalize w11.heap.size = b22 at *
  clear kv
  have KH : Kp wh wh := Kp.refl _
  obtain ⟨fo, Hfo⟩ : ∃ b, Hid (folOk H S m3 = b) := ⟨_, Lib.hid rfl⟩
  obtain ⟨L25, HL25⟩ : ∃ b, Hid ((folL H S m3).length = b) := ⟨_, Lib.hid rfl⟩
  have hL25 : L25 ≤ 1048576 := by rw [← HL25.out]; exact folL_len H S m3
  have CC := Lib.hid (implBf_any _ H A23 S L23 c23 m3 wh hh i23 H23.out)
  with_reducible refine Calls.mono CC.out ?_
  rintro e w12 ⟨gv, rfl, ho, hk12⟩
  clear CC
  replace K0 := K0.trans hk12
  replace KF := KF.trans hk12
  replace KG := KG.trans hk12
  replace KH := KH.trans hk12
  replace hf := hf.kp hk12
  replace i9 := i9.kp hk12
  replace i11 := i11.kp hk12
  replace hg := hg.kp hk12
  replace i16 := i16.kp hk12
  replace i19 := i19.kp hk12
  replace hh := hh.kp hk12
  replace i23 := i23.kp hk12
  rw [Hfo.out]
  obtain ⟨A25, c25, rfl, i25⟩ := ho.openL HL25 hL25
  clear ho
  have q_x1 := KF.get x1
  have q_y1 := KF.get y1
  have q_x13 := KG.get x13
  have q_y13 := KG.get y13
  have q_x22 := KH.get x22
  have q_y22 := KH.get y22
  go_wp2_with fail
  have CC := Lib.hid (specBf_any _ H A23 S L23 c23 m3 w12 hh i23 H23.out)
  with_reducible refine Calls.mono CC.out ?_
  rintro e w13 ⟨gv, rfl, ho, hk13⟩
  clear CC q_x1 q_y1 q_x13 q_y13 q_x22 q_y22
  replace K0 := K0.trans hk13
  replace KF := KF.trans hk13
  replace KG := KG.trans hk13
  replace KH := KH.trans hk13
  replace hf := hf.kp hk13
  replace i9 := i9.kp hk13
  replace i11 := i11.kp hk13
  replace hg := hg.kp hk13
  replace i16 := i16.kp hk13
  replace i19 := i19.kp hk13
  replace hh := hh.kp hk13
  replace i23 := i23.kp hk13
  replace i25 := i25.kp hk13
  rw [Hfo.out]
  obtain ⟨A27, c27, rfl, i27⟩ := ho.openL HL25 hL25
  clear ho
  have q_x1 := KF.get x1
  have q_y1 := KF.get y1
  have q_x13 := KG.get x13
  have q_y13 := KG.get y13
  have q_x22 := KH.get x22
  have q_y22 := KH.get y22
  go_wp2_with fail
  have CC := Lib.hid (vCut_all A n c 3 w13 (H0.out.kp K0) hn6 hnc)
  with_reducible refine Calls.mono CC.out ?_
  rintro e w14 ⟨A', n', c', rfl, ⟨hb8, hc8, hn8⟩, hk14⟩
  clear CC q_x1 q_y1 q_x13 q_y13 q_x22 q_y22
  replace K0 := K0.trans hk14
  replace KF := KF.trans hk14
  replace KG := KG.trans hk14
  replace KH := KH.trans hk14
  replace hf := hf.kp hk14
  replace i9 := i9.kp hk14
  replace i11 := i11.kp hk14
  replace hg := hg.kp hk14
  replace i16 := i16.kp hk14
  replace i19 := i19.kp hk14
  replace hh := hh.kp hk14
  replace i23 := i23.kp hk14
  replace i25 := i25.kp hk14
  replace i27 := i27.kp hk14
  have q_x1 := KF.get x1
  have q_y1 := KF.get y1
  have q_x13 := KG.get x13
  have q_y13 := KG.get y13
  have q_x22 := KH.get x22
  have q_y22 := KH.get y22
  go_wp2_with fail
  have CC := Lib.hid (drawClientsTaken_any A' n' c' w14 hb8)
  with_reducible refine Calls.mono CC.out ?_
  rintro e w15 ⟨v, lv, sv, rfl, hv, hl, hs, hk15⟩
  clear CC q_x1 q_y1 q_x13 q_y13 q_x22 q_y22
  replace K0 := K0.trans hk15
  replace KF := KF.trans hk15
  replace KG := KG.trans hk15
  replace KH := KH.trans hk15
  replace hf := hf.kp hk15
  replace i9 := i9.kp hk15
  replace i11 := i11.kp hk15
  replace hg := hg.kp hk15
  replace i16 := i16.kp hk15
  replace i19 := i19.kp hk15
  replace hh := hh.kp hk15
  replace i23 := i23.kp hk15
  replace i25 := i25.kp hk15
  replace i27 := i27.kp hk15
  obtain ⟨X, A29, c29, B29, d29, rfl, hx⟩ := hv.open
  obtain ⟨A30, c30, S1, L30, rfl, i30, H30, _, _⟩ := hl.list
  obtain ⟨A31, c31, S2, L31, rfl, i31, H31, _, _⟩ := hs.list
  have kv : Kp w15 (World.alloc w15 (.cells #[.slice A29 X.op.length c29, .slice B29 X.di.length d29] 27)) := (Kp.refl _).alloc _
  obtain ⟨x29, y29⟩ := box2 w15 (.slice A29 X.op.length c29) (.slice B29 X.di.length d29) 27
  replace K0 := K0.trans kv
  replace KF := KF.trans kv
  replace KG := KG.trans kv
  replace KH := KH.trans kv
  replace hf := hf.kp kv
  replace i9 := i9.kp kv
  replace i11 := i11.kp kv
  replace hg := hg.kp kv
  replace i16 := i16.kp kv
  replace i19 := i19.kp kv
  replace hh := hh.kp kv
  replace i23 := i23.kp kv
  replace i25 := i25.kp kv
  replace i27 := i27.kp kv
  replace hx := hx.kp kv
  replace i30 := i30.kp kv
  replace i31 := i31.kp kv
  clear hv hl hs hb8 hc8 hn8 H0
  go_wp2_with fail
  generalize w15.alloc (.cells #[.slice A29 X.op.length c29, .slice B29 X.di.length d29] 27) = wx at *
  generalize w15.heap.size = b29 at *
  clear kv
  have KX : Kp wx wx := Kp.refl _
  obtain ⟨tx, Htx⟩ : ∃ b, Hid (takenOk X S1 S2 = b) := ⟨_, Lib.hid rfl⟩
  obtain ⟨L32, HL32⟩ : ∃ b, Hid ((takenL X S1 S2).length = b) := ⟨_, Lib.hid rfl⟩
  have hL32 : L32 ≤ 1048576 := by rw [← HL32.out]; exact takenL_few _ _ _
  have CC := Lib.hid (implTaken_any _ X A30 S1 L30 c30 A31 S2 L31 c31 wx hx i30 H30.out i31 H31.out)
  with_reducible refine Calls.mono CC.out ?_
  rintro e w16 ⟨gv, rfl, ho, hk16⟩
  clear CC
  replace K0 := K0.trans hk16
  replace KF := KF.trans hk16
  replace KG := KG.trans hk16
  replace KH := KH.trans hk16
  replace KX := KX.trans hk16
  replace hf := hf.kp hk16
  replace i9 := i9.kp hk16
  replace i11 := i11.kp hk16
  replace hg := hg.kp hk16
  replace i16 := i16.kp hk16
  replace i19 := i19.kp hk16
  replace hh := hh.kp hk16
  replace i23 := i23.kp hk16
  replace i25 := i25.kp hk16
  replace i27 := i27.kp hk16
  replace hx := hx.kp hk16
  replace i30 := i30.kp hk16
  replace i31 := i31.kp hk16
  rw [Htx.out]
  obtain ⟨A32, c32, rfl, i32⟩ := ho.openL HL32 hL32
  clear ho
  have q_x1 := KF.get x1
  have q_y1 := KF.get y1
  have q_x13 := KG.get x13
  have q_y13 := KG.get y13
  have q_x22 := KH.get x22
  have q_y22 := KH.get y22
  have q_x29 := KX.get x29
  have q_y29 := KX.get y29
  go_wp2_with fail
  have CC := Lib.hid (specTaken_any _ X A30 S1 L30 c30 A31 S2 L31 c31 w16 hx i30 H30.out i31 H31.out)
  with_reducible refine Calls.mono CC.out ?_
  rintro e w17 ⟨gv, rfl, ho, hk17⟩
  clear CC q_x1 q_y1 q_x13 q_y13 q_x22 q_y22 q_x29 q_y29
  replace K0 := K0.trans hk17
  replace KF := KF.trans hk17
  replace KG := KG.trans hk17
  replace KH := KH.trans hk17
  replace KX := KX.trans hk17
  replace hf := hf.kp hk17
  replace i9 := i9.kp hk17
  replace i11 := i11.kp hk17
  replace hg := hg.kp hk17
  replace i16 := i16.kp hk17
  replace i19 := i19.kp hk17
  replace hh := hh.kp hk17
  replace i23 := i23.kp hk17
  replace i25 := i25.kp hk17
  replace i27 := i27.kp hk17
  replace hx := hx.kp hk17
  replace i30 := i30.kp hk17
  replace i31 := i31.kp hk17
  replace i32 := i32.kp hk17
  rw [Htx.out]
  obtain ⟨A34, c34, rfl, i34⟩ := ho.openL HL32 hL32
  clear ho
  have n1 : (fv != fv) = false := by simp
  have n2 : (du != du) = false := by simp
  have n3 : (lo != lo) = false := by simp
  have n4 : (le != le) = false := by simp
  have n5 : (fo != fo) = false := by simp
  have n6 : (tx != tx) = false := by simp
  have q_x1 := KF.get x1
  have q_y1 := KF.get y1
  have q_x13 := KG.get x13
  have q_y13 := KG.get y13
  have q_x22 := KH.get x22
  have q_y22 := KH.get y22
  have q_x29 := KX.get x29
  have q_y29 := KX.get y29
  go_wp2_with fail
  have CC := Lib.hid (vInts_same A9 A11 (fpL F k) L9 c9 c11 w17 i9 i11 HL9.out)
  with_reducible refine Calls.mono CC.out ?_
  rintro e w18 ⟨rfl, hk18⟩
  clear CC q_x1 q_y1 q_x13 q_y13 q_x22 q_y22 q_x29 q_y29
  replace K0 := K0.trans hk18
  replace KF := KF.trans hk18
  replace KG := KG.trans hk18
  replace KH := KH.trans hk18
  replace KX := KX.trans hk18
  replace hf := hf.kp hk18
  replace i9 := i9.kp hk18
  replace i11 := i11.kp hk18
  replace hg := hg.kp hk18
  replace i16 := i16.kp hk18
  replace i19 := i19.kp hk18
  replace hh := hh.kp hk18
  replace i23 := i23.kp hk18
  replace i25 := i25.kp hk18
  replace i27 := i27.kp hk18
  replace hx := hx.kp hk18
  replace i30 := i30.kp hk18
  replace i31 := i31.kp hk18
  replace i32 := i32.kp hk18
  replace i34 := i34.kp hk18
  have q_x1 := KF.get x1
  have q_y1 := KF.get y1
  have q_x13 := KG.get x13
  have q_y13 := KG.get y13
  have q_x22 := KH.get x22
  have q_y22 := KH.get y22
  have q_x29 := KX.get x29
  have q_y29 := KX.get y29
  go_wp2_with fail
  have CC := Lib.hid (vInts_same A16 A19 (leadL G m1 m2) L16 c16 c19 w18 i16 i19 HL16.out)
  with_reducible refine Calls.mono CC.out ?_
  rintro e w19 ⟨rfl, hk19⟩
  clear CC q_x1 q_y1 q_x13 q_y13 q_x22 q_y22 q_x29 q_y29
  replace K0 := K0.trans hk19
  replace KF := KF.trans hk19
  replace KG := KG.trans hk19
  replace KH := KH.trans hk19
  replace KX := KX.trans hk19
  replace hf := hf.kp hk19
  replace i9 := i9.kp hk19
  replace i11 := i11.kp hk19
  replace hg := hg.kp hk19
  replace i16 := i16.kp hk19
  replace i19 := i19.kp hk19
  replace hh := hh.kp hk19
  replace i23 := i23.kp hk19
  replace i25 := i25.kp hk19
  replace i27 := i27.kp hk19
  replace hx := hx.kp hk19
  replace i30 := i30.kp hk19
  replace i31 := i31.kp hk19
  replace i32 := i32.kp hk19
  replace i34 := i34.kp hk19
  have q_x1 := KF.get x1
  have q_y1 := KF.get y1
  have q_x13 := KG.get x13
  have q_y13 := KG.get y13
  have q_x22 := KH.get x22
  have q_y22 := KH.get y22
  have q_x29 := KX.get x29
  have q_y29 := KX.get y29
  go_wp2_with fail
  have CC := Lib.hid (vInts_same A25 A27 (folL H S m3) L25 c25 c27 w19 i25 i27 HL25.out)
  with_reducible refine Calls.mono CC.out ?_
  rintro e w20 ⟨rfl, hk20⟩
  clear CC q_x1 q_y1 q_x13 q_y13 q_x22 q_y22 q_x29 q_y29
  replace K0 := K0.trans hk20
  replace KF := KF.trans hk20
  replace KG := KG.trans hk20
  replace KH := KH.trans hk20
  replace KX := KX.trans hk20
  replace hf := hf.kp hk20
  replace i9 := i9.kp hk20
  replace i11 := i11.kp hk20
  replace hg := hg.kp hk20
  replace i16 := i16.kp hk20
  replace i19 := i19.kp hk20
  replace hh := hh.kp hk20
  replace i23 := i23.kp hk20
  replace i25 := i25.kp hk20
  replace i27 := i27.kp hk20
  replace hx := hx.kp hk20
  replace i30 := i30.kp hk20
  replace i31 := i31.kp hk20
  replace i32 := i32.kp hk20
  replace i34 := i34.kp hk20
  have q_x1 := KF.get x1
  have q_y1 := KF.get y1
  have q_x13 := KG.get x13
  have q_y13 := KG.get y13
  have q_x22 := KH.get x22
  have q_y22 := KH.get y22
  have q_x29 := KX.get x29
  have q_y29 := KX.get y29
  go_wp2_with fail
  have CC := Lib.hid (vInts_same A32 A34 (takenL X S1 S2) L32 c32 c34 w20 i32 i34 HL32.out)
  with_reducible refine Calls.mono CC.out ?_
  rintro e w21 ⟨rfl, hk21⟩
  clear CC q_x1 q_y1 q_x13 q_y13 q_x22 q_y22 q_x29 q_y29
  replace K0 := K0.trans hk21
  replace KF := KF.trans hk21
  replace KG := KG.trans hk21
  replace KH := KH.trans hk21
  replace KX := KX.trans hk21
  replace hf := hf.kp hk21
  replace i9 := i9.kp hk21
  replace i11 := i11.kp hk21
  replace hg := hg.kp hk21
  replace i16 := i16.kp hk21
  replace i19 := i19.kp hk21
  replace hh := hh.kp hk21
  replace i23 := i23.kp hk21
  replace i25 := i25.kp hk21
  replace i27 := i27.kp hk21
  replace hx := hx.kp hk21
  replace i30 := i30.kp hk21
  replace i31 := i31.kp hk21
  replace i32 := i32.kp hk21
  replace i34 := i34.kp hk21
  clear i11 i19 i27 i30 i31 i32 i34 hx x29 y29 KX
  go_upto_region 19 with fail
  clear n1 n2 n3 n4 n5 n6
  cases le
  · go_upto_region 24 with fail
    as_aux_lemma =>
      obtain ⟨wu, rfl⟩ : ∃ q : World, q = w21 := ⟨_, rfl⟩
      cases fo
      · go_upto_region 32 with fail
        obtain ⟨wt, rfl⟩ : ∃ q : World, q = wu := ⟨_, rfl⟩
        cases du
        · go_wp2_with fail
          go_ret
          exact ⟨rfl, K0⟩
        · as_aux_lemma =>
            have HFM := Lib.hid (fm_parts Hdu.out)
            obtain ⟨hk1, hk2, hk3, hk4, hk5⟩ := HFM.out.kk
            obtain ⟨KN, hKN⟩ : ∃ KN : Nat, k.toNat = KN := ⟨_, rfl⟩
            rw [hKN] at HFM hk1 hk2 hk3
            clear hKN
            subst hk1
            have HO2 : Hid ((fpL F KN).length = L9) := HL9
            have HLK : Hid (L9 = 2 * KN) := by show _ = _; rw [← HL9.out]; exact HFM.out.len
            have ho0 := own_new0 wt wt.heap.size (Nat.le_refl _)
            have hkn := (Kp.refl wt).alloc (.cells #[] 3)
            have ho1 : Own (wt.alloc (.cells #[] 3)) wt.heap.size (.slice (some ⟨wt.heap.size, 0, none⟩) 0 0) (allT (fpL F KN) 0) := ho0
            clear ho0
            go_wp2_with fail
            go_loopw [45, 46] (fun ov iv wr => ∃ a : Nat, a ≤ F.op.length ∧ iv = .int .i64 a ∧ Own wr wt.heap.size ov (allT (fpL F KN) a) ∧ Kp wt wr) (fun _ iv _ => F.op.length - (intOf iv).toNat)
            case atStart => exact ⟨0, by omega, rfl, ho1, hkn⟩
            case round =>
              clear ho1 hkn
              obtain ⟨a, ha, rfl, hown, hkb⟩ := hrel
              have q0 := (KF.trans hkb).get x1
              have q1 := (KF.trans hkb).get y1
              by_cases hlt : a < F.op.length
              · have CH := Lib.hid (vHas_any A9 (fpL F KN) L9 c9 (a : Int) wr (i9.kp hkb) HL9.out)
                obtain ⟨hs, Hhs⟩ : ∃ b, Hid (((fpL F KN).any fun y => y == (a : Int)) = b) := ⟨_, Lib.hid rfl⟩
                rw [Hhs.out] at CH
                have hlen := allT_len (fpL F KN) a
                go_wp2_with fail
                with_reducible refine Calls.mono CH.out ?_
                rintro e wh ⟨rfl, hkh⟩
                clear CH
                replace hown := hown.kp hkh
                replace hkb := hkb.trans hkh
                clear hkh
                cases hs
                · have hnx := Lib.hid (allT_no Hhs.out)
                  go_wp2_with fail
                  go_roundw
                  case rel => exact ⟨a + 1, by omega, by go_num, by rw [hnx.out]; exact hown, hkb⟩
                  case measure => simp [intOf]; omega
                · have hnx := Lib.hid (allT_yes Hhs.out)
                  obtain ⟨Av, cv, ev⟩ := hown.shape
                  obtain ⟨la, hla⟩ : ∃ la, (allT (fpL F KN) a).length = la := ⟨_, rfl⟩
                  rw [hla] at ev hlen
                  subst ev
                  have hl9 : (allT (fpL F KN) a).length ≤ 1000 := by omega
                  go_wp2_with (at_builtin; go_loud (refine wpl_app rfl (.tmp 295) (.tmp 297) rfl (wt.heap.size) _ (allT (fpL F KN) a) ((a : Int)) rfl rfl hown hkb.le (by omega) ?_; intro v' w' ho' ht' h4'; have hkb' := hown.kp_turn hkb (Nat.le_refl _) ht'))
                  go_roundw
                  case rel => exact ⟨a + 1, by omega, by go_num, by rw [hnx.out]; exact ho', hkb'⟩
                  case measure => simp [intOf]; omega
              · obtain rfl : a = F.op.length := by omega
                obtain ⟨LA, HLA⟩ : ∃ l, Hid ((allT (fpL F KN) F.op.length).length = l) := ⟨_, Lib.hid rfl⟩
                have hLA : LA ≤ 1048576 := by have := allT_len (fpL F KN) F.op.length; have := HLA.out; omega
                have HLA2 : Hid (LA = 2 * KN) := by show _ = _; rw [← HLA.out]; exact HFM.out.slen
                obtain ⟨A45, c45, rfl, i45⟩ := hown.openL HLA hLA
                have CS := Lib.hid (implSb_any _ F A45 (allT (fpL F KN) F.op.length) LA c45 wr (hf.kp hkb) i45 HLA.out)
                rw [HFM.out.op, HFM.out.sb] at CS
                go_wp2_with fail
                with_reducible refine Calls.mono CS.out ?_
                rintro e ws ⟨v47, rfl, ho47, hks⟩
                clear CS q0 q1 i45 hown
                obtain ⟨A47, c47, e47, i47⟩ := ho47.ints (by rw [mapTo_len]; omega)
                rw [mapTo_len] at e47
                subst e47
                clear ho47
                have hkw := hkb.trans hks
                have i9s := i9.kp hkw
                have K9 := K0.trans hkw
                obtain ⟨SS, HSS⟩ : ∃ S, Hid (allT (fpL F KN) F.op.length = S) := ⟨_, Lib.hid rfl⟩
                rw [HSS.out] at i47 HFM HLA
                go_wp2_with fail
                go_loopw [49, 50] (fun mv iv wr => ∃ j : Nat, j ≤ F.di.length ∧ iv = .int .i64 j ∧ mv = .int .i64 ((wonTo F (fpL F KN) SS j : Nat) : Int) ∧ Kp ws wr) (fun _ iv _ => F.di.length - (intOf iv).toNat)
                case atStart => exact ⟨0, by omega, rfl, rfl, Kp.refl _⟩
                case round =>
                  obtain ⟨j, hj, rfl, rfl, hkj⟩ := hrel
                  obtain ⟨wo, rfl⟩ : ∃ q : World, q = wr := ⟨_, rfl⟩
                  have hwj := wonTo_le F (fpL F KN) SS j
                  by_cases hlj : j < F.di.length
                  · have lx : j < (mapTo (fun i => siteF F i SS) F.di.length).length := by rw [mapTo_len]; exact hlj
                    obtain ⟨sd, rfl, hsc⟩ := (i47.kp hkj).at_ lx
                    rw [mapTo_get hlj] at hsc
                    have hnx : Hid (wonTo F (fpL F KN) SS (j + 1) = wonTo F (fpL F KN) SS j + cntE (fpL F KN) (siteF F j SS) (fpL F KN).length) := by
                      show _ = _
                      rw [cntE_all HFM.out.nd]; rfl
                    have hjI : (j : Int) < (F.di.length : Int) := by omega
                    obtain ⟨sv, Hsv⟩ : ∃ z, Hid (siteF F j SS = z) := ⟨_, Lib.hid rfl⟩
                    rw [Hsv.out] at hsc hnx
                    rw [HO2.out] at hnx
                    obtain ⟨wn, Hwn⟩ : ∃ z, Hid (wonTo F (fpL F KN) SS j = z) := ⟨_, Lib.hid rfl⟩
                    rw [Hwn.out] at hnx hwj ⊢
                    go_wp2_with fail
                    go_loopw [49, 51] (fun mv iv wr => ∃ i m : Nat, i ≤ L9 ∧ iv = .int .i64 i ∧ mv = .int .i64 m ∧ m ≤ 1000 ∧ Hid (m = wn + cntE (fpL F KN) sv i) ∧ Kp wo wr) (fun _ iv _ => L9 - (intOf iv).toNat)
                    case atStart => exact ⟨0, wn, by omega, rfl, rfl, by omega, rfl, Kp.refl _⟩
                    case round =>
                      obtain ⟨i, m, hi, rfl, rfl, hm9, Hm, hki⟩ := hrel
                      have hci := cntE_le (fpL F KN) sv i
                      by_cases hli : i < L9
                      · have ly : i < (fpL F KN).length := by rw [HO2.out]; exact hli
                        obtain ⟨pd, rfl, hpc⟩ := ((i9s.kp hkj).kp hki).at_ ly
                        have hsc2 := hki.get hsc
                        have hgd : (fpL F KN).getD i 0 = (fpL F KN)[i] := by simp [List.getD, ly]
                        have hcn : Hid (cntE (fpL F KN) sv (i + 1) = cntE (fpL F KN) sv i + if (decide ((fpL F KN)[i] = sv) && decide (i % 2 = 0)) = true then 1 else 0) := by
                          show _ = _
                          rw [← hgd]; rfl
                        obtain ⟨pv, Hpv⟩ : ∃ z, Hid ((fpL F KN)[i] = z) := ⟨_, Lib.hid rfl⟩
                        rw [Hpv.out] at hpc hcn
                        clear hgd
                        have htm := rem_nums (q := i)
                        obtain ⟨cn, Hcn⟩ : ∃ z, Hid (cntE (fpL F KN) sv i = z) := ⟨_, Lib.hid rfl⟩
                        rw [Hcn.out] at hcn hci Hm
                        have hm2 : m ≤ 100 := by have := Hm.out; have := HLK.out; omega
                        clear hm9
                        by_cases he : pv = sv
                        · have p0 : (pv == sv) = true := by rw [he]; simp
                          by_cases hev : i % 2 = 0
                          · have p1 : (((i % 2 : Nat) : Int) == 0) = true := by rw [hev]; rfl
                            have hc2 : Hid (cntE (fpL F KN) sv (i + 1) = cn + 1) := by show _ = _; rw [hcn.out, if_pos (by rw [decide_eq_true he, decide_eq_true hev]; rfl)]
                            clear he hev
                            go_wp2_with fail
                            go_region
                            all_goals
                              go_wp2_with fail
                              go_roundw
                              case rel => exact ⟨i + 1, m + 1, by omega, by go_num, by go_num, by omega, (by show _ = _; rw [hc2.out, Hm.out]; omega), hki.drew⟩
                              case measure => simp [intOf]; omega
                          · have p1 : (((i % 2 : Nat) : Int) == 0) = false := by rw [show i % 2 = 1 by omega]; rfl
                            have hc2 : Hid (cntE (fpL F KN) sv (i + 1) = cn) := by show _ = _; rw [hcn.out, if_neg (by rw [decide_eq_false hev, Bool.and_false]; simp)]; rfl
                            clear he hev
                            go_wp2_with fail
                            go_region
                            all_goals
                              go_wp2_with fail
                              go_roundw
                              case rel => exact ⟨i + 1, m, by omega, by go_num, rfl, by omega, (by show _ = _; rw [hc2.out, Hm.out]), hki.drew⟩
                              case measure => simp [intOf]; omega
                        · have p0 : (pv == sv) = false := by simp [he]
                          have hc2 : Hid (cntE (fpL F KN) sv (i + 1) = cn) := by show _ = _; rw [hcn.out, if_neg (by rw [decide_eq_false he, Bool.false_and]; simp)]; rfl
                          clear he
                          go_wp2_with fail
                          go_region
                          all_goals
                            go_wp2_with fail
                            go_roundw
                            case rel => exact ⟨i + 1, m, by omega, by go_num, rfl, by omega, (by show _ = _; rw [hc2.out, Hm.out]), hki.drew⟩
                            case measure => simp [intOf]; omega
                      · obtain rfl : i = L9 := by omega
                        go_wp2_with fail
                        go_roundw
                        case rel => exact ⟨j + 1, by omega, by go_num, by rw [hnx.out, ← Hm.out], hkj.trans hki⟩
                        case measure => simp [intOf]; omega
                  · obtain rfl : j = F.di.length := by omega
                    have hval : Hid (fv = ((wonTo F (fpL F KN) SS F.di.length : Nat) : Int)) := by show _ = _; rw [← Hfv.out]; exact HFM.out.val
                    rw [← hval.out]
                    have e1 : ((L9 : Int) == wrap64 (2 * (KN : Int))) = true := by
                      rw [IntWalk.wrap64_in _ (by omega)]
                      have := HLK.out
                      simp; omega
                    have e2 : ((LA : Int) == wrap64 (2 * (KN : Int))) = true := by
                      rw [IntWalk.wrap64_in _ (by omega)]
                      have := HLA2.out
                      simp; omega
                    have e3 : ((L9 : Int) == 2 * (KN : Int)) = true := by
                      have := HLK.out
                      simp; omega
                    have e4 : ((LA : Int) == 2 * (KN : Int)) = true := by
                      have := HLA2.out
                      simp; omega
                    have e5 : (fv == fv) = true := by simp
                    go_wp2_with fail
                    go_ret
                    exact ⟨by simp, K9.trans hkj⟩
      · have HFO := Lib.hid (fo_parts Hfo.out)
        have hH7 := (goodF_iff.1 (openedB_parts (folOk_parts Hfo.out).1).1).1.2
        obtain ⟨L40, HL40⟩ : ∃ b, Hid ((takenL H S (folL H S m3)).length = b) := ⟨_, Lib.hid rfl⟩
        have hL40 : L40 ≤ 1048576 := by rw [← HL40.out]; exact takenL_few _ _ _
        have q0 := KH.get x22
        have q1 := KH.get y22
        have CC := Lib.hid (implTaken_any _ H A23 S L23 c23 A25 (folL H S m3) L25 c25 wu hh i23 H23.out i25 HL25.out)
        go_wp2_with fail
        with_reducible refine Calls.mono CC.out ?_
        rintro e wv ⟨gv, rfl, ho, hkv⟩
        clear CC q0 q1
        obtain ⟨A40, c40, rfl, i40⟩ := ho.openL HL40 hL40
        clear ho
        replace K0 := K0.trans hkv
        replace KF := KF.trans hkv
        replace KH := KH.trans hkv
        replace hf := hf.kp hkv
        replace hh := hh.kp hkv
        replace i9 := i9.kp hkv
        replace i23 := i23.kp hkv
        clear i25 hkv
        go_wp2_with fail
        go_loopw [42] (fun iv wr => ∃ a : Nat, a ≤ H.op.length ∧ iv = .int .i64 a ∧ Kp wv wr) (fun iv _ => H.op.length - (intOf iv).toNat)
        case atStart => exact ⟨0, by omega, rfl, Kp.refl _⟩
        case round =>
          obtain ⟨a, ha, rfl, hka⟩ := hrel
          have q0 := (KH.trans hka).get x22
          have q1 := (KH.trans hka).get y22
          by_cases hm1 : m3 = 1
          · have p0 : (m3 == 1) = true := by rw [hm1]; rfl
            by_cases hlt : a < H.op.length
            · obtain ⟨kl, hlit⟩ := f_lit1 (Kp.refl wr) (a : Int)
              have CC := Lib.hid (implTaken_any _ H A23 S L23 c23 (some ⟨wr.heap.size, 0, none⟩) [(a : Int)] 1 1 (wr.alloc (.cells #[.int .i64 (a : Int)] 3)) ((hh.kp hka).kp kl) ((i23.kp hka).kp kl) H23.out hlit rfl)
              obtain ⟨tk, Htk⟩ : ∃ b, Hid (takenOk H S [(a : Int)] = b) := ⟨_, Lib.hid rfl⟩
              obtain ⟨L43, HL43⟩ : ∃ b, Hid ((takenL H S [(a : Int)]).length = b) := ⟨_, Lib.hid rfl⟩
              have hL43 : L43 ≤ 1048576 := by rw [← HL43.out]; exact takenL_few _ _ _
              have hmost := Lib.hid (HFO.out.most hm1 a hlt)
              rw [Htk.out, HL43.out, HL40.out] at hmost
              rw [Htk.out] at CC
              clear hlit hm1
              go_wp2_with fail
              with_reducible refine Calls.mono CC.out ?_
              rintro e wx ⟨gv, rfl, ho, hkx⟩
              clear CC q0 q1
              obtain ⟨A43, c43, rfl, i43⟩ := ho.openL HL43 hL43
              clear ho i43
              cases tk
              · go_wp2_with fail
                go_roundw
                case rel => exact ⟨a + 1, by omega, by go_num, hka.trans (kl.trans hkx)⟩
                case measure => simp [intOf]; omega
              · have hle := hmost.out rfl
                have p1 : decide ((L40 : Int) < (L43 : Int)) = false := decide_eq_false (by omega)
                go_wp2_with fail
                go_roundw
                case rel => exact ⟨a + 1, by omega, by go_num, hka.trans (kl.trans hkx)⟩
                case measure => simp [intOf]; omega
            · obtain rfl : a = H.op.length := by omega
              replace K0 := K0.trans hka
              replace KF := KF.trans hka
              replace hf := hf.kp hka
              replace i9 := i9.kp hka
              clear hm1
              go_upto_region 32 with fail
              obtain ⟨wt, rfl⟩ : ∃ q : World, q = wr := ⟨_, rfl⟩
              cases du
              · go_wp2_with fail
                go_ret
                exact ⟨rfl, K0⟩
              · as_aux_lemma =>
                  have HFM := Lib.hid (fm_parts Hdu.out)
                  obtain ⟨hk1, hk2, hk3, hk4, hk5⟩ := HFM.out.kk
                  obtain ⟨KN, hKN⟩ : ∃ KN : Nat, k.toNat = KN := ⟨_, rfl⟩
                  rw [hKN] at HFM hk1 hk2 hk3
                  clear hKN
                  subst hk1
                  have HO2 : Hid ((fpL F KN).length = L9) := HL9
                  have HLK : Hid (L9 = 2 * KN) := by show _ = _; rw [← HL9.out]; exact HFM.out.len
                  have ho0 := own_new0 wt wt.heap.size (Nat.le_refl _)
                  have hkn := (Kp.refl wt).alloc (.cells #[] 3)
                  have ho1 : Own (wt.alloc (.cells #[] 3)) wt.heap.size (.slice (some ⟨wt.heap.size, 0, none⟩) 0 0) (allT (fpL F KN) 0) := ho0
                  clear ho0
                  go_wp2_with fail
                  go_loopw [45, 46] (fun ov iv wr => ∃ a : Nat, a ≤ F.op.length ∧ iv = .int .i64 a ∧ Own wr wt.heap.size ov (allT (fpL F KN) a) ∧ Kp wt wr) (fun _ iv _ => F.op.length - (intOf iv).toNat)
                  case atStart => exact ⟨0, by omega, rfl, ho1, hkn⟩
                  case round =>
                    clear ho1 hkn
                    obtain ⟨a, ha, rfl, hown, hkb⟩ := hrel
                    have q0 := (KF.trans hkb).get x1
                    have q1 := (KF.trans hkb).get y1
                    by_cases hlt : a < F.op.length
                    · have CH := Lib.hid (vHas_any A9 (fpL F KN) L9 c9 (a : Int) wr (i9.kp hkb) HL9.out)
                      obtain ⟨hs, Hhs⟩ : ∃ b, Hid (((fpL F KN).any fun y => y == (a : Int)) = b) := ⟨_, Lib.hid rfl⟩
                      rw [Hhs.out] at CH
                      have hlen := allT_len (fpL F KN) a
                      go_wp2_with fail
                      with_reducible refine Calls.mono CH.out ?_
                      rintro e wh ⟨rfl, hkh⟩
                      clear CH
                      replace hown := hown.kp hkh
                      replace hkb := hkb.trans hkh
                      clear hkh
                      cases hs
                      · have hnx := Lib.hid (allT_no Hhs.out)
                        go_wp2_with fail
                        go_roundw
                        case rel => exact ⟨a + 1, by omega, by go_num, by rw [hnx.out]; exact hown, hkb⟩
                        case measure => simp [intOf]; omega
                      · have hnx := Lib.hid (allT_yes Hhs.out)
                        obtain ⟨Av, cv, ev⟩ := hown.shape
                        obtain ⟨la, hla⟩ : ∃ la, (allT (fpL F KN) a).length = la := ⟨_, rfl⟩
                        rw [hla] at ev hlen
                        subst ev
                        have hl9 : (allT (fpL F KN) a).length ≤ 1000 := by omega
                        go_wp2_with (at_builtin; go_loud (refine wpl_app rfl (.tmp 295) (.tmp 297) rfl (wt.heap.size) _ (allT (fpL F KN) a) ((a : Int)) rfl rfl hown hkb.le (by omega) ?_; intro v' w' ho' ht' h4'; have hkb' := hown.kp_turn hkb (Nat.le_refl _) ht'))
                        go_roundw
                        case rel => exact ⟨a + 1, by omega, by go_num, by rw [hnx.out]; exact ho', hkb'⟩
                        case measure => simp [intOf]; omega
                    · obtain rfl : a = F.op.length := by omega
                      obtain ⟨LA, HLA⟩ : ∃ l, Hid ((allT (fpL F KN) F.op.length).length = l) := ⟨_, Lib.hid rfl⟩
                      have hLA : LA ≤ 1048576 := by have := allT_len (fpL F KN) F.op.length; have := HLA.out; omega
                      have HLA2 : Hid (LA = 2 * KN) := by show _ = _; rw [← HLA.out]; exact HFM.out.slen
                      obtain ⟨A45, c45, rfl, i45⟩ := hown.openL HLA hLA
                      have CS := Lib.hid (implSb_any _ F A45 (allT (fpL F KN) F.op.length) LA c45 wr (hf.kp hkb) i45 HLA.out)
                      rw [HFM.out.op, HFM.out.sb] at CS
                      go_wp2_with fail
                      with_reducible refine Calls.mono CS.out ?_
                      rintro e ws ⟨v47, rfl, ho47, hks⟩
                      clear CS q0 q1 i45 hown
                      obtain ⟨A47, c47, e47, i47⟩ := ho47.ints (by rw [mapTo_len]; omega)
                      rw [mapTo_len] at e47
                      subst e47
                      clear ho47
                      have hkw := hkb.trans hks
                      have i9s := i9.kp hkw
                      have K9 := K0.trans hkw
                      obtain ⟨SS, HSS⟩ : ∃ S, Hid (allT (fpL F KN) F.op.length = S) := ⟨_, Lib.hid rfl⟩
                      rw [HSS.out] at i47 HFM HLA
                      go_wp2_with fail
                      go_loopw [49, 50] (fun mv iv wr => ∃ j : Nat, j ≤ F.di.length ∧ iv = .int .i64 j ∧ mv = .int .i64 ((wonTo F (fpL F KN) SS j : Nat) : Int) ∧ Kp ws wr) (fun _ iv _ => F.di.length - (intOf iv).toNat)
                      case atStart => exact ⟨0, by omega, rfl, rfl, Kp.refl _⟩
                      case round =>
                        obtain ⟨j, hj, rfl, rfl, hkj⟩ := hrel
                        obtain ⟨wo, rfl⟩ : ∃ q : World, q = wr := ⟨_, rfl⟩
                        have hwj := wonTo_le F (fpL F KN) SS j
                        by_cases hlj : j < F.di.length
                        · have lx : j < (mapTo (fun i => siteF F i SS) F.di.length).length := by rw [mapTo_len]; exact hlj
                          obtain ⟨sd, rfl, hsc⟩ := (i47.kp hkj).at_ lx
                          rw [mapTo_get hlj] at hsc
                          have hnx : Hid (wonTo F (fpL F KN) SS (j + 1) = wonTo F (fpL F KN) SS j + cntE (fpL F KN) (siteF F j SS) (fpL F KN).length) := by
                            show _ = _
                            rw [cntE_all HFM.out.nd]; rfl
                          have hjI : (j : Int) < (F.di.length : Int) := by omega
                          obtain ⟨sv, Hsv⟩ : ∃ z, Hid (siteF F j SS = z) := ⟨_, Lib.hid rfl⟩
                          rw [Hsv.out] at hsc hnx
                          rw [HO2.out] at hnx
                          obtain ⟨wn, Hwn⟩ : ∃ z, Hid (wonTo F (fpL F KN) SS j = z) := ⟨_, Lib.hid rfl⟩
                          rw [Hwn.out] at hnx hwj ⊢
                          go_wp2_with fail
                          go_loopw [49, 51] (fun mv iv wr => ∃ i m : Nat, i ≤ L9 ∧ iv = .int .i64 i ∧ mv = .int .i64 m ∧ m ≤ 1000 ∧ Hid (m = wn + cntE (fpL F KN) sv i) ∧ Kp wo wr) (fun _ iv _ => L9 - (intOf iv).toNat)
                          case atStart => exact ⟨0, wn, by omega, rfl, rfl, by omega, rfl, Kp.refl _⟩
                          case round =>
                            obtain ⟨i, m, hi, rfl, rfl, hm9, Hm, hki⟩ := hrel
                            have hci := cntE_le (fpL F KN) sv i
                            by_cases hli : i < L9
                            · have ly : i < (fpL F KN).length := by rw [HO2.out]; exact hli
                              obtain ⟨pd, rfl, hpc⟩ := ((i9s.kp hkj).kp hki).at_ ly
                              have hsc2 := hki.get hsc
                              have hgd : (fpL F KN).getD i 0 = (fpL F KN)[i] := by simp [List.getD, ly]
                              have hcn : Hid (cntE (fpL F KN) sv (i + 1) = cntE (fpL F KN) sv i + if (decide ((fpL F KN)[i] = sv) && decide (i % 2 = 0)) = true then 1 else 0) := by
                                show _ = _
                                rw [← hgd]; rfl
                              obtain ⟨pv, Hpv⟩ : ∃ z, Hid ((fpL F KN)[i] = z) := ⟨_, Lib.hid rfl⟩
                              rw [Hpv.out] at hpc hcn
                              clear hgd
                              have htm := rem_nums (q := i)
                              obtain ⟨cn, Hcn⟩ : ∃ z, Hid (cntE (fpL F KN) sv i = z) := ⟨_, Lib.hid rfl⟩
                              rw [Hcn.out] at hcn hci Hm
                              have hm2 : m ≤ 100 := by have := Hm.out; have := HLK.out; omega
                              clear hm9
                              by_cases he : pv = sv
                              · have p0 : (pv == sv) = true := by rw [he]; simp
                                by_cases hev : i % 2 = 0
                                · have p1 : (((i % 2 : Nat) : Int) == 0) = true := by rw [hev]; rfl
                                  have hc2 : Hid (cntE (fpL F KN) sv (i + 1) = cn + 1) := by show _ = _; rw [hcn.out, if_pos (by rw [decide_eq_true he, decide_eq_true hev]; rfl)]
                                  clear he hev
                                  go_wp2_with fail
                                  go_region
                                  all_goals
                                    go_wp2_with fail
                                    go_roundw
                                    case rel => exact ⟨i + 1, m + 1, by omega, by go_num, by go_num, by omega, (by show _ = _; rw [hc2.out, Hm.out]; omega), hki.drew⟩
                                    case measure => simp [intOf]; omega
                                · have p1 : (((i % 2 : Nat) : Int) == 0) = false := by rw [show i % 2 = 1 by omega]; rfl
                                  have hc2 : Hid (cntE (fpL F KN) sv (i + 1) = cn) := by show _ = _; rw [hcn.out, if_neg (by rw [decide_eq_false hev, Bool.and_false]; simp)]; rfl
                                  clear he hev
                                  go_wp2_with fail
                                  go_region
                                  all_goals
                                    go_wp2_with fail
                                    go_roundw
                                    case rel => exact ⟨i + 1, m, by omega, by go_num, rfl, by omega, (by show _ = _; rw [hc2.out, Hm.out]), hki.drew⟩
                                    case measure => simp [intOf]; omega
                              · have p0 : (pv == sv) = false := by simp [he]
                                have hc2 : Hid (cntE (fpL F KN) sv (i + 1) = cn) := by show _ = _; rw [hcn.out, if_neg (by rw [decide_eq_false he, Bool.false_and]; simp)]; rfl
                                clear he
                                go_wp2_with fail
                                go_region
                                all_goals
                                  go_wp2_with fail
                                  go_roundw
                                  case rel => exact ⟨i + 1, m, by omega, by go_num, rfl, by omega, (by show _ = _; rw [hc2.out, Hm.out]), hki.drew⟩
                                  case measure => simp [intOf]; omega
                            · obtain rfl : i = L9 := by omega
                              go_wp2_with fail
                              go_roundw
                              case rel => exact ⟨j + 1, by omega, by go_num, by rw [hnx.out, ← Hm.out], hkj.trans hki⟩
                              case measure => simp [intOf]; omega
                        · obtain rfl : j = F.di.length := by omega
                          have hval : Hid (fv = ((wonTo F (fpL F KN) SS F.di.length : Nat) : Int)) := by show _ = _; rw [← Hfv.out]; exact HFM.out.val
                          rw [← hval.out]
                          have e1 : ((L9 : Int) == wrap64 (2 * (KN : Int))) = true := by
                            rw [IntWalk.wrap64_in _ (by omega)]
                            have := HLK.out
                            simp; omega
                          have e2 : ((LA : Int) == wrap64 (2 * (KN : Int))) = true := by
                            rw [IntWalk.wrap64_in _ (by omega)]
                            have := HLA2.out
                            simp; omega
                          have e3 : ((L9 : Int) == 2 * (KN : Int)) = true := by
                            have := HLK.out
                            simp; omega
                          have e4 : ((LA : Int) == 2 * (KN : Int)) = true := by
                            have := HLA2.out
                            simp; omega
                          have e5 : (fv == fv) = true := by simp
                          go_wp2_with fail
                          go_ret
                          exact ⟨by simp, K9.trans hkj⟩
          · have p0 : (m3 == 1) = false := by simp [hm1]
            replace K0 := K0.trans hka
            replace KF := KF.trans hka
            replace hf := hf.kp hka
            replace i9 := i9.kp hka
            clear hm1
            go_upto_region 32 with fail
            obtain ⟨wt, rfl⟩ : ∃ q : World, q = wr := ⟨_, rfl⟩
            cases du
            · go_wp2_with fail
              go_ret
              exact ⟨rfl, K0⟩
            · as_aux_lemma =>
                have HFM := Lib.hid (fm_parts Hdu.out)
                obtain ⟨hk1, hk2, hk3, hk4, hk5⟩ := HFM.out.kk
                obtain ⟨KN, hKN⟩ : ∃ KN : Nat, k.toNat = KN := ⟨_, rfl⟩
                rw [hKN] at HFM hk1 hk2 hk3
                clear hKN
                subst hk1
                have HO2 : Hid ((fpL F KN).length = L9) := HL9
                have HLK : Hid (L9 = 2 * KN) := by show _ = _; rw [← HL9.out]; exact HFM.out.len
                have ho0 := own_new0 wt wt.heap.size (Nat.le_refl _)
                have hkn := (Kp.refl wt).alloc (.cells #[] 3)
                have ho1 : Own (wt.alloc (.cells #[] 3)) wt.heap.size (.slice (some ⟨wt.heap.size, 0, none⟩) 0 0) (allT (fpL F KN) 0) := ho0
                clear ho0
                go_wp2_with fail
                go_loopw [45, 46] (fun ov iv wr => ∃ a : Nat, a ≤ F.op.length ∧ iv = .int .i64 a ∧ Own wr wt.heap.size ov (allT (fpL F KN) a) ∧ Kp wt wr) (fun _ iv _ => F.op.length - (intOf iv).toNat)
                case atStart => exact ⟨0, by omega, rfl, ho1, hkn⟩
                case round =>
                  clear ho1 hkn
                  obtain ⟨a, ha, rfl, hown, hkb⟩ := hrel
                  have q0 := (KF.trans hkb).get x1
                  have q1 := (KF.trans hkb).get y1
                  by_cases hlt : a < F.op.length
                  · have CH := Lib.hid (vHas_any A9 (fpL F KN) L9 c9 (a : Int) wr (i9.kp hkb) HL9.out)
                    obtain ⟨hs, Hhs⟩ : ∃ b, Hid (((fpL F KN).any fun y => y == (a : Int)) = b) := ⟨_, Lib.hid rfl⟩
                    rw [Hhs.out] at CH
                    have hlen := allT_len (fpL F KN) a
                    go_wp2_with fail
                    with_reducible refine Calls.mono CH.out ?_
                    rintro e wh ⟨rfl, hkh⟩
                    clear CH
                    replace hown := hown.kp hkh
                    replace hkb := hkb.trans hkh
                    clear hkh
                    cases hs
                    · have hnx := Lib.hid (allT_no Hhs.out)
                      go_wp2_with fail
                      go_roundw
                      case rel => exact ⟨a + 1, by omega, by go_num, by rw [hnx.out]; exact hown, hkb⟩
                      case measure => simp [intOf]; omega
                    · have hnx := Lib.hid (allT_yes Hhs.out)
                      obtain ⟨Av, cv, ev⟩ := hown.shape
                      obtain ⟨la, hla⟩ : ∃ la, (allT (fpL F KN) a).length = la := ⟨_, rfl⟩
                      rw [hla] at ev hlen
                      subst ev
                      have hl9 : (allT (fpL F KN) a).length ≤ 1000 := by omega
                      go_wp2_with (at_builtin; go_loud (refine wpl_app rfl (.tmp 295) (.tmp 297) rfl (wt.heap.size) _ (allT (fpL F KN) a) ((a : Int)) rfl rfl hown hkb.le (by omega) ?_; intro v' w' ho' ht' h4'; have hkb' := hown.kp_turn hkb (Nat.le_refl _) ht'))
                      go_roundw
                      case rel => exact ⟨a + 1, by omega, by go_num, by rw [hnx.out]; exact ho', hkb'⟩
                      case measure => simp [intOf]; omega
                  · obtain rfl : a = F.op.length := by omega
                    obtain ⟨LA, HLA⟩ : ∃ l, Hid ((allT (fpL F KN) F.op.length).length = l) := ⟨_, Lib.hid rfl⟩
                    have hLA : LA ≤ 1048576 := by have := allT_len (fpL F KN) F.op.length; have := HLA.out; omega
                    have HLA2 : Hid (LA = 2 * KN) := by show _ = _; rw [← HLA.out]; exact HFM.out.slen
                    obtain ⟨A45, c45, rfl, i45⟩ := hown.openL HLA hLA
                    have CS := Lib.hid (implSb_any _ F A45 (allT (fpL F KN) F.op.length) LA c45 wr (hf.kp hkb) i45 HLA.out)
                    rw [HFM.out.op, HFM.out.sb] at CS
                    go_wp2_with fail
                    with_reducible refine Calls.mono CS.out ?_
                    rintro e ws ⟨v47, rfl, ho47, hks⟩
                    clear CS q0 q1 i45 hown
                    obtain ⟨A47, c47, e47, i47⟩ := ho47.ints (by rw [mapTo_len]; omega)
                    rw [mapTo_len] at e47
                    subst e47
                    clear ho47
                    have hkw := hkb.trans hks
                    have i9s := i9.kp hkw
                    have K9 := K0.trans hkw
                    obtain ⟨SS, HSS⟩ : ∃ S, Hid (allT (fpL F KN) F.op.length = S) := ⟨_, Lib.hid rfl⟩
                    rw [HSS.out] at i47 HFM HLA
                    go_wp2_with fail
                    go_loopw [49, 50] (fun mv iv wr => ∃ j : Nat, j ≤ F.di.length ∧ iv = .int .i64 j ∧ mv = .int .i64 ((wonTo F (fpL F KN) SS j : Nat) : Int) ∧ Kp ws wr) (fun _ iv _ => F.di.length - (intOf iv).toNat)
                    case atStart => exact ⟨0, by omega, rfl, rfl, Kp.refl _⟩
                    case round =>
                      obtain ⟨j, hj, rfl, rfl, hkj⟩ := hrel
                      obtain ⟨wo, rfl⟩ : ∃ q : World, q = wr := ⟨_, rfl⟩
                      have hwj := wonTo_le F (fpL F KN) SS j
                      by_cases hlj : j < F.di.length
                      · have lx : j < (mapTo (fun i => siteF F i SS) F.di.length).length := by rw [mapTo_len]; exact hlj
                        obtain ⟨sd, rfl, hsc⟩ := (i47.kp hkj).at_ lx
                        rw [mapTo_get hlj] at hsc
                        have hnx : Hid (wonTo F (fpL F KN) SS (j + 1) = wonTo F (fpL F KN) SS j + cntE (fpL F KN) (siteF F j SS) (fpL F KN).length) := by
                          show _ = _
                          rw [cntE_all HFM.out.nd]; rfl
                        have hjI : (j : Int) < (F.di.length : Int) := by omega
                        obtain ⟨sv, Hsv⟩ : ∃ z, Hid (siteF F j SS = z) := ⟨_, Lib.hid rfl⟩
                        rw [Hsv.out] at hsc hnx
                        rw [HO2.out] at hnx
                        obtain ⟨wn, Hwn⟩ : ∃ z, Hid (wonTo F (fpL F KN) SS j = z) := ⟨_, Lib.hid rfl⟩
                        rw [Hwn.out] at hnx hwj ⊢
                        go_wp2_with fail
                        go_loopw [49, 51] (fun mv iv wr => ∃ i m : Nat, i ≤ L9 ∧ iv = .int .i64 i ∧ mv = .int .i64 m ∧ m ≤ 1000 ∧ Hid (m = wn + cntE (fpL F KN) sv i) ∧ Kp wo wr) (fun _ iv _ => L9 - (intOf iv).toNat)
                        case atStart => exact ⟨0, wn, by omega, rfl, rfl, by omega, rfl, Kp.refl _⟩
                        case round =>
                          obtain ⟨i, m, hi, rfl, rfl, hm9, Hm, hki⟩ := hrel
                          have hci := cntE_le (fpL F KN) sv i
                          by_cases hli : i < L9
                          · have ly : i < (fpL F KN).length := by rw [HO2.out]; exact hli
                            obtain ⟨pd, rfl, hpc⟩ := ((i9s.kp hkj).kp hki).at_ ly
                            have hsc2 := hki.get hsc
                            have hgd : (fpL F KN).getD i 0 = (fpL F KN)[i] := by simp [List.getD, ly]
                            have hcn : Hid (cntE (fpL F KN) sv (i + 1) = cntE (fpL F KN) sv i + if (decide ((fpL F KN)[i] = sv) && decide (i % 2 = 0)) = true then 1 else 0) := by
                              show _ = _
                              rw [← hgd]; rfl
                            obtain ⟨pv, Hpv⟩ : ∃ z, Hid ((fpL F KN)[i] = z) := ⟨_, Lib.hid rfl⟩
                            rw [Hpv.out] at hpc hcn
                            clear hgd
                            have htm := rem_nums (q := i)
                            obtain ⟨cn, Hcn⟩ : ∃ z, Hid (cntE (fpL F KN) sv i = z) := ⟨_, Lib.hid rfl⟩
                            rw [Hcn.out] at hcn hci Hm
                            have hm2 : m ≤ 100 := by have := Hm.out; have := HLK.out; omega
                            clear hm9
                            by_cases he : pv = sv
                            · have p0 : (pv == sv) = true := by rw [he]; simp
                              by_cases hev : i % 2 = 0
                              · have p1 : (((i % 2 : Nat) : Int) == 0) = true := by rw [hev]; rfl
                                have hc2 : Hid (cntE (fpL F KN) sv (i + 1) = cn + 1) := by show _ = _; rw [hcn.out, if_pos (by rw [decide_eq_true he, decide_eq_true hev]; rfl)]
                                clear he hev
                                go_wp2_with fail
                                go_region
                                all_goals
                                  go_wp2_with fail
                                  go_roundw
                                  case rel => exact ⟨i + 1, m + 1, by omega, by go_num, by go_num, by omega, (by show _ = _; rw [hc2.out, Hm.out]; omega), hki.drew⟩
                                  case measure => simp [intOf]; omega
                              · have p1 : (((i % 2 : Nat) : Int) == 0) = false := by rw [show i % 2 = 1 by omega]; rfl
                                have hc2 : Hid (cntE (fpL F KN) sv (i + 1) = cn) := by show _ = _; rw [hcn.out, if_neg (by rw [decide_eq_false hev, Bool.and_false]; simp)]; rfl
                                clear he hev
                                go_wp2_with fail
                                go_region
                                all_goals
                                  go_wp2_with fail
                                  go_roundw
                                  case rel => exact ⟨i + 1, m, by omega, by go_num, rfl, by omega, (by show _ = _; rw [hc2.out, Hm.out]), hki.drew⟩
                                  case measure => simp [intOf]; omega
                            · have p0 : (pv == sv) = false := by simp [he]
                              have hc2 : Hid (cntE (fpL F KN) sv (i + 1) = cn) := by show _ = _; rw [hcn.out, if_neg (by rw [decide_eq_false he, Bool.false_and]; simp)]; rfl
                              clear he
                              go_wp2_with fail
                              go_region
                              all_goals
                                go_wp2_with fail
                                go_roundw
                                case rel => exact ⟨i + 1, m, by omega, by go_num, rfl, by omega, (by show _ = _; rw [hc2.out, Hm.out]), hki.drew⟩
                                case measure => simp [intOf]; omega
                          · obtain rfl : i = L9 := by omega
                            go_wp2_with fail
                            go_roundw
                            case rel => exact ⟨j + 1, by omega, by go_num, by rw [hnx.out, ← Hm.out], hkj.trans hki⟩
                            case measure => simp [intOf]; omega
                      · obtain rfl : j = F.di.length := by omega
                        have hval : Hid (fv = ((wonTo F (fpL F KN) SS F.di.length : Nat) : Int)) := by show _ = _; rw [← Hfv.out]; exact HFM.out.val
                        rw [← hval.out]
                        have e1 : ((L9 : Int) == wrap64 (2 * (KN : Int))) = true := by
                          rw [IntWalk.wrap64_in _ (by omega)]
                          have := HLK.out
                          simp; omega
                        have e2 : ((LA : Int) == wrap64 (2 * (KN : Int))) = true := by
                          rw [IntWalk.wrap64_in _ (by omega)]
                          have := HLA2.out
                          simp; omega
                        have e3 : ((L9 : Int) == 2 * (KN : Int)) = true := by
                          have := HLK.out
                          simp; omega
                        have e4 : ((LA : Int) == 2 * (KN : Int)) = true := by
                          have := HLA2.out
                          simp; omega
                        have e5 : (fv == fv) = true := by simp
                        go_wp2_with fail
                        go_ret
                        exact ⟨by simp, K9.trans hkj⟩
  · have HLD := Lib.hid (ld_parts Hle.out)
    obtain ⟨L36, HL36⟩ : ∃ b, Hid ((folL G (leadL G m1 m2) m2).length = b) := ⟨_, Lib.hid rfl⟩
    obtain ⟨L38, HL38⟩ : ∃ b, Hid ((takenL G (leadL G m1 m2) (folL G (leadL G m1 m2) m2)).length = b) := ⟨_, Lib.hid rfl⟩
    have hL36 : L36 ≤ 1048576 := by rw [← HL36.out]; exact folL_len _ _ _
    have hL38 : L38 ≤ 1048576 := by rw [← HL38.out]; exact takenL_few _ _ _
    obtain ⟨wy, rfl⟩ : ∃ q : World, q = w21 := ⟨_, rfl⟩
    have q0 := KG.get x13
    have q1 := KG.get y13
    have CC := Lib.hid (implBf_any _ G A16 (leadL G m1 m2) L16 c16 m2 wy hg i16 HL16.out)
    go_wp2_with fail
    with_reducible refine Calls.mono CC.out ?_
    rintro e wz ⟨gv, rfl, ho, hkz⟩
    clear CC q0 q1
    obtain ⟨A36, c36, rfl, i36⟩ := ho.openL HL36 hL36
    clear ho
    have q0 := (KG.trans hkz).get x13
    have q1 := (KG.trans hkz).get y13
    have CC := Lib.hid (implTaken_any _ G A16 (leadL G m1 m2) L16 c16 A36 (folL G (leadL G m1 m2) m2) L36 c36 wz (hg.kp hkz) (i16.kp hkz) HL16.out i36 HL36.out)
    rw [HLD.out.known] at CC
    go_wp2_with fail
    with_reducible refine Calls.mono CC.out ?_
    rintro e wq ⟨gv, rfl, ho, hkq⟩
    clear CC q0 q1
    obtain ⟨A38, c38, rfl, i38⟩ := ho.openL HL38 hL38
    clear ho i38
    have e1 : ((L38 : Int) != lo) = false := by
      have := HLD.out.l3
      rw [HL38.out, Hlo.out] at this
      rw [this]; simp
    have e2 : ((L16 : Int) != m1) = false := by
      have := HLD.out.l1
      rw [HL16.out] at this
      rw [this]; simp
    have e3 : ((L36 : Int) != m2) = false := by
      have := HLD.out.l2
      rw [HL36.out] at this
      rw [this]; simp
    have hky := hkz.trans hkq
    replace K0 := K0.trans hky
    replace KF := KF.trans hky
    replace KH := KH.trans hky
    replace hf := hf.kp hky
    replace hh := hh.kp hky
    replace i9 := i9.kp hky
    replace i23 := i23.kp hky
    replace i25 := i25.kp hky
    clear hg i16 i36 hkz hkq hky KG x13 y13 HLD
    go_upto_region 24 with fail
    clear e1 e2 e3
    as_aux_lemma =>
      obtain ⟨wu, rfl⟩ : ∃ q : World, q = wq := ⟨_, rfl⟩
      cases fo
      · go_upto_region 32 with fail
        obtain ⟨wt, rfl⟩ : ∃ q : World, q = wu := ⟨_, rfl⟩
        cases du
        · go_wp2_with fail
          go_ret
          exact ⟨rfl, K0⟩
        · as_aux_lemma =>
            have HFM := Lib.hid (fm_parts Hdu.out)
            obtain ⟨hk1, hk2, hk3, hk4, hk5⟩ := HFM.out.kk
            obtain ⟨KN, hKN⟩ : ∃ KN : Nat, k.toNat = KN := ⟨_, rfl⟩
            rw [hKN] at HFM hk1 hk2 hk3
            clear hKN
            subst hk1
            have HO2 : Hid ((fpL F KN).length = L9) := HL9
            have HLK : Hid (L9 = 2 * KN) := by show _ = _; rw [← HL9.out]; exact HFM.out.len
            have ho0 := own_new0 wt wt.heap.size (Nat.le_refl _)
            have hkn := (Kp.refl wt).alloc (.cells #[] 3)
            have ho1 : Own (wt.alloc (.cells #[] 3)) wt.heap.size (.slice (some ⟨wt.heap.size, 0, none⟩) 0 0) (allT (fpL F KN) 0) := ho0
            clear ho0
            go_wp2_with fail
            go_loopw [45, 46] (fun ov iv wr => ∃ a : Nat, a ≤ F.op.length ∧ iv = .int .i64 a ∧ Own wr wt.heap.size ov (allT (fpL F KN) a) ∧ Kp wt wr) (fun _ iv _ => F.op.length - (intOf iv).toNat)
            case atStart => exact ⟨0, by omega, rfl, ho1, hkn⟩
            case round =>
              clear ho1 hkn
              obtain ⟨a, ha, rfl, hown, hkb⟩ := hrel
              have q0 := (KF.trans hkb).get x1
              have q1 := (KF.trans hkb).get y1
              by_cases hlt : a < F.op.length
              · have CH := Lib.hid (vHas_any A9 (fpL F KN) L9 c9 (a : Int) wr (i9.kp hkb) HL9.out)
                obtain ⟨hs, Hhs⟩ : ∃ b, Hid (((fpL F KN).any fun y => y == (a : Int)) = b) := ⟨_, Lib.hid rfl⟩
                rw [Hhs.out] at CH
                have hlen := allT_len (fpL F KN) a
                go_wp2_with fail
                with_reducible refine Calls.mono CH.out ?_
                rintro e wh ⟨rfl, hkh⟩
                clear CH
                replace hown := hown.kp hkh
                replace hkb := hkb.trans hkh
                clear hkh
                cases hs
                · have hnx := Lib.hid (allT_no Hhs.out)
                  go_wp2_with fail
                  go_roundw
                  case rel => exact ⟨a + 1, by omega, by go_num, by rw [hnx.out]; exact hown, hkb⟩
                  case measure => simp [intOf]; omega
                · have hnx := Lib.hid (allT_yes Hhs.out)
                  obtain ⟨Av, cv, ev⟩ := hown.shape
                  obtain ⟨la, hla⟩ : ∃ la, (allT (fpL F KN) a).length = la := ⟨_, rfl⟩
                  rw [hla] at ev hlen
                  subst ev
                  have hl9 : (allT (fpL F KN) a).length ≤ 1000 := by omega
                  go_wp2_with (at_builtin; go_loud (refine wpl_app rfl (.tmp 295) (.tmp 297) rfl (wt.heap.size) _ (allT (fpL F KN) a) ((a : Int)) rfl rfl hown hkb.le (by omega) ?_; intro v' w' ho' ht' h4'; have hkb' := hown.kp_turn hkb (Nat.le_refl _) ht'))
                  go_roundw
                  case rel => exact ⟨a + 1, by omega, by go_num, by rw [hnx.out]; exact ho', hkb'⟩
                  case measure => simp [intOf]; omega
              · obtain rfl : a = F.op.length := by omega
                obtain ⟨LA, HLA⟩ : ∃ l, Hid ((allT (fpL F KN) F.op.length).length = l) := ⟨_, Lib.hid rfl⟩
                have hLA : LA ≤ 1048576 := by have := allT_len (fpL F KN) F.op.length; have := HLA.out; omega
                have HLA2 : Hid (LA = 2 * KN) := by show _ = _; rw [← HLA.out]; exact HFM.out.slen
                obtain ⟨A45, c45, rfl, i45⟩ := hown.openL HLA hLA
                have CS := Lib.hid (implSb_any _ F A45 (allT (fpL F KN) F.op.length) LA c45 wr (hf.kp hkb) i45 HLA.out)
                rw [HFM.out.op, HFM.out.sb] at CS
                go_wp2_with fail
                with_reducible refine Calls.mono CS.out ?_
                rintro e ws ⟨v47, rfl, ho47, hks⟩
                clear CS q0 q1 i45 hown
                obtain ⟨A47, c47, e47, i47⟩ := ho47.ints (by rw [mapTo_len]; omega)
                rw [mapTo_len] at e47
                subst e47
                clear ho47
                have hkw := hkb.trans hks
                have i9s := i9.kp hkw
                have K9 := K0.trans hkw
                obtain ⟨SS, HSS⟩ : ∃ S, Hid (allT (fpL F KN) F.op.length = S) := ⟨_, Lib.hid rfl⟩
                rw [HSS.out] at i47 HFM HLA
                go_wp2_with fail
                go_loopw [49, 50] (fun mv iv wr => ∃ j : Nat, j ≤ F.di.length ∧ iv = .int .i64 j ∧ mv = .int .i64 ((wonTo F (fpL F KN) SS j : Nat) : Int) ∧ Kp ws wr) (fun _ iv _ => F.di.length - (intOf iv).toNat)
                case atStart => exact ⟨0, by omega, rfl, rfl, Kp.refl _⟩
                case round =>
                  obtain ⟨j, hj, rfl, rfl, hkj⟩ := hrel
                  obtain ⟨wo, rfl⟩ : ∃ q : World, q = wr := ⟨_, rfl⟩
                  have hwj := wonTo_le F (fpL F KN) SS j
                  by_cases hlj : j < F.di.length
                  · have lx : j < (mapTo (fun i => siteF F i SS) F.di.length).length := by rw [mapTo_len]; exact hlj
                    obtain ⟨sd, rfl, hsc⟩ := (i47.kp hkj).at_ lx
                    rw [mapTo_get hlj] at hsc
                    have hnx : Hid (wonTo F (fpL F KN) SS (j + 1) = wonTo F (fpL F KN) SS j + cntE (fpL F KN) (siteF F j SS) (fpL F KN).length) := by
                      show _ = _
                      rw [cntE_all HFM.out.nd]; rfl
                    have hjI : (j : Int) < (F.di.length : Int) := by omega
                    obtain ⟨sv, Hsv⟩ : ∃ z, Hid (siteF F j SS = z) := ⟨_, Lib.hid rfl⟩
                    rw [Hsv.out] at hsc hnx
                    rw [HO2.out] at hnx
                    obtain ⟨wn, Hwn⟩ : ∃ z, Hid (wonTo F (fpL F KN) SS j = z) := ⟨_, Lib.hid rfl⟩
                    rw [Hwn.out] at hnx hwj ⊢
                    go_wp2_with fail
                    go_loopw [49, 51] (fun mv iv wr => ∃ i m : Nat, i ≤ L9 ∧ iv = .int .i64 i ∧ mv = .int .i64 m ∧ m ≤ 1000 ∧ Hid (m = wn + cntE (fpL F KN) sv i) ∧ Kp wo wr) (fun _ iv _ => L9 - (intOf iv).toNat)
                    case atStart => exact ⟨0, wn, by omega, rfl, rfl, by omega, rfl, Kp.refl _⟩
                    case round =>
                      obtain ⟨i, m, hi, rfl, rfl, hm9, Hm, hki⟩ := hrel
                      have hci := cntE_le (fpL F KN) sv i
                      by_cases hli : i < L9
                      · have ly : i < (fpL F KN).length := by rw [HO2.out]; exact hli
                        obtain ⟨pd, rfl, hpc⟩ := ((i9s.kp hkj).kp hki).at_ ly
                        have hsc2 := hki.get hsc
                        have hgd : (fpL F KN).getD i 0 = (fpL F KN)[i] := by simp [List.getD, ly]
                        have hcn : Hid (cntE (fpL F KN) sv (i + 1) = cntE (fpL F KN) sv i + if (decide ((fpL F KN)[i] = sv) && decide (i % 2 = 0)) = true then 1 else 0) := by
                          show _ = _
                          rw [← hgd]; rfl
                        obtain ⟨pv, Hpv⟩ : ∃ z, Hid ((fpL F KN)[i] = z) := ⟨_, Lib.hid rfl⟩
                        rw [Hpv.out] at hpc hcn
                        clear hgd
                        have htm := rem_nums (q := i)
                        obtain ⟨cn, Hcn⟩ : ∃ z, Hid (cntE (fpL F KN) sv i = z) := ⟨_, Lib.hid rfl⟩
                        rw [Hcn.out] at hcn hci Hm
                        have hm2 : m ≤ 100 := by have := Hm.out; have := HLK.out; omega
                        clear hm9
                        by_cases he : pv = sv
                        · have p0 : (pv == sv) = true := by rw [he]; simp
                          by_cases hev : i % 2 = 0
                          · have p1 : (((i % 2 : Nat) : Int) == 0) = true := by rw [hev]; rfl
                            have hc2 : Hid (cntE (fpL F KN) sv (i + 1) = cn + 1) := by show _ = _; rw [hcn.out, if_pos (by rw [decide_eq_true he, decide_eq_true hev]; rfl)]
                            clear he hev
                            go_wp2_with fail
                            go_region
                            all_goals
                              go_wp2_with fail
                              go_roundw
                              case rel => exact ⟨i + 1, m + 1, by omega, by go_num, by go_num, by omega, (by show _ = _; rw [hc2.out, Hm.out]; omega), hki.drew⟩
                              case measure => simp [intOf]; omega
                          · have p1 : (((i % 2 : Nat) : Int) == 0) = false := by rw [show i % 2 = 1 by omega]; rfl
                            have hc2 : Hid (cntE (fpL F KN) sv (i + 1) = cn) := by show _ = _; rw [hcn.out, if_neg (by rw [decide_eq_false hev, Bool.and_false]; simp)]; rfl
                            clear he hev
                            go_wp2_with fail
                            go_region
                            all_goals
                              go_wp2_with fail
                              go_roundw
                              case rel => exact ⟨i + 1, m, by omega, by go_num, rfl, by omega, (by show _ = _; rw [hc2.out, Hm.out]), hki.drew⟩
                              case measure => simp [intOf]; omega
                        · have p0 : (pv == sv) = false := by simp [he]
                          have hc2 : Hid (cntE (fpL F KN) sv (i + 1) = cn) := by show _ = _; rw [hcn.out, if_neg (by rw [decide_eq_false he, Bool.false_and]; simp)]; rfl
                          clear he
                          go_wp2_with fail
                          go_region
                          all_goals
                            go_wp2_with fail
                            go_roundw
                            case rel => exact ⟨i + 1, m, by omega, by go_num, rfl, by omega, (by show _ = _; rw [hc2.out, Hm.out]), hki.drew⟩
                            case measure => simp [intOf]; omega
                      · obtain rfl : i = L9 := by omega
                        go_wp2_with fail
                        go_roundw
                        case rel => exact ⟨j + 1, by omega, by go_num, by rw [hnx.out, ← Hm.out], hkj.trans hki⟩
                        case measure => simp [intOf]; omega
                  · obtain rfl : j = F.di.length := by omega
                    have hval : Hid (fv = ((wonTo F (fpL F KN) SS F.di.length : Nat) : Int)) := by show _ = _; rw [← Hfv.out]; exact HFM.out.val
                    rw [← hval.out]
                    have e1 : ((L9 : Int) == wrap64 (2 * (KN : Int))) = true := by
                      rw [IntWalk.wrap64_in _ (by omega)]
                      have := HLK.out
                      simp; omega
                    have e2 : ((LA : Int) == wrap64 (2 * (KN : Int))) = true := by
                      rw [IntWalk.wrap64_in _ (by omega)]
                      have := HLA2.out
                      simp; omega
                    have e3 : ((L9 : Int) == 2 * (KN : Int)) = true := by
                      have := HLK.out
                      simp; omega
                    have e4 : ((LA : Int) == 2 * (KN : Int)) = true := by
                      have := HLA2.out
                      simp; omega
                    have e5 : (fv == fv) = true := by simp
                    go_wp2_with fail
                    go_ret
                    exact ⟨by simp, K9.trans hkj⟩
      · have HFO := Lib.hid (fo_parts Hfo.out)
        have hH7 := (goodF_iff.1 (openedB_parts (folOk_parts Hfo.out).1).1).1.2
        obtain ⟨L40, HL40⟩ : ∃ b, Hid ((takenL H S (folL H S m3)).length = b) := ⟨_, Lib.hid rfl⟩
        have hL40 : L40 ≤ 1048576 := by rw [← HL40.out]; exact takenL_few _ _ _
        have q0 := KH.get x22
        have q1 := KH.get y22
        have CC := Lib.hid (implTaken_any _ H A23 S L23 c23 A25 (folL H S m3) L25 c25 wu hh i23 H23.out i25 HL25.out)
        go_wp2_with fail
        with_reducible refine Calls.mono CC.out ?_
        rintro e wv ⟨gv, rfl, ho, hkv⟩
        clear CC q0 q1
        obtain ⟨A40, c40, rfl, i40⟩ := ho.openL HL40 hL40
        clear ho
        replace K0 := K0.trans hkv
        replace KF := KF.trans hkv
        replace KH := KH.trans hkv
        replace hf := hf.kp hkv
        replace hh := hh.kp hkv
        replace i9 := i9.kp hkv
        replace i23 := i23.kp hkv
        clear i25 hkv
        go_wp2_with fail
        go_loopw [42] (fun iv wr => ∃ a : Nat, a ≤ H.op.length ∧ iv = .int .i64 a ∧ Kp wv wr) (fun iv _ => H.op.length - (intOf iv).toNat)
        case atStart => exact ⟨0, by omega, rfl, Kp.refl _⟩
        case round =>
          obtain ⟨a, ha, rfl, hka⟩ := hrel
          have q0 := (KH.trans hka).get x22
          have q1 := (KH.trans hka).get y22
          by_cases hm1 : m3 = 1
          · have p0 : (m3 == 1) = true := by rw [hm1]; rfl
            by_cases hlt : a < H.op.length
            · obtain ⟨kl, hlit⟩ := f_lit1 (Kp.refl wr) (a : Int)
              have CC := Lib.hid (implTaken_any _ H A23 S L23 c23 (some ⟨wr.heap.size, 0, none⟩) [(a : Int)] 1 1 (wr.alloc (.cells #[.int .i64 (a : Int)] 3)) ((hh.kp hka).kp kl) ((i23.kp hka).kp kl) H23.out hlit rfl)
              obtain ⟨tk, Htk⟩ : ∃ b, Hid (takenOk H S [(a : Int)] = b) := ⟨_, Lib.hid rfl⟩
              obtain ⟨L43, HL43⟩ : ∃ b, Hid ((takenL H S [(a : Int)]).length = b) := ⟨_, Lib.hid rfl⟩
              have hL43 : L43 ≤ 1048576 := by rw [← HL43.out]; exact takenL_few _ _ _
              have hmost := Lib.hid (HFO.out.most hm1 a hlt)
              rw [Htk.out, HL43.out, HL40.out] at hmost
              rw [Htk.out] at CC
              clear hlit hm1
              go_wp2_with fail
              with_reducible refine Calls.mono CC.out ?_
              rintro e wx ⟨gv, rfl, ho, hkx⟩
              clear CC q0 q1
              obtain ⟨A43, c43, rfl, i43⟩ := ho.openL HL43 hL43
              clear ho i43
              cases tk
              · go_wp2_with fail
                go_roundw
                case rel => exact ⟨a + 1, by omega, by go_num, hka.trans (kl.trans hkx)⟩
                case measure => simp [intOf]; omega
              · have hle := hmost.out rfl
                have p1 : decide ((L40 : Int) < (L43 : Int)) = false := decide_eq_false (by omega)
                go_wp2_with fail
                go_roundw
                case rel => exact ⟨a + 1, by omega, by go_num, hka.trans (kl.trans hkx)⟩
                case measure => simp [intOf]; omega
            · obtain rfl : a = H.op.length := by omega
              replace K0 := K0.trans hka
              replace KF := KF.trans hka
              replace hf := hf.kp hka
              replace i9 := i9.kp hka
              clear hm1
              go_upto_region 32 with fail
              obtain ⟨wt, rfl⟩ : ∃ q : World, q = wr := ⟨_, rfl⟩
              cases du
              · go_wp2_with fail
                go_ret
                exact ⟨rfl, K0⟩
              · as_aux_lemma =>
                  have HFM := Lib.hid (fm_parts Hdu.out)
                  obtain ⟨hk1, hk2, hk3, hk4, hk5⟩ := HFM.out.kk
                  obtain ⟨KN, hKN⟩ : ∃ KN : Nat, k.toNat = KN := ⟨_, rfl⟩
                  rw [hKN] at HFM hk1 hk2 hk3
                  clear hKN
                  subst hk1
                  have HO2 : Hid ((fpL F KN).length = L9) := HL9
                  have HLK : Hid (L9 = 2 * KN) := by show _ = _; rw [← HL9.out]; exact HFM.out.len
                  have ho0 := own_new0 wt wt.heap.size (Nat.le_refl _)
                  have hkn := (Kp.refl wt).alloc (.cells #[] 3)
                  have ho1 : Own (wt.alloc (.cells #[] 3)) wt.heap.size (.slice (some ⟨wt.heap.size, 0, none⟩) 0 0) (allT (fpL F KN) 0) := ho0
                  clear ho0
                  go_wp2_with fail
                  go_loopw [45, 46] (fun ov iv wr => ∃ a : Nat, a ≤ F.op.length ∧ iv = .int .i64 a ∧ Own wr wt.heap.size ov (allT (fpL F KN) a) ∧ Kp wt wr) (fun _ iv _ => F.op.length - (intOf iv).toNat)
                  case atStart => exact ⟨0, by omega, rfl, ho1, hkn⟩
                  case round =>
                    clear ho1 hkn
                    obtain ⟨a, ha, rfl, hown, hkb⟩ := hrel
                    have q0 := (KF.trans hkb).get x1
                    have q1 := (KF.trans hkb).get y1
                    by_cases hlt : a < F.op.length
                    · have CH := Lib.hid (vHas_any A9 (fpL F KN) L9 c9 (a : Int) wr (i9.kp hkb) HL9.out)
                      obtain ⟨hs, Hhs⟩ : ∃ b, Hid (((fpL F KN).any fun y => y == (a : Int)) = b) := ⟨_, Lib.hid rfl⟩
                      rw [Hhs.out] at CH
                      have hlen := allT_len (fpL F KN) a
                      go_wp2_with fail
                      with_reducible refine Calls.mono CH.out ?_
                      rintro e wh ⟨rfl, hkh⟩
                      clear CH
                      replace hown := hown.kp hkh
                      replace hkb := hkb.trans hkh
                      clear hkh
                      cases hs
                      · have hnx := Lib.hid (allT_no Hhs.out)
                        go_wp2_with fail
                        go_roundw
                        case rel => exact ⟨a + 1, by omega, by go_num, by rw [hnx.out]; exact hown, hkb⟩
                        case measure => simp [intOf]; omega
                      · have hnx := Lib.hid (allT_yes Hhs.out)
                        obtain ⟨Av, cv, ev⟩ := hown.shape
                        obtain ⟨la, hla⟩ : ∃ la, (allT (fpL F KN) a).length = la := ⟨_, rfl⟩
                        rw [hla] at ev hlen
                        subst ev
                        have hl9 : (allT (fpL F KN) a).length ≤ 1000 := by omega
                        go_wp2_with (at_builtin; go_loud (refine wpl_app rfl (.tmp 295) (.tmp 297) rfl (wt.heap.size) _ (allT (fpL F KN) a) ((a : Int)) rfl rfl hown hkb.le (by omega) ?_; intro v' w' ho' ht' h4'; have hkb' := hown.kp_turn hkb (Nat.le_refl _) ht'))
                        go_roundw
                        case rel => exact ⟨a + 1, by omega, by go_num, by rw [hnx.out]; exact ho', hkb'⟩
                        case measure => simp [intOf]; omega
                    · obtain rfl : a = F.op.length := by omega
                      obtain ⟨LA, HLA⟩ : ∃ l, Hid ((allT (fpL F KN) F.op.length).length = l) := ⟨_, Lib.hid rfl⟩
                      have hLA : LA ≤ 1048576 := by have := allT_len (fpL F KN) F.op.length; have := HLA.out; omega
                      have HLA2 : Hid (LA = 2 * KN) := by show _ = _; rw [← HLA.out]; exact HFM.out.slen
                      obtain ⟨A45, c45, rfl, i45⟩ := hown.openL HLA hLA
                      have CS := Lib.hid (implSb_any _ F A45 (allT (fpL F KN) F.op.length) LA c45 wr (hf.kp hkb) i45 HLA.out)
                      rw [HFM.out.op, HFM.out.sb] at CS
                      go_wp2_with fail
                      with_reducible refine Calls.mono CS.out ?_
                      rintro e ws ⟨v47, rfl, ho47, hks⟩
                      clear CS q0 q1 i45 hown
                      obtain ⟨A47, c47, e47, i47⟩ := ho47.ints (by rw [mapTo_len]; omega)
                      rw [mapTo_len] at e47
                      subst e47
                      clear ho47
                      have hkw := hkb.trans hks
                      have i9s := i9.kp hkw
                      have K9 := K0.trans hkw
                      obtain ⟨SS, HSS⟩ : ∃ S, Hid (allT (fpL F KN) F.op.length = S) := ⟨_, Lib.hid rfl⟩
                      rw [HSS.out] at i47 HFM HLA
                      go_wp2_with fail
                      go_loopw [49, 50] (fun mv iv wr => ∃ j : Nat, j ≤ F.di.length ∧ iv = .int .i64 j ∧ mv = .int .i64 ((wonTo F (fpL F KN) SS j : Nat) : Int) ∧ Kp ws wr) (fun _ iv _ => F.di.length - (intOf iv).toNat)
                      case atStart => exact ⟨0, by omega, rfl, rfl, Kp.refl _⟩
                      case round =>
                        obtain ⟨j, hj, rfl, rfl, hkj⟩ := hrel
                        obtain ⟨wo, rfl⟩ : ∃ q : World, q = wr := ⟨_, rfl⟩
                        have hwj := wonTo_le F (fpL F KN) SS j
                        by_cases hlj : j < F.di.length
                        · have lx : j < (mapTo (fun i => siteF F i SS) F.di.length).length := by rw [mapTo_len]; exact hlj
                          obtain ⟨sd, rfl, hsc⟩ := (i47.kp hkj).at_ lx
                          rw [mapTo_get hlj] at hsc
                          have hnx : Hid (wonTo F (fpL F KN) SS (j + 1) = wonTo F (fpL F KN) SS j + cntE (fpL F KN) (siteF F j SS) (fpL F KN).length) := by
                            show _ = _
                            rw [cntE_all HFM.out.nd]; rfl
                          have hjI : (j : Int) < (F.di.length : Int) := by omega
                          obtain ⟨sv, Hsv⟩ : ∃ z, Hid (siteF F j SS = z) := ⟨_, Lib.hid rfl⟩
                          rw [Hsv.out] at hsc hnx
                          rw [HO2.out] at hnx
                          obtain ⟨wn, Hwn⟩ : ∃ z, Hid (wonTo F (fpL F KN) SS j = z) := ⟨_, Lib.hid rfl⟩
                          rw [Hwn.out] at hnx hwj ⊢
                          go_wp2_with fail
                          go_loopw [49, 51] (fun mv iv wr => ∃ i m : Nat, i ≤ L9 ∧ iv = .int .i64 i ∧ mv = .int .i64 m ∧ m ≤ 1000 ∧ Hid (m = wn + cntE (fpL F KN) sv i) ∧ Kp wo wr) (fun _ iv _ => L9 - (intOf iv).toNat)
                          case atStart => exact ⟨0, wn, by omega, rfl, rfl, by omega, rfl, Kp.refl _⟩
                          case round =>
                            obtain ⟨i, m, hi, rfl, rfl, hm9, Hm, hki⟩ := hrel
                            have hci := cntE_le (fpL F KN) sv i
                            by_cases hli : i < L9
                            · have ly : i < (fpL F KN).length := by rw [HO2.out]; exact hli
                              obtain ⟨pd, rfl, hpc⟩ := ((i9s.kp hkj).kp hki).at_ ly
                              have hsc2 := hki.get hsc
                              have hgd : (fpL F KN).getD i 0 = (fpL F KN)[i] := by simp [List.getD, ly]
                              have hcn : Hid (cntE (fpL F KN) sv (i + 1) = cntE (fpL F KN) sv i + if (decide ((fpL F KN)[i] = sv) && decide (i % 2 = 0)) = true then 1 else 0) := by
                                show _ = _
                                rw [← hgd]; rfl
                              obtain ⟨pv, Hpv⟩ : ∃ z, Hid ((fpL F KN)[i] = z) := ⟨_, Lib.hid rfl⟩
                              rw [Hpv.out] at hpc hcn
                              clear hgd
                              have htm := rem_nums (q := i)
                              obtain ⟨cn, Hcn⟩ : ∃ z, Hid (cntE (fpL F KN) sv i = z) := ⟨_, Lib.hid rfl⟩
                              rw [Hcn.out] at hcn hci Hm
                              have hm2 : m ≤ 100 := by have := Hm.out; have := HLK.out; omega
                              clear hm9
                              by_cases he : pv = sv
                              · have p0 : (pv == sv) = true := by rw [he]; simp
                                by_cases hev : i % 2 = 0
                                · have p1 : (((i % 2 : Nat) : Int) == 0) = true := by rw [hev]; rfl
                                  have hc2 : Hid (cntE (fpL F KN) sv (i + 1) = cn + 1) := by show _ = _; rw [hcn.out, if_pos (by rw [decide_eq_true he, decide_eq_true hev]; rfl)]
                                  clear he hev
                                  go_wp2_with fail
                                  go_region
                                  all_goals
                                    go_wp2_with fail
                                    go_roundw
                                    case rel => exact ⟨i + 1, m + 1, by omega, by go_num, by go_num, by omega, (by show _ = _; rw [hc2.out, Hm.out]; omega), hki.drew⟩
                                    case measure => simp [intOf]; omega
                                · have p1 : (((i % 2 : Nat) : Int) == 0) = false := by rw [show i % 2 = 1 by omega]; rfl
                                  have hc2 : Hid (cntE (fpL F KN) sv (i + 1) = cn) := by show _ = _; rw [hcn.out, if_neg (by rw [decide_eq_false hev, Bool.and_false]; simp)]; rfl
                                  clear he hev
                                  go_wp2_with fail
                                  go_region
                                  all_goals
                                    go_wp2_with fail
                                    go_roundw
                                    case rel => exact ⟨i + 1, m, by omega, by go_num, rfl, by omega, (by show _ = _; rw [hc2.out, Hm.out]), hki.drew⟩
                                    case measure => simp [intOf]; omega
                              · have p0 : (pv == sv) = false := by simp [he]
                                have hc2 : Hid (cntE (fpL F KN) sv (i + 1) = cn) := by show _ = _; rw [hcn.out, if_neg (by rw [decide_eq_false he, Bool.false_and]; simp)]; rfl
                                clear he
                                go_wp2_with fail
                                go_region
                                all_goals
                                  go_wp2_with fail
                                  go_roundw
                                  case rel => exact ⟨i + 1, m, by omega, by go_num, rfl, by omega, (by show _ = _; rw [hc2.out, Hm.out]), hki.drew⟩
                                  case measure => simp [intOf]; omega
                            · obtain rfl : i = L9 := by omega
                              go_wp2_with fail
                              go_roundw
                              case rel => exact ⟨j + 1, by omega, by go_num, by rw [hnx.out, ← Hm.out], hkj.trans hki⟩
                              case measure => simp [intOf]; omega
                        · obtain rfl : j = F.di.length := by omega
                          have hval : Hid (fv = ((wonTo F (fpL F KN) SS F.di.length : Nat) : Int)) := by show _ = _; rw [← Hfv.out]; exact HFM.out.val
                          rw [← hval.out]
                          have e1 : ((L9 : Int) == wrap64 (2 * (KN : Int))) = true := by
                            rw [IntWalk.wrap64_in _ (by omega)]
                            have := HLK.out
                            simp; omega
                          have e2 : ((LA : Int) == wrap64 (2 * (KN : Int))) = true := by
                            rw [IntWalk.wrap64_in _ (by omega)]
                            have := HLA2.out
                            simp; omega
                          have e3 : ((L9 : Int) == 2 * (KN : Int)) = true := by
                            have := HLK.out
                            simp; omega
                          have e4 : ((LA : Int) == 2 * (KN : Int)) = true := by
                            have := HLA2.out
                            simp; omega
                          have e5 : (fv == fv) = true := by simp
                          go_wp2_with fail
                          go_ret
                          exact ⟨by simp, K9.trans hkj⟩
          · have p0 : (m3 == 1) = false := by simp [hm1]
            replace K0 := K0.trans hka
            replace KF := KF.trans hka
            replace hf := hf.kp hka
            replace i9 := i9.kp hka
            clear hm1
            go_upto_region 32 with fail
            obtain ⟨wt, rfl⟩ : ∃ q : World, q = wr := ⟨_, rfl⟩
            cases du
            · go_wp2_with fail
              go_ret
              exact ⟨rfl, K0⟩
            · as_aux_lemma =>
                have HFM := Lib.hid (fm_parts Hdu.out)
                obtain ⟨hk1, hk2, hk3, hk4, hk5⟩ := HFM.out.kk
                obtain ⟨KN, hKN⟩ : ∃ KN : Nat, k.toNat = KN := ⟨_, rfl⟩
                rw [hKN] at HFM hk1 hk2 hk3
                clear hKN
                subst hk1
                have HO2 : Hid ((fpL F KN).length = L9) := HL9
                have HLK : Hid (L9 = 2 * KN) := by show _ = _; rw [← HL9.out]; exact HFM.out.len
                have ho0 := own_new0 wt wt.heap.size (Nat.le_refl _)
                have hkn := (Kp.refl wt).alloc (.cells #[] 3)
                have ho1 : Own (wt.alloc (.cells #[] 3)) wt.heap.size (.slice (some ⟨wt.heap.size, 0, none⟩) 0 0) (allT (fpL F KN) 0) := ho0
                clear ho0
                go_wp2_with fail
                go_loopw [45, 46] (fun ov iv wr => ∃ a : Nat, a ≤ F.op.length ∧ iv = .int .i64 a ∧ Own wr wt.heap.size ov (allT (fpL F KN) a) ∧ Kp wt wr) (fun _ iv _ => F.op.length - (intOf iv).toNat)
                case atStart => exact ⟨0, by omega, rfl, ho1, hkn⟩
                case round =>
                  clear ho1 hkn
                  obtain ⟨a, ha, rfl, hown, hkb⟩ := hrel
                  have q0 := (KF.trans hkb).get x1
                  have q1 := (KF.trans hkb).get y1
                  by_cases hlt : a < F.op.length
                  · have CH := Lib.hid (vHas_any A9 (fpL F KN) L9 c9 (a : Int) wr (i9.kp hkb) HL9.out)
                    obtain ⟨hs, Hhs⟩ : ∃ b, Hid (((fpL F KN).any fun y => y == (a : Int)) = b) := ⟨_, Lib.hid rfl⟩
                    rw [Hhs.out] at CH
                    have hlen := allT_len (fpL F KN) a
                    go_wp2_with fail
                    with_reducible refine Calls.mono CH.out ?_
                    rintro e wh ⟨rfl, hkh⟩
                    clear CH
                    replace hown := hown.kp hkh
                    replace hkb := hkb.trans hkh
                    clear hkh
                    cases hs
                    · have hnx := Lib.hid (allT_no Hhs.out)
                      go_wp2_with fail
                      go_roundw
                      case rel => exact ⟨a + 1, by omega, by go_num, by rw [hnx.out]; exact hown, hkb⟩
                      case measure => simp [intOf]; omega
                    · have hnx := Lib.hid (allT_yes Hhs.out)
                      obtain ⟨Av, cv, ev⟩ := hown.shape
                      obtain ⟨la, hla⟩ : ∃ la, (allT (fpL F KN) a).length = la := ⟨_, rfl⟩
                      rw [hla] at ev hlen
                      subst ev
                      have hl9 : (allT (fpL F KN) a).length ≤ 1000 := by omega
                      go_wp2_with (at_builtin; go_loud (refine wpl_app rfl (.tmp 295) (.tmp 297) rfl (wt.heap.size) _ (allT (fpL F KN) a) ((a : Int)) rfl rfl hown hkb.le (by omega) ?_; intro v' w' ho' ht' h4'; have hkb' := hown.kp_turn hkb (Nat.le_refl _) ht'))
                      go_roundw
                      case rel => exact ⟨a + 1, by omega, by go_num, by rw [hnx.out]; exact ho', hkb'⟩
                      case measure => simp [intOf]; omega
                  · obtain rfl : a = F.op.length := by omega
                    obtain ⟨LA, HLA⟩ : ∃ l, Hid ((allT (fpL F KN) F.op.length).length = l) := ⟨_, Lib.hid rfl⟩
                    have hLA : LA ≤ 1048576 := by have := allT_len (fpL F KN) F.op.length; have := HLA.out; omega
                    have HLA2 : Hid (LA = 2 * KN) := by show _ = _; rw [← HLA.out]; exact HFM.out.slen
                    obtain ⟨A45, c45, rfl, i45⟩ := hown.openL HLA hLA
                    have CS := Lib.hid (implSb_any _ F A45 (allT (fpL F KN) F.op.length) LA c45 wr (hf.kp hkb) i45 HLA.out)
                    rw [HFM.out.op, HFM.out.sb] at CS
                    go_wp2_with fail
                    with_reducible refine Calls.mono CS.out ?_
                    rintro e ws ⟨v47, rfl, ho47, hks⟩
                    clear CS q0 q1 i45 hown
                    obtain ⟨A47, c47, e47, i47⟩ := ho47.ints (by rw [mapTo_len]; omega)
                    rw [mapTo_len] at e47
                    subst e47
                    clear ho47
                    have hkw := hkb.trans hks
                    have i9s := i9.kp hkw
                    have K9 := K0.trans hkw
                    obtain ⟨SS, HSS⟩ : ∃ S, Hid (allT (fpL F KN) F.op.length = S) := ⟨_, Lib.hid rfl⟩
                    rw [HSS.out] at i47 HFM HLA
                    go_wp2_with fail
                    go_loopw [49, 50] (fun mv iv wr => ∃ j : Nat, j ≤ F.di.length ∧ iv = .int .i64 j ∧ mv = .int .i64 ((wonTo F (fpL F KN) SS j : Nat) : Int) ∧ Kp ws wr) (fun _ iv _ => F.di.length - (intOf iv).toNat)
                    case atStart => exact ⟨0, by omega, rfl, rfl, Kp.refl _⟩
                    case round =>
                      obtain ⟨j, hj, rfl, rfl, hkj⟩ := hrel
                      obtain ⟨wo, rfl⟩ : ∃ q : World, q = wr := ⟨_, rfl⟩
                      have hwj := wonTo_le F (fpL F KN) SS j
                      by_cases hlj : j < F.di.length
                      · have lx : j < (mapTo (fun i => siteF F i SS) F.di.length).length := by rw [mapTo_len]; exact hlj
                        obtain ⟨sd, rfl, hsc⟩ := (i47.kp hkj).at_ lx
                        rw [mapTo_get hlj] at hsc
                        have hnx : Hid (wonTo F (fpL F KN) SS (j + 1) = wonTo F (fpL F KN) SS j + cntE (fpL F KN) (siteF F j SS) (fpL F KN).length) := by
                          show _ = _
                          rw [cntE_all HFM.out.nd]; rfl
                        have hjI : (j : Int) < (F.di.length : Int) := by omega
                        obtain ⟨sv, Hsv⟩ : ∃ z, Hid (siteF F j SS = z) := ⟨_, Lib.hid rfl⟩
                        rw [Hsv.out] at hsc hnx
                        rw [HO2.out] at hnx
                        obtain ⟨wn, Hwn⟩ : ∃ z, Hid (wonTo F (fpL F KN) SS j = z) := ⟨_, Lib.hid rfl⟩
                        rw [Hwn.out] at hnx hwj ⊢
                        go_wp2_with fail
                        go_loopw [49, 51] (fun mv iv wr => ∃ i m : Nat, i ≤ L9 ∧ iv = .int .i64 i ∧ mv = .int .i64 m ∧ m ≤ 1000 ∧ Hid (m = wn + cntE (fpL F KN) sv i) ∧ Kp wo wr) (fun _ iv _ => L9 - (intOf iv).toNat)
                        case atStart => exact ⟨0, wn, by omega, rfl, rfl, by omega, rfl, Kp.refl _⟩
                        case round =>
                          obtain ⟨i, m, hi, rfl, rfl, hm9, Hm, hki⟩ := hrel
                          have hci := cntE_le (fpL F KN) sv i
                          by_cases hli : i < L9
                          · have ly : i < (fpL F KN).length := by rw [HO2.out]; exact hli
                            obtain ⟨pd, rfl, hpc⟩ := ((i9s.kp hkj).kp hki).at_ ly
                            have hsc2 := hki.get hsc
                            have hgd : (fpL F KN).getD i 0 = (fpL F KN)[i] := by simp [List.getD, ly]
                            have hcn : Hid (cntE (fpL F KN) sv (i + 1) = cntE (fpL F KN) sv i + if (decide ((fpL F KN)[i] = sv) && decide (i % 2 = 0)) = true then 1 else 0) := by
                              show _ = _
                              rw [← hgd]; rfl
                            obtain ⟨pv, Hpv⟩ : ∃ z, Hid ((fpL F KN)[i] = z) := ⟨_, Lib.hid rfl⟩
                            rw [Hpv.out] at hpc hcn
                            clear hgd
                            have htm := rem_nums (q := i)
                            obtain ⟨cn, Hcn⟩ : ∃ z, Hid (cntE (fpL F KN) sv i = z) := ⟨_, Lib.hid rfl⟩
                            rw [Hcn.out] at hcn hci Hm
                            have hm2 : m ≤ 100 := by have := Hm.out; have := HLK.out; omega
                            clear hm9
                            by_cases he : pv = sv
                            · have p0 : (pv == sv) = true := by rw [he]; simp
                              by_cases hev : i % 2 = 0
                              · have p1 : (((i % 2 : Nat) : Int) == 0) = true := by rw [hev]; rfl
                                have hc2 : Hid (cntE (fpL F KN) sv (i + 1) = cn + 1) := by show _ = _; rw [hcn.out, if_pos (by rw [decide_eq_true he, decide_eq_true hev]; rfl)]
                                clear he hev
                                go_wp2_with fail
                                go_region
                                all_goals
                                  go_wp2_with fail
                                  go_roundw
                                  case rel => exact ⟨i + 1, m + 1, by omega, by go_num, by go_num, by omega, (by show _ = _; rw [hc2.out, Hm.out]; omega), hki.drew⟩
                                  case measure => simp [intOf]; omega
                              · have p1 : (((i % 2 : Nat) : Int) == 0) = false := by rw [show i % 2 = 1 by omega]; rfl
                                have hc2 : Hid (cntE (fpL F KN) sv (i + 1) = cn) := by show _ = _; rw [hcn.out, if_neg (by rw [decide_eq_false hev, Bool.and_false]; simp)]; rfl
                                clear he hev
                                go_wp2_with fail
                                go_region
                                all_goals
                                  go_wp2_with fail
                                  go_roundw
                                  case rel => exact ⟨i + 1, m, by omega, by go_num, rfl, by omega, (by show _ = _; rw [hc2.out, Hm.out]), hki.drew⟩
                                  case measure => simp [intOf]; omega
                            · have p0 : (pv == sv) = false := by simp [he]
                              have hc2 : Hid (cntE (fpL F KN) sv (i + 1) = cn) := by show _ = _; rw [hcn.out, if_neg (by rw [decide_eq_false he, Bool.false_and]; simp)]; rfl
                              clear he
                              go_wp2_with fail
                              go_region
                              all_goals
                                go_wp2_with fail
                                go_roundw
                                case rel => exact ⟨i + 1, m, by omega, by go_num, rfl, by omega, (by show _ = _; rw [hc2.out, Hm.out]), hki.drew⟩
                                case measure => simp [intOf]; omega
                          · obtain rfl : i = L9 := by omega
                            go_wp2_with fail
                            go_roundw
                            case rel => exact ⟨j + 1, by omega, by go_num, by rw [hnx.out, ← Hm.out], hkj.trans hki⟩
                            case measure => simp [intOf]; omega
                      · obtain rfl : j = F.di.length := by omega
                        have hval : Hid (fv = ((wonTo F (fpL F KN) SS F.di.length : Nat) : Int)) := by show _ = _; rw [← Hfv.out]; exact HFM.out.val
                        rw [← hval.out]
                        have e1 : ((L9 : Int) == wrap64 (2 * (KN : Int))) = true := by
                          rw [IntWalk.wrap64_in _ (by omega)]
                          have := HLK.out
                          simp; omega
                        have e2 : ((LA : Int) == wrap64 (2 * (KN : Int))) = true := by
                          rw [IntWalk.wrap64_in _ (by omega)]
                          have := HLA2.out
                          simp; omega
                        have e3 : ((L9 : Int) == 2 * (KN : Int)) = true := by
                          have := HLK.out
                          simp; omega
                        have e4 : ((LA : Int) == 2 * (KN : Int)) = true := by
                          have := HLA2.out
                          simp; omega
                        have e5 : (fv == fv) = true := by simp
                        go_wp2_with fail
                        go_ret
                        exact ⟨by simp, K9.trans hkj⟩
end Go.Proofs.YtblebedejddefaaGreat
