/- FnVotes: the walk of the law. No condition. -/
import Derived.Test.YtcccmndkolmboaaQAc
import Derived.Test.YtcccmndkolmboaaQAf
import Derived.Test.YtcccmndkolmboaaQAt
namespace Go.Proofs.Ytcccmndkolmboaa
open Go.ChangeShapes Go.WideShapes Go.ChangeAt Go.RowKit Go.Sort

theorem DFld.openV {w : World} {b : Nat} {v : Value} (h : DFld w b v) : ∃ F A c B d, v = .agg #[.slice A F.op.length c, .slice B F.di.length d] ∧ FldAt w v F := by
  obtain ⟨F, hf⟩ := h
  have hfa := hf.fld
  obtain ⟨A, c, B, d, e, _⟩ := hf
  exact ⟨F, A, c, B, d, e, hfa⟩
theorem Own.openV {w : World} {base : Nat} {v : Value} {xs : List Int} (h : Own w base v xs) {L : Nat} (hl : Hid (xs.length = L)) (h2 : L ≤ 1048576) : ∃ A c, v = .slice A L c ∧ IntsAt w A xs := by
  have := hl.out
  obtain ⟨A, c, e, hi⟩ := h.ints (by omega)
  exact ⟨A, c, by rw [← this]; exact e, hi⟩
set_option maxRecDepth 100000 in
set_option maxHeartbeats 8000000 in
theorem vot_law (A : Option Addr) (n c : Nat) (w : World) (hb : BytesAt w A n) (hnc : n ≤ c) :
    Calls Try.prog 3 #[.slice A n c] w fun e w' => e = .returned (.bool true) ∧ Kp w w' := by
  have CB := Lib.hid (vBig_any A n c w)
  by_cases hbig : 65536 < n
  · have hd : decide (65536 < (n : Int)) = true := decide_eq_true (by omega)
    rw [hd] at CB
    go_enter Try.func3, Try.ntmps3
    go_wp2_with fail
    with_reducible refine Calls.mono CB.out ?_
    rintro e w1 ⟨rfl, rfl⟩
    go_wp2_with fail
    go_ret
    exact ⟨rfl, Kp.refl _⟩
  have hn6 : n ≤ 65536 := by omega
  have hd : decide (65536 < (n : Int)) = false := decide_eq_false (by omega)
  rw [hd] at CB
  go_enter Try.func3, Try.ntmps3
  go_wp2_with fail
  with_reducible refine Calls.mono CB.out ?_
  rintro e w1 ⟨rfl, rfl⟩
  clear CB hd hbig
  have K0 : Kp w w := Kp.refl _
  have H0 := Lib.hid hb
  clear hb
  go_wp2_with fail
  have CC := Lib.hid (drawUnb_any A n c w H0.out)
  with_reducible refine Calls.mono CC.out ?_
  rintro e w1 ⟨v, rfl, hv, hk1⟩
  clear CC
  replace K0 := K0.trans hk1
  obtain ⟨F1, A3, c3, B3, d3, rfl, hf1⟩ := DFld.openV hv
  have kv : Kp w1 (World.alloc w1 (.cells #[.slice A3 F1.op.length c3, .slice B3 F1.di.length d3] 27)) := (Kp.refl _).alloc _
  obtain ⟨x3, y3⟩ := box2 w1 (.slice A3 F1.op.length c3) (.slice B3 F1.di.length d3) 27
  replace hf1 := hf1.kp kv
  replace K0 := K0.trans kv
  go_wp2_with fail
  generalize w1.alloc (.cells #[.slice A3 F1.op.length c3, .slice B3 F1.di.length d3] 27) = wf at *
  generalize w1.heap.size = b3 at *
  clear hv kv
  have KF : Kp wf wf := Kp.refl _
  obtain ⟨g1, Hg1⟩ : ∃ b, Hid (goodF F1 = b) := ⟨_, Lib.hid rfl⟩
  obtain ⟨L4, HL4⟩ : ∃ l, Hid ((unbL F1).length = l) := ⟨_, Lib.hid rfl⟩
  have hl4 : L4 ≤ 1048576 := by rw [← HL4.out]; exact unbL_len F1
  have CC := Lib.hid (implUnb_any _ F1 wf hf1)
  with_reducible refine Calls.mono CC.out ?_
  rintro e w2 ⟨v, rfl, ho, hk2⟩
  clear CC
  replace K0 := K0.trans hk2
  replace KF := KF.trans hk2
  replace hf1 := hf1.kp hk2
  rw [Hg1.out]
  obtain ⟨A4, c4, rfl, i4⟩ := ho.openV HL4 hl4
  clear ho
  have q_x3 := KF.get x3
  have q_y3 := KF.get y3
  go_wp2_with fail
  have CC := Lib.hid (specUnb_any _ F1 w2 hf1)
  with_reducible refine Calls.mono CC.out ?_
  rintro e w3 ⟨v, rfl, ho, hk3⟩
  clear CC q_x3 q_y3
  replace K0 := K0.trans hk3
  replace KF := KF.trans hk3
  replace hf1 := hf1.kp hk3
  replace i4 := i4.kp hk3
  rw [Hg1.out]
  obtain ⟨A6, c6, rfl, i6⟩ := ho.openV HL4 hl4
  clear ho
  have q_x3 := KF.get x3
  have q_y3 := KF.get y3
  go_wp2_with fail
  have CC := Lib.hid (vCut_all A n c 1 w3 (H0.out.kp K0) hn6 hnc)
  with_reducible refine Calls.mono CC.out ?_
  rintro e w4 ⟨A', n', c', rfl, ⟨hb8, hc8, hn8⟩, hk4⟩
  clear CC q_x3 q_y3
  replace K0 := K0.trans hk4
  replace KF := KF.trans hk4
  replace hf1 := hf1.kp hk4
  replace i4 := i4.kp hk4
  replace i6 := i6.kp hk4
  have q_x3 := KF.get x3
  have q_y3 := KF.get y3
  go_wp2_with fail
  have CC := Lib.hid (drawVotesOf_any A' n' c' w4 hb8)
  with_reducible refine Calls.mono CC.out ?_
  rintro e w5 ⟨v, a9, a10, rfl, hv, hk5⟩
  clear CC q_x3 q_y3
  replace K0 := K0.trans hk5
  replace KF := KF.trans hk5
  replace hf1 := hf1.kp hk5
  replace i4 := i4.kp hk5
  replace i6 := i6.kp hk5
  obtain ⟨F2, A8, c8, B8, d8, rfl, hf2⟩ := DFld.openV hv
  have kv : Kp w5 (World.alloc w5 (.cells #[.slice A8 F2.op.length c8, .slice B8 F2.di.length d8] 27)) := (Kp.refl _).alloc _
  obtain ⟨x8, y8⟩ := box2 w5 (.slice A8 F2.op.length c8) (.slice B8 F2.di.length d8) 27
  replace hf2 := hf2.kp kv
  replace K0 := K0.trans kv
  replace KF := KF.trans kv
  replace hf1 := hf1.kp kv
  replace i4 := i4.kp kv
  replace i6 := i6.kp kv
  go_wp2_with fail
  generalize w5.alloc (.cells #[.slice A8 F2.op.length c8, .slice B8 F2.di.length d8] 27) = wg at *
  generalize w5.heap.size = b8 at *
  clear hv kv hb8 hc8 hn8
  have KG : Kp wg wg := Kp.refl _
  obtain ⟨vo, Hvo⟩ : ∃ b, Hid (votesOk F2 a9 a10 = b) := ⟨_, Lib.hid rfl⟩
  obtain ⟨v1, Hv1⟩ : ∃ b, Hid (votes1 F2 a9 a10 = b) := ⟨_, Lib.hid rfl⟩
  obtain ⟨v2, Hv2⟩ : ∃ b, Hid (votes2 F2 a9 a10 = b) := ⟨_, Lib.hid rfl⟩
  have CC := Lib.hid (implVotes_any _ F2 a9 a10 wg hf2)
  with_reducible refine Calls.mono CC.out ?_
  rintro e w6 ⟨rfl, hk6⟩
  clear CC
  replace K0 := K0.trans hk6
  replace KF := KF.trans hk6
  replace KG := KG.trans hk6
  replace hf1 := hf1.kp hk6
  replace i4 := i4.kp hk6
  replace i6 := i6.kp hk6
  replace hf2 := hf2.kp hk6
  rw [Hvo.out, Hv1.out, Hv2.out]
  have q_x3 := KF.get x3
  have q_y3 := KF.get y3
  have q_x8 := KG.get x8
  have q_y8 := KG.get y8
  go_wp2_with fail
  have CC := Lib.hid (specVotes_any _ F2 a9 a10 w6 hf2)
  with_reducible refine Calls.mono CC.out ?_
  rintro e w7 ⟨rfl, hk7⟩
  clear CC q_x3 q_y3 q_x8 q_y8
  replace K0 := K0.trans hk7
  replace KF := KF.trans hk7
  replace KG := KG.trans hk7
  replace hf1 := hf1.kp hk7
  replace i4 := i4.kp hk7
  replace i6 := i6.kp hk7
  replace hf2 := hf2.kp hk7
  rw [Hvo.out, Hv1.out, Hv2.out]
  have n1 : (g1 != g1) = false := by simp
  have n2 : ((v1 : Int) != (v1 : Int)) = false := by simp
  have n3 : ((v2 : Int) != (v2 : Int)) = false := by simp
  have n4 : (vo != vo) = false := by simp
  have q_x3 := KF.get x3
  have q_y3 := KF.get y3
  have q_x8 := KG.get x8
  have q_y8 := KG.get y8
  go_wp2_with fail
  have CC := Lib.hid (vInts_same A4 A6 (unbL F1) L4 c4 c6 w7 i4 i6 HL4.out)
  with_reducible refine Calls.mono CC.out ?_
  rintro e w8 ⟨rfl, hk8⟩
  clear CC q_x3 q_y3 q_x8 q_y8
  replace K0 := K0.trans hk8
  replace KF := KF.trans hk8
  replace KG := KG.trans hk8
  replace hf1 := hf1.kp hk8
  replace i4 := i4.kp hk8
  replace i6 := i6.kp hk8
  replace hf2 := hf2.kp hk8
  clear n1 n2 n3 n4
  cases vo
  · obtain ⟨wl, rfl⟩ : ∃ q : World, q = w8 := ⟨_, rfl⟩
    cases g1
    · have q_x3 := KF.get x3
      have q_y3 := KF.get y3
      have q_x8 := KG.get x8
      have q_y8 := KG.get y8
      go_wp2_with fail
      go_loopw [17] (fun xv wr => xv = .int .i64 0 ∧ wl = wr) (fun _ _ => 0)
      case atStart => exact ⟨rfl, rfl⟩
      case round =>
        obtain ⟨rfl, rfl⟩ := hrel
        go_wp2_with fail
        obtain ⟨wt, rfl⟩ : ∃ q : World, q = wl := ⟨_, rfl⟩
        have CC := Lib.hid (vCut_all A n c 2 wt (H0.out.kp K0) hn6 hnc)
        go_wp2_with fail
        with_reducible refine Calls.mono CC.out ?_
        rintro e wA ⟨A', n', c', rfl, ⟨hb8, hc8, hn8⟩, hkA⟩
        clear CC
        have CC := Lib.hid (drawTreeField_any A' n' c' wA hb8)
        go_wp2_with fail
        with_reducible refine Calls.mono CC.out ?_
        rintro e wB ⟨pv, lv, rfl, h1, h2, hkB⟩
        clear CC
        obtain ⟨At1, at1, Lt1, ps, rfl, it1, HLt1, _, hLc⟩ := h1.open
        obtain ⟨At2, at2, Lt2, ls, rfl, it2, HLt2, _, _⟩ := h2.open
        have CC := Lib.hid (treeField_any At1 ps Lt1 at1 At2 ls Lt2 at2 wB it1 HLt1.out hLc it2 HLt2.out)
        clear h1 h2 hb8 hc8 hn8
        go_wp2_with fail
        with_reducible refine Calls.mono CC.out ?_
        rintro e wC ⟨At, nt, ct, Bt, kt, dt, b, rfl, hb, hkC⟩
        clear CC it1 it2 hLc
        have kt1 : Kp wC (wC.alloc (.cells #[.slice At nt ct, .slice Bt kt dt] 27)) := (Kp.refl wC).alloc _
        have KT := ((K0.trans hkA).trans hkB).trans (hkC.trans kt1)
        cases b
        · go_wp2_with fail
          go_ret
          exact ⟨rfl, KT⟩
        · obtain ⟨hT, hL, hG, hF⟩ := hb rfl
          have HT := Lib.hid hT
          have HL := Lib.hid hL
          have HG := Lib.hid hG
          obtain ⟨x25, y25⟩ := box2 wC (.slice At nt ct) (.slice Bt kt dt) 27
          have hF2 := hF.kp kt1
          have CC := Lib.hid (medianOf_any _ (treeF ps ls) _ hF2 HG.out)
          clear hT hL hG hb hF
          go_wp2_with fail
          generalize wC.alloc (.cells #[.slice At nt ct, .slice Bt kt dt] 27) = wD at *
          generalize wC.heap.size = b25 at *
          clear kt1 hkC
          with_reducible refine Calls.mono CC.out ?_
          rintro e wE ⟨m, Am, cm, rfl, im, hm, Hmin, hkE⟩
          clear CC
          have x26 := hkE.get x25
          have y26 := hkE.get y25
          have CC := Lib.hid (implUnb_any _ (treeF ps ls) wE (hF2.kp hkE))
          rw [HG.out] at CC
          have CH := tree_has HT.out HL.out HG.out hm Hmin.out
          go_wp2_with fail
          with_reducible refine Calls.mono CC.out ?_
          rintro e wF ⟨v, rfl, ho, hkF⟩
          clear CC
          obtain ⟨L29, HL29⟩ : ∃ l, Hid ((unbL (treeF ps ls)).length = l) := ⟨_, Lib.hid rfl⟩
          obtain ⟨A29, c29, rfl, i29⟩ := ho.openV HL29 (by rw [← HL29.out]; exact unbL_len _)
          obtain ⟨adm, rfl, hcm⟩ := (im.kp hkF).at_ (show 0 < [(m : Int)].length by simp)
          rw [show adm.add 0 = adm from by unfold Addr.add; simp] at hcm
          have hcm2 : wF.cell? adm = some (.int .i64 (m : Int)) := hcm
          have CC := Lib.hid (vHas_any A29 (unbL (treeF ps ls)) L29 c29 (m : Int) wF i29 HL29.out)
          rw [CH] at CC
          clear ho hcm CH
          go_wp2_with fail
          with_reducible refine Calls.mono CC.out ?_
          rintro e wG ⟨rfl, hkG⟩
          clear CC
          go_wp2_with fail
          go_ret
          exact ⟨rfl, KT.trans (hkE.trans (hkF.trans hkG))⟩
    · have hM7 := (goodF_iff.1 Hg1.out).1.2
      have q_x3 := KF.get x3
      have q_y3 := KF.get y3
      have q_x8 := KG.get x8
      have q_y8 := KG.get y8
      go_wp2_with fail
      go_loopw [17] (fun xv wr => ∃ x : Nat, xv = .int .i64 x ∧ x ≤ F1.op.length ∧ Kp wl wr) (fun xv _ => F1.op.length - (intOf xv).toNat)
      case atStart => exact ⟨0, rfl, by omega, Kp.refl _⟩
      case round =>
        obtain ⟨x, rfl, hx, hkr⟩ := hrel
        have q3 := (KF.trans hkr).get x3
        have r3 := (KF.trans hkr).get y3
        by_cases hlt : x < F1.op.length
        · have hltI : (x : Int) < (F1.op.length : Int) := by omega
          go_wp2_with fail
          go_loopw [18, 19] (fun fv yv wi => ∃ y : Nat, fv = .bool (freeB F1 x y) ∧ yv = .int .i64 y ∧ y ≤ F1.op.length ∧ Kp wl wi) (fun _ yv _ => F1.op.length - (intOf yv).toNat)
          case atStart => exact ⟨0, rfl, rfl, by omega, hkr⟩
          case round =>
            clear hkr q3 r3
            obtain ⟨y, rfl, rfl, hy, hki⟩ := hrel
            obtain ⟨wi, rfl⟩ : ∃ q : World, q = wr := ⟨_, rfl⟩
            have q3 := (KF.trans hki).get x3
            have r3 := (KF.trans hki).get y3
            by_cases hly : y < F1.op.length
            · have hlyI : (y : Int) < (F1.op.length : Int) := by omega
              obtain ⟨t1, t2, t3⟩ := votes_at Hg1.out hlt hly
              have CC := Lib.hid (implVotes_any _ F1 (y : Int) (x : Int) wi (hf1.kp hki))
              rw [t1, t2, t3] at CC
              have Hs := Lib.hid (freeB_succ F1 x y)
              obtain ⟨va, hva⟩ : ∃ v, votesN F1 y x = v := ⟨_, rfl⟩
              obtain ⟨vb, hvb⟩ : ∃ v, votesN F1 x y = v := ⟨_, rfl⟩
              rw [hva, hvb] at CC Hs
              obtain ⟨fb, Hfb⟩ : ∃ b, freeB F1 x y = b := ⟨_, rfl⟩
              rw [Hfb] at Hs ⊢
              obtain ⟨fc, Hfc⟩ : ∃ b, freeB F1 x (y + 1) = b := ⟨_, rfl⟩
              rw [Hfc] at Hs
              clear t1 t2 t3 hva hvb Hfb
              go_wp2_with fail
              with_reducible refine Calls.mono CC.out ?_
              rintro e wq ⟨rfl, hkq⟩
              clear CC q3 r3
              cases fb
              · go_wp2_with fail
                go_roundw
                case rel => exact ⟨y + 1, by rw [Hfc, Hs.out]; rfl, by go_num, by omega, hki.trans hkq⟩
                case measure => simp [intOf]; omega
              · go_wp2_with fail
                go_roundw
                case rel => exact ⟨y + 1, by rw [Hfc, Hs.out]; simp, by go_num, by omega, hki.trans hkq⟩
                case measure => simp [intOf]; omega
            · obtain rfl : y = F1.op.length := by omega
              have hyI : ¬ ((F1.op.length : Int) < (F1.op.length : Int)) := by omega
              have CC := Lib.hid (vHas_any A4 (unbL F1) L4 c4 (x : Int) wi (i4.kp hki) HL4.out)
              rw [unbL_has Hg1.out hlt] at CC
              rw [freeB_all]
              obtain ⟨ub, Hub⟩ : ∃ b, unbB F1 x = b := ⟨_, rfl⟩
              rw [Hub] at CC ⊢
              clear Hub
              have n1 : (ub != ub) = false := by simp
              go_wp2_with fail
              with_reducible refine Calls.mono CC.out ?_
              rintro e wq ⟨rfl, hkq⟩
              clear CC q3 r3
              go_wp2_with fail
              go_roundw
              case rel => exact ⟨x + 1, by go_num, by omega, hki.trans hkq⟩
              case measure => simp [intOf]; omega
        · obtain rfl : x = F1.op.length := by omega
          have hxI : ¬ ((F1.op.length : Int) < (F1.op.length : Int)) := by omega
          replace K0 := K0.trans hkr
          go_wp2_with fail
          clear q3 r3
          obtain ⟨wt, rfl⟩ : ∃ q : World, q = wr := ⟨_, rfl⟩
          have CC := Lib.hid (vCut_all A n c 2 wt (H0.out.kp K0) hn6 hnc)
          go_wp2_with fail
          with_reducible refine Calls.mono CC.out ?_
          rintro e wA ⟨A', n', c', rfl, ⟨hb8, hc8, hn8⟩, hkA⟩
          clear CC
          have CC := Lib.hid (drawTreeField_any A' n' c' wA hb8)
          go_wp2_with fail
          with_reducible refine Calls.mono CC.out ?_
          rintro e wB ⟨pv, lv, rfl, h1, h2, hkB⟩
          clear CC
          obtain ⟨At1, at1, Lt1, ps, rfl, it1, HLt1, _, hLc⟩ := h1.open
          obtain ⟨At2, at2, Lt2, ls, rfl, it2, HLt2, _, _⟩ := h2.open
          have CC := Lib.hid (treeField_any At1 ps Lt1 at1 At2 ls Lt2 at2 wB it1 HLt1.out hLc it2 HLt2.out)
          clear h1 h2 hb8 hc8 hn8
          go_wp2_with fail
          with_reducible refine Calls.mono CC.out ?_
          rintro e wC ⟨At, nt, ct, Bt, kt, dt, b, rfl, hb, hkC⟩
          clear CC it1 it2 hLc
          have kt1 : Kp wC (wC.alloc (.cells #[.slice At nt ct, .slice Bt kt dt] 27)) := (Kp.refl wC).alloc _
          have KT := ((K0.trans hkA).trans hkB).trans (hkC.trans kt1)
          cases b
          · go_wp2_with fail
            go_ret
            exact ⟨rfl, KT⟩
          · obtain ⟨hT, hL, hG, hF⟩ := hb rfl
            have HT := Lib.hid hT
            have HL := Lib.hid hL
            have HG := Lib.hid hG
            obtain ⟨x25, y25⟩ := box2 wC (.slice At nt ct) (.slice Bt kt dt) 27
            have hF2 := hF.kp kt1
            have CC := Lib.hid (medianOf_any _ (treeF ps ls) _ hF2 HG.out)
            clear hT hL hG hb hF
            go_wp2_with fail
            generalize wC.alloc (.cells #[.slice At nt ct, .slice Bt kt dt] 27) = wD at *
            generalize wC.heap.size = b25 at *
            clear kt1 hkC
            with_reducible refine Calls.mono CC.out ?_
            rintro e wE ⟨m, Am, cm, rfl, im, hm, Hmin, hkE⟩
            clear CC
            have x26 := hkE.get x25
            have y26 := hkE.get y25
            have CC := Lib.hid (implUnb_any _ (treeF ps ls) wE (hF2.kp hkE))
            rw [HG.out] at CC
            have CH := tree_has HT.out HL.out HG.out hm Hmin.out
            go_wp2_with fail
            with_reducible refine Calls.mono CC.out ?_
            rintro e wF ⟨v, rfl, ho, hkF⟩
            clear CC
            obtain ⟨L29, HL29⟩ : ∃ l, Hid ((unbL (treeF ps ls)).length = l) := ⟨_, Lib.hid rfl⟩
            obtain ⟨A29, c29, rfl, i29⟩ := ho.openV HL29 (by rw [← HL29.out]; exact unbL_len _)
            obtain ⟨adm, rfl, hcm⟩ := (im.kp hkF).at_ (show 0 < [(m : Int)].length by simp)
            rw [show adm.add 0 = adm from by unfold Addr.add; simp] at hcm
            have hcm2 : wF.cell? adm = some (.int .i64 (m : Int)) := hcm
            have CC := Lib.hid (vHas_any A29 (unbL (treeF ps ls)) L29 c29 (m : Int) wF i29 HL29.out)
            rw [CH] at CC
            clear ho hcm CH
            go_wp2_with fail
            with_reducible refine Calls.mono CC.out ?_
            rintro e wG ⟨rfl, hkG⟩
            clear CC
            go_wp2_with fail
            go_ret
            exact ⟨rfl, KT.trans (hkE.trans (hkF.trans hkG))⟩
  · obtain ⟨hg2, hs2⟩ := votes_sum Hvo.out
    rw [Hv1.out, Hv2.out] at hs2
    have h7 := (goodF_iff.1 hg2).2.2.1
    have e1 : IntKind.i64.wrap ((v1 : Int) + (v2 : Int)) = (v1 : Int) + (v2 : Int) := IntWalk.i64_in _ (by omega)
    have e2 : wrap64 ((v1 : Int) + (v2 : Int)) = (v1 : Int) + (v2 : Int) := IntWalk.wrap64_in _ (by omega)
    have p1 : decide ((F2.di.length : Int) < (v1 : Int) + (v2 : Int)) = false := decide_eq_false (by omega)
    clear hs2 hg2
    obtain ⟨wl, rfl⟩ : ∃ q : World, q = w8 := ⟨_, rfl⟩
    cases g1
    · have q_x3 := KF.get x3
      have q_y3 := KF.get y3
      have q_x8 := KG.get x8
      have q_y8 := KG.get y8
      go_wp2_with fail
      go_loopw [17] (fun xv wr => xv = .int .i64 0 ∧ wl = wr) (fun _ _ => 0)
      case atStart => exact ⟨rfl, rfl⟩
      case round =>
        obtain ⟨rfl, rfl⟩ := hrel
        go_wp2_with fail
        obtain ⟨wt, rfl⟩ : ∃ q : World, q = wl := ⟨_, rfl⟩
        have CC := Lib.hid (vCut_all A n c 2 wt (H0.out.kp K0) hn6 hnc)
        go_wp2_with fail
        with_reducible refine Calls.mono CC.out ?_
        rintro e wA ⟨A', n', c', rfl, ⟨hb8, hc8, hn8⟩, hkA⟩
        clear CC
        have CC := Lib.hid (drawTreeField_any A' n' c' wA hb8)
        go_wp2_with fail
        with_reducible refine Calls.mono CC.out ?_
        rintro e wB ⟨pv, lv, rfl, h1, h2, hkB⟩
        clear CC
        obtain ⟨At1, at1, Lt1, ps, rfl, it1, HLt1, _, hLc⟩ := h1.open
        obtain ⟨At2, at2, Lt2, ls, rfl, it2, HLt2, _, _⟩ := h2.open
        have CC := Lib.hid (treeField_any At1 ps Lt1 at1 At2 ls Lt2 at2 wB it1 HLt1.out hLc it2 HLt2.out)
        clear h1 h2 hb8 hc8 hn8
        go_wp2_with fail
        with_reducible refine Calls.mono CC.out ?_
        rintro e wC ⟨At, nt, ct, Bt, kt, dt, b, rfl, hb, hkC⟩
        clear CC it1 it2 hLc
        have kt1 : Kp wC (wC.alloc (.cells #[.slice At nt ct, .slice Bt kt dt] 27)) := (Kp.refl wC).alloc _
        have KT := ((K0.trans hkA).trans hkB).trans (hkC.trans kt1)
        cases b
        · go_wp2_with fail
          go_ret
          exact ⟨rfl, KT⟩
        · obtain ⟨hT, hL, hG, hF⟩ := hb rfl
          have HT := Lib.hid hT
          have HL := Lib.hid hL
          have HG := Lib.hid hG
          obtain ⟨x25, y25⟩ := box2 wC (.slice At nt ct) (.slice Bt kt dt) 27
          have hF2 := hF.kp kt1
          have CC := Lib.hid (medianOf_any _ (treeF ps ls) _ hF2 HG.out)
          clear hT hL hG hb hF
          go_wp2_with fail
          generalize wC.alloc (.cells #[.slice At nt ct, .slice Bt kt dt] 27) = wD at *
          generalize wC.heap.size = b25 at *
          clear kt1 hkC
          with_reducible refine Calls.mono CC.out ?_
          rintro e wE ⟨m, Am, cm, rfl, im, hm, Hmin, hkE⟩
          clear CC
          have x26 := hkE.get x25
          have y26 := hkE.get y25
          have CC := Lib.hid (implUnb_any _ (treeF ps ls) wE (hF2.kp hkE))
          rw [HG.out] at CC
          have CH := tree_has HT.out HL.out HG.out hm Hmin.out
          go_wp2_with fail
          with_reducible refine Calls.mono CC.out ?_
          rintro e wF ⟨v, rfl, ho, hkF⟩
          clear CC
          obtain ⟨L29, HL29⟩ : ∃ l, Hid ((unbL (treeF ps ls)).length = l) := ⟨_, Lib.hid rfl⟩
          obtain ⟨A29, c29, rfl, i29⟩ := ho.openV HL29 (by rw [← HL29.out]; exact unbL_len _)
          obtain ⟨adm, rfl, hcm⟩ := (im.kp hkF).at_ (show 0 < [(m : Int)].length by simp)
          rw [show adm.add 0 = adm from by unfold Addr.add; simp] at hcm
          have hcm2 : wF.cell? adm = some (.int .i64 (m : Int)) := hcm
          have CC := Lib.hid (vHas_any A29 (unbL (treeF ps ls)) L29 c29 (m : Int) wF i29 HL29.out)
          rw [CH] at CC
          clear ho hcm CH
          go_wp2_with fail
          with_reducible refine Calls.mono CC.out ?_
          rintro e wG ⟨rfl, hkG⟩
          clear CC
          go_wp2_with fail
          go_ret
          exact ⟨rfl, KT.trans (hkE.trans (hkF.trans hkG))⟩
    · have hM7 := (goodF_iff.1 Hg1.out).1.2
      have q_x3 := KF.get x3
      have q_y3 := KF.get y3
      have q_x8 := KG.get x8
      have q_y8 := KG.get y8
      go_wp2_with fail
      go_loopw [17] (fun xv wr => ∃ x : Nat, xv = .int .i64 x ∧ x ≤ F1.op.length ∧ Kp wl wr) (fun xv _ => F1.op.length - (intOf xv).toNat)
      case atStart => exact ⟨0, rfl, by omega, Kp.refl _⟩
      case round =>
        obtain ⟨x, rfl, hx, hkr⟩ := hrel
        have q3 := (KF.trans hkr).get x3
        have r3 := (KF.trans hkr).get y3
        by_cases hlt : x < F1.op.length
        · have hltI : (x : Int) < (F1.op.length : Int) := by omega
          go_wp2_with fail
          go_loopw [18, 19] (fun fv yv wi => ∃ y : Nat, fv = .bool (freeB F1 x y) ∧ yv = .int .i64 y ∧ y ≤ F1.op.length ∧ Kp wl wi) (fun _ yv _ => F1.op.length - (intOf yv).toNat)
          case atStart => exact ⟨0, rfl, rfl, by omega, hkr⟩
          case round =>
            clear hkr q3 r3
            obtain ⟨y, rfl, rfl, hy, hki⟩ := hrel
            obtain ⟨wi, rfl⟩ : ∃ q : World, q = wr := ⟨_, rfl⟩
            have q3 := (KF.trans hki).get x3
            have r3 := (KF.trans hki).get y3
            by_cases hly : y < F1.op.length
            · have hlyI : (y : Int) < (F1.op.length : Int) := by omega
              obtain ⟨t1, t2, t3⟩ := votes_at Hg1.out hlt hly
              have CC := Lib.hid (implVotes_any _ F1 (y : Int) (x : Int) wi (hf1.kp hki))
              rw [t1, t2, t3] at CC
              have Hs := Lib.hid (freeB_succ F1 x y)
              obtain ⟨va, hva⟩ : ∃ v, votesN F1 y x = v := ⟨_, rfl⟩
              obtain ⟨vb, hvb⟩ : ∃ v, votesN F1 x y = v := ⟨_, rfl⟩
              rw [hva, hvb] at CC Hs
              obtain ⟨fb, Hfb⟩ : ∃ b, freeB F1 x y = b := ⟨_, rfl⟩
              rw [Hfb] at Hs ⊢
              obtain ⟨fc, Hfc⟩ : ∃ b, freeB F1 x (y + 1) = b := ⟨_, rfl⟩
              rw [Hfc] at Hs
              clear t1 t2 t3 hva hvb Hfb
              go_wp2_with fail
              with_reducible refine Calls.mono CC.out ?_
              rintro e wq ⟨rfl, hkq⟩
              clear CC q3 r3
              cases fb
              · go_wp2_with fail
                go_roundw
                case rel => exact ⟨y + 1, by rw [Hfc, Hs.out]; rfl, by go_num, by omega, hki.trans hkq⟩
                case measure => simp [intOf]; omega
              · go_wp2_with fail
                go_roundw
                case rel => exact ⟨y + 1, by rw [Hfc, Hs.out]; simp, by go_num, by omega, hki.trans hkq⟩
                case measure => simp [intOf]; omega
            · obtain rfl : y = F1.op.length := by omega
              have hyI : ¬ ((F1.op.length : Int) < (F1.op.length : Int)) := by omega
              have CC := Lib.hid (vHas_any A4 (unbL F1) L4 c4 (x : Int) wi (i4.kp hki) HL4.out)
              rw [unbL_has Hg1.out hlt] at CC
              rw [freeB_all]
              obtain ⟨ub, Hub⟩ : ∃ b, unbB F1 x = b := ⟨_, rfl⟩
              rw [Hub] at CC ⊢
              clear Hub
              have n1 : (ub != ub) = false := by simp
              go_wp2_with fail
              with_reducible refine Calls.mono CC.out ?_
              rintro e wq ⟨rfl, hkq⟩
              clear CC q3 r3
              go_wp2_with fail
              go_roundw
              case rel => exact ⟨x + 1, by go_num, by omega, hki.trans hkq⟩
              case measure => simp [intOf]; omega
        · obtain rfl : x = F1.op.length := by omega
          have hxI : ¬ ((F1.op.length : Int) < (F1.op.length : Int)) := by omega
          replace K0 := K0.trans hkr
          go_wp2_with fail
          clear q3 r3
          obtain ⟨wt, rfl⟩ : ∃ q : World, q = wr := ⟨_, rfl⟩
          have CC := Lib.hid (vCut_all A n c 2 wt (H0.out.kp K0) hn6 hnc)
          go_wp2_with fail
          with_reducible refine Calls.mono CC.out ?_
          rintro e wA ⟨A', n', c', rfl, ⟨hb8, hc8, hn8⟩, hkA⟩
          clear CC
          have CC := Lib.hid (drawTreeField_any A' n' c' wA hb8)
          go_wp2_with fail
          with_reducible refine Calls.mono CC.out ?_
          rintro e wB ⟨pv, lv, rfl, h1, h2, hkB⟩
          clear CC
          obtain ⟨At1, at1, Lt1, ps, rfl, it1, HLt1, _, hLc⟩ := h1.open
          obtain ⟨At2, at2, Lt2, ls, rfl, it2, HLt2, _, _⟩ := h2.open
          have CC := Lib.hid (treeField_any At1 ps Lt1 at1 At2 ls Lt2 at2 wB it1 HLt1.out hLc it2 HLt2.out)
          clear h1 h2 hb8 hc8 hn8
          go_wp2_with fail
          with_reducible refine Calls.mono CC.out ?_
          rintro e wC ⟨At, nt, ct, Bt, kt, dt, b, rfl, hb, hkC⟩
          clear CC it1 it2 hLc
          have kt1 : Kp wC (wC.alloc (.cells #[.slice At nt ct, .slice Bt kt dt] 27)) := (Kp.refl wC).alloc _
          have KT := ((K0.trans hkA).trans hkB).trans (hkC.trans kt1)
          cases b
          · go_wp2_with fail
            go_ret
            exact ⟨rfl, KT⟩
          · obtain ⟨hT, hL, hG, hF⟩ := hb rfl
            have HT := Lib.hid hT
            have HL := Lib.hid hL
            have HG := Lib.hid hG
            obtain ⟨x25, y25⟩ := box2 wC (.slice At nt ct) (.slice Bt kt dt) 27
            have hF2 := hF.kp kt1
            have CC := Lib.hid (medianOf_any _ (treeF ps ls) _ hF2 HG.out)
            clear hT hL hG hb hF
            go_wp2_with fail
            generalize wC.alloc (.cells #[.slice At nt ct, .slice Bt kt dt] 27) = wD at *
            generalize wC.heap.size = b25 at *
            clear kt1 hkC
            with_reducible refine Calls.mono CC.out ?_
            rintro e wE ⟨m, Am, cm, rfl, im, hm, Hmin, hkE⟩
            clear CC
            have x26 := hkE.get x25
            have y26 := hkE.get y25
            have CC := Lib.hid (implUnb_any _ (treeF ps ls) wE (hF2.kp hkE))
            rw [HG.out] at CC
            have CH := tree_has HT.out HL.out HG.out hm Hmin.out
            go_wp2_with fail
            with_reducible refine Calls.mono CC.out ?_
            rintro e wF ⟨v, rfl, ho, hkF⟩
            clear CC
            obtain ⟨L29, HL29⟩ : ∃ l, Hid ((unbL (treeF ps ls)).length = l) := ⟨_, Lib.hid rfl⟩
            obtain ⟨A29, c29, rfl, i29⟩ := ho.openV HL29 (by rw [← HL29.out]; exact unbL_len _)
            obtain ⟨adm, rfl, hcm⟩ := (im.kp hkF).at_ (show 0 < [(m : Int)].length by simp)
            rw [show adm.add 0 = adm from by unfold Addr.add; simp] at hcm
            have hcm2 : wF.cell? adm = some (.int .i64 (m : Int)) := hcm
            have CC := Lib.hid (vHas_any A29 (unbL (treeF ps ls)) L29 c29 (m : Int) wF i29 HL29.out)
            rw [CH] at CC
            clear ho hcm CH
            go_wp2_with fail
            with_reducible refine Calls.mono CC.out ?_
            rintro e wG ⟨rfl, hkG⟩
            clear CC
            go_wp2_with fail
            go_ret
            exact ⟨rfl, KT.trans (hkE.trans (hkF.trans hkG))⟩
end Go.Proofs.Ytcccmndkolmboaa
