/- FairShares: the reference's walk. No condition. -/
import Derived.Test.YtkaammkanapkmaaGreatQAk
import Derived.Test.YtkaammkanapkmaaGreatQAe
namespace Go.Proofs.YtkaammkanapkmaaGreat
open Go.RowKit Go.Sort

theorem fr_nums {a b cq cs t : Int} (ha : 1 ≤ a ∧ a ≤ 5040) (hb : 1 ≤ b ∧ b ≤ 5040) (h1 : 0 ≤ cq ∧ cq ≤ 1386) (h2 : 0 ≤ cs ∧ cs ≤ 1386) (ht : -6000000000000 ≤ t ∧ t ≤ 6000000000000) :
    wrap64 (a * b) = a * b ∧ wrap64 (cq - cs) = cq - cs ∧ wrap64 (a * b * (cq - cs)) = a * b * (cq - cs) ∧ wrap64 (t + a * b * (cq - cs)) = t + a * b * (cq - cs) := by
  have p1 : 0 ≤ a * b := Int.mul_nonneg (by omega) (by omega)
  have p2 : a * b ≤ 5040 * 5040 := Int.mul_le_mul ha.2 hb.2 (by omega) (by omega)
  obtain ⟨m, hm⟩ : ∃ m, a * b = m := ⟨_, rfl⟩
  obtain ⟨d, hd⟩ : ∃ d, cq - cs = d := ⟨_, rfl⟩
  rw [hm] at p1 p2 ⊢
  rw [hd]
  have d1 : d ≤ 1386 := by omega
  have d2 : -1386 ≤ d := by omega
  have q1 : m * d ≤ m * 1386 := Int.mul_le_mul_of_nonneg_left d1 p1
  have q2 : m * (-1386) ≤ m * d := Int.mul_le_mul_of_nonneg_left d2 p1
  obtain ⟨z, hz⟩ : ∃ z, m * d = z := ⟨_, rfl⟩
  rw [hz] at q1 q2 ⊢
  exact ⟨IntWalk.wrap64_in _ (by omega), IntWalk.wrap64_in _ (by omega), IntWalk.wrap64_in _ (by omega), IntWalk.wrap64_in _ (by omega)⟩
theorem fr_code {C T P : Nat} (h : C + T < P) (hp : P ≤ 128) : wrap64 (T : Int) = (T : Int) ∧ wrap64 ((C : Int) + (T : Int)) = ((C + T : Nat) : Int) := ⟨IntWalk.wrap64_in _ (by omega), by rw [IntWalk.wrap64_in _ (by omega)]; omega⟩
theorem fr_lens {n l : Nat} (hn : n ≤ 7) (h : l ≤ n - 1) (h0 : 0 < n) : wrap64 ((n : Int) - 1) = (n : Int) - 1 ∧ wrap64 ((n : Int) - 1 - (l : Int)) = ((n - 1 - l : Nat) : Int) := ⟨IntWalk.wrap64_in _ (by omega), by rw [IntWalk.wrap64_in _ (by omega)]; omega⟩
theorem add_lt {n C j : Nat} (hC : C < 2 ^ n) (hj : j < n) (h : C.testBit j = false) : C + 2 ^ j < 2 ^ n := by
  rw [add_or h]
  exact Nat.or_lt_two_pow hC (Nat.pow_lt_pow_right (by omega) hj)
set_option maxRecDepth 100000 in
set_option maxHeartbeats 2000000 in
theorem specFr_any (f : Value) (F : Fld) (w : World) (hf : FldAt w f F) :
    Calls Tryz.prog 16 #[f] w fun e w' => ∃ v, e = .returned (.tuple #[v, .int .i64 (frM F), .bool (goodF F)]) ∧ Own w' w.heap.size v (frL F) ∧ Kp w w' := by
  obtain ⟨A, c, B, d, rfl, hA, hB⟩ := hf
  have hk0 : Kp w (w.alloc (.cells #[.slice A F.op.length c, .slice B F.di.length d] 27)) := (Kp.refl w).alloc _
  obtain ⟨d0, d1⟩ := box2 w (.slice A F.op.length c) (.slice B F.di.length d) 27
  have hFA := FldAt.kp (show FldAt w (.agg #[.slice A F.op.length c, .slice B F.di.length d]) F from ⟨A, c, B, d, rfl, hA, hB⟩) hk0
  clear hA hB
  go_enter Tryz.func16, Tryz.ntmps16
  go_wp2_with fail
  have hsz : Hid ((w.alloc (.cells #[.slice A F.op.length c, .slice B F.di.length d] 27)).heap.size = w.heap.size + 1) := by show _ = _; simp
  generalize w.alloc (.cells #[.slice A F.op.length c, .slice B F.di.length d] 27) = wb at *
  have hkb : Kp wb wb := Kp.refl _
  have hkw := hk0
  have CC := Lib.hid (l2Good_any _ F _ (hFA.kp hkb))
  with_reducible refine Calls.mono CC.out ?_
  rintro e w1 ⟨rfl, hk1⟩
  clear CC
  replace hkb := hkb.trans hk1
  cases hg_ : goodF F
  · have Hg := Lib.hid hg_
    clear hg_
    have hle := (hkw.trans hkb).le
    have q_d0 := hkb.get d0
    have q_d1 := hkb.get d1
    go_wp2_with fail
    go_ret3
    exact ⟨_, by rw [Hg.out, frM_no Hg.out]; rfl, by rw [frL_no Hg.out]; exact own_new0 _ _ hle, (hkw.trans hkb).alloc _⟩
  have HG := Lib.hid hg_; clear hg_
  have h7 := (goodF_iff.1 HG.out).2.2.1
  have hmk := run_make_row' (P := Tryz.prog) 24 3 (.int .i64 0) 8 Tryz.underlying24 infoInt rfl .i64 .i64 F.di.length (by omega) (by omega)
  have CT := Lib.hid (fun (wx : World) (hx : Kp w1 wx) => l9Table_any _ F wx (hFA.kp (hkb.trans hx)) HG.out)
  have hmade := Lib.hid (fun (wx : World) => own_made wx wx.heap.size F.di.length (Nat.le_refl _) (by omega))
  have hml := mapTo_len (ctF F) (2 ^ F.di.length)
  have Hml := Lib.hid hml
  clear hml
  have hpw : 2 ^ F.di.length ≤ 128 := Nat.pow_le_pow_right (by omega) h7
  have q_d0 := hkb.get d0
  have q_d1 := hkb.get d1
  go_wp2_with fail
  go_cut [6, 7] (fun ov tv wc => ∃ (G gt ct : Nat), ov = .slice (some ⟨G, 0, none⟩) F.di.length F.di.length ∧ tv = .slice (some ⟨gt, 0, none⟩) (2 ^ F.di.length) ct ∧ gt ≠ G ∧ w1.heap.size ≤ G ∧ Own wc G (.slice (some ⟨G, 0, none⟩) F.di.length F.di.length) (mapTo (fun _ => 0) F.di.length) ∧ IntsAt wc (some ⟨gt, 0, none⟩) (mapTo (ctF F) (2 ^ F.di.length)) ∧ Kp w1 wc)
  case first =>
    have hkz : Kp w1 w1 := Kp.refl _
    have z0 := hkb.get d0
    have z1 := hkb.get d1
    clear q_d0 q_d1
    have q_z0 := hkz.get z0
    have q_z1 := hkz.get z1
    have tok1 : True := trivial
    go_wp2_with fail
    go_region_held3 (fun w' => w'.cell? ⟨w.heap.size, 0, none⟩ = some (.slice A F.op.length c) ∧ w'.cell? ⟨w.heap.size, 1, none⟩ = some (.slice B F.di.length d) ∧ Kp w1 w')
      (first | (refine keepc2 z0 z1 ?_; exact (by repeat (first | with_reducible assumption | with_reducible exact Kp.refl _ | with_reducible refine Kp.drew ?_ | with_reducible refine Kp.alloc ?_ _ | with_reducible refine Kp.drewN ?_ _ | refine Kp.setCell ?_ (by dsimp only; omega) _))) | fail)
      (first
        | (have _t := tok1; go_at_call 24; with_reducible refine Calls.mono (CT.out _ (by repeat (first | with_reducible assumption | with_reducible exact Kp.refl _ | with_reducible refine Kp.drew ?_ | with_reducible refine Kp.alloc ?_ _ | with_reducible refine Kp.drewN ?_ _ | refine Kp.setCell ?_ (by dsimp only; omega) _))) ?_; rintro e wr1 ⟨v, rfl, hov, hka⟩; have hr1 : Kp w1 wr1 := Kp.trans (by repeat (first | with_reducible assumption | with_reducible exact Kp.refl _ | with_reducible refine Kp.drew ?_ | with_reducible refine Kp.alloc ?_ _ | with_reducible refine Kp.drewN ?_ _ | refine Kp.setCell ?_ (by dsimp only; omega) _)) hka; obtain ⟨gv, cv, rfl⟩ := hov.at0 Hml.out (Nat.two_pow_pos _); have tok2 : True := trivial; clear tok1 _t)
        | fail)
    all_goals
      go_wp2_with fail
      go_meet
    · have hom := ((hmade.out w1).kp (Kp.refl _).drew).kp hka
      rw [zeros_map'] at hom
      refine ⟨w1.heap.size, gv, cv, rfl, rfl, ?_, Nat.le_refl _, hom, hov.intsOf (by rw [Hml.out]; omega), hr1⟩
      have h := (hov.lt gv rfl).1
      have e : (w1.alloc (.cells (madeCells #[.int .i64 0] F.di.length) 3)).drew.heap.size = w1.heap.size + 1 := by show (w1.alloc _).heap.size = _; simp
      omega
    · have hom := hmade.out wr1
      rw [zeros_map'] at hom
      refine ⟨wr1.heap.size, gv, cv, rfl, rfl, ?_, hr1.le, hom, (hov.intsOf (by rw [Hml.out]; omega)).kp ((Kp.refl _).alloc _), hr1.alloc _⟩
      have h := (hov.lt gv rfl).2
      omega
  case rest =>
    obtain ⟨G, gt, ct, rfl, rfl, hne, hwG, hoG, hiT, hkc⟩ := hcut
    have HC := Lib.hid (fun c => ctF_bd HG.out c)
    have hsum := Lib.hid (fun (j : Nat) (hj : j < F.di.length) (k : Nat) => sum_gs_bd (ct := ctF F) h7 hj HC.out k)
    obtain ⟨P, HPe⟩ : ∃ p, Hid (2 ^ F.di.length = p) := ⟨_, Lib.hid rfl⟩
    rw [HPe.out] at hiT hpw ⊢
    have hkl := (hkw.trans hkb).trans hkc
    have hGl := (hoG.lt G rfl).2
    have HwG := Lib.hid (show w.heap.size ≤ G from Nat.le_trans (hkw.trans hkb).le hwG)
    obtain ⟨wl, rfl⟩ : ∃ wl : World, wl = wc := ⟨_, rfl⟩
    clear hmk CT hmade d0 d1 hFA hwG
    go_wp2_with fail
    go_loopw [8] (fun iv wr => ∃ C : Nat, C ≤ P ∧ iv = .int .i64 C ∧ Own wr G (.slice (some ⟨G, 0, none⟩) F.di.length F.di.length) (mapTo (stepT (ctF F) F.di.length C 0) F.di.length) ∧ Turn (fun i => i = G) wl wr) (fun iv _ => P - (intOf iv).toNat)
    case atStart =>
      refine ⟨0, by omega, rfl, ?_, Turn.refl _ _⟩
      rw [stepT_zero]
      exact hoG
    case round =>
      clear hoG
      obtain ⟨C, hC, rfl, hown, htn⟩ := hrel
      by_cases hlt : C < P
      · have hCI : (C : Int) < (P : Int) := Int.ofNat_lt.2 hlt
        have CC := Lib.hid (l2Bits_any F.di.length C wr (by omega) (by omega))
        have hbl := bitsL_len F.di.length C
        go_wp2_with fail
        with_reducible refine Calls.mono CC.out ?_
        rintro e wo ⟨v, rfl, hov, hk5⟩
        clear CC
        obtain ⟨Av, cv, hve, hiv⟩ := hov.ints (by omega)
        have HB := Lib.hid (fun (ad : Addr) (e : Av = some ad) => (show ad.block ≠ G from by
          have h := (hov.lt ad.block (by rw [hve, e]; rfl)).1
          have h2 := htn.size
          omega))
        subst hve
        have hown1 := hown.kp hk5
        have htn1 := htn.trans (Turn.of_kp hk5)
        clear hown htn hov hk5
        obtain ⟨l, Hl⟩ : ∃ z, Hid ((bitsL F.di.length C).length = z) := ⟨_, Lib.hid rfl⟩
        rw [Hl.out] at hbl ⊢
        go_wp2_with fail
        go_loopw [10] (fun iv wr => ∃ j : Nat, j ≤ F.di.length ∧ iv = .int .i64 j ∧ Own wr G (.slice (some ⟨G, 0, none⟩) F.di.length F.di.length) (mapTo (stepT (ctF F) F.di.length C j) F.di.length) ∧ Turn (fun i => i = G) wo wr) (fun iv _ => F.di.length - (intOf iv).toNat)
        case atStart => exact ⟨0, by omega, rfl, hown1, Turn.refl _ _⟩
        case round =>
          clear hown1
          obtain ⟨j, hj, rfl, hown, htn⟩ := hrel
          by_cases hltj : j < F.di.length
          · have hjI : (j : Int) < (F.di.length : Int) := Int.ofNat_lt.2 hltj
            have hset := hiv.turn htn (fun ad e _ hb => HB.out ad e hb)
            have CC := Lib.hid (l1Has_any Av (bitsL F.di.length C) l cv (j : Int) wr hset Hl.out)
            have hany : ((bitsL F.di.length C).any fun x => x == (j : Int)) = C.testBit j := by
              rw [Bool.eq_iff_iff, List.any_eq_true]
              constructor
              · rintro ⟨x, hx, e⟩
                obtain rfl := eq_of_beq e
                have := (mem_bitsL.1 hx).2.2
                rwa [Int.toNat_natCast] at this
              · intro h
                exact ⟨(j : Int), mem_bitsL.2 ⟨by omega, by omega, by rw [Int.toNat_natCast]; exact h⟩, by simp⟩
            rw [hany] at CC
            clear hany hset
            cases hbit : C.testBit j
            rotate_left
            · rw [hbit] at CC
              have HN : Hid (mapTo (stepT (ctF F) F.di.length C j) F.di.length = mapTo (stepT (ctF F) F.di.length C (j + 1)) F.di.length) := mapTo_congr' (fun a _ => (stepT_no hbit a).symm)
              clear hbit
              go_wp2_with fail
              with_reducible refine Calls.mono CC.out ?_
              rintro e w6 ⟨rfl, hw6⟩
              obtain rfl := hw6
              clear CC
              go_wp2_with fail
              go_roundw
              case rel => exact ⟨j + 1, by omega, by go_num, by rw [← HN.out]; exact hown, htn⟩
              case measure => simp [intOf]; omega
            · rw [hbit] at CC
              have hll := len_lt hltj hbit
              rw [Hl.out] at hll
              obtain ⟨T, HT⟩ : ∃ z, Hid (2 ^ j = z) := ⟨_, Lib.hid rfl⟩
              have hCT : C + T < P := by rw [← HT.out, ← HPe.out]; exact add_lt (by rw [HPe.out]; exact hlt) hltj hbit
              obtain ⟨q, Hq⟩ : ∃ z, Hid (C + T = z) := ⟨_, Lib.hid rfl⟩
              obtain ⟨u1, u2⟩ := fr_code hCT hpw
              obtain ⟨v1, v2⟩ := fr_lens h7 hll (by omega)
              obtain ⟨zz, Hzz⟩ : ∃ z, Hid (F.di.length - 1 - l = z) := ⟨_, Lib.hid rfl⟩
              have hz7 : zz ≤ 7 := by rw [← Hzz.out]; omega
              rw [Hzz.out] at v2
              rw [Hq.out] at u2 hCT
              have hshl : wrap64 (2 ^ j) = (T : Int) := by
                rw [show (2 : Int) ^ j = ((2 ^ j : Nat) : Int) by simp, HT.out]; exact u1
              obtain ⟨r1, r2, r3⟩ := hown.slotL (mapTo_len _ _) hltj
              rw [mapTo_lget' hltj] at r1
              have hsb := hsum.out j hltj C
              have Hgs : Hid (gsT (ctF F) F.di.length j C = facT l * facT zz * (ctF F q - ctF F C)) := by
                show _ = _
                unfold gsT dlT
                rw [if_pos hbit, Hl.out, HT.out, Hq.out, Hzz.out]
              obtain ⟨tv, Htv⟩ : ∃ z, Hid (stepT (ctF F) F.di.length C j j = z) := ⟨_, Lib.hid rfl⟩
              have htb : -6000000000000 ≤ tv ∧ tv ≤ 6000000000000 := by
                rw [← Htv.out]
                unfold stepT
                rw [if_neg (by omega)]
                omega
              rw [Htv.out] at r1
              obtain ⟨a, Ha⟩ : ∃ z, Hid (facT l = z) := ⟨_, Lib.hid rfl⟩
              obtain ⟨b, Hb⟩ : ∃ z, Hid (facT zz = z) := ⟨_, Lib.hid rfl⟩
              obtain ⟨cq, Hcq⟩ : ∃ z, Hid (ctF F q = z) := ⟨_, Lib.hid rfl⟩
              obtain ⟨cs, Hcs⟩ : ∃ z, Hid (ctF F C = z) := ⟨_, Lib.hid rfl⟩
              have ba := fac_bd l (by omega)
              have bb := fac_bd zz hz7
              have bq := HC.out q
              have bs := HC.out C
              rw [Ha.out] at ba
              rw [Hb.out] at bb
              rw [Hcq.out] at bq
              rw [Hcs.out] at bs
              rw [Ha.out, Hb.out, Hcq.out, Hcs.out] at Hgs
              obtain ⟨y1, y2, y3, y4⟩ := fr_nums ba bb bq bs htb
              have C1 := Lib.hid (l9Orders_any l wr.drew (by omega))
              have C2 := Lib.hid (l9Orders_any zz wr.drew hz7)
              rw [Ha.out] at C1
              rw [Hb.out] at C2
              have h0r := (hiT.turn htn1 (fun ad e _ hb => hne (by cases e; exact hb))).turn htn (fun ad e _ hb => hne (by cases e; exact hb))
              obtain ⟨ad0, e0, hcs⟩ := h0r.at_ (k := C) (by rw [mapTo_len]; exact hlt)
              obtain rfl : (⟨gt, 0, none⟩ : Addr) = ad0 := by simpa using e0
              rw [mapTo_get hlt, Hcs.out] at hcs
              obtain ⟨ad0', e0', hcq⟩ := h0r.at_ (k := q) (by rw [mapTo_len]; exact hCT)
              obtain rfl : (⟨gt, 0, none⟩ : Addr) = ad0' := by simpa using e0'
              rw [mapTo_get hCT, Hcq.out] at hcq
              have ad_o : (⟨G, 0, none⟩ : Addr).add j = ⟨G, j, none⟩ := add0 _ _
              have ad_s : (⟨gt, 0, none⟩ : Addr).add C = ⟨gt, C, none⟩ := add0 _ _
              have ad_q : (⟨gt, 0, none⟩ : Addr).add q = ⟨gt, q, none⟩ := add0 _ _
              rw [ad_s] at hcs
              rw [ad_q] at hcq
              have HST := Lib.hid (r3 (tv + a * b * (cq - cs)))
              have HN : Hid ((mapTo (stepT (ctF F) F.di.length C j) F.di.length).set j (tv + a * b * (cq - cs)) = mapTo (stepT (ctF F) F.di.length C (j + 1)) F.di.length) := by
                show _ = _
                rw [mapTo_set']
                refine mapTo_congr' (fun x _ => ?_)
                rw [stepT_yes, Htv.out, Hgs.out]
              rw [HN.out] at HST
              have i1 := (IntWalk.i64_left _).trans v1
              have i2 := (IntWalk.i64_left _).trans v2
              have i3 := (IntWalk.i64_left _).trans hshl
              have i4 := (IntWalk.i64_left _).trans u2
              have i5 := (IntWalk.i64_left _).trans y1
              have i6 := (IntWalk.i64_left _).trans y2
              have i7 := (IntWalk.i64_left _).trans y3
              have i8 := (IntWalk.i64_left _).trans y4
              have hqI : (q : Int) < (P : Int) := Int.ofNat_lt.2 hCT
              have e8 : ((j : Int)).toNat = j := Int.toNat_natCast j
              clear r3 e0 e0' h0r hsb hbit hown hll htb ba bb bq bs u1
              go_wp2_with fail
              with_reducible refine Calls.mono CC.out ?_
              rintro e w6 ⟨rfl, hw6⟩
              obtain rfl := hw6
              clear CC
              go_wp2_with fail
              refine wp_region_still_tail 31 (by kernel_rfl) (by kernel_rfl) ?_
              simp only [List.take_succ_cons, List.take_zero, List.drop_succ_cons, List.drop_zero]
              repeat still_step
              still_call C1.out
              repeat still_step
              still_call C2.out
              repeat still_step
              try refine wpStill_nil ?_
              change wpList _ _ _ _ _ _
              go_wp2_with fail
              go_roundw
              case rel => exact ⟨j + 1, by omega, by go_num, HST.out.1.kp (Kp.refl _).drew, (htn.trans HST.out.2).trans (Turn.of_kp (Kp.refl _).drew)⟩
              case measure => simp [intOf]; omega
          · obtain rfl : j = F.di.length := by omega
            have HN := Lib.hid (stepT_next (ctF F) F.di.length C)
            go_wp2_with fail
            go_roundw
            case rel => exact ⟨C + 1, by omega, by go_num, by rw [← HN.out]; exact hown, htn1.trans htn⟩
            case measure => simp [intOf]; omega
      · obtain rfl : C = P := by omega
        have CC := Lib.hid (l9Orders_any F.di.length wr (by omega))
        go_wp2_with fail
        with_reducible refine Calls.mono CC.out ?_
        rintro e w6 ⟨rfl, hw6⟩
        obtain rfl := hw6
        clear CC
        go_wp2_with fail
        go_ret3
        refine ⟨_, by rw [frM_yes HG.out, HG.out]; rfl, ?_, hkl.turn htn (fun i e => by have := HwG.out; omega)⟩
        rw [frL_yes HG.out, HPe.out]
        rw [stepT_zero] at hown
        exact hown.mono HwG.out
end Go.Proofs.YtkaammkanapkmaaGreat
