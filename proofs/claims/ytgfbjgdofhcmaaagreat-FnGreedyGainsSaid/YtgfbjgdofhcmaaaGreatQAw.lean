/- LazyGain: the program's walk. No condition. -/
import Derived.Test.YtgfbjgdofhcmaaaGreatQAg
namespace Go.Proofs.YtgfbjgdofhcmaaaGreat
open Go.RowKit Go.Sort

theorem marginal0_any (f : Value) (F : Fld) (worth : Int) (a : Nat) (w : World) (hf : FldAt w f F) (hg : goodF F = true) (hw0 : 0 ≤ worth) (hw1 : worth ≤ 999) (ha1 : a < F.op.length) :
    Calls Tryz.prog 29 #[f, .int .i64 worth, .int .u64 0, .int .i64 a] w fun e w' => e = .returned (.int .i64 (moreF F worth [] a)) ∧ Kp w w' := by
  have h := marginal_any f F worth 0 a w hf hg (Nat.two_pow_pos _) hw0 hw1 ha1
  rw [bits_zero] at h
  exact h
theorem two_mk (w : World) (base n : Nat) (hb : base ≤ w.heap.size) (hn : n ≤ 1048576) :
    (Own ((w.alloc (.cells #[] 3)).alloc (.cells (madeCells #[.int .i64 0] n) 3)).drew base (.slice (some ⟨w.heap.size, 0, none⟩) 0 0) [] ∧
    Own ((w.alloc (.cells #[] 3)).alloc (.cells (madeCells #[.int .i64 0] n) 3)).drew base (.slice (some ⟨w.heap.size + 1, 0, none⟩) n n) (List.replicate n 0)) ∧
    (Own ((w.alloc (.cells (madeCells #[.int .i64 0] n) 3)).alloc (.cells #[] 3)).drew base (.slice (some ⟨w.heap.size + 1, 0, none⟩) 0 0) [] ∧
    Own ((w.alloc (.cells (madeCells #[.int .i64 0] n) 3)).alloc (.cells #[] 3)).drew base (.slice (some ⟨w.heap.size, 0, none⟩) n n) (List.replicate n 0)) := by
  refine ⟨⟨((own_new0 w base hb).kp ((Kp.refl _).alloc _)).drew, Own.drew ?_⟩, Own.drew ?_, ((own_made w base n hb hn).kp ((Kp.refl _).alloc _)).drew⟩
  · have := own_made (w.alloc (.cells #[] 3)) base n (by simp; omega) hn
    simpa using this
  · have := own_new0 (w.alloc (.cells (madeCells #[.int .i64 0] n) 3)) base (by simp; omega)
    simpa using this
set_option maxRecDepth 100000 in
set_option maxHeartbeats 2000000 in
theorem implLazy_any (f : Value) (F : Fld) (worth k : Int) (w : World) (hf : FldAt w f F) :
    Calls Tryz.prog 9 #[f, .int .i64 worth, .int .i64 k] w fun e w' => ∃ v, e = .returned (.tuple #[v, .int .i64 (lzM F worth k), .bool (lzOk F worth k)]) ∧ Own w' w.heap.size v (lzL F worth k) ∧ Kp w w' := by
  obtain ⟨A, c, B, d, rfl, hA, hB⟩ := hf
  have hk0 : Kp w (w.alloc (.cells #[.slice A F.op.length c, .slice B F.di.length d] 27)) := (Kp.refl w).alloc _
  obtain ⟨d0, d1⟩ := box2 w (.slice A F.op.length c) (.slice B F.di.length d) 27
  have hFA := FldAt.kp (show FldAt w (.agg #[.slice A F.op.length c, .slice B F.di.length d]) F from ⟨A, c, B, d, rfl, hA, hB⟩) hk0
  clear hA hB
  go_enter Tryz.func9, Tryz.ntmps9
  go_wp2_with fail
  have hsz : Hid ((w.alloc (.cells #[.slice A F.op.length c, .slice B F.di.length d] 27)).heap.size = w.heap.size + 1) := by show _ = _; simp
  generalize w.alloc (.cells #[.slice A F.op.length c, .slice B F.di.length d] 27) = wb at *
  have hkb : Kp wb wb := Kp.refl _
  have hkw := hk0
  have CC := Lib.hid (isWorth_any _ F worth none [] 0 0 _ (hFA.kp hkb) (IntsAt.nil _ none) rfl)
  with_reducible refine Calls.mono CC.out ?_
  rintro e w1 ⟨rfl, hk1⟩
  clear CC
  replace hkb := hkb.trans hk1
  have hgo : gainOk F worth [] = (goodF F && worthB worth) := by simp [gainOk, setB, risB]
  rw [hgo]
  clear hgo
  cases hg_ : (goodF F && worthB worth)
  · have Hno : Hid (grdOk F worth k = false) := by show grdOk F worth k = false; rw [grdOk, hg_]; rfl
    clear hg_
    have q_d0 := hkb.get d0
    have q_d1 := hkb.get d1
    go_wp2_with fail
    obtain ⟨v', e1, e2⟩ := lz_no Hno.out (Own.nil w1 w.heap.size)
    go_ret3
    exact ⟨v', e1, e2, hkw.trans hkb⟩
  have Hg := Lib.hid hg_; clear hg_
  have q_d0 := hkb.get d0
  have q_d1 := hkb.get d1
  go_wp2_with fail
  with_reducible refine Calls.mono (between_any k 0 7 _) ?_
  rintro e w2 ⟨rfl, hw⟩
  obtain rfl := hw
  clear q_d0 q_d1
  cases hg_ : inB k 0 7
  · have Hno : Hid (grdOk F worth k = false) := by show grdOk F worth k = false; rw [grdOk, Hg.out, hg_]; rfl
    clear hg_
    have q_d0 := hkb.get d0
    have q_d1 := hkb.get d1
    go_wp2_with fail
    obtain ⟨v', e1, e2⟩ := lz_no Hno.out (Own.nil w1 w.heap.size)
    go_ret3
    exact ⟨v', e1, e2, hkw.trans hkb⟩
  have Hok : Hid (grdOk F worth k = true) := by show grdOk F worth k = true; rw [grdOk, Hg.out, hg_]; rfl
  clear hg_ Hg
  have HP := Lib.hid (grdOk_parts Hok.out)
  have hk0' := HP.out.2.2.1
  have hk7 := HP.out.2.2.2
  have hw0 := HP.out.2.1.1
  have hw1 := HP.out.2.1.2
  have h7 := (goodF_iff.1 HP.out.1).1
  obtain ⟨h1n, h7n⟩ := h7
  obtain ⟨K, rfl⟩ := Int.eq_ofNat_of_zero_le hk0'
  have hK7 : K ≤ 7 := by omega
  have ho := (own_new0 w1 wb.heap.size hkb.le).drew
  have q_d0 := hkb.get d0
  have q_d1 := hkb.get d1
  have tok1 : True := trivial
  go_wp2_with fail
  go_region_held3 (fun w' => w'.cell? ⟨w.heap.size, 0, none⟩ = some (.slice A F.op.length c) ∧ w'.cell? ⟨w.heap.size, 1, none⟩ = some (.slice B F.di.length d) ∧ Kp wb w')
    (first | (refine keepc2 d0 d1 ?_; exact (by repeat (first | with_reducible assumption | with_reducible exact Kp.refl _ | with_reducible refine Kp.drew ?_ | with_reducible refine Kp.alloc ?_ _ | with_reducible refine Kp.drewN ?_ _ | refine Kp.setCell ?_ (by dsimp only; omega) _))) | fail)
    (first
      | fail)
  replace hkb : Kp wb (w1.alloc (.cells #[] 3)).drew := (hkb.alloc _).drew
  go_wp2_with fail
  generalize (w1.alloc (.cells #[] 3)).drew = w2 at *
  have hmk := run_make_row' (P := Tryz.prog) 24 3 (.int .i64 0) 8 Tryz.underlying24 infoInt rfl .i64 .i64 F.op.length (by omega) (by omega)
  go_cut [12, 13] (fun tv av wc => ∃ tv0 av0, tv = tv0 ∧ av = av0 ∧ Own wc w2.heap.size tv0 [] ∧ Own wc w2.heap.size av0 (List.replicate F.op.length 0) ∧ Apart tv0 av0 ∧ Kp w2 wc)
  case first =>
    have hkr : Kp w2 w2 := Kp.refl _
    obtain ⟨⟨ht1, ht2⟩, ht3, ht4⟩ := two_mk w2 w2.heap.size F.op.length (Nat.le_refl _) (by omega)
    have hap2 := apart_new w2 0 F.op.length 0 F.op.length
    have hap3 := (apart_new w2 F.op.length 0 F.op.length 0).symm
    have q_d0 := hkb.get d0
    have q_d1 := hkb.get d1
    go_region_held3 (fun w' => w'.cell? ⟨w.heap.size, 0, none⟩ = some (.slice A F.op.length c) ∧ w'.cell? ⟨w.heap.size, 1, none⟩ = some (.slice B F.di.length d) ∧ Kp w2 w')
      (first | (refine keepc2 q_d0 q_d1 ?_; exact (by repeat (first | with_reducible assumption | with_reducible exact Kp.refl _ | with_reducible refine Kp.drew ?_ | with_reducible refine Kp.alloc ?_ _ | with_reducible refine Kp.drewN ?_ _ | refine Kp.setCell ?_ (by dsimp only; omega) _))) | fail)
      (fail)
    all_goals
      go_wp2_with fail
      go_meet
    · exact ⟨_, _, rfl, rfl, ht1, ht2, hap2, ((hkr.alloc _).alloc _).drew⟩
    · exact ⟨_, _, rfl, rfl, ht3, ht4, hap3, ((hkr.alloc _).alloc _).drew⟩
  case rest =>
    clear hmk
    obtain ⟨tv0, av0, rfl, rfl, htv, hav, hat, hkq⟩ := hcut
    obtain ⟨ga, ca, hv6⟩ := hav.at0 (by simp) h1n
    subst hv6
    have hb1 := hkb
    have e0 := hkb.get d0
    have e1 := hkb.get d1
    have hF1 := hFA.kp hkb
    clear q_d0 q_d1
    have q_e0 := hkq.get e0
    have q_e1 := hkq.get e1
    go_wp2_with fail
    go_loopw [12, 39] (fun tv iv wr => ∃ a : Nat, a ≤ F.op.length ∧ iv = .int .i64 a ∧ Own wr w2.heap.size tv (mapTo (fun a => moreF F worth [] (a : Int)) a) ∧ Own wr w2.heap.size (.slice (some ⟨ga, 0, none⟩) F.op.length ca) (List.replicate F.op.length 0) ∧ Apart tv (.slice (some ⟨ga, 0, none⟩) F.op.length ca) ∧ Kp w2 wr) (fun _ iv _ => F.op.length - (intOf iv).toNat)
    case atStart => exact ⟨0, by omega, rfl, htv, hav, hat, hkq⟩
    case round =>
      clear htv hav hat hkq
      obtain ⟨a, ha, rfl, htv, hav, hat, hkq⟩ := hrel
      obtain ⟨A5, c5, rfl⟩ := htv.shape
      by_cases hla : a < F.op.length
      · have Hm5 := Lib.hid (mapTo_len (fun a => moreF F worth [] (a : Int)) a)
        have hl5 : (mapTo (fun a => moreF F worth [] (a : Int)) a).length < 1048576 := by rw [Hm5.out]; omega
        clear q_e0 q_e1
        have q_e0 := hkq.get e0
        have q_e1 := hkq.get e1
        go_wp2_with fail
        have CC := Lib.hid (marginal0_any _ F worth a _ (hF1.kp hkq) HP.out.1 hw0 hw1 hla)
        with_reducible refine Calls.mono CC.out ?_
        rintro e w3 ⟨rfl, hk3⟩
        clear CC q_e0 q_e1
        replace hkq := hkq.trans hk3
        replace htv := htv.kp hk3
        replace hav := hav.kp hk3
        have q_e0 := hkq.get e0
        have q_e1 := hkq.get e1
        go_wp2_with (at_builtin; go_loud (refine wpl_app rfl (.tmp 42) (.tmp 47) rfl (w2.heap.size) _ (mapTo (fun a => moreF F worth [] (a : Int)) a) (moreF F worth [] (a : Int)) rfl rfl htv hkq.le (by omega) ?_; intro v' w' ho' ht' h4'; have hkb' := htv.kp_turn hkq (Nat.le_refl _) ht'; have r_e0 := hkb'.get e0; have r_e1 := hkb'.get e1))
        have hav2 := hav.apart_turn hat ht'
        have hat2 := hat.grow hav h4'
        go_roundw
        case rel => exact ⟨a + 1, by omega, by go_num, by rw [mapTo_succ]; exact ho', hav2, hat2, hkb'⟩
        case measure => simp [intOf]; omega
      · obtain rfl : a = F.op.length := by omega
        obtain ⟨gt, ct, hv5⟩ := htv.at0 (mapTo_len _ _) h1n
        rw [hv5] at htv hat ⊢
        clear hv5 A5 c5
        have ap1 := Apart.fresh ho htv (Nat.le_refl _)
        have ap2 := Apart.fresh ho hav (Nat.le_refl _)
        replace ho := ho.kp hkq
        replace htv := htv.mono hb1.le
        replace hav := hav.mono hb1.le
        have hkb := hb1.trans hkq
        have hst := lzSt_first (F := F) (worth := worth) h7n hK7
        rw [← bits_zero F.op.length] at hst
        have l1 : Hid ((lzTold F worth).length = F.op.length) := mapTo_len _ _
        have l2 : Hid ((List.replicate F.op.length (0 : Int)).length = F.op.length) := by show _ = _; simp
        have hst' : lzSt F worth K (lzAll F worth K) [] (bitsL F.op.length 0) (lzTold F worth) (List.replicate F.op.length 0) F.op.length := by
          have := lzSt_first (F := F) (worth := worth) h7n hK7
          rw [bits_zero]; exact this
        clear q_e0 q_e1
        have q_d0 := hkb.get d0
        have q_d1 := hkb.get d1
        go_wp2_with fail
        go_loopw [9, 10, 11] (fun ov sv mv wr => ∃ out b told att many, Own wr wb.heap.size ov out ∧ out.length ≤ K ∧ Apart ov (.slice (some ⟨gt, 0, none⟩) F.op.length ct) ∧ Apart ov (.slice (some ⟨ga, 0, none⟩) F.op.length ca) ∧ sv = .int .u64 (b : Nat) ∧ b < 2 ^ F.op.length ∧ Own wr wb.heap.size (.slice (some ⟨gt, 0, none⟩) F.op.length ct) told ∧ Own wr wb.heap.size (.slice (some ⟨ga, 0, none⟩) F.op.length ca) att ∧ Hid (told.length = F.op.length) ∧ Hid (att.length = F.op.length) ∧ mv = .int .i64 many ∧ lzSt F worth K (lzAll F worth K) out (bitsL F.op.length b) told att many ∧ Kp wb wr) (fun ov _ mv _ => (K - sLen ov) * 200 + (100 - (intOf mv).toNat))
        case atStart => exact ⟨[], 0, _, _, _, ho, by simp, ap1, ap2, rfl, Nat.two_pow_pos _, htv, hav, l1, l2, rfl, hst', hkb⟩
        case round =>
          clear ho ap1 ap2 htv hav l1 l2 hst hst' hkb hkq
          obtain ⟨out, b, told, att, many, hown, hle, ap1, ap2, rfl, hb, htv, hav, l1, l2, rfl, hst, hkb⟩ := hrel
          obtain ⟨A9, c9, rfl⟩ := hown.shape
          have hb7 : b < 128 := Nat.lt_of_lt_of_le hb (Nat.pow_le_pow_right (n := 2) (by omega) h7n)
          have Hb := Lib.hid hb
          clear hb
          have Hst := Lib.hid hst
          obtain ⟨m0, m1⟩ := lzSt_many hst
          clear hst
          by_cases hlt : out.length < K
          · obtain ⟨wo, rfl⟩ : ∃ wo : World, wo = wr := ⟨_, rfl⟩
            clear q_d0 q_d1
            have q_d0 := hkb.get d0
            have q_d1 := hkb.get d1
            go_wp2_with fail
            go_loopw [15, 56] (fun bv iv wr => ∃ a : Nat, a ≤ F.op.length ∧ iv = .int .i64 a ∧ bv = .int .i64 (lzTo (bitsL F.op.length b) told a) ∧ Kp wo wr) (fun _ iv _ => F.op.length - (intOf iv).toNat)
            case atStart => exact ⟨0, by omega, rfl, rfl, Kp.refl _⟩
            case round =>
              obtain ⟨a, ha, rfl, rfl, hki⟩ := hrel
              replace hkb := hkb.trans hki
              by_cases hla : a < F.op.length
              · obtain ⟨t1, _, _⟩ := (htv.kp hki).slotL l1.out hla
                obtain ⟨zb1, zb2⟩ := lz_bd (bitsL F.op.length b) told a
                clear q_d0 q_d1
                have q_d0 := hkb.get d0
                have q_d1 := hkb.get d1
                go_wp2_with fail
                with_reducible refine Calls.mono (has_any b a _ (by omega) (by omega)) ?_
                rintro e w4 ⟨rfl, hw⟩
                obtain rfl := hw
                clear q_d0 q_d1
                have hbs := bits_any (b := b) hla
                cases hh : b.testBit a
                · rw [hh] at hbs
                  by_cases hneg : lzTo (bitsL F.op.length b) told a < 0
                  · have Hy := Lib.hid (lz_first hbs hneg)
                    clear hh t1 hbs
                    have q_d0 := hkb.get d0
                    have q_d1 := hkb.get d1
                    go_wp2_with fail
                    go_roundw
                    case rel => exact ⟨a + 1, by omega, by go_num, by rw [Hy.out], hki⟩
                    case measure => simp [intOf]; omega
                  · obtain ⟨t2, _, _⟩ := (htv.kp hki).slotL l1.out (show (lzTo (bitsL F.op.length b) told a).toNat < F.op.length by omega)
                    by_cases hgt : lget told (lzTo (bitsL F.op.length b) told a).toNat < lget told a
                    · have Hy := Lib.hid (lz_more hbs hgt)
                      clear hh hbs
                      have q_d0 := hkb.get d0
                      have q_d1 := hkb.get d1
                      go_wp2_with fail
                      go_roundw
                      case rel => exact ⟨a + 1, by omega, by go_num, by rw [Hy.out], hki⟩
                      case measure => simp [intOf]; omega
                    · have Hy := Lib.hid (lz_less hneg hgt)
                      clear hh hbs
                      have q_d0 := hkb.get d0
                      have q_d1 := hkb.get d1
                      go_wp2_with fail
                      go_roundw
                      case rel => exact ⟨a + 1, by omega, by go_num, by rw [Hy.out], hki⟩
                      case measure => simp [intOf]; omega
                · rw [hh] at hbs
                  have Hy := Lib.hid (lz_in (told := told) hbs)
                  clear hh hbs t1
                  have q_d0 := hkb.get d0
                  have q_d1 := hkb.get d1
                  go_wp2_with fail
                  go_roundw
                  case rel => exact ⟨a + 1, by omega, by go_num, by rw [Hy.out], hki⟩
                  case measure => simp [intOf]; omega
              · obtain rfl : a = F.op.length := by omega
                replace hown := hown.kp hki
                replace htv := htv.kp hki
                replace hav := hav.kp hki
                obtain ⟨zb1, zb2⟩ := lz_bd (bitsL F.op.length b) told F.op.length
                by_cases hneg : lzTo (bitsL F.op.length b) told F.op.length < 0
                · have hR := Lib.hid (lzSt_stop Hst.out (.inl hneg))
                  clear q_d0 q_d1
                  have q_d0 := hkb.get d0
                  have q_d1 := hkb.get d1
                  go_wp2_with fail
                  obtain ⟨v', e1, e2⟩ := lz_yes Hok.out (Int.toNat_natCast K) hR.out (hown.mono hkw.le)
                  go_ret3
                  exact ⟨v', e1, e2, hkw.trans hkb⟩
                · have hj : (lzTo (bitsL F.op.length b) told F.op.length).toNat < F.op.length := by omega
                  obtain ⟨t1, t1f, t1p⟩ := htv.slotL l1.out hj
                  obtain ⟨t2, t2f, t2p⟩ := hav.slotL l2.out hj
                  clear t1p t1f t2f t2p
                  by_cases hz : lget told (lzTo (bitsL F.op.length b) told F.op.length).toNat = 0
                  · have hR := Lib.hid (lzSt_stop Hst.out (.inr hz))
                    have hzb : (lget told (lzTo (bitsL F.op.length b) told F.op.length).toNat == 0) = true := by rw [beq_iff_eq]; exact hz
                    clear hz
                    clear q_d0 q_d1
                    have q_d0 := hkb.get d0
                    have q_d1 := hkb.get d1
                    go_wp2_with fail
                    obtain ⟨v', e1, e2⟩ := lz_yes Hok.out (Int.toNat_natCast K) hR.out (hown.mono hkw.le)
                    go_ret3
                    exact ⟨v', e1, e2, hkw.trans hkb⟩
                  · have hzb : (lget told (lzTo (bitsL F.op.length b) told F.op.length).toNat == 0) = false := by rw [beq_eq_false_iff_ne]; exact hz
                    by_cases hq : lget att (lzTo (bitsL F.op.length b) told F.op.length).toNat = (out.length : Int)
                    · have hqb : (lget att (lzTo (bitsL F.op.length b) told F.op.length).toNat == (out.length : Int)) = true := by rw [beq_iff_eq]; exact hq
                      have hst2 := lzSt_out Hst.out (by omega) l2.out (by rintro (h | h); exact hneg h; exact hz h) hq
                      replace hneg : 0 ≤ lzTo (bitsL F.op.length b) told F.op.length := by omega
                      obtain ⟨z, hz'⟩ := Int.eq_ofNat_of_zero_le hneg
                      have hzl : z < F.op.length := by omega
                      rw [hz', ← bits_put (b := b) hzl] at hst2
                      rw [hz'] at hzb hqb t1 t2 ⊢
                      rw [Int.toNat_natCast] at hzb hqb t1 t2
                      have Hst2 := Lib.hid hst2
                      have ho2 := Nat.or_lt_two_pow Hb.out (Nat.pow_lt_pow_right (by omega) hzl : 2 ^ z < 2 ^ F.op.length)
                      have ha7 : 2 ^ z < 2 ^ 7 := Nat.pow_lt_pow_right (by omega) (by omega)
                      have hsh := u64_one_shl (z : Int) (by omega) (by omega)
                      rw [Int.toNat_natCast] at hsh
                      have hor := u64_or_nat b (2 ^ z) (by omega) (by omega)
                      have HO2 := Lib.hid ho2
                      clear ho2 hz hq hst2 hz' hneg hj zb1 zb2
                      generalize 2 ^ z = pa at *
                      clear q_d0 q_d1
                      have q_d0 := hkb.get d0
                      have q_d1 := hkb.get d1
                      go_wp2_with fail
                      have tok1 : True := trivial
                      go_region_held3 (fun w' => Kp wb w')
                        (first | exact (by repeat (first | with_reducible assumption | with_reducible exact Kp.refl _ | with_reducible refine Kp.drew ?_ | with_reducible refine Kp.alloc ?_ _ | with_reducible refine Kp.drewN ?_ _ | refine Kp.setCell ?_ (by dsimp only; omega) _)) | fail)
                        (first
                          | (refine step_app_all (by rfl) (.tmp 114) (.tmp 116) (by rfl) wb.heap.size _ out [(z : Int)] (some ⟨wr.heap.size, 0, none⟩) 1 1 (by rfl) (by rfl) ((hown.kp ((Kp.refl _).alloc _)).drew) ((one_new _ _).kp (Kp.refl _).drew) rfl (Nat.le_trans hkb.le (by simp)) (by simp; omega) ?_; intro v' w' ho' ht' h4'; have hk4 : Kp wb w' := ((hown.kp ((Kp.refl _).alloc _)).drew).kp_turn (by repeat (first | with_reducible assumption | with_reducible exact Kp.refl _ | with_reducible refine Kp.drew ?_ | with_reducible refine Kp.alloc ?_ _ | with_reducible refine Kp.drewN ?_ _ | refine Kp.setCell ?_ (by dsimp only; omega) _)) (Nat.le_refl _) ht')
                          | fail)
                      obtain ⟨A7, c7, e7⟩ := ho'.shape
                      rw [show (out ++ [(z : Int)]).length = out.length + 1 from by simp] at e7
                      subst e7
                      have htv1 := (htv.kp ((Kp.refl _).alloc (.cells #[.int .i64 (z : Int)] 3))).kp (Kp.refl _).drew
                      have hav1 := (hav.kp ((Kp.refl _).alloc (.cells #[.int .i64 (z : Int)] 3))).kp (Kp.refl _).drew
                      have htv2 := htv1.apart_turn ap1 ht'
                      have hav2 := hav1.apart_turn ap2 ht'
                      have aq1 := ap1.grow htv1 h4'
                      have aq2 := ap2.grow hav1 h4'
                      go_wp2_with fail
                      go_roundw
                      case rel => exact ⟨_, b ||| pa, told, att, many, ho', by simp; omega, aq1, aq2, by go_num, HO2.out, htv2, hav2, l1, l2, rfl, Hst2.out, hk4⟩
                      case measure => simp [sLen]; omega
                    · have hqb : (lget att (lzTo (bitsL F.op.length b) told F.op.length).toNat == (out.length : Int)) = false := by rw [beq_eq_false_iff_ne]; exact hq
                      have hst2 := lzSt_set Hst.out (by omega) l2.out (by rintro (h | h); exact hneg h; exact hz h) hq
                      have hm100 := (lzSt_many hst2).2
                      replace hneg : 0 ≤ lzTo (bitsL F.op.length b) told F.op.length := by omega
                      obtain ⟨z, hz'⟩ := Int.eq_ofNat_of_zero_le hneg
                      have hzl : z < F.op.length := by omega
                      rw [hz', Int.toNat_natCast] at hst2
                      rw [hz'] at hzb hqb t1 t2 ⊢
                      rw [Int.toNat_natCast] at hzb hqb t1 t2
                      have Hst2 := Lib.hid hst2
                      clear hz hq hst2 hz' hneg hj zb1 zb2
                      clear q_d0 q_d1
                      have q_d0 := hkb.get d0
                      have q_d1 := hkb.get d1
                      go_wp2_with fail
                      have CC := Lib.hid (marginal_any _ F worth b z _ (hFA.kp hkb) HP.out.1 Hb.out hw0 hw1 hzl)
                      with_reducible refine Calls.mono CC.out ?_
                      rintro e w5 ⟨rfl, hk5⟩
                      clear CC q_d0 q_d1
                      replace hkb := hkb.trans hk5
                      replace hown := hown.kp hk5
                      replace htv := htv.kp hk5
                      replace hav := hav.kp hk5
                      clear t1 t2
                      obtain ⟨s1, s2, s3⟩ := htv.slotL l1.out hzl
                      obtain ⟨s4, s5⟩ := s3 (moreF F worth (bitsL F.op.length b) z)
                      have hav2 := hav.not_block hat.symm s5
                      obtain ⟨s6, s7, s8⟩ := hav2.slotL l2.out hzl
                      obtain ⟨s9, s10⟩ := s8 (out.length : Int)
                      have HT := Lib.hid (s4.not_block hat s10)
                      have HA := Lib.hid s9
                      have HO := Lib.hid ((hown.not_block ap1 s5).not_block ap2 s10)
                      have HK := Lib.hid ((hkb.setCell (p := ⟨gt, z, none⟩) (htv.lt gt rfl).1 (.int .i64 (moreF F worth (bitsL F.op.length b) z))).setCell (p := ⟨ga, z, none⟩) (hav.lt ga rfl).1 (.int .i64 (out.length : Int)))
                      clear s3 s4 s5 s8 s9 s10 hav2
                      have hd0 := HK.out.get d0
                      have hd1 := HK.out.get d1
                      have q_d0 := hkb.get d0
                      have q_d1 := hkb.get d1
                      go_wp2_with fail
                      go_roundw
                      case rel =>
                        refine ⟨out, b, _, _, many + 1, HO.out, hle, ap1, ap2, rfl, Hb.out, HT.out, HA.out, ?_, ?_, by go_num, Hst2.out, HK.out⟩
                        · show (List.set _ _ _).length = _
                          rw [List.length_set]; exact l1.out
                        · show (List.set _ _ _).length = _
                          rw [List.length_set]; exact l2.out
                      case measure => simp [sLen, intOf]; omega
          · have hR := Lib.hid (lzSt_done Hst.out (by omega))
            clear q_d0 q_d1
            have q_d0 := hkb.get d0
            have q_d1 := hkb.get d1
            go_wp2_with fail
            obtain ⟨v', e1, e2⟩ := lz_yes Hok.out (Int.toNat_natCast K) hR.out (hown.mono hkw.le)
            go_ret3
            exact ⟨v', e1, e2, hkw.trans hkb⟩
end Go.Proofs.YtgfbjgdofhcmaaaGreat
