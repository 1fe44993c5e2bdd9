/- LazyGain: the reference's walk. No condition. -/
import Derived.Test.YtgfbjgdofhcmaaaGreatQAd
import Derived.Test.YtgfbjgdofhcmaaaGreatQAf
import Derived.Test.YtgfbjgdofhcmaaaGreatQAe
import Derived.Deep.DeepCutAuto
namespace Go.Proofs.YtgfbjgdofhcmaaaGreat
open Go.RowKit Go.Sort

theorem Apart.symm {v u : Value} (h : Apart v u) : Apart u v := fun g hu hv => h g hv hu
theorem two_new (w : World) (base : Nat) (hb : base ≤ w.heap.size) :
    Own ((w.alloc (.cells #[] 3)).alloc (.cells #[] 3)).drew base (.slice (some ⟨w.heap.size, 0, none⟩) 0 0) [] ∧
    Own ((w.alloc (.cells #[] 3)).alloc (.cells #[] 3)).drew base (.slice (some ⟨w.heap.size + 1, 0, none⟩) 0 0) [] := by
  refine ⟨((own_new0 w base hb).kp ((Kp.refl _).alloc _)).drew, Own.drew ?_⟩
  have := own_new0 (w.alloc (.cells #[] 3)) base (by simp; omega)
  simpa using this
def lzOk (F : Fld) (worth k : Int) : Bool := grdOk F worth k
def lzL (F : Fld) (worth k : Int) : List Int := if grdOk F worth k = true then (lzAll F worth k.toNat).1 else []
def lzM (F : Fld) (worth k : Int) : Int := if grdOk F worth k = true then (lzAll F worth k.toNat).2 else 0
theorem lzL_len (F : Fld) (worth k : Int) : (lzL F worth k).length ≤ 1048576 := by
  unfold lzL
  by_cases h : grdOk F worth k = true
  · rw [if_pos h]
    have h1 := lzRun_len (F := F) (worth := worth) (K := k.toNat) (k.toNat * (F.op.length + 1)) [] [] (lzTold F worth) (List.replicate F.op.length 0) F.op.length (by simp)
    have h2 := (grdOk_parts h).2.2
    unfold lzAll; omega
  · rw [if_neg h]; simp
theorem lz_no {F : Fld} {worth k : Int} {w : World} {v : Value} {base : Nat} (h : grdOk F worth k = false) (ho : Own w base v []) : ∃ v', Ending.returned (.tuple #[v, .int .i64 0, .bool false]) = .returned (.tuple #[v', .int .i64 (lzM F worth k), .bool (lzOk F worth k)]) ∧ Own w base v' (lzL F worth k) := by
  refine ⟨v, ?_, ?_⟩
  · simp [lzM, lzOk, h]
  · simpa [lzL, h] using ho
theorem lz_yes {F : Fld} {worth k : Int} {K : Nat} {w : World} {v : Value} {base : Nat} {out : List Int} {many : Int} (h : grdOk F worth k = true) (hk : k.toNat = K) (hR : lzAll F worth K = (out, many)) (ho : Own w base v out) : ∃ v', Ending.returned (.tuple #[v, .int .i64 many, .bool true]) = .returned (.tuple #[v', .int .i64 (lzM F worth k), .bool (lzOk F worth k)]) ∧ Own w base v' (lzL F worth k) := by
  refine ⟨v, ?_, ?_⟩
  · simp [lzM, lzOk, h, hk, hR]
  · simpa [lzL, h, hk, hR] using ho
set_option maxRecDepth 100000 in
set_option maxHeartbeats 2000000 in
theorem specLazy_any (f : Value) (F : Fld) (worth k : Int) (w : World) (hf : FldAt w f F) :
    Calls Tryz.prog 10 #[f, .int .i64 worth, .int .i64 k] w fun e w' => ∃ v, e = .returned (.tuple #[v, .int .i64 (lzM F worth k), .bool (lzOk F worth k)]) ∧ Own w' w.heap.size v (lzL F worth k) ∧ Kp w w' := by
  obtain ⟨A, c, B, d, rfl, hA, hB⟩ := hf
  have hk0 : Kp w (w.alloc (.cells #[.slice A F.op.length c, .slice B F.di.length d] 27)) := (Kp.refl w).alloc _
  obtain ⟨d0, d1⟩ := box2 w (.slice A F.op.length c) (.slice B F.di.length d) 27
  have hFA := FldAt.kp (show FldAt w (.agg #[.slice A F.op.length c, .slice B F.di.length d]) F from ⟨A, c, B, d, rfl, hA, hB⟩) hk0
  clear hA hB
  go_enter Tryz.func10, Tryz.ntmps10
  go_wp2_with fail
  have hsz : Hid ((w.alloc (.cells #[.slice A F.op.length c, .slice B F.di.length d] 27)).heap.size = w.heap.size + 1) := by show _ = _; simp
  generalize w.alloc (.cells #[.slice A F.op.length c, .slice B F.di.length d] 27) = wb at *
  have hkb : Kp wb wb := Kp.refl _
  have hkw := hk0
  have ho : Own ((wb.alloc (.cells #[] 3)).alloc (.cells #[] 3)) wb.heap.size (.slice (some ⟨w.heap.size + 1, 0, none⟩) 0 0) [] := by
    rw [← hsz.out]; exact (own_new0 wb wb.heap.size (Nat.le_refl _)).kp ((Kp.refl _).alloc _)
  have hs : Own ((wb.alloc (.cells #[] 3)).alloc (.cells #[] 3)) wb.heap.size (.slice (some ⟨w.heap.size + 1 + 1, 0, none⟩) 0 0) [] := by
    rw [← hsz.out]; exact own_new2 wb
  have hap : Apart (.slice (some ⟨w.heap.size + 1, 0, none⟩) 0 0) (.slice (some ⟨w.heap.size + 1 + 1, 0, none⟩) 0 0) := by
    rw [← hsz.out]; exact apart_new wb 0 0 0 0
  replace hkb : Kp wb ((wb.alloc (.cells #[] 3)).alloc (.cells #[] 3)) := ((Kp.refl _).alloc _).alloc _
  have CC := Lib.hid (l8Good_any _ F worth _ (hFA.kp hkb))
  with_reducible refine Calls.mono CC.out ?_
  rintro e w1 ⟨rfl, hk1⟩
  clear CC
  replace hkb := hkb.trans hk1
  replace ho := ho.kp hk1
  replace hs := hs.kp hk1
  cases hg_ : (goodF F && worthB worth)
  · have Hno : Hid (grdOk F worth k = false) := by show grdOk F worth k = false; rw [grdOk, hg_]; rfl
    clear hg_
    have q_d0 := hkb.get d0
    have q_d1 := hkb.get d1
    go_wp2_with fail
    obtain ⟨v', e1, e2⟩ := lz_no Hno.out (ho.mono hkw.le)
    go_ret3
    exact ⟨v', e1, e2, hkw.trans hkb⟩
  have Hg := Lib.hid hg_; clear hg_
  have q_d0 := hkb.get d0
  have q_d1 := hkb.get d1
  go_wp2_with fail
  with_reducible refine Calls.mono (l8K_any k _) ?_
  rintro e w2 ⟨rfl, hw⟩
  obtain rfl := hw
  clear q_d0 q_d1
  cases hg_ : inB k 0 7
  · have Hno : Hid (grdOk F worth k = false) := by show grdOk F worth k = false; rw [grdOk, Hg.out, hg_]; rfl
    clear hg_
    have q_d0 := hkb.get d0
    have q_d1 := hkb.get d1
    go_wp2_with fail
    obtain ⟨v', e1, e2⟩ := lz_no Hno.out (ho.mono hkw.le)
    go_ret3
    exact ⟨v', e1, e2, hkw.trans hkb⟩
  have Hok : Hid (grdOk F worth k = true) := by show grdOk F worth k = true; rw [grdOk, Hg.out, hg_]; rfl
  clear hg_ Hg
  have HP := Lib.hid (grdOk_parts Hok.out)
  have hk0' := HP.out.2.2.1
  have hk7 := HP.out.2.2.2
  have hw0 := HP.out.2.1.1
  have hw1 := HP.out.2.1.2
  have h7 := (goodF_iff.1 HP.out.1).1
  obtain ⟨h1n, h7n⟩ := h7
  obtain ⟨K, rfl⟩ := Int.eq_ofNat_of_zero_le hk0'
  have hK7 : K ≤ 7 := by omega
  have q_d0 := hkb.get d0
  have q_d1 := hkb.get d1
  go_wp2_with fail
  go_cut [11, 12, 13] (fun tv av mv wc => ∃ tv0 av0, tv = tv0 ∧ av = av0 ∧ mv = .int .i64 (F.op.length : Int) ∧ Own wc w1.heap.size tv0 [] ∧ Own wc w1.heap.size av0 [] ∧ Apart tv0 av0 ∧ Kp w1 wc)
  case first =>
    have hkr : Kp w1 w1 := Kp.refl _
    obtain ⟨ht1, ht2⟩ := two_new w1 w1.heap.size (Nat.le_refl _)
    have hap2 := apart_new w1 0 0 0 0
    go_region_held3 (fun w' => w'.cell? ⟨w.heap.size, 0, none⟩ = some (.slice A F.op.length c) ∧ w'.cell? ⟨w.heap.size, 1, none⟩ = some (.slice B F.di.length d) ∧ Kp w1 w')
      (first | (refine keepc2 q_d0 q_d1 ?_; exact (by repeat (first | with_reducible assumption | with_reducible exact Kp.refl _ | with_reducible refine Kp.drew ?_ | with_reducible refine Kp.alloc ?_ _ | with_reducible refine Kp.drewN ?_ _ | refine Kp.setCell ?_ (by dsimp only; omega) _))) | fail)
      (fail)
    all_goals
      go_wp2_with fail
      go_meet
    · exact ⟨_, _, rfl, rfl, rfl, ht1, ht2, hap2, ((hkr.alloc _).alloc _).drew⟩
    · exact ⟨_, _, rfl, rfl, rfl, ht2, ht1, hap2.symm, ((hkr.alloc _).alloc _).drew⟩
  case rest =>
    obtain ⟨tv0, av0, rfl, rfl, rfl, htv, hav, hat, hkq⟩ := hcut
    have hb1 := hkb
    have e0 := hkb.get d0
    have e1 := hkb.get d1
    have hF1 := hFA.kp hkb
    clear q_d0 q_d1
    have q_e0 := hkq.get e0
    have q_e1 := hkq.get e1
    go_wp2_with fail
    go_loopw [11, 12, 14] (fun tv av iv wr => ∃ a : Nat, a ≤ F.op.length ∧ iv = .int .i64 a ∧ Own wr w1.heap.size tv (mapTo (fun a => moreF F worth [] (a : Int)) a) ∧ Own wr w1.heap.size av (List.replicate a 0) ∧ Apart tv av ∧ Kp w1 wr) (fun _ _ iv _ => F.op.length - (intOf iv).toNat)
    case atStart => exact ⟨0, by omega, rfl, htv, hav, hat, hkq⟩
    case round =>
      clear htv hav hat hkq
      obtain ⟨a, ha, rfl, htv, hav, hat, hkq⟩ := hrel
      obtain ⟨A5, c5, rfl⟩ := htv.shape
      obtain ⟨A6, c6, e6⟩ := hav.shape
      rw [List.length_replicate] at e6
      subst e6
      by_cases hla : a < F.op.length
      · have Hm5 := Lib.hid (mapTo_len (fun a => moreF F worth [] (a : Int)) a)
        have hl5 : (mapTo (fun a => moreF F worth [] (a : Int)) a).length < 1048576 := by rw [Hm5.out]; omega
        have hl6 : (List.replicate a (0 : Int)).length < 1048576 := by simp; omega
        clear q_e0 q_e1
        have q_e0 := hkq.get e0
        have q_e1 := hkq.get e1
        go_wp2_with fail
        with_reducible refine Calls.mono (l8More_any _ F worth _ [] 0 0 (a : Int) _ (hF1.kp hkq) (IntsAt.nil _ _) rfl (Nat.le_refl _) HP.out.1 rfl hw0 hw1 (by omega) (by omega)) ?_
        rintro e w3 ⟨rfl, hk3⟩
        clear q_e0 q_e1
        replace hkq := hkq.trans hk3
        replace htv := htv.kp hk3
        replace hav := hav.kp hk3
        have q_e0 := hkq.get e0
        have q_e1 := hkq.get e1
        go_wp2_with (at_builtin; first | (refine wpl_app rfl (.tmp 41) (.tmp 47) rfl (w1.heap.size) _ (mapTo (fun a => moreF F worth [] (a : Int)) a) (moreF F worth [] (a : Int)) rfl rfl htv hkq.le (by omega) ?_; intro v' w' ho' ht' h4'; have hkb' := htv.kp_turn hkq (Nat.le_refl _) ht'; have r_e0 := hkb'.get e0; have r_e1 := hkb'.get e1; have ho5 := ho'; have hav2 := hav.apart_turn hat ht'; have hat2 := hat.grow hav h4'; have hkq2 := hkb') | (refine wpl_app rfl (.tmp 49) (.tmp 50) rfl (w1.heap.size) _ (List.replicate a 0) (0) rfl rfl hav2 hkq2.le (by omega) ?_; intro v' w' ho' ht' h4'; have hkb' := hav2.kp_turn hkq2 (Nat.le_refl _) ht'; clear r_e0 r_e1; have r_e0 := hkb'.get e0; have r_e1 := hkb'.get e1) | fail)
        have htv2 := ho5.apart_turn hat2.symm ht'
        have hat3 := (hat2.symm.grow ho5 h4').symm
        go_roundw
        case rel => exact ⟨a + 1, by omega, by go_num, by rw [mapTo_succ]; exact htv2, by rw [List.replicate_succ']; exact ho', hat3, hkb'⟩
        case measure => simp [intOf]; omega
      · obtain rfl : a = F.op.length := by omega
        obtain ⟨gt, ct, hv5⟩ := htv.at0 (mapTo_len _ _) h1n
        obtain ⟨ga, ca, hv6⟩ := hav.at0 (by simp) h1n
        rw [hv5] at htv hat ⊢
        rw [hv6] at hav hat ⊢
        clear hv5 hv6 A5 A6 c5 c6
        have ap1 := Apart.fresh ho htv (Nat.le_refl _)
        have ap2 := Apart.fresh ho hav (Nat.le_refl _)
        have ap3 := Apart.fresh hs htv (Nat.le_refl _)
        have ap4 := Apart.fresh hs hav (Nat.le_refl _)
        replace ho := ho.kp hkq
        replace hs := hs.kp hkq
        replace htv := htv.mono hb1.le
        replace hav := hav.mono hb1.le
        have hkb := hb1.trans hkq
        have hst := lzSt_first (F := F) (worth := worth) h7n hK7
        have l1 : Hid ((lzTold F worth).length = F.op.length) := mapTo_len _ _
        have l2 : Hid ((List.replicate F.op.length (0 : Int)).length = F.op.length) := by show _ = _; simp
        clear q_e0 q_e1
        have q_d0 := hkb.get d0
        have q_d1 := hkb.get d1
        go_wp2_with fail
        go_loopw [9, 10, 13] (fun ov sv mv wr => ∃ out S told att many, Own wr wb.heap.size ov out ∧ out.length ≤ K ∧ Own wr wb.heap.size sv S ∧ Apart ov sv ∧ Apart ov (.slice (some ⟨gt, 0, none⟩) F.op.length ct) ∧ Apart ov (.slice (some ⟨ga, 0, none⟩) F.op.length ca) ∧ Apart sv (.slice (some ⟨gt, 0, none⟩) F.op.length ct) ∧ Apart sv (.slice (some ⟨ga, 0, none⟩) F.op.length ca) ∧ setB F S = true ∧ Hid (S.length = out.length) ∧ Own wr wb.heap.size (.slice (some ⟨gt, 0, none⟩) F.op.length ct) told ∧ Own wr wb.heap.size (.slice (some ⟨ga, 0, none⟩) F.op.length ca) att ∧ Hid (told.length = F.op.length) ∧ Hid (att.length = F.op.length) ∧ mv = .int .i64 many ∧ lzSt F worth K (lzAll F worth K) out S told att many ∧ Kp wb wr) (fun ov _ mv _ => (K - sLen ov) * 200 + (100 - (intOf mv).toNat))
        case atStart => exact ⟨[], [], _, _, _, ho, by simp, hs, hap, ap1, ap2, ap3, ap4, rfl, rfl, htv, hav, l1, l2, rfl, hst, hkb⟩
        case round =>
          clear ho hs hap ap1 ap2 ap3 ap4 htv hav l1 l2 hst hkb hkq
          obtain ⟨out, S, told, att, many, hown, hle, hset, hap, ap1, ap2, ap3, ap4, hs, Hlen, htv, hav, l1, l2, rfl, hst, hkb⟩ := hrel
          obtain ⟨A9, c9, rfl⟩ := hown.shape
          obtain ⟨A8, c8, hv8, hS⟩ := hset.ints (by rw [Hlen.out]; omega)
          have hc8 := hset.cap hv8
          subst hv8
          have Hs := Lib.hid hs
          clear hs
          have Hst := Lib.hid hst
          obtain ⟨m0, m1⟩ := lzSt_many hst
          clear hst
          by_cases hlt : out.length < K
          · obtain ⟨wo, rfl⟩ : ∃ wo : World, wo = wr := ⟨_, rfl⟩
            clear q_d0 q_d1
            have q_d0 := hkb.get d0
            have q_d1 := hkb.get d1
            go_wp2_with fail
            go_loopw [15, 16] (fun bv iv wr => ∃ a : Nat, a ≤ F.op.length ∧ iv = .int .i64 a ∧ bv = .int .i64 (lzTo S told a) ∧ Kp wo wr) (fun _ iv _ => F.op.length - (intOf iv).toNat)
            case atStart => exact ⟨0, by omega, rfl, rfl, Kp.refl _⟩
            case round =>
              obtain ⟨a, ha, rfl, rfl, hki⟩ := hrel
              replace hkb := hkb.trans hki
              by_cases hla : a < F.op.length
              · obtain ⟨t1, _, _⟩ := (htv.kp hki).slotL l1.out hla
                obtain ⟨zb1, zb2⟩ := lz_bd S told a
                cases hh : (S.any fun x => x == (a : Int))
                · have CH : Hid (∀ wx, Kp wo wx → Calls Tryz.prog 32 #[.slice A8 S.length c8, .int .i64 (a : Int)] wx fun e w' => e = .returned (.bool false) ∧ wx = w') := fun wx hx => (l1Has_any A8 S S.length c8 (a : Int) wx (hS.kp hx) rfl).mono fun e w' ⟨he, hw⟩ => ⟨by rw [he, hh], hw⟩
                  by_cases hneg : lzTo S told a < 0
                  · have Hy := Lib.hid (lz_first hh hneg)
                    have hdb : decide (lzTo S told a < 0) = true := by simpa using hneg
                    clear hh t1
                    clear q_d0 q_d1
                    have q_d0 := hkb.get d0
                    have q_d1 := hkb.get d1
                    go_wp2_with fail
                    go_quiet ((go_at_call 32; exact Calls.same_quiet (CH.out _ (by repeat (first | with_reducible assumption | with_reducible exact Kp.refl _ | with_reducible refine Kp.drew ?_ | with_reducible refine Kp.alloc ?_ _ | with_reducible refine Kp.drewN ?_ _ | refine Kp.setCell ?_ (by dsimp only; omega) _)))))
                    go_wp2_with fail
                    go_roundw
                    case rel => exact ⟨a + 1, by omega, by go_num, by rw [Hy.out], hki.drewN nq⟩
                    case measure => simp [intOf]; omega
                  · have hdb : decide (lzTo S told a < 0) = false := by simpa using hneg
                    obtain ⟨t2, _, _⟩ := (htv.kp hki).slotL l1.out (show (lzTo S told a).toNat < F.op.length by omega)
                    by_cases hgt : lget told (lzTo S told a).toNat < lget told a
                    · have Hy := Lib.hid (lz_more hh hgt)
                      clear hh
                      clear q_d0 q_d1
                      have q_d0 := hkb.get d0
                      have q_d1 := hkb.get d1
                      go_wp2_with fail
                      go_quiet ((go_at_call 32; exact Calls.same_quiet (CH.out _ (by repeat (first | with_reducible assumption | with_reducible exact Kp.refl _ | with_reducible refine Kp.drew ?_ | with_reducible refine Kp.alloc ?_ _ | with_reducible refine Kp.drewN ?_ _ | refine Kp.setCell ?_ (by dsimp only; omega) _)))))
                      go_wp2_with fail
                      go_roundw
                      case rel => exact ⟨a + 1, by omega, by go_num, by rw [Hy.out], hki.drewN nq⟩
                      case measure => simp [intOf]; omega
                    · have Hy := Lib.hid (lz_less hneg hgt)
                      clear hh
                      clear q_d0 q_d1
                      have q_d0 := hkb.get d0
                      have q_d1 := hkb.get d1
                      go_wp2_with fail
                      go_quiet ((go_at_call 32; exact Calls.same_quiet (CH.out _ (by repeat (first | with_reducible assumption | with_reducible exact Kp.refl _ | with_reducible refine Kp.drew ?_ | with_reducible refine Kp.alloc ?_ _ | with_reducible refine Kp.drewN ?_ _ | refine Kp.setCell ?_ (by dsimp only; omega) _)))))
                      go_wp2_with fail
                      go_roundw
                      case rel => exact ⟨a + 1, by omega, by go_num, by rw [Hy.out], hki.drewN nq⟩
                      case measure => simp [intOf]; omega
                · have CH : Hid (∀ wx, Kp wo wx → Calls Tryz.prog 32 #[.slice A8 S.length c8, .int .i64 (a : Int)] wx fun e w' => e = .returned (.bool true) ∧ wx = w') := fun wx hx => (l1Has_any A8 S S.length c8 (a : Int) wx (hS.kp hx) rfl).mono fun e w' ⟨he, hw⟩ => ⟨by rw [he, hh], hw⟩
                  have Hy := Lib.hid (lz_in (told := told) hh)
                  clear hh t1
                  clear q_d0 q_d1
                  have q_d0 := hkb.get d0
                  have q_d1 := hkb.get d1
                  go_wp2_with fail
                  go_quiet ((go_at_call 32; exact Calls.same_quiet (CH.out _ (by repeat (first | with_reducible assumption | with_reducible exact Kp.refl _ | with_reducible refine Kp.drew ?_ | with_reducible refine Kp.alloc ?_ _ | with_reducible refine Kp.drewN ?_ _ | refine Kp.setCell ?_ (by dsimp only; omega) _)))))
                  go_wp2_with fail
                  go_roundw
                  case rel => exact ⟨a + 1, by omega, by go_num, by rw [Hy.out], hki.drewN nq⟩
                  case measure => simp [intOf]; omega
              · obtain rfl : a = F.op.length := by omega
                replace hown := hown.kp hki
                replace hset := hset.kp hki
                replace hS := hS.kp hki
                replace htv := htv.kp hki
                replace hav := hav.kp hki
                obtain ⟨zb1, zb2⟩ := lz_bd S told F.op.length
                by_cases hneg : lzTo S told F.op.length < 0
                · have hR := Lib.hid (lzSt_stop Hst.out (.inl hneg))
                  clear q_d0 q_d1
                  have q_d0 := hkb.get d0
                  have q_d1 := hkb.get d1
                  go_wp2_with fail
                  obtain ⟨v', e1, e2⟩ := lz_yes Hok.out (Int.toNat_natCast K) hR.out (hown.mono hkw.le)
                  go_ret3
                  exact ⟨v', e1, e2, hkw.trans hkb⟩
                · have hj : (lzTo S told F.op.length).toNat < F.op.length := by omega
                  obtain ⟨t1, t1f, t1p⟩ := htv.slotL l1.out hj
                  obtain ⟨t2, t2f, t2p⟩ := hav.slotL l2.out hj
                  clear t1p t1f t2f t2p
                  by_cases hz : lget told (lzTo S told F.op.length).toNat = 0
                  · have hR := Lib.hid (lzSt_stop Hst.out (.inr hz))
                    have hzb : (lget told (lzTo S told F.op.length).toNat == 0) = true := by rw [beq_iff_eq]; exact hz
                    clear hz
                    clear q_d0 q_d1
                    have q_d0 := hkb.get d0
                    have q_d1 := hkb.get d1
                    go_wp2_with fail
                    obtain ⟨v', e1, e2⟩ := lz_yes Hok.out (Int.toNat_natCast K) hR.out (hown.mono hkw.le)
                    go_ret3
                    exact ⟨v', e1, e2, hkw.trans hkb⟩
                  · have hzb : (lget told (lzTo S told F.op.length).toNat == 0) = false := by rw [beq_eq_false_iff_ne]; exact hz
                    have HN := Lib.hid (lz_new S told F.op.length hneg)
                    by_cases hq : lget att (lzTo S told F.op.length).toNat = (out.length : Int)
                    · have hqb : (lget att (lzTo S told F.op.length).toNat == (out.length : Int)) = true := by rw [beq_iff_eq]; exact hq
                      have Hst2 := Lib.hid (lzSt_out Hst.out (by omega) l2.out (by rintro (h | h); exact hneg h; exact hz h) hq)
                      replace hneg : 0 ≤ lzTo S told F.op.length := by omega
                      clear hz hq
                      clear q_d0 q_d1
                      have q_d0 := hkb.get d0
                      have q_d1 := hkb.get d1
                      go_wp2_with (at_builtin; go_loud (refine wpl_app rfl (.tmp 101) (.tmp 103) rfl (wb.heap.size) _ (out) (lzTo S told F.op.length) rfl rfl hown hkb.le (by omega) ?_; intro v' w' ho' ht' h4'; have hkb' := hown.kp_turn hkb (Nat.le_refl _) ht'; have r_d0 := hkb'.get d0; have r_d1 := hkb'.get d1))
                      have ho9 := ho'
                      have hset2 := hset.apart_turn hap ht'
                      have htv2 := htv.apart_turn ap1 ht'
                      have hav2 := hav.apart_turn ap2 ht'
                      have aq1 := ap1.grow htv h4'
                      have aq2 := ap2.grow hav h4'
                      have hS2 := hset2.intsOf (by rw [Hlen.out]; omega)
                      have hbl := hkb'.le
                      replace hkb := hkb'
                      have htv1 := htv2
                      have hav1 := hav2
                      have CC := Lib.hid (l1Put_new A8 S S.length c8 (lzTo S told F.op.length) _ hS2 rfl (ris_iff.1 Hs.out).1 hc8 (by rw [Hlen.out]; omega) HN.out)
                      with_reducible refine Calls.mono CC.out ?_
                      rintro e w4 ⟨v8, rfl, ho8, hk4⟩
                      clear CC q_d0 q_d1 r_d0 r_d1
                      replace hkb := hkb.trans hk4
                      replace ho' := ho'.kp hk4
                      replace htv2 := htv2.kp hk4
                      replace hav2 := hav2.kp hk4
                      have hap3 := Apart.fresh ho9 ho8 (Nat.le_refl _)
                      have aq3 := (Apart.fresh htv1 ho8 (Nat.le_refl _)).symm
                      have aq4 := (Apart.fresh hav1 ho8 (Nat.le_refl _)).symm
                      obtain ⟨A7, c7, e7⟩ := ho'.shape
                      rw [show (out ++ [lzTo S told F.op.length]).length = out.length + 1 from by simp] at e7
                      subst e7
                      have q_d0 := hkb.get d0
                      have q_d1 := hkb.get d1
                      go_wp2_with fail
                      go_roundw
                      case rel =>
                        refine ⟨_, _, told, att, many, ho', by simp; omega, ho8.mono hbl, hap3, aq1, aq2, aq3, aq4, setB_put Hs.out hneg zb2, ?_, htv2, hav2, l1, l2, rfl, Hst2.out, hkb⟩
                        show (putL S (lzTo S told F.op.length)).length = (out ++ [lzTo S told F.op.length]).length
                        rw [putL_new HN.out, Hlen.out]; simp
                      case measure => simp [sLen]; omega
                    · have hqb : (lget att (lzTo S told F.op.length).toNat == (out.length : Int)) = false := by rw [beq_eq_false_iff_ne]; exact hq
                      have Hst2 := Lib.hid (lzSt_set Hst.out (by omega) l2.out (by rintro (h | h); exact hneg h; exact hz h) hq)
                      have hm100 := (lzSt_many Hst2.out).2
                      replace hneg : 0 ≤ lzTo S told F.op.length := by omega
                      clear hz hq
                      clear q_d0 q_d1
                      have q_d0 := hkb.get d0
                      have q_d1 := hkb.get d1
                      go_wp2_with fail
                      have CC := Lib.hid (l8More_any _ F worth A8 S S.length c8 (lzTo S told F.op.length) _ (hFA.kp hkb) hS rfl hc8 HP.out.1 Hs.out hw0 hw1 hneg zb2)
                      with_reducible refine Calls.mono CC.out ?_
                      rintro e w5 ⟨rfl, hk5⟩
                      clear CC q_d0 q_d1
                      replace hkb := hkb.trans hk5
                      replace hown := hown.kp hk5
                      replace hset := hset.kp hk5
                      replace htv := htv.kp hk5
                      replace hav := hav.kp hk5
                      clear t1 t2
                      obtain ⟨s1, s2, s3⟩ := htv.slotL l1.out hj
                      obtain ⟨s4, s5⟩ := s3 (moreF F worth S (lzTo S told F.op.length))
                      have hav2 := hav.not_block hat.symm s5
                      obtain ⟨s6, s7, s8⟩ := hav2.slotL l2.out hj
                      obtain ⟨s9, s10⟩ := s8 (out.length : Int)
                      have HT := Lib.hid (s4.not_block hat s10)
                      have HA := Lib.hid s9
                      have HO := Lib.hid ((hown.not_block ap1 s5).not_block ap2 s10)
                      have HS2 := Lib.hid ((hset.not_block ap3 s5).not_block ap4 s10)
                      have HK := Lib.hid ((hkb.setCell (p := ⟨gt, (lzTo S told F.op.length).toNat, none⟩) (htv.lt gt rfl).1 (.int .i64 (moreF F worth S (lzTo S told F.op.length)))).setCell (p := ⟨ga, (lzTo S told F.op.length).toNat, none⟩) (hav.lt ga rfl).1 (.int .i64 (out.length : Int)))
                      clear s3 s4 s5 s8 s9 s10 hav2
                      have hd0 := HK.out.get d0
                      have hd1 := HK.out.get d1
                      have q_d0 := hkb.get d0
                      have q_d1 := hkb.get d1
                      go_wp2_with fail
                      go_roundw
                      case rel =>
                        refine ⟨out, S, _, _, many + 1, HO.out, hle, HS2.out, hap, ap1, ap2, ap3, ap4, Hs.out, Hlen, HT.out, HA.out, ?_, ?_, by go_num, Hst2.out, HK.out⟩
                        · show (List.set _ _ _).length = _
                          rw [List.length_set]; exact l1.out
                        · show (List.set _ _ _).length = _
                          rw [List.length_set]; exact l2.out
                      case measure => simp [sLen, intOf]; omega
          · have hR := Lib.hid (lzSt_done Hst.out (by omega))
            clear q_d0 q_d1
            have q_d0 := hkb.get d0
            have q_d1 := hkb.get d1
            go_wp2_with fail
            obtain ⟨v', e1, e2⟩ := lz_yes Hok.out (Int.toNat_natCast K) hR.out (hown.mono hkw.le)
            go_ret3
            exact ⟨v', e1, e2, hkw.trans hkb⟩
end Go.Proofs.YtgfbjgdofhcmaaaGreat
