/- Openings as the clients come: the reference's walk. No condition. -/
import Derived.Test.YtghpkjllcapbpaaOnl2
import Derived.Test.YtghpkjllcapbpaaSlot
namespace Go.Proofs.Ytghpkjllcapbpaa
open Go.RowKit Go.Sort

theorem onC_nil {F : Fld} {i m1 : Nat} (hm : m1 = i + 1) : wRun F m1 F.op.length [(firstF F i : Int)] [(firstF F i : Int)] = onC F i [] := by subst hm; rfl
theorem onC_cons {F : Fld} {i m1 : Nat} {S : List Int} (hm : m1 = i + 1) (h : S ≠ []) : wRun F m1 F.op.length [] S = onC F i S := by subst hm; exact (if_neg h).symm
theorem putL_ne (S : List Int) (z : Int) : putL S z ≠ [] := fun e => by
  have := (mem_putL (S := S) (a := z) (x := z)).2 (.inr rfl)
  rw [e] at this; cases this
theorem onS_succ (F : Fld) (i : Nat) : onS F (i + 1) = ((onS F i).1 ++ [(onC F i (onS F i).2).1], (onC F i (onS F i).2).2) := rfl
set_option maxRecDepth 100000 in
set_option maxHeartbeats 4000000 in
theorem l10Online_any (f : Value) (F : Fld) (w : World) (hf : FldAt w f F) (hg : goodF F = true) :
    Calls Try.prog 68 #[f] w fun e w' => ∃ v, e = .returned (.tuple #[v, .int .i64 (onL F F.di.length + payF F (onS F F.di.length).2)]) ∧ GOwn w' (some w.heap.size) w.heap.size v (onS F F.di.length).1 ∧ Kp w w' := by
  have h7n := (goodF_iff.1 hg).1.2
  have h7d := (goodF_iff.1 hg).2.2.1
  obtain ⟨A, c, B, d, rfl, hA, hB⟩ := hf
  have hk0 : Kp w (w.alloc (.cells #[.slice A F.op.length c, .slice B F.di.length d] 54)) := (Kp.refl w).alloc _
  obtain ⟨d0, d1⟩ := box2 w (.slice A F.op.length c) (.slice B F.di.length d) 54
  have hFA := FldAt.kp (show FldAt w (.agg #[.slice A F.op.length c, .slice B F.di.length d]) F from ⟨A, c, B, d, rfl, hA, hB⟩) hk0
  have HG := Lib.hid hg
  clear hA hB hg
  go_enter Try.func68, Try.ntmps68
  go_wp2_with fail
  have hsz : Hid ((w.alloc (.cells #[.slice A F.op.length c, .slice B F.di.length d] 54)).heap.size = w.heap.size + 1) := by show _ = _; simp
  generalize w.alloc (.cells #[.slice A F.op.length c, .slice B F.di.length d] 54) = wb at *
  have hkb : Kp wb wb := Kp.refl _
  have hkw := hk0
  have hs1 : w.heap.size + 1 ≤ wb.heap.size := by rw [hsz.out]; exact Nat.le_refl _
  have hs2 : wb.heap.size ≤ w.heap.size + 1 := by rw [hsz.out]; exact Nat.le_refl _
  have o1 := (gown_new wb (some (w.heap.size + 1)) (w.heap.size + 1) hs1)
  have o2 := own_new0 (wb.alloc (.cells #[] 22)) (wb.alloc (.cells #[] 22)).heap.size (Nat.le_refl _)
  have hapo := gapart_own o1 o2 (Nat.le_refl _)
  have o3 := o2.mono (base' := w.heap.size + 1) (by simp; omega)
  have o4 := o1.kp ((Kp.refl _).alloc (.cells #[] 3))
  have hkn : Kp wb ((wb.alloc (.cells #[] 22)).alloc (.cells #[] 3)) := ((Kp.refl wb).alloc _).alloc _
  simp only [World.size_alloc] at hapo o3 o4 hkn
  rw [hsz.out] at hapo o3 o4
  clear o1 o2
  clear hkb
  go_loopw [4, 5, 6, 7] (fun ox pv sv iv wr => ∃ (i : Nat) (ov : Value), ov = ox ∧ i ≤ F.di.length ∧ iv = .int .i64 i ∧ GOwn wr (some (w.heap.size + 1)) (w.heap.size + 1) ov (onS F i).1 ∧ Own wr (w.heap.size + 1) pv (onS F i).2 ∧ Apart ov pv ∧ sv = .int .i64 (onL F i) ∧ Kp wb wr) (fun _ _ _ iv _ => F.di.length - (intOf iv).toNat)
  case atStart => exact ⟨0, _, rfl, by omega, rfl, o4, o3, hapo, rfl, hkn⟩
  case round =>
    clear o3 o4 hapo hkn
    obtain ⟨i, ov, rfl, hi, rfl, hgo, hown, hap, rfl, hkb⟩ := hrel
    obtain ⟨wo, rfl⟩ : ∃ wo : World, wo = wr := ⟨_, rfl⟩
    have HS0 := Lib.hid (onS_set HG.out i)
    have hl0 := set_len HS0.out
    obtain ⟨A0, c0, hpe, hpi⟩ := hown.ints (by omega)
    have hc0 := hown.cap hpe
    subst hpe
    have z0 := hkb.get d0
    have z1 := hkb.get d1
    have hFo := hFA.kp hkb
    have hb1 : w.heap.size + 1 ≤ wo.heap.size := by have := hkb.le; omega
    by_cases hlt : i < F.di.length
    · obtain ⟨m1, hm1⟩ : ∃ m1, m1 = i + 1 := ⟨_, rfl⟩
      have hmi : (i : Int) + 1 = (m1 : Int) := by omega
      have hm1d : m1 ≤ F.di.length := by omega
      have Hm1 := Lib.hid hm1
      have hki := (Kp.refl wo).alloc (.cells #[] 3)
      have hrow := own_new0 wo wo.heap.size (Nat.le_refl _)
      by_cases hnil : (onS F i).2 = []
      · have hlen0 : (((onS F i).2.length : Int) == 0) = true := by rw [hnil]; rfl
        have Hnil := Lib.hid hnil
        clear hm1
        have q_z0 := hki.get z0
        have q_z1 := hki.get z1
        go_wp2_with fail
        have CC := Lib.hid (l10First_any _ F i _ (hFo.kp hki) HG.out hlt)
        with_reducible refine Calls.mono CC.out ?_
        rintro e w1 ⟨rfl, hk1⟩
        clear CC q_z0 q_z1
        replace hki := hki.trans hk1
        replace hrow := hrow.kp hk1
        generalize Value.slice (some ⟨wo.heap.size, 0, none⟩) 0 0 = rv at *
        have hl00 : ([] : List Int).length < 1048576 := by decide
        have q_z0 := hki.get z0
        have q_z1 := hki.get z1
        go_wp2_with (at_builtin; go_loud (refine wpl_app rfl (.tmp 23) (.tmp 27) rfl (wo.heap.size) _ ([]) ((firstF F i : Int)) rfl rfl hrow hki.le (by omega) ?_; intro v' w' ho' ht' h4'; have hkb' := hrow.kp_turn hki (Nat.le_refl _) ht'; have r_z0 := hkb'.get z0; have r_z1 := hkb'.get z1; obtain ⟨gr, cr, hre⟩ := ho'.at0 (n := 1) (by simp) (by omega); subst hre; have t1 : w'.cell? ⟨gr, 0, none⟩ = some (.int .i64 (firstF F i : Int)) := (ho'.slotL (n := 1) (by simp) (show 0 < 1 by omega)).1))
        have hrw := ho'
        replace hki := hkb'
        clear t1 hrow
        have hpi2 : IntsAt w' A0 [] := IntsAt.nil _ _
        have CC := Lib.hid (l1Put_new A0 [] 0 c0 (firstF F i : Int) _ hpi2 rfl (by simp) (by omega) (by omega) (by simp))
        with_reducible refine Calls.mono CC.out ?_
        rintro e w2 ⟨v8, rfl, ho8, hk2⟩
        clear CC q_z0 q_z1 r_z0 r_z1
        replace hki := hki.trans hk2
        replace ho' := ho'.kp hk2
        rw [putL_nil] at ho8
        have hap5 := apart_own hrw ho8 (Nat.le_refl _)
        have hap6 := gapart_own hgo ho8 hkb'.le
        have ho9 := ho8.mono (Nat.le_trans hb1 hkb'.le)
        obtain ⟨Aq, cq, hqe, hqi⟩ := ho9.ints (by simp)
        rw [List.length_singleton] at hqe
        subst hqe
        have Hsb := Lib.hid (setB_one HG.out i)
        have Hw : Hid (wRun F m1 F.op.length [(firstF F i : Int)] [(firstF F i : Int)] = onC F i (onS F i).2) := by show _ = _; rw [Hnil.out]; exact onC_nil Hm1.out
        have Hne1 : Hid ([(firstF F i : Int)] ≠ []) := by show _ ≠ _; simp
        rw [List.nil_append] at ho' hrw
        clear ho8 hrw
        have q_z0 := hki.get z0
        have q_z1 := hki.get z1
        go_wp2_with fail
        have CC := Lib.hid (l10Wanted_any _ F m1 Aq [(firstF F i : Int)] 1 cq _ (hFo.kp hki) hqi rfl HG.out Hsb.out (by simp) hm1d)
        with_reducible refine Calls.mono CC.out ?_
        rintro e w3 ⟨rfl, hk3⟩
        clear CC q_z0 q_z1
        replace hki := hki.trans hk3
        replace ho' := ho'.kp hk3
        replace ho9 := ho9.kp hk3
        have q_z0 := hki.get z0
        have q_z1 := hki.get z1
        go_wp2_with fail
        have hR := ho'
        have hO := ho9
        clear ho' ho9
        go_loopw [5, 8, 9] (fun pv rv av wr => ∃ (k : Nat) (row S : List Int), Own wr wo.heap.size rv row ∧ Own wr (w.heap.size + 1) pv S ∧ Apart rv pv ∧ Apart ov pv ∧ Hid (setB F S = true) ∧ Hid (S ≠ []) ∧ av = .int .i64 (wantF F m1 S) ∧ Hid (wRun F m1 k row S = onC F i (onS F i).2) ∧ Hid (F.op.length ≤ k + S.length ∧ row.length ≤ S.length) ∧ Kp wo wr) (fun pv _ _ _ => F.op.length - sLen pv)
        case atStart => exact ⟨F.op.length, [(firstF F i : Int)], [(firstF F i : Int)], hR, hO, hap5, hap6, Hsb, Hne1, rfl, Hw, ⟨by omega, by simp⟩, hki⟩
        case round =>
          clear hR hO hap5 hap6 Hsb Hne1 Hw hki
          obtain ⟨k, row, S, hrow, hop, hap2, hap3, Hs, Hne, rfl, HR, Hkl, hki⟩ := hrel
          have hsl := set_len Hs.out
          have hrl2 := Hkl.out.2
          obtain ⟨Ap, cp, hpe, hpi⟩ := hop.ints (by omega)
          have hcp := hop.cap hpe
          subst hpe
          obtain ⟨Ar, cr, rfl⟩ := hrow.shape
          obtain ⟨z, hz⟩ : ∃ z, z = wantF F m1 S := ⟨_, rfl⟩
          by_cases hneg : wantF F m1 S < 0
          · have Hst := Lib.hid (HR.out.symm.trans (wRun_stop hneg))
            have hneg2 : ¬ 0 ≤ z := by omega
            rw [← hz]
            clear hz hneg
            have hgo2 := hgo.kp hki
            have hrp : RowP wr (some (w.heap.size + 1)) (.slice Ar row.length cr) row := RowP.of_own (hrow.mono (by have := hkb.le; omega)) (by omega)
            have hapr := Lib.hid (fun (g : Nat) (hg : (Value.slice Ar row.length cr).ownBlock = some g) => (show ov.ownBlock ≠ some g from fun e => by have h1 := (hrow.lt g hg).1; have h2 := (hgo.lt g e).2; omega))
            have hkr := hkb.trans hki
            have hbs : w.heap.size + 1 ≤ wr.heap.size := by have := hkr.le; omega
            have hll : (onS F i).1.length < 1048576 := by rw [onS_len]; omega
            go_wp2_with (at_builtin; go_loud (refine wpl_appg rfl (.tmp 53) (.tmp 55) rfl (w.heap.size + 1) ov (onS F i).1 row (.slice Ar row.length cr) rfl rfl hgo2 hrp (fun _ g hg => hapr.out g hg) hbs hll ?_; intro v' w' ho' ht' h4'; have hkq : Kp wb w' := hgo2.kp_turn hkr hs2 ht'; have p0 := hkq.get d0; have p1 := hkq.get d1))
            have hopq := hop.apart_turn hap3 ht'
            have CC := Lib.hid (l2Nearest_any _ F i Ap S S.length cp w' (hFA.kp hkq) (hopq.intsOf (by omega)) rfl HG.out Hs.out Hne.out hlt)
            with_reducible refine Calls.mono CC.out ?_
            rintro e wn ⟨rfl, hkn2⟩
            clear CC p0 p1
            obtain ⟨b1, b2⟩ := onL_bd HG.out i
            obtain ⟨b3, b4⟩ := nearF_bd HG.out S i
            have HL : Hid (onL F m1 = onL F i + nearF F i S) := by show _ = _; rw [Hm1.out, onL_succ, onN, onS_succ, Hst.out]
            have HO1 : Hid ((onS F m1).1 = (onS F i).1 ++ [row]) := by show _ = _; rw [Hm1.out, onS_succ, Hst.out]
            have HO2 : Hid ((onS F m1).2 = S) := by show _ = _; rw [Hm1.out, onS_succ, Hst.out]
            have hapq := hap3.grow hop h4'
            go_wp2_with fail
            go_roundw
            case rel => exact ⟨m1, _, rfl, by omega, by go_num, by rw [HO1.out]; exact ho'.kp hkn2, by rw [HO2.out]; exact hopq.kp hkn2, hapq, by rw [HL.out] <;> go_num, hkq.trans hkn2⟩
            case measure => simp [intOf]; omega
          · have HN := Lib.hid (want_new hneg)
            have hz0 : 0 ≤ z := by omega
            have hzn : z < F.op.length := by rw [hz]; exact HN.out.2
            have hnew : z ∉ S := by rw [hz]; exact HN.out.1
            have hpl := putL_new hnew
            have hsb := Lib.hid (setB_put Hs.out hz0 hzn)
            have hpl2 := set_len hsb.out
            have hkk := Hkl.out.1
            obtain ⟨k', rfl⟩ : ∃ k', k = k' + 1 := ⟨k - 1, by omega⟩
            have HR2 : Hid (wRun F m1 k' (row ++ [z]) (putL S z) = onC F i (onS F i).2) := by show _ = _; rw [← HR.out, wRun_go hneg, hz]
            rw [← hz]
            clear hz hneg HR HN
            have Hpl := Lib.hid hpl
            have Hkk : Hid (F.op.length ≤ k' + (putL S z).length ∧ (row ++ [z]).length ≤ (putL S z).length) := ⟨by omega, by rw [List.length_append]; simp; omega⟩
            have Hnew := Lib.hid hnew
            clear hpl hkk hnew
            clear q_z0 q_z1
            have q_z0 := hki.get z0
            have q_z1 := hki.get z1
            go_wp2_with (at_builtin; go_loud (refine wpl_app rfl (.tmp 46) (.tmp 48) rfl (wo.heap.size) _ (row) (z) rfl rfl hrow hki.le (by omega) ?_; intro v' w' ho' ht' h4'; have hkb' := hrow.kp_turn hki (Nat.le_refl _) ht'; have r_z0 := hkb'.get z0; have r_z1 := hkb'.get z1))
            have hop2 := hop.apart_turn hap2 ht'
            have hop3 := hop2.intsOf (by omega)
            have hrw := ho'
            replace hki := hkb'
            have CC := Lib.hid (l1Put_new Ap S S.length cp z _ hop3 rfl (ris_iff.1 Hs.out).1 hcp (by omega) Hnew.out)
            with_reducible refine Calls.mono CC.out ?_
            rintro e w4 ⟨v8, rfl, ho8, hk4⟩
            clear CC q_z0 q_z1 r_z0 r_z1
            replace hki := hki.trans hk4
            replace ho' := ho'.kp hk4
            have hap5 := apart_own hrw ho8 (Nat.le_refl _)
            have hap6 := gapart_own hgo ho8 hkb'.le
            have ho9 := ho8.mono (Nat.le_trans hb1 hkb'.le)
            have hl8 : (putL S z).length ≤ 9223372036854775807 := by omega
            obtain ⟨Aq, cq, hqe, hqi⟩ := ho9.ints hl8
            subst hqe
            clear ho8
            have q_z0 := hki.get z0
            have q_z1 := hki.get z1
            go_wp2_with fail
            have CC := Lib.hid (l10Wanted_any _ F m1 Aq (putL S z) (putL S z).length cq _ (hFo.kp hki) hqi rfl HG.out hsb.out (putL_ne S z) (by omega))
            with_reducible refine Calls.mono CC.out ?_
            rintro e w5 ⟨rfl, hk5⟩
            clear CC q_z0 q_z1
            replace hki := hki.trans hk5
            replace ho' := ho'.kp hk5
            replace ho9 := ho9.kp hk5
            have q_z0 := hki.get z0
            have q_z1 := hki.get z1
            go_wp2_with fail
            go_roundw
            case rel => exact ⟨k', row ++ [z], putL S z, ho', ho9, hap5, hap6, hsb, putL_ne S z, rfl, HR2, Hkk, hki⟩
            case measure => have := Hpl.out; simp [sLen]; omega
      · have hlenp : (((onS F i).2.length : Int) == 0) = false := by
          simp only [beq_eq_false_iff_ne, ne_eq]
          intro e
          exact hnil (List.eq_nil_of_length_eq_zero (by omega))
        have Hne1 : Hid ((onS F i).2 ≠ []) := hnil
        have Hw : Hid (wRun F m1 F.op.length [] (onS F i).2 = onC F i (onS F i).2) := onC_cons Hm1.out hnil
        have hap5 := (apart_own hown hrow (Nat.le_refl _)).sym
        have hap6 := hap
        have Hsb := HS0
        have hR := hrow
        have hO := hown.kp hki
        clear hm1 hnil hrow
        have q_z0 := hki.get z0
        have q_z1 := hki.get z1
        go_wp2_with fail
        have CC := Lib.hid (l10Wanted_any _ F m1 A0 (onS F i).2 (onS F i).2.length c0 _ (hFo.kp hki) (hpi.kp hki) rfl HG.out Hsb.out Hne1.out hm1d)
        with_reducible refine Calls.mono CC.out ?_
        rintro e w6 ⟨rfl, hk6⟩
        clear CC q_z0 q_z1
        replace hki := hki.trans hk6
        replace hR := hR.kp hk6
        replace hO := hO.kp hk6
        have q_z0 := hki.get z0
        have q_z1 := hki.get z1
        go_wp2_with fail
        go_loopw [5, 8, 9] (fun pv rv av wr => ∃ (k : Nat) (row S : List Int), Own wr wo.heap.size rv row ∧ Own wr (w.heap.size + 1) pv S ∧ Apart rv pv ∧ Apart ov pv ∧ Hid (setB F S = true) ∧ Hid (S ≠ []) ∧ av = .int .i64 (wantF F m1 S) ∧ Hid (wRun F m1 k row S = onC F i (onS F i).2) ∧ Hid (F.op.length ≤ k + S.length ∧ row.length ≤ S.length) ∧ Kp wo wr) (fun pv _ _ _ => F.op.length - sLen pv)
        case atStart => exact ⟨F.op.length, [], (onS F i).2, hR, hO, hap5, hap6, Hsb, Hne1, rfl, Hw, ⟨by omega, by simp⟩, hki⟩
        case round =>
          clear hR hO hap5 hap6 Hsb Hne1 Hw hki
          obtain ⟨k, row, S, hrow, hop, hap2, hap3, Hs, Hne, rfl, HR, Hkl, hki⟩ := hrel
          have hsl := set_len Hs.out
          have hrl2 := Hkl.out.2
          obtain ⟨Ap, cp, hpe, hpi⟩ := hop.ints (by omega)
          have hcp := hop.cap hpe
          subst hpe
          obtain ⟨Ar, cr, rfl⟩ := hrow.shape
          obtain ⟨z, hz⟩ : ∃ z, z = wantF F m1 S := ⟨_, rfl⟩
          by_cases hneg : wantF F m1 S < 0
          · have Hst := Lib.hid (HR.out.symm.trans (wRun_stop hneg))
            have hneg2 : ¬ 0 ≤ z := by omega
            rw [← hz]
            clear hz hneg
            have hgo2 := hgo.kp hki
            have hrp : RowP wr (some (w.heap.size + 1)) (.slice Ar row.length cr) row := RowP.of_own (hrow.mono (by have := hkb.le; omega)) (by omega)
            have hapr := Lib.hid (fun (g : Nat) (hg : (Value.slice Ar row.length cr).ownBlock = some g) => (show ov.ownBlock ≠ some g from fun e => by have h1 := (hrow.lt g hg).1; have h2 := (hgo.lt g e).2; omega))
            have hkr := hkb.trans hki
            have hbs : w.heap.size + 1 ≤ wr.heap.size := by have := hkr.le; omega
            have hll : (onS F i).1.length < 1048576 := by rw [onS_len]; omega
            go_wp2_with (at_builtin; go_loud (refine wpl_appg rfl (.tmp 53) (.tmp 55) rfl (w.heap.size + 1) ov (onS F i).1 row (.slice Ar row.length cr) rfl rfl hgo2 hrp (fun _ g hg => hapr.out g hg) hbs hll ?_; intro v' w' ho' ht' h4'; have hkq : Kp wb w' := hgo2.kp_turn hkr hs2 ht'; have p0 := hkq.get d0; have p1 := hkq.get d1))
            have hopq := hop.apart_turn hap3 ht'
            have CC := Lib.hid (l2Nearest_any _ F i Ap S S.length cp w' (hFA.kp hkq) (hopq.intsOf (by omega)) rfl HG.out Hs.out Hne.out hlt)
            with_reducible refine Calls.mono CC.out ?_
            rintro e wn ⟨rfl, hkn2⟩
            clear CC p0 p1
            obtain ⟨b1, b2⟩ := onL_bd HG.out i
            obtain ⟨b3, b4⟩ := nearF_bd HG.out S i
            have HL : Hid (onL F m1 = onL F i + nearF F i S) := by show _ = _; rw [Hm1.out, onL_succ, onN, onS_succ, Hst.out]
            have HO1 : Hid ((onS F m1).1 = (onS F i).1 ++ [row]) := by show _ = _; rw [Hm1.out, onS_succ, Hst.out]
            have HO2 : Hid ((onS F m1).2 = S) := by show _ = _; rw [Hm1.out, onS_succ, Hst.out]
            have hapq := hap3.grow hop h4'
            go_wp2_with fail
            go_roundw
            case rel => exact ⟨m1, _, rfl, by omega, by go_num, by rw [HO1.out]; exact ho'.kp hkn2, by rw [HO2.out]; exact hopq.kp hkn2, hapq, by rw [HL.out] <;> go_num, hkq.trans hkn2⟩
            case measure => simp [intOf]; omega
          · have HN := Lib.hid (want_new hneg)
            have hz0 : 0 ≤ z := by omega
            have hzn : z < F.op.length := by rw [hz]; exact HN.out.2
            have hnew : z ∉ S := by rw [hz]; exact HN.out.1
            have hpl := putL_new hnew
            have hsb := Lib.hid (setB_put Hs.out hz0 hzn)
            have hpl2 := set_len hsb.out
            have hkk := Hkl.out.1
            obtain ⟨k', rfl⟩ : ∃ k', k = k' + 1 := ⟨k - 1, by omega⟩
            have HR2 : Hid (wRun F m1 k' (row ++ [z]) (putL S z) = onC F i (onS F i).2) := by show _ = _; rw [← HR.out, wRun_go hneg, hz]
            rw [← hz]
            clear hz hneg HR HN
            have Hpl := Lib.hid hpl
            have Hkk : Hid (F.op.length ≤ k' + (putL S z).length ∧ (row ++ [z]).length ≤ (putL S z).length) := ⟨by omega, by rw [List.length_append]; simp; omega⟩
            have Hnew := Lib.hid hnew
            clear hpl hkk hnew
            clear q_z0 q_z1
            have q_z0 := hki.get z0
            have q_z1 := hki.get z1
            go_wp2_with (at_builtin; go_loud (refine wpl_app rfl (.tmp 46) (.tmp 48) rfl (wo.heap.size) _ (row) (z) rfl rfl hrow hki.le (by omega) ?_; intro v' w' ho' ht' h4'; have hkb' := hrow.kp_turn hki (Nat.le_refl _) ht'; have r_z0 := hkb'.get z0; have r_z1 := hkb'.get z1))
            have hop2 := hop.apart_turn hap2 ht'
            have hop3 := hop2.intsOf (by omega)
            have hrw := ho'
            replace hki := hkb'
            have CC := Lib.hid (l1Put_new Ap S S.length cp z _ hop3 rfl (ris_iff.1 Hs.out).1 hcp (by omega) Hnew.out)
            with_reducible refine Calls.mono CC.out ?_
            rintro e w7 ⟨v8, rfl, ho8, hk7⟩
            clear CC q_z0 q_z1 r_z0 r_z1
            replace hki := hki.trans hk7
            replace ho' := ho'.kp hk7
            have hap5 := apart_own hrw ho8 (Nat.le_refl _)
            have hap6 := gapart_own hgo ho8 hkb'.le
            have ho9 := ho8.mono (Nat.le_trans hb1 hkb'.le)
            have hl8 : (putL S z).length ≤ 9223372036854775807 := by omega
            obtain ⟨Aq, cq, hqe, hqi⟩ := ho9.ints hl8
            subst hqe
            clear ho8
            have q_z0 := hki.get z0
            have q_z1 := hki.get z1
            go_wp2_with fail
            have CC := Lib.hid (l10Wanted_any _ F m1 Aq (putL S z) (putL S z).length cq _ (hFo.kp hki) hqi rfl HG.out hsb.out (putL_ne S z) (by omega))
            with_reducible refine Calls.mono CC.out ?_
            rintro e w8 ⟨rfl, hk8⟩
            clear CC q_z0 q_z1
            replace hki := hki.trans hk8
            replace ho' := ho'.kp hk8
            replace ho9 := ho9.kp hk8
            have q_z0 := hki.get z0
            have q_z1 := hki.get z1
            go_wp2_with fail
            go_roundw
            case rel => exact ⟨k', row ++ [z], putL S z, ho', ho9, hap5, hap6, hsb, putL_ne S z, rfl, HR2, Hkk, hki⟩
            case measure => have := Hpl.out; simp [sLen]; omega
    · obtain rfl : i = F.di.length := by omega
      obtain ⟨b1, b2⟩ := onL_bd HG.out F.di.length
      obtain ⟨b3, b4⟩ := payF_bd HG.out HS0.out
      go_wp2_with fail
      have CC := Lib.hid (l2Pay_any _ F A0 (onS F F.di.length).2 _ c0 wo hFo hpi rfl HG.out HS0.out)
      with_reducible refine Calls.mono CC.out ?_
      rintro e wn ⟨rfl, hkn⟩
      clear CC
      go_wp2_with fail
      go_ret2
      exact ⟨_, rfl, ((hgo.kp hkn).mono (Nat.le_succ _)).lo_mono (Nat.le_succ _), hkw.trans (hkb.trans hkn)⟩
end Go.Proofs.Ytghpkjllcapbpaa
