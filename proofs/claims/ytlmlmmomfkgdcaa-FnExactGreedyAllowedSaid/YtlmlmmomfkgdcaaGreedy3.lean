/- GreedyAllowed: reference and program. No condition. -/
import Derived.Test.YtlmlmmomfkgdcaaGreedy
import Derived.Test.YtlmlmmomfkgdcaaAllow
namespace Go.Proofs.Ytlmlmmomfkgdcaa
open Go.RowKit Go.Sort

def galOk (F : Fld) (worth : Int) (cl li : List Int) : Bool := goodF F && worthB worth && clsB F cl li
def galL (F : Fld) (worth : Int) (cl li : List Int) : List Int := if galOk F worth cl li = true then grd F worth (allowB cl li) F.op.length [] [] else []
theorem galL_yes {F : Fld} {worth : Int} {cl li : List Int} (h : galOk F worth cl li = true) : galL F worth cl li = grd F worth (allowB cl li) F.op.length [] [] := if_pos h
theorem galL_no {F : Fld} {worth : Int} {cl li : List Int} (h : galOk F worth cl li = false) : galL F worth cl li = [] := if_neg (by simp [h])
theorem galOk_parts {F : Fld} {worth : Int} {cl li : List Int} (h : galOk F worth cl li = true) : goodF F = true ∧ (0 ≤ worth ∧ worth ≤ 999) ∧ clsB F cl li = true := by
  simp only [galOk, Bool.and_eq_true, worthB, inB_iff] at h
  exact ⟨h.1.1, h.1.2, h.2⟩
theorem galL_len (F : Fld) (worth : Int) (cl li : List Int) : (galL F worth cl li).length ≤ 1048576 := by
  by_cases h : galOk F worth cl li = true
  · rw [galL_yes h]
    have h1 := grd_len (F := F) (worth := worth) (may := allowB cl li) F.op.length [] []
    have h2 := (goodF_iff.1 (galOk_parts h).1).1.2
    simp at h1; omega
  · rw [galL_no (by simpa using h)]; simp
theorem cls_mem {F : Fld} {cl li S : List Int} (h : clsB F cl li = true) (hs : setB F S = true) : ∀ x ∈ S, 0 ≤ x ∧ x < cl.length := fun x hx => by
  have h1 := (clsB_iff.1 h).1
  have h2 := set_mem hs x hx
  omega
theorem allows_may {F : Fld} {A1 A2 : Option Addr} {cl li : List Int} {n1 c1 n2 c2 : Nat} (w : World) (h1 : IntsAt w A1 cl) (hn1 : cl.length = n1) (h2 : IntsAt w A2 li) (hn2 : li.length = n2) (hc : clsB F cl li = true) :
    Calls Try.prog 65 #[.slice A1 n1 c1, .slice A2 n2 c2] w fun e w' => ∃ caps, e = .returned (.func (.func 80) #[] caps) ∧ May F 80 caps (allowB cl li) w' ∧ Kp w w' := by
  have hi := clsB_iff.1 hc
  have h7 : n2 = 7 := by omega
  obtain ⟨ld, rfl⟩ : ∃ ld, A2 = some ld := by
    obtain ⟨ad, e, _⟩ := h2.at_ (k := 0) (by omega)
    exact ⟨ad, e⟩
  refine (allows_any w).mono ?_
  rintro e w' ⟨rfl, rfl⟩
  have hk : Kp w ((w.alloc (.cells #[.slice A1 n1 c1] 22)).alloc (.cells #[.slice (some ld) n2 c2] 22)) := ((Kp.refl w).alloc _).alloc _
  have g1 : ((w.alloc (.cells #[.slice A1 n1 c1] 22)).alloc (.cells #[.slice (some ld) n2 c2] 22)).cell? ⟨w.heap.size, 0, none⟩ = some (.slice A1 n1 c1) := by
    rw [World.cell?_alloc_past _ _ _ (by simp), World.cell?_alloc_at _ _ _ _ rfl]; rfl
  have g2 : ((w.alloc (.cells #[.slice A1 n1 c1] 22)).alloc (.cells #[.slice (some ld) n2 c2] 22)).cell? ⟨w.heap.size + 1, 0, none⟩ = some (.slice (some ld) n2 c2) := by
    rw [World.cell?_alloc_at _ _ _ _ (by simp)]; rfl
  refine ⟨_, rfl, ⟨callFunc_of Try.func80 (by kernel_rfl) (by kernel_rfl), fun S Av cv w2 hk2 hs hv => ?_⟩, hk⟩
  exact allowsClo_any Av S S.length cv _ _ ld li n2 c2 A1 cl n1 c1 w2 (hk2.get g2) (hk2.get g1) (h1.kp (hk.trans hk2)) hn1 (h2.kp (hk.trans hk2)) hn2 hv rfl (cls_mem hc hs) (fun x hx => by have := hi.2.1 x hx; omega) hi.2.2.2 (by omega) (by omega)
set_option maxRecDepth 100000 in
set_option maxHeartbeats 400000 in
theorem implGal_any (f : Value) (F : Fld) (worth : Int) (A1 : Option Addr) (cl : List Int) (n1 c1 : Nat) (A2 : Option Addr) (li : List Int) (n2 c2 : Nat) (w : World) (hf : FldAt w f F) (h1 : IntsAt w A1 cl) (hn1 : cl.length = n1) (h2 : IntsAt w A2 li) (hn2 : li.length = n2) :
    Calls Try.prog 31 #[f, .int .i64 worth, .slice A1 n1 c1, .slice A2 n2 c2] w fun e w' => ∃ v, e = .returned (.tuple #[v, .bool (galOk F worth cl li)]) ∧ Own w' w.heap.size v (galL F worth cl li) ∧ Kp w w' := by
  obtain ⟨A, c, B, d, rfl, hA, hB⟩ := hf
  have hk0 : Kp w (w.alloc (.cells #[.slice A F.op.length c, .slice B F.di.length d] 29)) := (Kp.refl w).alloc _
  obtain ⟨d0, d1⟩ := box2 w (.slice A F.op.length c) (.slice B F.di.length d) 29
  have hFA := FldAt.kp (show FldAt w (.agg #[.slice A F.op.length c, .slice B F.di.length d]) F from ⟨A, c, B, d, rfl, hA, hB⟩) hk0
  replace h1 := h1.kp hk0
  replace h2 := h2.kp hk0
  have Hn1 := Lib.hid hn1; have Hn2 := Lib.hid hn2
  clear hA hB hn1 hn2
  go_enter Try.func31, Try.ntmps31
  go_wp2_with fail
  have hsz : Hid ((w.alloc (.cells #[.slice A F.op.length c, .slice B F.di.length d] 29)).heap.size = w.heap.size + 1) := by show _ = _; simp
  generalize w.alloc (.cells #[.slice A F.op.length c, .slice B F.di.length d] 29) = wb at *
  have hkb : Kp wb wb := Kp.refl _
  have hkw := hk0
  have CC := Lib.hid (isWorth_any _ F worth none [] 0 0 _ (hFA.kp hkb) (IntsAt.nil _ none) rfl)
  with_reducible refine Calls.mono CC.out ?_
  rintro e w1 ⟨rfl, hk1⟩
  clear CC
  replace hkb := hkb.trans hk1
  have hgo : gainOk F worth [] = (goodF F && worthB worth) := by simp [gainOk, setB, risB]
  rw [hgo]
  clear hgo
  cases hg_ : (goodF F && worthB worth)
  · have Hno : Hid (galOk F worth cl li = false) := by show galOk F worth cl li = false; rw [galOk, hg_]; rfl
    clear hg_
    have q_d0 := hkb.get d0
    have q_d1 := hkb.get d1
    go_wp2_with fail
    go_ret2
    exact ⟨_, by rw [Hno.out]; rfl, by rw [galL_no Hno.out]; exact Own.nil _ _, hkw.trans hkb⟩
  have Hg := Lib.hid hg_; clear hg_
  have q_d0 := hkb.get d0
  have q_d1 := hkb.get d1
  go_wp2_with fail
  have CC := Lib.hid (areLimits_any _ F A1 cl n1 c1 A2 li n2 c2 _ (hFA.kp hkb) (h1.kp hkb) Hn1.out (h2.kp hkb) Hn2.out)
  with_reducible refine Calls.mono CC.out ?_
  rintro e w2 ⟨rfl, hk2⟩
  clear CC q_d0 q_d1
  replace hkb := hkb.trans hk2
  cases hg_ : clsB F cl li
  · have Hno : Hid (galOk F worth cl li = false) := by show galOk F worth cl li = false; rw [galOk, Hg.out, hg_]; rfl
    clear hg_
    have q_d0 := hkb.get d0
    have q_d1 := hkb.get d1
    go_wp2_with fail
    go_ret2
    exact ⟨_, by rw [Hno.out]; rfl, by rw [galL_no Hno.out]; exact Own.nil _ _, hkw.trans hkb⟩
  have Hok : Hid (galOk F worth cl li = true) := by show galOk F worth cl li = true; rw [galOk, Hg.out, hg_]; rfl
  clear hg_
  have HP := Lib.hid (galOk_parts Hok.out)
  have h7 := (goodF_iff.1 HP.out.1).1.2
  have C1 := Lib.hid (fun (wx : World) (hx : Kp _ wx) => allows_may (F := F) (c1 := c1) (c2 := c2) wx (h1.kp hx) Hn1.out (h2.kp hx) Hn2.out HP.out.2.2)
  have C2 := Lib.hid (fun (wx : World) (hx : Kp _ wx) (caps : Array Value) (hm : May F 80 caps (allowB cl li) wx) => greedyGain_any 80 caps (allowB cl li) _ F worth F.op.length wx (hFA.kp hx) hm HP.out.1 h7 HP.out.2.1.1 HP.out.2.1.2)
  clear h1 h2
  have q_d0 := hkb.get d0
  have q_d1 := hkb.get d1
  have tok1 : True := trivial
  go_wp2_with fail
  go_region_held3 (fun w' => w'.cell? ⟨w.heap.size, 0, none⟩ = some (.slice A F.op.length c) ∧ w'.cell? ⟨w.heap.size, 1, none⟩ = some (.slice B F.di.length d) ∧ Kp wb w')
    (first | (refine keepc2 d0 d1 ?_; exact (by repeat (first | with_reducible assumption | with_reducible exact Kp.refl _ | with_reducible refine Kp.drew ?_ | with_reducible refine Kp.alloc ?_ _ | with_reducible refine Kp.drewN ?_ _))) | fail)
    (first
      | (have _t := tok1; go_at_call 65; with_reducible refine Calls.mono (C1.out _ (by repeat (first | with_reducible assumption | with_reducible exact Kp.refl _ | with_reducible refine Kp.drew ?_ | with_reducible refine Kp.alloc ?_ _ | with_reducible refine Kp.drewN ?_ _))) ?_; rintro e wr1 ⟨caps, rfl, hmay, hka⟩; have hr1 : Kp wb wr1 := Kp.trans (by repeat (first | with_reducible assumption | with_reducible exact Kp.refl _ | with_reducible refine Kp.drew ?_ | with_reducible refine Kp.alloc ?_ _ | with_reducible refine Kp.drewN ?_ _)) hka; have tok2 : True := trivial; clear tok1 _t)
      | (have _t := tok2; go_at_call 58; with_reducible refine Calls.mono (C2.out _ (by repeat (first | with_reducible assumption | with_reducible exact Kp.refl _ | with_reducible refine Kp.drew ?_ | with_reducible refine Kp.alloc ?_ _ | with_reducible refine Kp.drewN ?_ _)) caps (hmay.kp (by repeat (first | with_reducible assumption | with_reducible exact Kp.refl _ | with_reducible refine Kp.drew ?_ | with_reducible refine Kp.alloc ?_ _ | with_reducible refine Kp.drewN ?_ _)))) ?_; rintro e wr2 ⟨v, rfl, ho, hka⟩; have hr2 : Kp wb wr2 := Kp.trans (by repeat (first | with_reducible assumption | with_reducible exact Kp.refl _ | with_reducible refine Kp.drew ?_ | with_reducible refine Kp.alloc ?_ _ | with_reducible refine Kp.drewN ?_ _)) hka; have tok3 : True := trivial; clear tok2 _t)
      | fail)
  go_wp2_with fail
  go_ret2
  exact ⟨_, by rw [Hok.out]; rfl, by rw [galL_yes Hok.out]; exact ho.mono (Nat.le_trans hkw.le hr1.le), hkw.trans hr2⟩
set_option maxRecDepth 100000 in
set_option maxHeartbeats 1000000 in
theorem specGal_any (f : Value) (F : Fld) (worth : Int) (A1 : Option Addr) (cl : List Int) (n1 c1 : Nat) (A2 : Option Addr) (li : List Int) (n2 c2 : Nat) (w : World) (hf : FldAt w f F) (h1 : IntsAt w A1 cl) (hn1 : cl.length = n1) (h2 : IntsAt w A2 li) (hn2 : li.length = n2) :
    Calls Try.prog 30 #[f, .int .i64 worth, .slice A1 n1 c1, .slice A2 n2 c2] w fun e w' => ∃ v, e = .returned (.tuple #[v, .bool (galOk F worth cl li)]) ∧ Own w' w.heap.size v (galL F worth cl li) ∧ Kp w w' := by
  obtain ⟨A, c, B, d, rfl, hA, hB⟩ := hf
  have hk0 : Kp w (w.alloc (.cells #[.slice A F.op.length c, .slice B F.di.length d] 29)) := (Kp.refl w).alloc _
  obtain ⟨d0, d1⟩ := box2 w (.slice A F.op.length c) (.slice B F.di.length d) 29
  have hFA := FldAt.kp (show FldAt w (.agg #[.slice A F.op.length c, .slice B F.di.length d]) F from ⟨A, c, B, d, rfl, hA, hB⟩) hk0
  replace h1 := h1.kp hk0
  replace h2 := h2.kp hk0
  have Hn1 := Lib.hid hn1; have Hn2 := Lib.hid hn2
  clear hA hB hn1 hn2
  go_enter Try.func30, Try.ntmps30
  go_wp2_with fail
  have hsz : Hid ((w.alloc (.cells #[.slice A F.op.length c, .slice B F.di.length d] 29)).heap.size = w.heap.size + 1) := by show _ = _; simp
  generalize w.alloc (.cells #[.slice A F.op.length c, .slice B F.di.length d] 29) = wb at *
  have hkb : Kp wb wb := Kp.refl _
  have hkw := hk0
  have ho : Own ((wb.alloc (.cells #[] 3)).alloc (.cells #[] 3)) wb.heap.size (.slice (some ⟨w.heap.size + 1, 0, none⟩) 0 0) [] := by
    rw [← hsz.out]; exact (own_new0 wb wb.heap.size (Nat.le_refl _)).kp ((Kp.refl _).alloc _)
  have hs : Own ((wb.alloc (.cells #[] 3)).alloc (.cells #[] 3)) wb.heap.size (.slice (some ⟨w.heap.size + 1 + 1, 0, none⟩) 0 0) [] := by
    rw [← hsz.out]; exact own_new2 wb
  have hap : Apart (.slice (some ⟨w.heap.size + 1, 0, none⟩) 0 0) (.slice (some ⟨w.heap.size + 1 + 1, 0, none⟩) 0 0) := by
    rw [← hsz.out]; exact apart_new wb 0 0 0 0
  replace hkb : Kp wb ((wb.alloc (.cells #[] 3)).alloc (.cells #[] 3)) := ((Kp.refl _).alloc _).alloc _
  have CC := Lib.hid (l8Good_any _ F worth _ (hFA.kp hkb))
  with_reducible refine Calls.mono CC.out ?_
  rintro e w1 ⟨rfl, hk1⟩
  clear CC
  replace hkb := hkb.trans hk1
  replace ho := ho.kp hk1
  replace hs := hs.kp hk1
  cases hg_ : (goodF F && worthB worth)
  · have Hno : Hid (galOk F worth cl li = false) := by show galOk F worth cl li = false; rw [galOk, hg_]; rfl
    clear hg_
    have q_d0 := hkb.get d0
    have q_d1 := hkb.get d1
    go_wp2_with fail
    go_ret2
    exact ⟨_, by rw [Hno.out]; rfl, by rw [galL_no Hno.out]; exact ho.mono hkw.le, hkw.trans hkb⟩
  have Hg := Lib.hid hg_; clear hg_
  have q_d0 := hkb.get d0
  have q_d1 := hkb.get d1
  go_wp2_with fail
  have CC := Lib.hid (l8Classes_any _ F A1 cl n1 c1 A2 li n2 c2 _ (hFA.kp hkb) (h1.kp hkb) Hn1.out (h2.kp hkb) Hn2.out)
  with_reducible refine Calls.mono CC.out ?_
  rintro e w2 ⟨rfl, hk2⟩
  clear CC q_d0 q_d1
  replace hkb := hkb.trans hk2
  replace ho := ho.kp hk2
  replace hs := hs.kp hk2
  cases hg_ : clsB F cl li
  · have Hno : Hid (galOk F worth cl li = false) := by show galOk F worth cl li = false; rw [galOk, Hg.out, hg_]; rfl
    clear hg_
    have q_d0 := hkb.get d0
    have q_d1 := hkb.get d1
    go_wp2_with fail
    go_ret2
    exact ⟨_, by rw [Hno.out]; rfl, by rw [galL_no Hno.out]; exact ho.mono hkw.le, hkw.trans hkb⟩
  have Hok : Hid (galOk F worth cl li = true) := by show galOk F worth cl li = true; rw [galOk, Hg.out, hg_]; rfl
  clear hg_
  have HP := Lib.hid (galOk_parts Hok.out)
  have h7 := (goodF_iff.1 HP.out.1).1.2
  have hw0 := HP.out.2.1.1
  have hw1 := HP.out.2.1.2
  have q_d0 := hkb.get d0
  have q_d1 := hkb.get d1
  go_wp2_with fail
  go_loopw [10, 11] (fun ov sv wr => ∃ out S, Own wr wb.heap.size ov out ∧ out.length ≤ F.op.length ∧ Own wr wb.heap.size sv S ∧ Apart ov sv ∧ setB F S = true ∧ Hid (S.length = out.length) ∧ Hid (grd F worth (allowB cl li) (F.op.length - out.length) out S = grd F worth (allowB cl li) F.op.length [] []) ∧ Kp wb wr) (fun ov _ _ => F.op.length - sLen ov)
  case atStart => exact ⟨[], [], ho, by simp, hs, hap, rfl, rfl, rfl, hkb⟩
  case round =>
    clear ho hs hap
    obtain ⟨out, S, hown, hle, hset, hap, hs, Hlen, HR, hkb⟩ := hrel
    obtain ⟨A9, c9, rfl⟩ := hown.shape
    obtain ⟨A8, c8, hv8, hS⟩ := hset.ints (by rw [Hlen.out]; omega)
    have hc8 := hset.cap hv8
    subst hv8
    have Hs := Lib.hid hs
    clear hs
    obtain ⟨wo, rfl⟩ : ∃ wo : World, wo = wr := ⟨_, rfl⟩
    clear q_d0 q_d1
    have q_d0 := hkb.get d0
    have q_d1 := hkb.get d1
    go_wp2_with fail
    go_loopw [12, 13, 14] (fun bv mv iv ws => ∃ a : Nat, a ≤ F.op.length ∧ iv = .int .i64 a ∧ bv = .int .i64 (nextTo F worth (allowB cl li) S a).1 ∧ mv = .int .i64 (nextTo F worth (allowB cl li) S a).2 ∧ Kp wo ws) (fun _ _ iv _ => F.op.length - (intOf iv).toNat)
    case atStart => exact ⟨0, by omega, rfl, rfl, rfl, Kp.refl _⟩
    case round =>
      obtain ⟨a, ha, rfl, rfl, rfl, hki⟩ := hrel
      replace hkb := hkb.trans hki
      by_cases hla : a < F.op.length
      · clear q_d0 q_d1
        have q_d0 := hkb.get d0
        have q_d1 := hkb.get d1
        go_wp2_with fail
        have CC := Lib.hid (l1Has_any A8 S S.length c8 (a : Int) _ (hS.kp hki) rfl)
        with_reducible refine Calls.mono CC.out ?_
        rintro e w3 ⟨rfl, hw⟩
        obtain rfl := hw
        clear CC q_d0 q_d1
        cases hh : (S.any fun x => x == (a : Int))
        · have Hany := Lib.hid hh
          clear hh
          have q_d0 := hkb.get d0
          have q_d1 := hkb.get d1
          go_wp2_with fail
          have CC := Lib.hid (l1Put_any A8 S S.length c8 (a : Int) _ (hS.kp hki) rfl (ris_iff.1 Hs.out).1 hc8 (by rw [Hlen.out]; omega))
          with_reducible refine Calls.mono CC.out ?_
          rintro e w4 ⟨Av, cv, rfl, hcv, hiv, hk4⟩
          clear CC q_d0 q_d1
          replace hkb := hkb.trans hk4
          replace hki := hki.trans hk4
          have HSp := Lib.hid (setB_put Hs.out (a := (a : Int)) (by omega) (by omega))
          have q_d0 := hkb.get d0
          have q_d1 := hkb.get d1
          go_wp2_with fail
          have CC := Lib.hid (l8Allowed_any A1 cl n1 c1 A2 li n2 c2 Av _ _ cv _ (h1.kp hkb) Hn1.out (h2.kp hkb) Hn2.out hiv rfl (cls_mem HP.out.2.2 HSp.out))
          with_reducible refine Calls.mono CC.out ?_
          rintro e w5 ⟨rfl, hw⟩
          obtain rfl := hw
          clear CC q_d0 q_d1
          cases hmay : allowB cl li (putL S a)
          · have Hy := Lib.hid (pick_no (ok := okF (allowB cl li) S) (val := fun a => moreF F worth S a) (k := a) (by simp only [okF, hmay]; simp))
            clear hmay
            have q_d0 := hkb.get d0
            have q_d1 := hkb.get d1
            go_wp2_with fail
            go_roundw
            case rel => exact ⟨a + 1, by omega, by go_num, by rw [nextTo, nextTo, Hy.out], by rw [nextTo, nextTo, Hy.out], hki⟩
            case measure => simp [intOf]; omega
          · have Hok2 : Hid (okF (allowB cl li) S a = true) := by show okF _ _ _ = true; simp only [okF, hmay, Hany.out]; rfl
            clear hmay
            have q_d0 := hkb.get d0
            have q_d1 := hkb.get d1
            go_wp2_with fail
            have CC := Lib.hid (l8More_any _ F worth A8 S S.length c8 (a : Int) _ (hFA.kp hkb) (hS.kp hki) rfl hc8 HP.out.1 Hs.out hw0 hw1 (by omega) (by omega))
            with_reducible refine Calls.mono CC.out ?_
            rintro e w6 ⟨rfl, hk6⟩
            clear CC q_d0 q_d1
            replace hkb := hkb.trans hk6
            replace hki := hki.trans hk6
            by_cases hgt : (nextTo F worth (allowB cl li) S a).2 < moreF F worth S a
            · have Hy := Lib.hid (pick_yes (val := fun a => moreF F worth S a) Hok2.out hgt)
              have q_d0 := hkb.get d0
              have q_d1 := hkb.get d1
              go_wp2_with fail
              go_roundw
              case rel => exact ⟨a + 1, by omega, by go_num, by rw [nextTo, Hy.out], by rw [nextTo, Hy.out], hki⟩
              case measure => simp [intOf]; omega
            · have Hy := Lib.hid (pick_less (ok := okF (allowB cl li) S) (val := fun a => moreF F worth S a) hgt)
              have q_d0 := hkb.get d0
              have q_d1 := hkb.get d1
              go_wp2_with fail
              go_roundw
              case rel => exact ⟨a + 1, by omega, by go_num, by rw [nextTo, nextTo, Hy.out], by rw [nextTo, nextTo, Hy.out], hki⟩
              case measure => simp [intOf]; omega
        · have Hy := Lib.hid (pick_no (ok := okF (allowB cl li) S) (val := fun a => moreF F worth S a) (k := a) (by simp only [okF, hh]; rfl))
          clear hh
          have q_d0 := hkb.get d0
          have q_d1 := hkb.get d1
          go_wp2_with fail
          go_roundw
          case rel => exact ⟨a + 1, by omega, by go_num, by rw [nextTo, nextTo, Hy.out], by rw [nextTo, nextTo, Hy.out], hki⟩
          case measure => simp [intOf]; omega
      · obtain rfl : a = F.op.length := by omega
        have hown2 := hown.kp hki
        have hset1 := hset.kp hki
        have Hn2 : Hid (nextTo F worth (allowB cl li) S F.op.length = nextF F worth (allowB cl li) S) := rfl
        rw [Hn2.out]
        by_cases hneg : (nextF F worth (allowB cl li) S).1 < 0
        · have Hst := Lib.hid (grd_stop (j := F.op.length - out.length) (out := out) hneg)
          clear q_d0 q_d1
          have q_d0 := hkb.get d0
          have q_d1 := hkb.get d1
          go_wp2_with fail
          go_ret2
          exact ⟨_, by rw [Hok.out]; rfl, by rw [galL_yes Hok.out, ← HR.out, Hst.out]; exact hown2.mono hkw.le, hkw.trans hkb⟩
        · have hfull : out.length < F.op.length := by
            by_cases hf : out.length < F.op.length
            · exact hf
            · exact absurd (next_full Hs.out (by rw [Hlen.out]; omega)) hneg
          have HN := Lib.hid (next_new hneg)
          have Hgo := Lib.hid (grd_go (j := F.op.length - (out.length + 1)) (out := out) hneg)
          replace hneg : 0 ≤ (nextF F worth (allowB cl li) S).1 := by omega
          have hnl := HN.out.2
          clear q_d0 q_d1
          have q_d0 := hkb.get d0
          have q_d1 := hkb.get d1
          go_wp2_with (at_builtin; go_loud (refine wpl_app rfl (.tmp 62) (.tmp 64) rfl (wb.heap.size) _ (out) ((nextF F worth (allowB cl li) S).1) rfl rfl hown2 hkb.le (by omega) ?_); intro v' w' ho' ht' h4'; have hkb' := hown2.kp_turn hkb (Nat.le_refl _) ht'; have r_d0 := hkb'.get d0; have r_d1 := hkb'.get d1)
          have hbl := hkb'.le
          replace hkb := hkb'
          have hset2 := hset1.apart_turn hap ht'
          have hS2 := hset2.intsOf (by rw [Hlen.out]; omega)
          have hop := ho'
          have CC := Lib.hid (l1Put_new A8 S S.length c8 (nextF F worth (allowB cl li) S).1 _ hS2 rfl (ris_iff.1 Hs.out).1 hc8 (by rw [Hlen.out]; omega) HN.out.1)
          with_reducible refine Calls.mono CC.out ?_
          rintro e w7 ⟨v8, rfl, ho8, hk7⟩
          clear CC q_d0 q_d1 r_d0 r_d1
          replace hkb := hkb.trans hk7
          replace ho' := ho'.kp hk7
          have hap3 := Apart.fresh hop ho8 (Nat.le_refl _)
          obtain ⟨A7, c7, e7⟩ := ho'.shape
          rw [show (out ++ [(nextF F worth (allowB cl li) S).1]).length = out.length + 1 from by simp] at e7
          subst e7
          have q_d0 := hkb.get d0
          have q_d1 := hkb.get d1
          go_wp2_with fail
          go_roundw
          case rel =>
            refine ⟨_, _, ho', by simp; omega, ho8.mono hbl, hap3, setB_put Hs.out hneg hnl, ?_, ?_, hkb⟩
            · show (putL S (nextF F worth (allowB cl li) S).1).length = (out ++ [(nextF F worth (allowB cl li) S).1]).length
              rw [putL_new HN.out.1, Hlen.out]; simp
            · show grd F worth (allowB cl li) (F.op.length - (out ++ [(nextF F worth (allowB cl li) S).1]).length) _ _ = _
              rw [← HR.out, show F.op.length - out.length = F.op.length - (out.length + 1) + 1 from by omega, Hgo.out]; simp
          case measure => simp [sLen]; omega
end Go.Proofs.Ytlmlmmomfkgdcaa
