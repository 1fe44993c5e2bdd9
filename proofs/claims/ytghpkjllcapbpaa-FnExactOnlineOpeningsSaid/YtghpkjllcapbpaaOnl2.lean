/- Openings as the clients come: the reference's walk. No condition. -/
import Derived.Test.YtghpkjllcapbpaaOnl
import Derived.Test.YtghpkjllcapbpaaLists
namespace Go.Proofs.Ytghpkjllcapbpaa
open Go.RowKit Go.Sort

theorem op_at {F : Fld} {a : Nat} (h : a < F.op.length) : F.op[a] = opAt F (a : Int) := by simp [opAt, List.getD, h]
theorem di_at {F : Fld} {j a : Nat} (h : j < F.di.length) (ha : a < F.di[j].length) : F.di[j][a] = dAt F j (a : Int) := by simp [dAt, List.getD, h, ha]
theorem Apart.sym {v u : Value} (h : Apart v u) : Apart u v := fun g hu hv => h g hv hu
theorem apart_own {w w' : World} {base base' : Nat} {v u : Value} {xs ys : List Int} (h : Own w base v xs) (h' : Own w' base' u ys) (hl : w.heap.size ≤ base') : Apart v u := fun g hg hu => by
  have h1 := h.lt g hg
  have h2 := h'.lt g hu
  omega
theorem gapart_own {w w' : World} {lo : Option Nat} {base base' : Nat} {v u : Value} {rows : List (List Int)} {ys : List Int} (h : GOwn w lo base v rows) (h' : Own w' base' u ys) (hl : w.heap.size ≤ base') : Apart v u := fun g hg hu => by
  have h1 := h.lt g hg
  have h2 := h'.lt g hu
  omega
set_option maxRecDepth 100000 in
set_option maxHeartbeats 2000000 in
theorem l10First_any (f : Value) (F : Fld) (i : Nat) (w : World) (hf : FldAt w f F) (hg : goodF F = true) (hi : i < F.di.length) :
    Calls Try.prog 83 #[f, .int .i64 i] w fun e w' => e = .returned (.int .i64 (firstF F i : Int)) ∧ Kp w w' := by
  have h1n := (goodF_iff.1 hg).1.1
  have h7n := (goodF_iff.1 hg).1.2
  obtain ⟨A, c, B, d, rfl, hA, hB⟩ := hf
  obtain ⟨od, rfl, zz⟩ := hA.at_ (k := 0) (by omega)
  clear zz
  obtain ⟨bd, A4, c4, rfl, hcr, hrr⟩ := hB.at_ hi
  have hrl := goodRow hg hi
  obtain ⟨rd, rfl, zz⟩ := hrr.at_ (k := 0) (by omega)
  clear zz
  have hk0 : Kp w (w.alloc (.cells #[.slice (some od) F.op.length c, .slice (some bd) F.di.length d] 54)) := (Kp.refl w).alloc _
  obtain ⟨d0, d1⟩ := box2 w (.slice (some od) F.op.length c) (.slice (some bd) F.di.length d) 54
  replace hA := hA.kp hk0
  replace hrr := hrr.kp hk0
  replace hcr := hk0.get hcr
  have HG := Lib.hid hg
  have Hrl := Lib.hid hrl
  have hH : Hid (firstF F i = firstT F i F.op.length) := rfl
  clear hB hg hrl
  go_enter Try.func83, Try.ntmps83
  go_wp2_with fail
  generalize w.alloc (.cells #[.slice (some od) F.op.length c, .slice (some bd) F.di.length d] 54) = wb at *
  go_loopw [5, 6] (fun bv iv wr => ∃ a : Nat, 1 ≤ a ∧ a ≤ F.op.length ∧ iv = .int .i64 a ∧ bv = .int .i64 (firstT F i a : Int) ∧ Kp wb wr) (fun _ iv _ => F.op.length - (intOf iv).toNat)
  case atStart => exact ⟨1, by omega, h1n, rfl, by rw [first_one]; rfl, Kp.refl _⟩
  case round =>
    obtain ⟨a, ha1, ha, rfl, rfl, hkb⟩ := hrel
    have hfl := first_lt F i a ha1
    have q0 := hkb.get d0
    have q1 := hkb.get d1
    have q2 := hkb.get hcr
    by_cases hla : a < F.op.length
    · have l2 : firstT F i a < F.op.length := by omega
      have l3 : a < F.di[i].length := by rw [Hrl.out]; exact hla
      have l4 : firstT F i a < F.di[i].length := by rw [Hrl.out]; exact l2
      have c1 := (hA.kp hkb).some_ hla
      have c2 := (hA.kp hkb).some_ l2
      have c3 := (hrr.kp hkb).some_ l3
      have c5 := (hrr.kp hkb).some_ l4
      rw [op_at hla] at c1
      rw [op_at l2] at c2
      rw [di_at hi l3] at c3
      rw [di_at hi l4] at c5
      obtain ⟨x1, x2⟩ := opAt_bd HG.out (a : Int)
      obtain ⟨x3, x4⟩ := opAt_bd HG.out (firstT F i a : Int)
      obtain ⟨x5, x6⟩ := dAt_bd HG.out hi (a : Int)
      obtain ⟨x7, x8⟩ := dAt_bd HG.out hi (firstT F i a : Int)
      by_cases hlt : cstF F i a < cstF F i (firstT F i a)
      · have Hy := Lib.hid (first_yes hlt)
        have hlt2 : opAt F (a : Int) + dAt F i (a : Int) < opAt F (firstT F i a : Int) + dAt F i (firstT F i a : Int) := hlt
        clear hlt hfl
        go_wp2_with fail
        go_quiet (fail)
        go_wp2_with fail
        go_roundw
        case rel => exact ⟨a + 1, by omega, by omega, by go_num, by rw [Hy.out], hkb.drewN _⟩
        case measure => simp [intOf]; omega
      · have Hy := Lib.hid (first_no hlt)
        have hlt2 : ¬ opAt F (a : Int) + dAt F i (a : Int) < opAt F (firstT F i a : Int) + dAt F i (firstT F i a : Int) := hlt
        clear hlt hfl
        go_wp2_with fail
        go_quiet (fail)
        go_wp2_with fail
        go_roundw
        case rel => exact ⟨a + 1, by omega, by omega, by go_num, by rw [Hy.out], hkb.drewN _⟩
        case measure => simp [intOf]; omega
    · obtain rfl : a = F.op.length := by omega
      go_wp2_with fail
      go_ret
      exact ⟨ret_int (by rw [hH.out]), hk0.trans hkb⟩
set_option maxRecDepth 100000 in
set_option maxHeartbeats 2000000 in
theorem l10Wanted_any (f : Value) (F : Fld) (m : Nat) (A0 : Option Addr) (S : List Int) (n c0 : Nat) (w : World) (hf : FldAt w f F) (hS : IntsAt w A0 S) (hn : S.length = n) (hg : goodF F = true) (hs : setB F S = true) (hne : S ≠ []) (hm : m ≤ F.di.length) :
    Calls Try.prog 85 #[f, .int .i64 m, .slice A0 n c0] w fun e w' => e = .returned (.int .i64 (wantF F m S)) ∧ Kp w w' := by
  have h1n := (goodF_iff.1 hg).1.1
  have h7n := (goodF_iff.1 hg).1.2
  have h7d := (goodF_iff.1 hg).2.2.1
  obtain ⟨A, c, B, d, rfl, hA, hB⟩ := hf
  have hk0 : Kp w (w.alloc (.cells #[.slice A F.op.length c, .slice B F.di.length d] 54)) := (Kp.refl w).alloc _
  obtain ⟨d0, d1⟩ := box2 w (.slice A F.op.length c) (.slice B F.di.length d) 54
  have hFA := FldAt.kp (show FldAt w (.agg #[.slice A F.op.length c, .slice B F.di.length d]) F from ⟨A, c, B, d, rfl, hA, hB⟩) hk0
  replace hS := hS.kp hk0
  obtain ⟨od, hAe, hop⟩ : ∃ od, A = some od ∧ IntsAt w A F.op := by
    obtain ⟨od, e, _⟩ := hA.at_ (k := 0) (by omega)
    exact ⟨od, e, hA⟩
  replace hop := hop.kp hk0
  have HAe := Lib.hid hAe
  have HG := Lib.hid hg; have HS := Lib.hid hs; have HE := Lib.hid hne; have Hn := Lib.hid hn
  have HW := Lib.hid (fun a => wishT_bd hg S a m hm)
  have HP := Lib.hid (pick_bd (outB S) (wishF F m S))
  have Hf : Hid ((wantT F m S F.op.length).1 = wantF F m S) := rfl
  clear hA hB hg hs hne hn hAe
  go_enter Try.func85, Try.ntmps85
  go_wp2_with fail
  have hsz : Hid ((w.alloc (.cells #[.slice A F.op.length c, .slice B F.di.length d] 54)).heap.size = w.heap.size + 1) := by show _ = _; simp
  generalize w.alloc (.cells #[.slice A F.op.length c, .slice B F.di.length d] 54) = wb at *
  have hkb : Kp wb wb := Kp.refl _
  have hkw := hk0
  have hAe := HAe.out
  subst hAe
  have q_d1 := hkb.get d1
  have q_d0 := hkb.get d0
  go_wp2_with fail
  go_loopw [7, 8, 9] (fun bv mv iv wr => ∃ a : Nat, a ≤ F.op.length ∧ iv = .int .i64 a ∧ bv = .int .i64 (wantT F m S a).1 ∧ mv = .int .i64 (wantT F m S a).2 ∧ Kp wb wr) (fun _ _ iv _ => F.op.length - (intOf iv).toNat)
  case atStart => exact ⟨0, by omega, rfl, rfl, rfl, hkb⟩
  case round =>
    clear hkb
    obtain ⟨a, ha, rfl, rfl, rfl, hkb⟩ := hrel
    by_cases hla : a < F.op.length
    · have hoc := hop.some_ hla
      rw [op_at hla] at hoc
      clear q_d1 q_d0
      have q_d1 := hkb.get d1
      have q_d0 := hkb.get d0
      go_wp2_with fail
      have CC := Lib.hid (l1Has_any A0 S n c0 (a : Int) _ (hS.kp hkb) Hn.out)
      with_reducible refine Calls.mono CC.out ?_
      rintro e w1 ⟨rfl, hw⟩
      obtain rfl := hw
      clear CC q_d1 q_d0
      cases hh : (S.any fun x => x == (a : Int))
      · obtain ⟨x1, x2⟩ := opAt_bd HG.out (a : Int)
        obtain ⟨x3, x4⟩ := HW.out a
        have C1 := Lib.hid (fun (wx : World) (hx : Kp wb wx) => l10Wishes_any _ F m A0 S n c0 a wx (hFA.kp hx) (hS.kp hx) Hn.out HG.out HS.out HE.out hm hla)
        have hwr : IntKind.i64.wrap (wishT F S a m - opAt F (a : Int)) = wishT F S a m - opAt F (a : Int) := IntWalk.i64_in _ (by omega)
        have Hwf : Hid (wishF F m S a = wishT F S a m - opAt F (a : Int)) := rfl
        by_cases hlt : (wantT F m S a).2 < wishF F m S a
        · have Hy := Lib.hid (want_yes hh hlt)
          have hlt2 : (wantT F m S a).2 < wishT F S a m - opAt F (a : Int) := hlt
          clear hlt hh
          have q_d1 := hkb.get d1
          have q_d0 := hkb.get d0
          have q_hoc := hkb.get hoc
          have tok1 : True := trivial
          go_wp2_with fail
          go_region_held3 (fun w' => w'.cell? ⟨w.heap.size, 1, none⟩ = some (.slice B F.di.length d) ∧ w'.cell? ⟨w.heap.size, 0, none⟩ = some (.slice (some od) F.op.length c) ∧ w'.cell? (od.add a) = some (.int .i64 (opAt F (a : Int))) ∧ Kp wb w')
            (first | (refine keepc3 d1 d0 hoc ?_; exact (by repeat (first | with_reducible assumption | with_reducible exact Kp.refl _ | with_reducible refine Kp.drew ?_ | with_reducible refine Kp.alloc ?_ _ | with_reducible refine Kp.drewN ?_ _))) | fail)
            (first
              | (have _t := tok1; go_at_call 93; with_reducible refine Calls.mono (C1.out _ (by repeat (first | with_reducible assumption | with_reducible exact Kp.refl _ | with_reducible refine Kp.drew ?_ | with_reducible refine Kp.alloc ?_ _ | with_reducible refine Kp.drewN ?_ _))) ?_; rintro e wr1 ⟨rfl, hka⟩; have hr1 : Kp wb wr1 := Kp.trans (by repeat (first | with_reducible assumption | with_reducible exact Kp.refl _ | with_reducible refine Kp.drew ?_ | with_reducible refine Kp.alloc ?_ _ | with_reducible refine Kp.drewN ?_ _)) hka; have tok2 : True := trivial; clear tok1 _t)
              | fail)
          go_wp2_with fail
          go_roundw
          case rel => exact ⟨a + 1, by omega, by go_num, by rw [Hy.out], by rw [Hy.out, Hwf.out], hr1⟩
          case measure => simp [intOf]; omega
        · have Hy := Lib.hid (want_less hlt)
          have hlt2 : ¬ (wantT F m S a).2 < wishT F S a m - opAt F (a : Int) := hlt
          clear hlt hh
          have q_d1 := hkb.get d1
          have q_d0 := hkb.get d0
          have q_hoc := hkb.get hoc
          have tok1 : True := trivial
          go_wp2_with fail
          go_region_held3 (fun w' => w'.cell? ⟨w.heap.size, 1, none⟩ = some (.slice B F.di.length d) ∧ w'.cell? ⟨w.heap.size, 0, none⟩ = some (.slice (some od) F.op.length c) ∧ w'.cell? (od.add a) = some (.int .i64 (opAt F (a : Int))) ∧ Kp wb w')
            (first | (refine keepc3 d1 d0 hoc ?_; exact (by repeat (first | with_reducible assumption | with_reducible exact Kp.refl _ | with_reducible refine Kp.drew ?_ | with_reducible refine Kp.alloc ?_ _ | with_reducible refine Kp.drewN ?_ _))) | fail)
            (first
              | (have _t := tok1; go_at_call 93; with_reducible refine Calls.mono (C1.out _ (by repeat (first | with_reducible assumption | with_reducible exact Kp.refl _ | with_reducible refine Kp.drew ?_ | with_reducible refine Kp.alloc ?_ _ | with_reducible refine Kp.drewN ?_ _))) ?_; rintro e wr1 ⟨rfl, hka⟩; have hr1 : Kp wb wr1 := Kp.trans (by repeat (first | with_reducible assumption | with_reducible exact Kp.refl _ | with_reducible refine Kp.drew ?_ | with_reducible refine Kp.alloc ?_ _ | with_reducible refine Kp.drewN ?_ _)) hka; have tok2 : True := trivial; clear tok1 _t)
              | fail)
          go_wp2_with fail
          go_roundw
          case rel => exact ⟨a + 1, by omega, by go_num, by rw [Hy.out], by rw [Hy.out], hr1⟩
          case measure => simp [intOf]; omega
      · have Hy := Lib.hid (want_in (m := m) (F := F) hh)
        clear hh
        have q_d1 := hkb.get d1
        have q_d0 := hkb.get d0
        go_wp2_with fail
        go_roundw
        case rel => exact ⟨a + 1, by omega, by go_num, by rw [Hy.out], by rw [Hy.out], hkb⟩
        case measure => simp [intOf]; omega
    · obtain rfl : a = F.op.length := by omega
      clear q_d1 q_d0
      have q_d1 := hkb.get d1
      have q_d0 := hkb.get d0
      go_wp2_with fail
      go_ret
      exact ⟨ret_int Hf.out, hkw.trans hkb⟩
end Go.Proofs.Ytghpkjllcapbpaa
