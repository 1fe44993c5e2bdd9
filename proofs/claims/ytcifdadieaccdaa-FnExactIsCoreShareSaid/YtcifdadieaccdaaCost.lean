/- The cost of a set of clients: reference and program. No condition. -/
import Derived.Test.YtcifdadieaccdaaBest
import Derived.Test.YtcifdadieaccdaaPart2
namespace Go.Proofs.Ytcifdadieaccdaa
open Go.RowKit Go.Sort

def costF (F : Fld) (C : List Int) : Int := if C = [] then 0 else totF (partF F C) (bestF (partF F C))
theorem tot_bd {F : Fld} (h : goodF F = true) {S : List Int} (hs : setB F S = true) : 0 ≤ totF F S ∧ totF F S ≤ 1386 := by
  have h1 := payF_bd h hs
  have h2 := serveF_bd h S
  unfold totF; omega
theorem cost_bd {F : Fld} (h : goodF F = true) {C : List Int} (hc : crowdB F C = true) : 0 ≤ costF F C ∧ costF F C ≤ 1386 := by
  unfold costF
  by_cases e : C = []
  · rw [if_pos e]; omega
  · rw [if_neg e]
    have hp := part_good h hc
    exact tot_bd hp (best_set hp).1
theorem crowd_nil (F : Fld) : crowdB F [] = true := rfl
set_option maxRecDepth 100000 in
set_option maxHeartbeats 400000 in
theorem costOf_any (f : Value) (F : Fld) (A0 : Option Addr) (C : List Int) (n c0 : Nat) (w : World) (hf : FldAt w f F) (hC : IntsAt w A0 C) (hn : C.length = n) (hg : goodF F = true) (hc : crowdB F C = true) :
    Calls Try.prog 36 #[f, .slice A0 n c0] w fun e w' => e = .returned (.int .i64 (costF F C)) ∧ Kp w w' := by
  obtain ⟨A, c, B, d, rfl, hA, hB⟩ := hf
  have hk0 : Kp w (w.alloc (.cells #[.slice A F.op.length c, .slice B F.di.length d] 29)) := (Kp.refl w).alloc _
  obtain ⟨d0, d1⟩ := box2 w (.slice A F.op.length c) (.slice B F.di.length d) 29
  have hFA := FldAt.kp (show FldAt w (.agg #[.slice A F.op.length c, .slice B F.di.length d]) F from ⟨A, c, B, d, rfl, hA, hB⟩) hk0
  replace hC := hC.kp hk0
  have HP := Lib.hid (part_good hg hc)
  have hne : Hid (0 < n → costF F C = totF (partF F C) (bestF (partF F C))) := by
    show 0 < n → _
    intro h0
    exact if_neg (fun e => by subst e; simp at hn; omega)
  have hnil : Hid (n = 0 → costF F C = 0) := by
    show n = 0 → _
    intro h0
    exact if_pos (List.eq_nil_of_length_eq_zero (by omega))
  have HG := Lib.hid hg; have HC := Lib.hid hc; have Hn := Lib.hid hn
  clear hA hB hg hc hn
  by_cases h0 : n = 0
  · have e0 : Hid (costF F C = 0) := hnil.out h0
    subst h0
    go_enter Try.func36, Try.ntmps36
    go_wp2_with fail
    go_ret
    exact ⟨ret_int e0.out.symm, hk0⟩
  have hpos : 0 < n := by omega
  have hne0 : ((n : Int) == 0) = false := by simp; omega
  have e1 := Lib.hid (hne.out hpos)
  go_enter Try.func36, Try.ntmps36
  go_wp2_with fail
  have hsz : Hid ((w.alloc (.cells #[.slice A F.op.length c, .slice B F.di.length d] 29)).heap.size = w.heap.size + 1) := by show _ = _; simp
  generalize w.alloc (.cells #[.slice A F.op.length c, .slice B F.di.length d] 29) = wb at *
  have hkb : Kp wb wb := Kp.refl _
  have hkw := hk0
  have CC := Lib.hid (only_any _ F A0 C n c0 _ (hFA.kp hkb) (hC.kp hkb) Hn.out HG.out HC.out)
  with_reducible refine Calls.mono CC.out ?_
  rintro e w1 ⟨v, rfl, hv, hk1⟩
  clear CC
  replace hkb := hkb.trans hk1
  have q_d0 := hkb.get d0
  have q_d1 := hkb.get d1
  go_wp2_with fail
  have CC := Lib.hid (bestTotal_any v (partF F C) _ hv HP.out)
  with_reducible refine Calls.mono CC.out ?_
  rintro e w2 ⟨rfl, hk2⟩
  clear CC q_d0 q_d1
  replace hkb := hkb.trans hk2
  have q_d0 := hkb.get d0
  have q_d1 := hkb.get d1
  go_wp2_with fail
  go_ret
  exact ⟨ret_int e1.out.symm, hkw.trans hkb⟩
set_option maxRecDepth 100000 in
set_option maxHeartbeats 400000 in
theorem l9Cost_any (f : Value) (F : Fld) (A0 : Option Addr) (C : List Int) (n c0 : Nat) (w : World) (hf : FldAt w f F) (hC : IntsAt w A0 C) (hn : C.length = n) (hg : goodF F = true) (hc : crowdB F C = true) :
    Calls Try.prog 33 #[f, .slice A0 n c0] w fun e w' => e = .returned (.int .i64 (costF F C)) ∧ Kp w w' := by
  obtain ⟨A, c, B, d, rfl, hA, hB⟩ := hf
  have hk0 : Kp w (w.alloc (.cells #[.slice A F.op.length c, .slice B F.di.length d] 29)) := (Kp.refl w).alloc _
  obtain ⟨d0, d1⟩ := box2 w (.slice A F.op.length c) (.slice B F.di.length d) 29
  have hFA := FldAt.kp (show FldAt w (.agg #[.slice A F.op.length c, .slice B F.di.length d]) F from ⟨A, c, B, d, rfl, hA, hB⟩) hk0
  replace hC := hC.kp hk0
  have HP := Lib.hid (part_good hg hc)
  have hne : Hid (0 < n → costF F C = totF (partF F C) (bestF (partF F C))) := by
    show 0 < n → _
    intro h0
    exact if_neg (fun e => by subst e; simp at hn; omega)
  have hnil : Hid (n = 0 → costF F C = 0) := by
    show n = 0 → _
    intro h0
    exact if_pos (List.eq_nil_of_length_eq_zero (by omega))
  have HG := Lib.hid hg; have HC := Lib.hid hc; have Hn := Lib.hid hn
  clear hA hB hg hc hn
  by_cases h0 : n = 0
  · have e0 : Hid (costF F C = 0) := hnil.out h0
    subst h0
    go_enter Try.func33, Try.ntmps33
    go_wp2_with fail
    go_ret
    exact ⟨ret_int e0.out.symm, hk0⟩
  have hpos : 0 < n := by omega
  have hne0 : ((n : Int) == 0) = false := by simp; omega
  have e1 := Lib.hid (hne.out hpos)
  go_enter Try.func33, Try.ntmps33
  go_wp2_with fail
  have hsz : Hid ((w.alloc (.cells #[.slice A F.op.length c, .slice B F.di.length d] 29)).heap.size = w.heap.size + 1) := by show _ = _; simp
  generalize w.alloc (.cells #[.slice A F.op.length c, .slice B F.di.length d] 29) = wb at *
  have hkb : Kp wb wb := Kp.refl _
  have hkw := hk0
  have CC := Lib.hid (l9Part_any _ F A0 C n c0 _ (hFA.kp hkb) (hC.kp hkb) Hn.out HG.out HC.out)
  with_reducible refine Calls.mono CC.out ?_
  rintro e w1 ⟨v, rfl, hv, hk1⟩
  clear CC
  replace hkb := hkb.trans hk1
  have hvF := hv
  obtain ⟨A2, c2, B2, d2, rfl, _, _⟩ := hv
  have hk1' := (Kp.refl w1).alloc (.cells #[.slice A2 (partF F C).op.length c2, .slice B2 (partF F C).di.length d2] 29)
  obtain ⟨p0, p1⟩ := box2 w1 (.slice A2 (partF F C).op.length c2) (.slice B2 (partF F C).di.length d2) 29
  replace hvF := hvF.kp hk1'
  have hkw2 := (hkw.trans hkb).trans hk1'
  clear hkb
  go_wp2_with fail
  generalize hH : w1.heap.size = H at *
  generalize w1.alloc (.cells #[.slice A2 (partF F C).op.length c2, .slice B2 (partF F C).di.length d2] 29) = wd at *
  have hkz : Kp wd wd := Kp.refl _
  have C1 := Lib.hid (fun (wx : World) (hx : Kp wd wx) => l2Best_any _ (partF F C) wx (hvF.kp hx) HP.out)
  have C2 := Lib.hid (fun (wx : World) (hx : Kp wd wx) (lo : Option Nat) (u : Value) (hu : RowP wx lo u (bestF (partF F C))) => (show ∃ Av cv, u = .slice Av (bestF (partF F C)).length cv ∧ Calls Try.prog 63 #[.agg #[.slice A2 (partF F C).op.length c2, .slice B2 (partF F C).di.length d2], .slice Av (bestF (partF F C)).length cv] wx fun e w' => e = .returned (.int .i64 (totF (partF F C) (bestF (partF F C)))) ∧ Kp wx w' from by
    obtain ⟨Av, cv, e, _, hi⟩ := hu.read
    exact ⟨Av, cv, e, l2Total_any _ (partF F C) Av _ _ cv wx (hvF.kp hx) hi rfl HP.out (best_set HP.out).1 (best_set HP.out).2⟩))
  have q_p0 := hkz.get p0
  have q_p1 := hkz.get p1
  have tok1 : True := trivial
  go_wp2_with fail
  go_region_held3 (fun w' => w'.cell? ⟨H, 0, none⟩ = some (.slice A2 (partF F C).op.length c2) ∧ w'.cell? ⟨H, 1, none⟩ = some (.slice B2 (partF F C).di.length d2) ∧ Kp wd w')
    (first | (refine keepc2 p0 p1 ?_; exact (by repeat (first | with_reducible assumption | with_reducible exact Kp.refl _ | with_reducible refine Kp.drew ?_ | with_reducible refine Kp.alloc ?_ _ | with_reducible refine Kp.drewN ?_ _))) | fail)
    (first
      | (have _t := tok1; go_at_call 64; with_reducible refine Calls.mono (C1.out _ (by repeat (first | with_reducible assumption | with_reducible exact Kp.refl _ | with_reducible refine Kp.drew ?_ | with_reducible refine Kp.alloc ?_ _ | with_reducible refine Kp.drewN ?_ _))) ?_; rintro e wr1 ⟨u, rfl, hu, hka⟩; have hr1 : Kp wd wr1 := Kp.trans (by repeat (first | with_reducible assumption | with_reducible exact Kp.refl _ | with_reducible refine Kp.drew ?_ | with_reducible refine Kp.alloc ?_ _ | with_reducible refine Kp.drewN ?_ _)) hka; obtain ⟨Av, cv, hue, hct⟩ := C2.out _ hr1 _ _ hu; subst hue; have tok2 : True := trivial; clear tok1 _t)
      | (have _t := tok2; go_at_call 63; with_reducible refine Calls.mono hct ?_; rintro e wr2 ⟨rfl, hka⟩; have hr2 : Kp wd wr2 := Kp.trans hr1 hka; have tok3 : True := trivial; clear tok2 _t)
      | fail)
  go_wp2_with fail
  go_ret
  exact ⟨ret_int e1.out.symm, hkw2.trans hr2⟩
end Go.Proofs.Ytcifdadieaccdaa
