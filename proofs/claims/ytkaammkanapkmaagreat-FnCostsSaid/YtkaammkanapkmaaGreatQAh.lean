/- The cost of a set of clients: reference and program; GainTable: reference and program; CostOfClients and CostTable: reference and program; The best one is no worse than any; How near the nearest site is; What sets of clients cost, in plain words: never less with more clients, and two sets together at most the sum; Sums over the first numbers; Lists of different numbers. No condition. -/
import Derived.Test.YtkaammkanapkmaaGreatQAf
import Derived.Test.YtkaammkanapkmaaGreatQAg
import Derived.Test.YtkaammkanapkmaaGreatQAd
import Derived.Test.YtkaammkanapkmaaGreatQAe
import Derived.Test.YtkaammkanapkmaaGreatQAa
import Derived.Test.YtkaammkanapkmaaGreatQAc
namespace Go.Proofs.YtkaammkanapkmaaGreat
open Go.RowKit Go.Sort

def costF (F : Fld) (C : List Int) : Int := if C = [] then 0 else totF (partF F C) (bestF (partF F C))
theorem tot_bd {F : Fld} (h : goodF F = true) {S : List Int} (hs : setB F S = true) : 0 ≤ totF F S ∧ totF F S ≤ 1386 := by
  have h1 := payF_bd h hs
  have h2 := serveF_bd h S
  unfold totF; omega
theorem cost_bd {F : Fld} (h : goodF F = true) {C : List Int} (hc : crowdB F C = true) : 0 ≤ costF F C ∧ costF F C ≤ 1386 := by
  unfold costF
  by_cases e : C = []
  · rw [if_pos e]; omega
  · rw [if_neg e]
    have hp := part_good h hc
    exact tot_bd hp (best_set hp).1
theorem crowd_nil (F : Fld) : crowdB F [] = true := rfl
set_option maxRecDepth 100000 in
set_option maxHeartbeats 400000 in
theorem costOf_any (f : Value) (F : Fld) (A0 : Option Addr) (C : List Int) (n c0 : Nat) (w : World) (hf : FldAt w f F) (hC : IntsAt w A0 C) (hn : C.length = n) (hg : goodF F = true) (hc : crowdB F C = true) :
    Calls Tryz.prog 32 #[f, .slice A0 n c0] w fun e w' => e = .returned (.int .i64 (costF F C)) ∧ Kp w w' := by
  obtain ⟨A, c, B, d, rfl, hA, hB⟩ := hf
  have hk0 : Kp w (w.alloc (.cells #[.slice A F.op.length c, .slice B F.di.length d] 27)) := (Kp.refl w).alloc _
  obtain ⟨d0, d1⟩ := box2 w (.slice A F.op.length c) (.slice B F.di.length d) 27
  have hFA := FldAt.kp (show FldAt w (.agg #[.slice A F.op.length c, .slice B F.di.length d]) F from ⟨A, c, B, d, rfl, hA, hB⟩) hk0
  replace hC := hC.kp hk0
  have HP := Lib.hid (part_good hg hc)
  have hne : Hid (0 < n → costF F C = totF (partF F C) (bestF (partF F C))) := by
    show 0 < n → _
    intro h0
    exact if_neg (fun e => by subst e; simp at hn; omega)
  have hnil : Hid (n = 0 → costF F C = 0) := by
    show n = 0 → _
    intro h0
    exact if_pos (List.eq_nil_of_length_eq_zero (by omega))
  have HG := Lib.hid hg; have HC := Lib.hid hc; have Hn := Lib.hid hn
  clear hA hB hg hc hn
  by_cases h0 : n = 0
  · have e0 : Hid (costF F C = 0) := hnil.out h0
    subst h0
    go_enter Tryz.func32, Tryz.ntmps32
    go_wp2_with fail
    go_ret
    exact ⟨ret_int e0.out.symm, hk0⟩
  have hpos : 0 < n := by omega
  have hne0 : ((n : Int) == 0) = false := by simp; omega
  have e1 := Lib.hid (hne.out hpos)
  go_enter Tryz.func32, Tryz.ntmps32
  go_wp2_with fail
  have hsz : Hid ((w.alloc (.cells #[.slice A F.op.length c, .slice B F.di.length d] 27)).heap.size = w.heap.size + 1) := by show _ = _; simp
  generalize w.alloc (.cells #[.slice A F.op.length c, .slice B F.di.length d] 27) = wb at *
  have hkb : Kp wb wb := Kp.refl _
  have hkw := hk0
  have CC := Lib.hid (only_any _ F A0 C n c0 _ (hFA.kp hkb) (hC.kp hkb) Hn.out HG.out HC.out)
  with_reducible refine Calls.mono CC.out ?_
  rintro e w1 ⟨v, rfl, hv, hk1⟩
  clear CC
  replace hkb := hkb.trans hk1
  have q_d0 := hkb.get d0
  have q_d1 := hkb.get d1
  go_wp2_with fail
  have CC := Lib.hid (bestTotal_any v (partF F C) _ hv HP.out)
  with_reducible refine Calls.mono CC.out ?_
  rintro e w2 ⟨rfl, hk2⟩
  clear CC q_d0 q_d1
  replace hkb := hkb.trans hk2
  have q_d0 := hkb.get d0
  have q_d1 := hkb.get d1
  go_wp2_with fail
  go_ret
  exact ⟨ret_int e1.out.symm, hkw.trans hkb⟩
set_option maxRecDepth 100000 in
set_option maxHeartbeats 400000 in
theorem l9Cost_any (f : Value) (F : Fld) (A0 : Option Addr) (C : List Int) (n c0 : Nat) (w : World) (hf : FldAt w f F) (hC : IntsAt w A0 C) (hn : C.length = n) (hg : goodF F = true) (hc : crowdB F C = true) :
    Calls Tryz.prog 34 #[f, .slice A0 n c0] w fun e w' => e = .returned (.int .i64 (costF F C)) ∧ Kp w w' := by
  obtain ⟨A, c, B, d, rfl, hA, hB⟩ := hf
  have hk0 : Kp w (w.alloc (.cells #[.slice A F.op.length c, .slice B F.di.length d] 27)) := (Kp.refl w).alloc _
  obtain ⟨d0, d1⟩ := box2 w (.slice A F.op.length c) (.slice B F.di.length d) 27
  have hFA := FldAt.kp (show FldAt w (.agg #[.slice A F.op.length c, .slice B F.di.length d]) F from ⟨A, c, B, d, rfl, hA, hB⟩) hk0
  replace hC := hC.kp hk0
  have HP := Lib.hid (part_good hg hc)
  have hne : Hid (0 < n → costF F C = totF (partF F C) (bestF (partF F C))) := by
    show 0 < n → _
    intro h0
    exact if_neg (fun e => by subst e; simp at hn; omega)
  have hnil : Hid (n = 0 → costF F C = 0) := by
    show n = 0 → _
    intro h0
    exact if_pos (List.eq_nil_of_length_eq_zero (by omega))
  have HG := Lib.hid hg; have HC := Lib.hid hc; have Hn := Lib.hid hn
  clear hA hB hg hc hn
  by_cases h0 : n = 0
  · have e0 : Hid (costF F C = 0) := hnil.out h0
    subst h0
    go_enter Tryz.func34, Tryz.ntmps34
    go_wp2_with fail
    go_ret
    exact ⟨ret_int e0.out.symm, hk0⟩
  have hpos : 0 < n := by omega
  have hne0 : ((n : Int) == 0) = false := by simp; omega
  have e1 := Lib.hid (hne.out hpos)
  go_enter Tryz.func34, Tryz.ntmps34
  go_wp2_with fail
  have hsz : Hid ((w.alloc (.cells #[.slice A F.op.length c, .slice B F.di.length d] 27)).heap.size = w.heap.size + 1) := by show _ = _; simp
  generalize w.alloc (.cells #[.slice A F.op.length c, .slice B F.di.length d] 27) = wb at *
  have hkb : Kp wb wb := Kp.refl _
  have hkw := hk0
  have CC := Lib.hid (l9Part_any _ F A0 C n c0 _ (hFA.kp hkb) (hC.kp hkb) Hn.out HG.out HC.out)
  with_reducible refine Calls.mono CC.out ?_
  rintro e w1 ⟨v, rfl, hv, hk1⟩
  clear CC
  replace hkb := hkb.trans hk1
  have hvF := hv
  obtain ⟨A2, c2, B2, d2, rfl, _, _⟩ := hv
  have hk1' := (Kp.refl w1).alloc (.cells #[.slice A2 (partF F C).op.length c2, .slice B2 (partF F C).di.length d2] 27)
  obtain ⟨p0, p1⟩ := box2 w1 (.slice A2 (partF F C).op.length c2) (.slice B2 (partF F C).di.length d2) 27
  replace hvF := hvF.kp hk1'
  have hkw2 := (hkw.trans hkb).trans hk1'
  clear hkb
  go_wp2_with fail
  generalize hH : w1.heap.size = H at *
  generalize w1.alloc (.cells #[.slice A2 (partF F C).op.length c2, .slice B2 (partF F C).di.length d2] 27) = wd at *
  have hkz : Kp wd wd := Kp.refl _
  have C1 := Lib.hid (fun (wx : World) (hx : Kp wd wx) => l2Best_any _ (partF F C) wx (hvF.kp hx) HP.out)
  have C2 := Lib.hid (fun (wx : World) (hx : Kp wd wx) (lo : Option Nat) (u : Value) (hu : RowP wx lo u (bestF (partF F C))) => (show ∃ Av cv, u = .slice Av (bestF (partF F C)).length cv ∧ Calls Tryz.prog 60 #[.agg #[.slice A2 (partF F C).op.length c2, .slice B2 (partF F C).di.length d2], .slice Av (bestF (partF F C)).length cv] wx fun e w' => e = .returned (.int .i64 (totF (partF F C) (bestF (partF F C)))) ∧ Kp wx w' from by
    obtain ⟨Av, cv, e, _, hi⟩ := hu.read
    exact ⟨Av, cv, e, l2Total_any _ (partF F C) Av _ _ cv wx (hvF.kp hx) hi rfl HP.out (best_set HP.out).1 (best_set HP.out).2⟩))
  have q_p0 := hkz.get p0
  have q_p1 := hkz.get p1
  have tok1 : True := trivial
  go_wp2_with fail
  go_region_held3 (fun w' => w'.cell? ⟨H, 0, none⟩ = some (.slice A2 (partF F C).op.length c2) ∧ w'.cell? ⟨H, 1, none⟩ = some (.slice B2 (partF F C).di.length d2) ∧ Kp wd w')
    (first | (refine keepc2 p0 p1 ?_; exact (by repeat (first | with_reducible assumption | with_reducible exact Kp.refl _ | with_reducible refine Kp.drew ?_ | with_reducible refine Kp.alloc ?_ _ | with_reducible refine Kp.drewN ?_ _ | refine Kp.setCell ?_ (by dsimp only; omega) _))) | fail)
    (first
      | (have _t := tok1; go_at_call 61; with_reducible refine Calls.mono (C1.out _ (by repeat (first | with_reducible assumption | with_reducible exact Kp.refl _ | with_reducible refine Kp.drew ?_ | with_reducible refine Kp.alloc ?_ _ | with_reducible refine Kp.drewN ?_ _ | refine Kp.setCell ?_ (by dsimp only; omega) _))) ?_; rintro e wr1 ⟨u, rfl, hu, hka⟩; have hr1 : Kp wd wr1 := Kp.trans (by repeat (first | with_reducible assumption | with_reducible exact Kp.refl _ | with_reducible refine Kp.drew ?_ | with_reducible refine Kp.alloc ?_ _ | with_reducible refine Kp.drewN ?_ _ | refine Kp.setCell ?_ (by dsimp only; omega) _)) hka; obtain ⟨Av, cv, hue, hct⟩ := C2.out _ hr1 _ _ hu; subst hue; have tok2 : True := trivial; clear tok1 _t)
      | (have _t := tok2; go_at_call 60; with_reducible refine Calls.mono hct ?_; rintro e wr2 ⟨rfl, hka⟩; have hr2 : Kp wd wr2 := Kp.trans hr1 hka; have tok3 : True := trivial; clear tok2 _t)
      | fail)
  go_wp2_with fail
  go_ret
  exact ⟨ret_int e1.out.symm, hkw2.trans hr2⟩
end Go.Proofs.YtkaammkanapkmaaGreat

namespace Go.Proofs.YtkaammkanapkmaaGreat
open Go.RowKit Go.Sort

def tabF (F : Fld) (worth : Int) (b : Nat) : Int := gainF F worth (bitsL F.op.length b)
def tabOk (F : Fld) (worth : Int) : Bool := goodF F && worthB worth
def tabL (F : Fld) (worth : Int) : List Int := if tabOk F worth = true then mapTo (tabF F worth) (2 ^ F.op.length) else []
theorem tabL_yes {F : Fld} {worth : Int} (h : tabOk F worth = true) : tabL F worth = mapTo (tabF F worth) (2 ^ F.op.length) := if_pos h
theorem tabL_no {F : Fld} {worth : Int} (h : tabOk F worth = false) : tabL F worth = [] := if_neg (by simp [h])
theorem tabOk_parts {F : Fld} {worth : Int} (h : tabOk F worth = true) : goodF F = true ∧ 0 ≤ worth ∧ worth ≤ 999 := by
  simp only [tabOk, worthB, inB, Bool.and_eq_true, decide_eq_true_eq] at h
  exact ⟨h.1, h.2.1, h.2.2⟩
theorem pow7 {n : Nat} (h : n ≤ 7) : 2 ^ n ≤ 128 := Nat.pow_le_pow_right (by omega) h
theorem tabL_len (F : Fld) (worth : Int) : (tabL F worth).length ≤ 1048576 := by
  by_cases h : tabOk F worth = true
  · rw [tabL_yes h, mapTo_len]
    have := pow7 (goodF_iff.1 (tabOk_parts h).1).1.2
    omega
  · rw [tabL_no (by simpa using h)]; simp

end Go.Proofs.YtkaammkanapkmaaGreat

namespace Go.Proofs.YtkaammkanapkmaaGreat
open Go.RowKit Go.Sort

def cocOk (F : Fld) (C : List Int) : Bool := goodF F && crowdB F C
def cocR (F : Fld) (C : List Int) : Int := if cocOk F C = true then costF F C else 0
theorem coc_no {F : Fld} {C : List Int} (h : cocOk F C = false) : Ending.returned (.tuple #[.int .i64 0, .bool false]) = .returned (.tuple #[.int .i64 (cocR F C), .bool (cocOk F C)]) := by rw [cocR, h]; rfl
theorem coc_yes {F : Fld} {C : List Int} (h : cocOk F C = true) : Ending.returned (.tuple #[.int .i64 (costF F C), .bool true]) = .returned (.tuple #[.int .i64 (cocR F C), .bool (cocOk F C)]) := by rw [cocR, h, if_pos rfl]
set_option maxRecDepth 100000 in
set_option maxHeartbeats 400000 in
theorem l9Clients_any (f : Value) (F : Fld) (A0 : Option Addr) (C : List Int) (n c0 : Nat) (w : World) (hf : FldAt w f F) (hC : IntsAt w A0 C) (hn : C.length = n) :
    Calls Tryz.prog 33 #[f, .slice A0 n c0] w fun e w' => e = .returned (.bool (crowdB F C)) ∧ Kp w w' := by
  obtain ⟨A, c, B, d, rfl, hA, hB⟩ := hf
  have hk0 : Kp w (w.alloc (.cells #[.slice A F.op.length c, .slice B F.di.length d] 27)) := (Kp.refl w).alloc _
  obtain ⟨d0, d1⟩ := box2 w (.slice A F.op.length c) (.slice B F.di.length d) 27
  have hFA := FldAt.kp (show FldAt w (.agg #[.slice A F.op.length c, .slice B F.di.length d]) F from ⟨A, c, B, d, rfl, hA, hB⟩) hk0
  replace hC := hC.kp hk0
  have hdl := hB.1
  have Hn := Lib.hid hn
  clear hA hB hn
  go_enter Tryz.func33, Tryz.ntmps33
  go_wp2_with fail
  have hsz : Hid ((w.alloc (.cells #[.slice A F.op.length c, .slice B F.di.length d] 27)).heap.size = w.heap.size + 1) := by show _ = _; simp
  generalize w.alloc (.cells #[.slice A F.op.length c, .slice B F.di.length d] 27) = wb at *
  have hkb : Kp wb wb := Kp.refl _
  have hkw := hk0
  have CC := Lib.hid (l1Rising_any A0 C n c0 0 ((F.di.length : Int) - 1) _ (hC.kp hkb) Hn.out)
  with_reducible refine Calls.mono CC.out ?_
  rintro e w1 ⟨rfl, hd1⟩
  have hk1 := hd1.kp
  clear CC
  replace hkb := hkb.trans hk1
  have q_d0 := hkb.get d0
  have q_d1 := hkb.get d1
  go_wp2_with fail
  go_ret
  exact ⟨rfl, hkw.trans hkb⟩
set_option maxRecDepth 100000 in
set_option maxHeartbeats 400000 in
theorem isCrowd_any (f : Value) (F : Fld) (A0 : Option Addr) (C : List Int) (n c0 : Nat) (w : World) (hf : FldAt w f F) (hC : IntsAt w A0 C) (hn : C.length = n) :
    Calls Tryz.prog 31 #[f, .slice A0 n c0] w fun e w' => e = .returned (.bool (goodF F && crowdB F C)) ∧ Kp w w' := by
  obtain ⟨A, c, B, d, rfl, hA, hB⟩ := hf
  have hk0 : Kp w (w.alloc (.cells #[.slice A F.op.length c, .slice B F.di.length d] 27)) := (Kp.refl w).alloc _
  obtain ⟨d0, d1⟩ := box2 w (.slice A F.op.length c) (.slice B F.di.length d) 27
  have hFA := FldAt.kp (show FldAt w (.agg #[.slice A F.op.length c, .slice B F.di.length d]) F from ⟨A, c, B, d, rfl, hA, hB⟩) hk0
  replace hC := hC.kp hk0
  have hdl := hB.1
  have Hn := Lib.hid hn
  clear hA hB hn
  go_enter Tryz.func31, Tryz.ntmps31
  go_wp2_with fail
  have hsz : Hid ((w.alloc (.cells #[.slice A F.op.length c, .slice B F.di.length d] 27)).heap.size = w.heap.size + 1) := by show _ = _; simp
  generalize w.alloc (.cells #[.slice A F.op.length c, .slice B F.di.length d] 27) = wb at *
  have hkb : Kp wb wb := Kp.refl _
  have hkw := hk0
  have CC := Lib.hid (isField_any _ F _ (hFA.kp hkb))
  with_reducible refine Calls.mono CC.out ?_
  rintro e w1 ⟨rfl, hk1⟩
  clear CC
  replace hkb := hkb.trans hk1
  cases hg_ : goodF F
  · have Hg := Lib.hid hg_
    clear hg_
    have q_d0 := hkb.get d0
    have q_d1 := hkb.get d1
    go_wp2_with fail
    go_ret
    exact ⟨ret_bool (by rw [Hg.out]; rfl), hkw.trans hkb⟩
  have Hg := Lib.hid hg_
  clear hg_
  have q_d0 := hkb.get d0
  have q_d1 := hkb.get d1
  go_wp2_with fail
  have CC := Lib.hid (isRising_any A0 C n c0 (F.di.length : Int) _ (hC.kp hkb) Hn.out (by omega) (by omega))
  with_reducible refine Calls.mono CC.out ?_
  rintro e w2 ⟨rfl, hw⟩
  obtain rfl := hw
  clear CC q_d0 q_d1
  have q_d0 := hkb.get d0
  have q_d1 := hkb.get d1
  go_wp2_with fail
  go_ret
  exact ⟨ret_bool (by rw [Hg.out]; rfl), hkw.trans hkb⟩
set_option maxRecDepth 100000 in
set_option maxHeartbeats 400000 in
theorem specCoc_any (f : Value) (F : Fld) (A0 : Option Addr) (C : List Int) (n c0 : Nat) (w : World) (hf : FldAt w f F) (hC : IntsAt w A0 C) (hn : C.length = n) :
    Calls Tryz.prog 11 #[f, .slice A0 n c0] w fun e w' => e = .returned (.tuple #[.int .i64 (cocR F C), .bool (cocOk F C)]) ∧ Kp w w' := by
  obtain ⟨A, c, B, d, rfl, hA, hB⟩ := hf
  have hk0 : Kp w (w.alloc (.cells #[.slice A F.op.length c, .slice B F.di.length d] 27)) := (Kp.refl w).alloc _
  obtain ⟨d0, d1⟩ := box2 w (.slice A F.op.length c) (.slice B F.di.length d) 27
  have hFA := FldAt.kp (show FldAt w (.agg #[.slice A F.op.length c, .slice B F.di.length d]) F from ⟨A, c, B, d, rfl, hA, hB⟩) hk0
  replace hC := hC.kp hk0
  have hdl := hB.1
  have Hn := Lib.hid hn
  clear hA hB hn
  go_enter Tryz.func11, Tryz.ntmps11
  go_wp2_with fail
  have hsz : Hid ((w.alloc (.cells #[.slice A F.op.length c, .slice B F.di.length d] 27)).heap.size = w.heap.size + 1) := by show _ = _; simp
  generalize w.alloc (.cells #[.slice A F.op.length c, .slice B F.di.length d] 27) = wb at *
  have hkb : Kp wb wb := Kp.refl _
  have hkw := hk0
  have CC := Lib.hid (l2Good_any _ F _ (hFA.kp hkb))
  with_reducible refine Calls.mono CC.out ?_
  rintro e w1 ⟨rfl, hk1⟩
  clear CC
  replace hkb := hkb.trans hk1
  cases hg_ : (goodF F)
  · have Hg := Lib.hid hg_; clear hg_
    have q_d0 := hkb.get d0
    have q_d1 := hkb.get d1
    go_wp2_with fail
    go_ret2
    exact ⟨coc_no (by simp only [cocOk, Hg.out]; rfl), hkw.trans hkb⟩
  have Hg := Lib.hid hg_; clear hg_
  have q_d0 := hkb.get d0
  have q_d1 := hkb.get d1
  go_wp2_with fail
  have CC := Lib.hid (l9Clients_any _ F A0 C n c0 _ (hFA.kp hkb) (hC.kp hkb) Hn.out)
  with_reducible refine Calls.mono CC.out ?_
  rintro e w2 ⟨rfl, hk2⟩
  clear CC q_d0 q_d1
  replace hkb := hkb.trans hk2
  cases hg_ : (crowdB F C)
  · have Hc := Lib.hid hg_; clear hg_
    have q_d0 := hkb.get d0
    have q_d1 := hkb.get d1
    go_wp2_with fail
    go_ret2
    exact ⟨coc_no (by simp only [cocOk, Hc.out]; simp), hkw.trans hkb⟩
  have Hc := Lib.hid hg_; clear hg_
  have q_d0 := hkb.get d0
  have q_d1 := hkb.get d1
  go_wp2_with fail
  have CC := Lib.hid (l9Cost_any _ F A0 C n c0 _ (hFA.kp hkb) (hC.kp hkb) Hn.out Hg.out Hc.out)
  with_reducible refine Calls.mono CC.out ?_
  rintro e w3 ⟨rfl, hk3⟩
  clear CC q_d0 q_d1
  replace hkb := hkb.trans hk3
  have q_d0 := hkb.get d0
  have q_d1 := hkb.get d1
  go_wp2_with fail
  go_ret2
  exact ⟨coc_yes (by simp only [cocOk, Hg.out, Hc.out]; rfl), hkw.trans hkb⟩
set_option maxRecDepth 100000 in
set_option maxHeartbeats 400000 in
theorem implCoc_any (f : Value) (F : Fld) (A0 : Option Addr) (C : List Int) (n c0 : Nat) (w : World) (hf : FldAt w f F) (hC : IntsAt w A0 C) (hn : C.length = n) :
    Calls Tryz.prog 10 #[f, .slice A0 n c0] w fun e w' => e = .returned (.tuple #[.int .i64 (cocR F C), .bool (cocOk F C)]) ∧ Kp w w' := by
  obtain ⟨A, c, B, d, rfl, hA, hB⟩ := hf
  have hk0 : Kp w (w.alloc (.cells #[.slice A F.op.length c, .slice B F.di.length d] 27)) := (Kp.refl w).alloc _
  obtain ⟨d0, d1⟩ := box2 w (.slice A F.op.length c) (.slice B F.di.length d) 27
  have hFA := FldAt.kp (show FldAt w (.agg #[.slice A F.op.length c, .slice B F.di.length d]) F from ⟨A, c, B, d, rfl, hA, hB⟩) hk0
  replace hC := hC.kp hk0
  have hdl := hB.1
  have Hn := Lib.hid hn
  clear hA hB hn
  go_enter Tryz.func10, Tryz.ntmps10
  go_wp2_with fail
  have hsz : Hid ((w.alloc (.cells #[.slice A F.op.length c, .slice B F.di.length d] 27)).heap.size = w.heap.size + 1) := by show _ = _; simp
  generalize w.alloc (.cells #[.slice A F.op.length c, .slice B F.di.length d] 27) = wb at *
  have hkb : Kp wb wb := Kp.refl _
  have hkw := hk0
  have CC := Lib.hid (isCrowd_any _ F A0 C n c0 _ (hFA.kp hkb) (hC.kp hkb) Hn.out)
  with_reducible refine Calls.mono CC.out ?_
  rintro e w1 ⟨rfl, hk1⟩
  clear CC
  replace hkb := hkb.trans hk1
  cases hg_ : ((goodF F && crowdB F C))
  · have Hg := Lib.hid hg_; clear hg_
    have q_d0 := hkb.get d0
    have q_d1 := hkb.get d1
    go_wp2_with fail
    go_ret2
    exact ⟨coc_no Hg.out, hkw.trans hkb⟩
  have Hg := Lib.hid hg_; clear hg_
  have HP : Hid (goodF F = true ∧ crowdB F C = true) := by show _ ∧ _; simpa using Hg.out
  have q_d0 := hkb.get d0
  have q_d1 := hkb.get d1
  go_wp2_with fail
  have CC := Lib.hid (costOf_any _ F A0 C n c0 _ (hFA.kp hkb) (hC.kp hkb) Hn.out HP.out.1 HP.out.2)
  with_reducible refine Calls.mono CC.out ?_
  rintro e w2 ⟨rfl, hk2⟩
  clear CC q_d0 q_d1
  replace hkb := hkb.trans hk2
  have q_d0 := hkb.get d0
  have q_d1 := hkb.get d1
  go_wp2_with fail
  go_ret2
  exact ⟨coc_yes Hg.out, hkw.trans hkb⟩

def ctF (F : Fld) (b : Nat) : Int := costF F (bitsL F.di.length b)
def ctL (F : Fld) : List Int := if goodF F = true then mapTo (ctF F) (2 ^ F.di.length) else []
theorem ctL_yes {F : Fld} (h : goodF F = true) : ctL F = mapTo (ctF F) (2 ^ F.di.length) := if_pos h
theorem ctL_no {F : Fld} (h : goodF F = false) : ctL F = [] := if_neg (by simp [h])
theorem ctL_len (F : Fld) : (ctL F).length ≤ 1048576 := by
  by_cases h : goodF F = true
  · rw [ctL_yes h, mapTo_len]
    have := pow7 (goodF_iff.1 h).2.2.1
    omega
  · rw [ctL_no (by simpa using h)]; simp
theorem bitsL_crowd (F : Fld) (b : Nat) : crowdB F (bitsL F.di.length b) = true := bitsL_ris _ _ _ (Int.le_refl _)
set_option maxRecDepth 100000 in
set_option maxHeartbeats 2000000 in
theorem costs_any (f : Value) (F : Fld) (w : World) (hf : FldAt w f F) (hg : goodF F = true) :
    Calls Tryz.prog 22 #[f] w fun e w' => ∃ v, e = .returned v ∧ Own w' w.heap.size v (mapTo (ctF F) (2 ^ F.di.length)) ∧ Kp w w' := by
  obtain ⟨A, c, B, d, rfl, hA, hB⟩ := hf
  have hk0 : Kp w (w.alloc (.cells #[.slice A F.op.length c, .slice B F.di.length d] 27)) := (Kp.refl w).alloc _
  obtain ⟨d0, d1⟩ := box2 w (.slice A F.op.length c) (.slice B F.di.length d) 27
  have hFA := FldAt.kp (show FldAt w (.agg #[.slice A F.op.length c, .slice B F.di.length d]) F from ⟨A, c, B, d, rfl, hA, hB⟩) hk0
  have HG := Lib.hid hg
  have hd7 := (goodF_iff.1 hg).2.2.1
  obtain ⟨P, HP, hpw, hP⟩ := pow_wrap (F.di.length : Int) (by omega) (by omega)
  rw [Int.toNat_natCast] at hpw
  have HP' : Hid (P = 2 ^ F.di.length) := by show P = _; simpa using HP.out
  have hpu := u64_one_shl (F.di.length : Int) (by omega) (by omega)
  rw [Int.toNat_natCast, ← HP'.out] at hpu
  clear hA hB hg
  go_enter Tryz.func22, Tryz.ntmps22
  go_wp2_with fail
  have hsz : Hid ((w.alloc (.cells #[.slice A F.op.length c, .slice B F.di.length d] 27)).heap.size = w.heap.size + 1) := by show _ = _; simp
  generalize w.alloc (.cells #[.slice A F.op.length c, .slice B F.di.length d] 27) = wb at *
  have hkb : Kp wb wb := Kp.refl _
  have hkw := hk0
  have hs1 : w.heap.size + 1 ≤ wb.heap.size := Nat.le_of_eq hsz.out.symm
  have ho0 : Own (wb.alloc (.cells #[] 3)) wb.heap.size (.slice (some ⟨w.heap.size + 1, 0, none⟩) 0 0) [] := by
    rw [← hsz.out]; exact own_new0 wb wb.heap.size (Nat.le_refl _)
  replace hkb : Kp wb (wb.alloc (.cells #[] 3)) := (Kp.refl _).alloc _
  go_loopw [3, 4] (fun ov iv wr => ∃ a : Nat, a ≤ P ∧ iv = .int .u64 a ∧ Own wr wb.heap.size ov (mapTo (ctF F) a) ∧ Kp wb wr) (fun _ iv _ => P - (intOf iv).toNat)
  case atStart => exact ⟨0, by omega, rfl, ho0, hkb⟩
  case round =>
    clear ho0 hkb
    obtain ⟨a, ha, rfl, hown, hkb⟩ := hrel
    by_cases hlt : a < P
    · have hlen := Lib.hid (mapTo_len (ctF F) a)
      have hlen2 : (mapTo (ctF F) a).length < 1048576 := by rw [hlen.out]; omega
      have haP : a < 2 ^ F.di.length := by rw [← HP'.out]; exact hlt
      have HPa := Lib.hid haP
      have HS := Lib.hid (bitsL_crowd F a)
      have hbl := bitsL_len F.di.length a
      clear haP
      have C2 := Lib.hid (fun (wx : World) (hx : Kp wb wx) (Av : Option Addr) (cv : Nat) (hv : IntsAt wx Av (bitsL F.di.length a)) => costOf_any _ F Av (bitsL F.di.length a) _ cv wx (hFA.kp hx) hv rfl HG.out HS.out)
      have C1 := Lib.hid (list_any a F.di.length wr.drew HPa.out (by omega))
      have q_d0 := hkb.get d0
      have q_d1 := hkb.get d1
      have tok1 : True := trivial
      go_wp2_with fail
      go_region_held3 (fun w' => w'.cell? ⟨w.heap.size, 0, none⟩ = some (.slice A F.op.length c) ∧ w'.cell? ⟨w.heap.size, 1, none⟩ = some (.slice B F.di.length d) ∧ Kp wb w')
        (first | (refine keepc2 d0 d1 ?_; exact (by repeat (first | with_reducible assumption | with_reducible exact Kp.refl _ | with_reducible refine Kp.drew ?_ | with_reducible refine Kp.alloc ?_ _ | with_reducible refine Kp.drewN ?_ _ | refine Kp.setCell ?_ (by dsimp only; omega) _))) | fail)
        (first
          | (have _t := tok1; go_at_call 52; with_reducible refine Calls.mono (C1.out) ?_; rintro e wr1 ⟨v, rfl, hov, hka⟩; have hr1 : Kp wb wr1 := Kp.trans (by repeat (first | with_reducible assumption | with_reducible exact Kp.refl _ | with_reducible refine Kp.drew ?_ | with_reducible refine Kp.alloc ?_ _ | with_reducible refine Kp.drewN ?_ _ | refine Kp.setCell ?_ (by dsimp only; omega) _)) hka; obtain ⟨Av, cv, hve, hiv⟩ := hov.ints (by omega); subst hve; have hoA := (hown.kp (Kp.refl wr).drew).kp hka; have tok2 : True := trivial; clear tok1 _t)
          | (have _t := tok2; go_at_call 32; with_reducible refine Calls.mono (C2.out _ hr1 Av cv hiv) ?_; rintro e wr2 ⟨rfl, hka⟩; have hr2 : Kp wb wr2 := Kp.trans (by repeat (first | with_reducible assumption | with_reducible exact Kp.refl _ | with_reducible refine Kp.drew ?_ | with_reducible refine Kp.alloc ?_ _ | with_reducible refine Kp.drewN ?_ _ | refine Kp.setCell ?_ (by dsimp only; omega) _)) hka; have hoB := hoA.kp hka; have tok3 : True := trivial; clear tok2 _t)
          | (have _t := tok3; refine step_app (by rfl) (.tmp 14) (.tmp 19) (by rfl) wb.heap.size _ (mapTo (ctF F) a) (ctF F a) _ (by rfl) (by rfl) (by rfl) hoB hr2.le hlen2 ?_; intro v' w' ho' ht' _; have hk4 : Kp wb w' := hoB.kp_turn hr2 (Nat.le_refl _) ht'; have tok4 : True := trivial; clear tok3 _t)
          | fail)
      go_wp2_with fail
      go_roundw
      case rel => exact ⟨a + 1, by omega, by go_num, by rw [mapTo_succ]; exact ho', hk4⟩
      case measure => simp [intOf]; omega
    · obtain rfl : a = P := by omega
      have q_d0 := hkb.get d0
      have q_d1 := hkb.get d1
      go_wp2_with fail
      go_ret
      exact ⟨_, rfl, by rw [← HP'.out]; exact hown.mono hkw.le, hkw.trans hkb⟩
set_option maxRecDepth 100000 in
set_option maxHeartbeats 2000000 in
theorem l9Table_any (f : Value) (F : Fld) (w : World) (hf : FldAt w f F) (hg : goodF F = true) :
    Calls Tryz.prog 24 #[f] w fun e w' => ∃ v, e = .returned v ∧ Own w' w.heap.size v (mapTo (ctF F) (2 ^ F.di.length)) ∧ Kp w w' := by
  obtain ⟨A, c, B, d, rfl, hA, hB⟩ := hf
  have hk0 : Kp w (w.alloc (.cells #[.slice A F.op.length c, .slice B F.di.length d] 27)) := (Kp.refl w).alloc _
  obtain ⟨d0, d1⟩ := box2 w (.slice A F.op.length c) (.slice B F.di.length d) 27
  have hFA := FldAt.kp (show FldAt w (.agg #[.slice A F.op.length c, .slice B F.di.length d]) F from ⟨A, c, B, d, rfl, hA, hB⟩) hk0
  have HG := Lib.hid hg
  have hd7 := (goodF_iff.1 hg).2.2.1
  obtain ⟨P, HP, hpw, hP⟩ := pow_wrap (F.di.length : Int) (by omega) (by omega)
  rw [Int.toNat_natCast] at hpw
  have HP' : Hid (P = 2 ^ F.di.length) := by show P = _; simpa using HP.out
  have hpu := u64_one_shl (F.di.length : Int) (by omega) (by omega)
  rw [Int.toNat_natCast, ← HP'.out] at hpu
  clear hA hB hg
  go_enter Tryz.func24, Tryz.ntmps24
  go_wp2_with fail
  have hsz : Hid ((w.alloc (.cells #[.slice A F.op.length c, .slice B F.di.length d] 27)).heap.size = w.heap.size + 1) := by show _ = _; simp
  generalize w.alloc (.cells #[.slice A F.op.length c, .slice B F.di.length d] 27) = wb at *
  have hkb : Kp wb wb := Kp.refl _
  have hkw := hk0
  have hs1 : w.heap.size + 1 ≤ wb.heap.size := Nat.le_of_eq hsz.out.symm
  have ho0 : Own (wb.alloc (.cells #[] 3)) wb.heap.size (.slice (some ⟨w.heap.size + 1, 0, none⟩) 0 0) [] := by
    rw [← hsz.out]; exact own_new0 wb wb.heap.size (Nat.le_refl _)
  replace hkb : Kp wb (wb.alloc (.cells #[] 3)) := (Kp.refl _).alloc _
  go_loopw [3, 4] (fun ov iv wr => ∃ a : Nat, a ≤ P ∧ iv = .int .i64 a ∧ Own wr wb.heap.size ov (mapTo (ctF F) a) ∧ Kp wb wr) (fun _ iv _ => P - (intOf iv).toNat)
  case atStart => exact ⟨0, by omega, rfl, ho0, hkb⟩
  case round =>
    clear ho0 hkb
    obtain ⟨a, ha, rfl, hown, hkb⟩ := hrel
    by_cases hlt : a < P
    · have hlen := Lib.hid (mapTo_len (ctF F) a)
      have hlen2 : (mapTo (ctF F) a).length < 1048576 := by rw [hlen.out]; omega
      have haP : a < 2 ^ F.di.length := by rw [← HP'.out]; exact hlt
      have HPa := Lib.hid haP
      have HS := Lib.hid (bitsL_crowd F a)
      have hbl := bitsL_len F.di.length a
      clear haP
      have C2 := Lib.hid (fun (wx : World) (hx : Kp wb wx) (Av : Option Addr) (cv : Nat) (hv : IntsAt wx Av (bitsL F.di.length a)) => l9Cost_any _ F Av (bitsL F.di.length a) _ cv wx (hFA.kp hx) hv rfl HG.out HS.out)
      have C1 := Lib.hid (l2Bits_any F.di.length a wr.drew (by omega) (by omega))
      have q_d0 := hkb.get d0
      have q_d1 := hkb.get d1
      have tok1 : True := trivial
      go_wp2_with fail
      go_region_held3 (fun w' => w'.cell? ⟨w.heap.size, 0, none⟩ = some (.slice A F.op.length c) ∧ w'.cell? ⟨w.heap.size, 1, none⟩ = some (.slice B F.di.length d) ∧ Kp wb w')
        (first | (refine keepc2 d0 d1 ?_; exact (by repeat (first | with_reducible assumption | with_reducible exact Kp.refl _ | with_reducible refine Kp.drew ?_ | with_reducible refine Kp.alloc ?_ _ | with_reducible refine Kp.drewN ?_ _ | refine Kp.setCell ?_ (by dsimp only; omega) _))) | fail)
        (first
          | (have _t := tok1; go_at_call 27; with_reducible refine Calls.mono (C1.out) ?_; rintro e wr1 ⟨v, rfl, hov, hka⟩; have hr1 : Kp wb wr1 := Kp.trans (by repeat (first | with_reducible assumption | with_reducible exact Kp.refl _ | with_reducible refine Kp.drew ?_ | with_reducible refine Kp.alloc ?_ _ | with_reducible refine Kp.drewN ?_ _ | refine Kp.setCell ?_ (by dsimp only; omega) _)) hka; obtain ⟨Av, cv, hve, hiv⟩ := hov.ints (by omega); subst hve; have hoA := (hown.kp (Kp.refl wr).drew).kp hka; have tok2 : True := trivial; clear tok1 _t)
          | (have _t := tok2; go_at_call 34; with_reducible refine Calls.mono (C2.out _ hr1 Av cv hiv) ?_; rintro e wr2 ⟨rfl, hka⟩; have hr2 : Kp wb wr2 := Kp.trans (by repeat (first | with_reducible assumption | with_reducible exact Kp.refl _ | with_reducible refine Kp.drew ?_ | with_reducible refine Kp.alloc ?_ _ | with_reducible refine Kp.drewN ?_ _ | refine Kp.setCell ?_ (by dsimp only; omega) _)) hka; have hoB := hoA.kp hka; have tok3 : True := trivial; clear tok2 _t)
          | (have _t := tok3; refine step_app (by rfl) (.tmp 14) (.tmp 22) (by rfl) wb.heap.size _ (mapTo (ctF F) a) (ctF F a) _ (by rfl) (by rfl) (by rfl) hoB hr2.le hlen2 ?_; intro v' w' ho' ht' _; have hk4 : Kp wb w' := hoB.kp_turn hr2 (Nat.le_refl _) ht'; have tok4 : True := trivial; clear tok3 _t)
          | fail)
      go_wp2_with fail
      go_roundw
      case rel => exact ⟨a + 1, by omega, by go_num, by rw [mapTo_succ]; exact ho', hk4⟩
      case measure => simp [intOf]; omega
    · obtain rfl : a = P := by omega
      have q_d0 := hkb.get d0
      have q_d1 := hkb.get d1
      go_wp2_with fail
      go_ret
      exact ⟨_, rfl, by rw [← HP'.out]; exact hown.mono hkw.le, hkw.trans hkb⟩
set_option maxRecDepth 100000 in
set_option maxHeartbeats 400000 in
theorem specCt_any (f : Value) (F : Fld) (w : World) (hf : FldAt w f F) :
    Calls Tryz.prog 7 #[f] w fun e w' => ∃ v, e = .returned (.tuple #[v, .bool (goodF F)]) ∧ Own w' w.heap.size v (ctL F) ∧ Kp w w' := by
  obtain ⟨A, c, B, d, rfl, hA, hB⟩ := hf
  have hk0 : Kp w (w.alloc (.cells #[.slice A F.op.length c, .slice B F.di.length d] 27)) := (Kp.refl w).alloc _
  obtain ⟨d0, d1⟩ := box2 w (.slice A F.op.length c) (.slice B F.di.length d) 27
  have hFA := FldAt.kp (show FldAt w (.agg #[.slice A F.op.length c, .slice B F.di.length d]) F from ⟨A, c, B, d, rfl, hA, hB⟩) hk0
  clear hA hB
  go_enter Tryz.func7, Tryz.ntmps7
  go_wp2_with fail
  have hsz : Hid ((w.alloc (.cells #[.slice A F.op.length c, .slice B F.di.length d] 27)).heap.size = w.heap.size + 1) := by show _ = _; simp
  generalize w.alloc (.cells #[.slice A F.op.length c, .slice B F.di.length d] 27) = wb at *
  have hkb : Kp wb wb := Kp.refl _
  have hkw := hk0
  have CC := Lib.hid (l2Good_any _ F _ (hFA.kp hkb))
  with_reducible refine Calls.mono CC.out ?_
  rintro e w1 ⟨rfl, hk1⟩
  clear CC
  replace hkb := hkb.trans hk1
  cases hg_ : goodF F
  · have Hno := Lib.hid hg_
    clear hg_
    have q_d0 := hkb.get d0
    have q_d1 := hkb.get d1
    go_wp2_with fail
    go_ret2
    exact ⟨_, by rw [Hno.out]; rfl, by rw [ctL_no Hno.out]; exact own_new0 w1 w.heap.size (Nat.le_trans hkw.le hkb.le), (hkw.trans hkb).alloc _⟩
  have Hg := Lib.hid hg_; clear hg_
  have q_d0 := hkb.get d0
  have q_d1 := hkb.get d1
  go_wp2_with fail
  have CC := Lib.hid (l9Table_any _ F _ (hFA.kp hkb) Hg.out)
  with_reducible refine Calls.mono CC.out ?_
  rintro e w2 ⟨v, rfl, ho, hk2⟩
  clear CC q_d0 q_d1
  replace hkb := hkb.trans hk2
  have q_d0 := hkb.get d0
  have q_d1 := hkb.get d1
  go_wp2_with fail
  go_ret2
  exact ⟨_, by rw [Hg.out]; rfl, by rw [ctL_yes Hg.out]; exact ho.mono (Nat.le_trans hkw.le hk1.le), hkw.trans hkb⟩
set_option maxRecDepth 100000 in
set_option maxHeartbeats 400000 in
theorem implCt_any (f : Value) (F : Fld) (w : World) (hf : FldAt w f F) :
    Calls Tryz.prog 6 #[f] w fun e w' => ∃ v, e = .returned (.tuple #[v, .bool (goodF F)]) ∧ Own w' w.heap.size v (ctL F) ∧ Kp w w' := by
  obtain ⟨A, c, B, d, rfl, hA, hB⟩ := hf
  have hk0 : Kp w (w.alloc (.cells #[.slice A F.op.length c, .slice B F.di.length d] 27)) := (Kp.refl w).alloc _
  obtain ⟨d0, d1⟩ := box2 w (.slice A F.op.length c) (.slice B F.di.length d) 27
  have hFA := FldAt.kp (show FldAt w (.agg #[.slice A F.op.length c, .slice B F.di.length d]) F from ⟨A, c, B, d, rfl, hA, hB⟩) hk0
  clear hA hB
  go_enter Tryz.func6, Tryz.ntmps6
  go_wp2_with fail
  have hsz : Hid ((w.alloc (.cells #[.slice A F.op.length c, .slice B F.di.length d] 27)).heap.size = w.heap.size + 1) := by show _ = _; simp
  generalize w.alloc (.cells #[.slice A F.op.length c, .slice B F.di.length d] 27) = wb at *
  have hkb : Kp wb wb := Kp.refl _
  have hkw := hk0
  have CC := Lib.hid (isField_any _ F _ (hFA.kp hkb))
  with_reducible refine Calls.mono CC.out ?_
  rintro e w1 ⟨rfl, hk1⟩
  clear CC
  replace hkb := hkb.trans hk1
  cases hg_ : goodF F
  · have Hno := Lib.hid hg_
    clear hg_
    have q_d0 := hkb.get d0
    have q_d1 := hkb.get d1
    go_wp2_with fail
    go_ret2
    exact ⟨_, by rw [Hno.out]; rfl, by rw [ctL_no Hno.out]; exact Own.nil _ _, hkw.trans hkb⟩
  have Hg := Lib.hid hg_; clear hg_
  have q_d0 := hkb.get d0
  have q_d1 := hkb.get d1
  go_wp2_with fail
  have CC := Lib.hid (costs_any _ F _ (hFA.kp hkb) Hg.out)
  with_reducible refine Calls.mono CC.out ?_
  rintro e w2 ⟨v, rfl, ho, hk2⟩
  clear CC q_d0 q_d1
  replace hkb := hkb.trans hk2
  have q_d0 := hkb.get d0
  have q_d1 := hkb.get d1
  go_wp2_with fail
  go_ret2
  exact ⟨_, by rw [Hg.out]; rfl, by rw [ctL_yes Hg.out]; exact ho.mono (Nat.le_trans hkw.le hk1.le), hkw.trans hkb⟩
end Go.Proofs.YtkaammkanapkmaaGreat

namespace Go.Proofs.YtkaammkanapkmaaGreat
open Go.RowKit Go.Sort

theorem bestTo_le {v : List Int → Int} {rows : List (List Int)} : ∀ k, k ≤ rows.length → ∀ S ∈ rows.take k, v (bestTo v rows k) ≤ v S
  | 0, _, S, h => by simp at h
  | k + 1, hk, S, h => by
    have hk' : k < rows.length := by omega
    rw [bestTo_succ hk']
    have hstep : v (bestStep v (bestTo v rows k) rows[k]) ≤ v (bestTo v rows k) ∧ v (bestStep v (bestTo v rows k) rows[k]) ≤ v rows[k] := by
      unfold bestStep
      by_cases hlt : v rows[k] < v (bestTo v rows k)
      · rw [if_pos hlt]; omega
      · rw [if_neg hlt]; omega
    rw [List.take_succ_eq_append_getElem hk', List.mem_append] at h
    rcases h with h | h
    · have := bestTo_le (v := v) k (by omega) S h; omega
    · have e : S = rows[k] := by simpa using h
      rw [e]; exact hstep.2
theorem bestL_le {v : List Int → Int} {rows : List (List Int)} : ∀ S ∈ rows, v (bestL v rows) ≤ v S := fun S h => by
  rw [← bestTo_all]
  exact bestTo_le _ (Nat.le_refl _) S (by rw [List.take_length]; exact h)
end Go.Proofs.YtkaammkanapkmaaGreat

namespace Go.Proofs.YtkaammkanapkmaaGreat
open Go.RowKit Go.Sort

theorem fold_min {F : Fld} {i : Nat} : ∀ (L : List Int) (b : Int), dAt F i (L.foldl (stepS F i) b) ≤ dAt F i b ∧ ∀ a ∈ L, dAt F i (L.foldl (stepS F i) b) ≤ dAt F i a
  | [], b => ⟨Int.le_refl _, by simp⟩
  | x :: L, b => by
    have h := fold_min (F := F) (i := i) L (stepS F i b x)
    have hb : dAt F i (stepS F i b x) ≤ dAt F i b ∧ dAt F i (stepS F i b x) ≤ dAt F i x := by
      unfold stepS; split <;> constructor <;> omega
    refine ⟨Int.le_trans h.1 hb.1, fun a ha => ?_⟩
    rcases List.mem_cons.1 ha with rfl | ha
    · exact Int.le_trans h.1 hb.2
    · exact h.2 a ha
theorem near_le {F : Fld} {i : Nat} {S : List Int} {x : Int} (hx : x ∈ S) : nearF F i S ≤ dAt F i x := by
  cases S with
  | nil => cases hx
  | cons y t =>
    have h := fold_min (F := F) (i := i) (y :: t) y
    exact h.2 x hx
theorem near_is {F : Fld} {i : Nat} {S : List Int} (hne : S ≠ []) : ∃ x ∈ S, nearF F i S = dAt F i x := ⟨siteF F i S, siteF_mem hne, rfl⟩
end Go.Proofs.YtkaammkanapkmaaGreat

namespace Go.Proofs.YtkaammkanapkmaaGreat
open Go.RowKit Go.Sort

/-- What the clients of C cost if the sites of S are open. -/
def onF (F : Fld) (C S : List Int) : Int := (C.map fun x => nearF F x.toNat S).sum + payF F S
theorem near_part {F : Fld} {C S : List Int} {i : Nat} (hi : i < C.length) : nearF (partF F C) i S = nearF F (C[i]).toNat S := by
  have hd : ∀ a, dAt (partF F C) i a = dAt F (C[i]).toNat a := fun a => by
    unfold dAt partF
    have e : (C.map fun i => F.di.getD i.toNat []).getD i [] = F.di.getD (C[i]).toNat [] := by simp [List.getD, hi]
    simp only [e]
  have hs : ∀ (L : List Int) (b : Int), L.foldl (stepS (partF F C) i) b = L.foldl (stepS F (C[i]).toNat) b := fun L => by
    induction L with
    | nil => intro b; rfl
    | cons y t ih =>
      intro b
      rw [List.foldl_cons, List.foldl_cons, ih]
      congr 1
      unfold stepS
      rw [hd, hd]
  unfold nearF siteF
  rw [hs, hd]
theorem tot_part (F : Fld) (C S : List Int) : totF (partF F C) S = onF F C S := by
  have h1 : serveF (partF F C) S = (C.map fun x => nearF F x.toNat S).sum := by
    unfold serveF sumTo mapTo
    have hl : (partF F C).di.length = C.length := by simp [partF]
    rw [hl]
    congr 1
    apply List.ext_getElem
    · simp
    · intro i h1 h2
      have hi : i < C.length := by simpa using h1
      rw [List.getElem_map, List.getElem_map, List.getElem_range, near_part hi]
  have h2 : payF (partF F C) S = payF F S := rfl
  unfold totF onF
  rw [h1, h2]
theorem cost_is {F : Fld} (hg : goodF F = true) {C : List Int} (hne : C ≠ []) : ∃ S, S ≠ [] ∧ setB F S = true ∧ costF F C = onF F C S := by
  have h0 : 0 < (setsL F.op.length).length := sets_pos hg
  have hm := bestL_mem (v := totF (partF F C)) h0
  obtain ⟨h1, h2⟩ := mem_setsL.1 hm
  refine ⟨_, h1, h2, ?_⟩
  rw [← tot_part]
  unfold costF
  rw [if_neg hne]; rfl
theorem cost_le {F : Fld} {C S : List Int} (hs : S ≠ []) (hb : setB F S = true) (hne : C ≠ []) : costF F C ≤ onF F C S := by
  rw [← tot_part]
  unfold costF
  rw [if_neg hne]
  exact bestL_le S (mem_setsL.2 ⟨hs, hb⟩)
theorem opAt_nn {F : Fld} (hg : goodF F = true) (a : Int) : 0 ≤ opAt F a := by
  have h := (goodF_iff.1 hg).2.1
  unfold opAt
  by_cases hi : a.toNat < F.op.length
  · have e : F.op.getD a.toNat 0 = F.op[a.toNat] := by simp [List.getD, hi]
    rw [e]; exact (h _ (List.getElem_mem hi)).1
  · rw [List.getD_eq_getElem?_getD, List.getElem?_eq_none (by omega)]; simp
theorem near_nn {F : Fld} (hg : goodF F = true) (i : Nat) (S : List Int) : 0 ≤ nearF F i S := (nearF_bd hg S i).1
theorem sum_nn {l : List Int} (h : ∀ x ∈ l, 0 ≤ x) : 0 ≤ l.sum := by
  induction l with
  | nil => simp
  | cons a t ih =>
    rw [List.sum_cons]
    have := h a List.mem_cons_self
    have := ih (fun x hx => h x (List.mem_cons_of_mem _ hx))
    omega
/-- A sum over a list without repeats is at most that over one that holds it. -/
theorem sum_sub {g : Int → Int} (hg : ∀ x, 0 ≤ g x) : ∀ (L T : List Int), L.Nodup → (∀ x ∈ L, x ∈ T) → (L.map g).sum ≤ (T.map g).sum
  | [], T, _, _ => by
    rw [List.map_nil, List.sum_nil]
    exact sum_nn (fun x hx => by obtain ⟨y, _, rfl⟩ := List.mem_map.1 hx; exact hg y)
  | a :: t, T, hn, hs => by
    have ha := hs a List.mem_cons_self
    obtain ⟨T1, T2, rfl⟩ := List.append_of_mem ha
    rw [List.nodup_cons] at hn
    have ih := sum_sub hg t (T1 ++ T2) hn.2 (fun x hx => by
      have := hs x (List.mem_cons_of_mem _ hx)
      rw [List.mem_append, List.mem_cons] at this
      rw [List.mem_append]
      rcases this with h | h | h
      · exact .inl h
      · exact absurd (h ▸ hx) hn.1
      · exact .inr h)
    rw [List.map_append, List.sum_append] at ih
    rw [List.map_cons, List.sum_cons, List.map_append, List.sum_append, List.map_cons, List.sum_cons]
    omega
theorem sum_cup {g : Int → Int} (hg : ∀ x, 0 ≤ g x) {L S T : List Int} (hn : L.Nodup) (h : ∀ x ∈ L, x ∈ S ∨ x ∈ T) : (L.map g).sum ≤ (S.map g).sum + (T.map g).sum := by
  have := sum_sub hg L (S ++ T) hn (fun x hx => List.mem_append.2 (h x hx))
  rwa [List.map_append, List.sum_append] at this
theorem near_sub {F : Fld} {i : Nat} {S T : List Int} (hs : S ≠ []) (h : ∀ x ∈ S, x ∈ T) : nearF F i T ≤ nearF F i S := by
  obtain ⟨x, hx, e⟩ := near_is (F := F) (i := i) hs
  rw [e]
  exact near_le (h x hx)
theorem map_le {g h : Int → Int} {C : List Int} (hl : ∀ x ∈ C, g x ≤ h x) : (C.map g).sum ≤ (C.map h).sum := by
  induction C with
  | nil => simp
  | cons a t ih =>
    rw [List.map_cons, List.map_cons, List.sum_cons, List.sum_cons]
    have := hl a List.mem_cons_self
    have := ih (fun x hx => hl x (List.mem_cons_of_mem _ hx))
    omega
theorem ris_nodup {xs : List Int} (h : xs.Pairwise (· < ·)) : xs.Nodup := h.imp (fun h => by omega)
/-- More clients cost no less. -/
theorem cost_mono {F : Fld} (hg : goodF F = true) {C D : List Int} (hc : crowdB F C = true) (h : ∀ x ∈ C, x ∈ D) : costF F C ≤ costF F D := by
  by_cases e : C = []
  · subst e
    have h0 : costF F [] = 0 := if_pos rfl
    rw [h0]
    by_cases e2 : D = []
    · subst e2; rw [h0]; exact Int.le_refl _
    · obtain ⟨S, _, _, h3⟩ := cost_is hg e2
      rw [h3]
      have h1 := sum_nn (l := D.map fun x => nearF F x.toNat S) (fun x hx => by obtain ⟨y, _, rfl⟩ := List.mem_map.1 hx; exact near_nn hg _ _)
      have h2 := sum_nn (l := S.map (opAt F)) (fun x hx => by obtain ⟨y, _, rfl⟩ := List.mem_map.1 hx; exact opAt_nn hg _)
      unfold onF payF; omega
  · have e2 : D ≠ [] := by
      obtain ⟨x, hx⟩ := List.exists_mem_of_ne_nil C e
      intro h2; subst h2; exact absurd (h x hx) (by simp)
    obtain ⟨S, h1, h2, h3⟩ := cost_is hg e2
    have h4 := cost_le (F := F) h1 h2 e
    have h5 := sum_sub (g := fun x => nearF F x.toNat S) (fun x => near_nn hg _ _) C D (ris_nodup (ris_iff.1 hc).1) h
    rw [h3]
    unfold onF at h4 ⊢
    omega
/-- Two sets together cost at most the sum. -/
theorem cost_cup {F : Fld} (hg : goodF F = true) {C D E : List Int} (he : crowdB F E = true) (h : ∀ x ∈ E, x ∈ C ∨ x ∈ D) : costF F E ≤ costF F C + costF F D := by
  have h0 : costF F [] = 0 := if_pos rfl
  by_cases e : E = []
  · subst e
    have h1 := cost_mono hg (C := []) (D := C) rfl (by simp)
    have h2 := cost_mono hg (C := []) (D := D) rfl (by simp)
    rw [h0] at h1 h2 ⊢
    omega
  by_cases eC : C = []
  · subst eC
    have := cost_mono hg he (D := D) (fun x hx => by rcases h x hx with h | h; exact absurd h (by simp); exact h)
    rw [h0]; omega
  by_cases eD : D = []
  · subst eD
    have := cost_mono hg he (D := C) (fun x hx => by rcases h x hx with h | h; exact h; exact absurd h (by simp))
    rw [h0]; omega
  obtain ⟨S, s1, s2, s3⟩ := cost_is hg eC
  obtain ⟨T, t1, t2, t3⟩ := cost_is hg eD
  obtain ⟨U, hU⟩ : ∃ U, U = bitsL F.op.length (bagN S ||| bagN T) := ⟨_, rfl⟩
  have hmem : ∀ x, x ∈ U ↔ x ∈ S ∨ x ∈ T := fun x => by
    have e1 : bitsL F.op.length (bagN S) = S := set_bits s2
    have e2 : bitsL F.op.length (bagN T) = T := set_bits t2
    rw [hU, mem_bitsL, Nat.testBit_or, Bool.or_eq_true]
    constructor
    · rintro ⟨h1, h2, h3 | h3⟩
      · left; rw [← e1]; exact mem_bitsL.2 ⟨h1, h2, h3⟩
      · right; rw [← e2]; exact mem_bitsL.2 ⟨h1, h2, h3⟩
    · rintro (h1 | h1)
      · rw [← e1] at h1
        obtain ⟨a1, a2, a3⟩ := mem_bitsL.1 h1
        exact ⟨a1, a2, .inl a3⟩
      · rw [← e2] at h1
        obtain ⟨a1, a2, a3⟩ := mem_bitsL.1 h1
        exact ⟨a1, a2, .inr a3⟩
  have hUs : setB F U = true := by rw [hU]; exact bitsL_set _
  have hUn : U ≠ [] := by
    obtain ⟨x, hx⟩ := List.exists_mem_of_ne_nil S s1
    intro h2
    have := (hmem x).2 (.inl hx)
    rw [h2] at this; exact absurd this (by simp)
  have h1 := cost_le hUn hUs e
  have hp : payF F U ≤ payF F S + payF F T := sum_cup (fun x => opAt_nn hg x) (ris_nodup (ris_iff.1 hUs).1) (fun x hx => (hmem x).1 hx)
  have hq := sum_cup (g := fun x => nearF F x.toNat U) (fun x => near_nn hg _ _) (ris_nodup (ris_iff.1 he).1) h
  have hC := map_le (C := C) (g := fun x => nearF F x.toNat U) (h := fun x => nearF F x.toNat S) (fun x _ => near_sub s1 (fun y hy => (hmem y).2 (.inl hy)))
  have hD := map_le (C := D) (g := fun x => nearF F x.toNat U) (h := fun x => nearF F x.toNat T) (fun x _ => near_sub t1 (fun y hy => (hmem y).2 (.inr hy)))
  rw [s3, t3]
  unfold onF at h1 ⊢
  omega
theorem bits_crowd (F : Fld) (b : Nat) : crowdB F (bitsL F.di.length b) = true := bitsL_ris _ _ _ (Int.le_refl _)
theorem ct_mono {F : Fld} (hg : goodF F = true) (a b : Nat) : ctF F a ≤ ctF F (a ||| b) :=
  cost_mono hg (bits_crowd F a) (fun x hx => by
    obtain ⟨h1, h2, h3⟩ := mem_bitsL.1 hx
    exact mem_bitsL.2 ⟨h1, h2, by rw [Nat.testBit_or, h3]; rfl⟩)
theorem ct_cup {F : Fld} (hg : goodF F = true) (a b : Nat) : ctF F (a ||| b) ≤ ctF F a + ctF F b :=
  cost_cup hg (bits_crowd F _) (fun x hx => by
    obtain ⟨h1, h2, h3⟩ := mem_bitsL.1 hx
    rw [Nat.testBit_or, Bool.or_eq_true] at h3
    rcases h3 with h3 | h3
    · exact .inl (mem_bitsL.2 ⟨h1, h2, h3⟩)
    · exact .inr (mem_bitsL.2 ⟨h1, h2, h3⟩))
end Go.Proofs.YtkaammkanapkmaaGreat

namespace Go.Proofs.YtkaammkanapkmaaGreat
theorem sumTo_addf (g h : Nat → Int) : ∀ k, sumTo (fun i => g i + h i) k = sumTo g k + sumTo h k
  | 0 => by simp [sumTo_zero]
  | k + 1 => by rw [sumTo_succ, sumTo_succ, sumTo_succ, sumTo_addf g h k]; omega
theorem sumTo_congr {g h : Nat → Int} : ∀ {k : Nat}, (∀ i, i < k → g i = h i) → sumTo g k = sumTo h k
  | 0, _ => rfl
  | k + 1, e => by rw [sumTo_succ, sumTo_succ, sumTo_congr (fun i hi => e i (by omega)), e k (by omega)]
theorem sumTo_mono' {g h : Nat → Int} : ∀ {k : Nat}, (∀ i, i < k → g i ≤ h i) → sumTo g k ≤ sumTo h k
  | 0, _ => Int.le_refl _
  | k + 1, e => by rw [sumTo_succ, sumTo_succ]; have := sumTo_mono' (fun i hi => e i (by omega) : ∀ i, i < k → g i ≤ h i); have := e k (by omega); omega
theorem sumTo_lt {g h : Nat → Int} {a : Nat} : ∀ {k : Nat}, (∀ i, i < k → g i ≤ h i) → a < k → g a < h a → sumTo g k < sumTo h k
  | 0, _, ha, _ => by omega
  | k + 1, e, ha, hl => by
    rw [sumTo_succ, sumTo_succ]
    by_cases h1 : a = k
    · subst h1; have := sumTo_mono' (fun i hi => e i (by omega) : ∀ i, i < a → g i ≤ h i); omega
    · have := sumTo_lt (fun i hi => e i (by omega) : ∀ i, i < k → g i ≤ h i) (by omega) hl; have := e k (by omega); omega
theorem sumTo_c0 (k : Nat) : sumTo (fun _ => 0) k = 0 := by
  induction k with
  | zero => rfl
  | succ k ih => rw [sumTo_succ, ih]; rfl
theorem sumTo_sub (g h : Nat → Int) : ∀ k, sumTo (fun i => g i - h i) k = sumTo g k - sumTo h k
  | 0 => by simp [sumTo_zero]
  | k + 1 => by rw [sumTo_succ, sumTo_succ, sumTo_succ, sumTo_sub g h k]; omega
theorem sumTo_mulc (g : Nat → Int) (c : Int) : ∀ k, sumTo (fun i => g i * c) k = sumTo g k * c
  | 0 => by simp [sumTo_zero]
  | k + 1 => by rw [sumTo_succ, sumTo_succ, sumTo_mulc g c k, Int.add_mul]
theorem sumTo_swap (g : Nat → Nat → Int) (k : Nat) : ∀ m, sumTo (fun i => sumTo (g i) k) m = sumTo (fun j => sumTo (fun i => g i j) m) k
  | 0 => by simp only [sumTo_zero]; rw [sumTo_c0]
  | m + 1 => by
    rw [sumTo_succ, sumTo_swap g k m, ← sumTo_addf]
    exact sumTo_congr (fun j _ => (sumTo_succ _ _).symm)
theorem sumTo_nn {g : Nat → Int} {k : Nat} (h : ∀ i, i < k → 0 ≤ g i) : 0 ≤ sumTo g k := by
  have := sumTo_mono' (g := fun _ => 0) h
  rwa [sumTo_c0] at this
theorem sumTo_ge {g : Nat → Int} {a : Nat} : ∀ {k : Nat}, (∀ i, i < k → 0 ≤ g i) → a < k → g a ≤ sumTo g k
  | 0, _, ha => by omega
  | k + 1, h, ha => by
    rw [sumTo_succ]
    by_cases h1 : a = k
    · subst h1; have := sumTo_nn (fun i hi => h i (by omega) : ∀ i, i < a → 0 ≤ g i); omega
    · have := sumTo_ge (fun i hi => h i (by omega) : ∀ i, i < k → 0 ≤ g i) (show a < k by omega); have := h k (by omega); omega
theorem sumTo_pos' {g : Nat → Int} {k : Nat} (h : ∀ i, i < k → 0 ≤ g i) (hs : 0 < sumTo g k) : ∃ i, i < k ∧ 0 < g i := by
  by_cases hh : ∃ i, i < k ∧ 0 < g i
  · exact hh
  · exfalso
    have : ∀ i, i < k → g i ≤ (fun _ => (0 : Int)) i := fun i hi => by
      have := h i hi
      by_cases h2 : 0 < g i
      · exact absurd ⟨i, hi, h2⟩ hh
      · show g i ≤ 0; omega
    have := sumTo_mono' this
    rw [sumTo_c0] at this; omega
/-- Change at one place. -/
def upd {α : Type} (g : Nat → α) (j : Nat) (x : α) (i : Nat) : α := if i = j then x else g i
def upd2 (f : Nat → Nat → Int) (j a : Nat) (x : Int) (i b : Nat) : Int := if i = j then upd (f j) a x b else f i b
theorem upd_at {α : Type} {g : Nat → α} {j : Nat} {x : α} : upd g j x j = x := if_pos rfl
theorem upd_ne {α : Type} {g : Nat → α} {j i : Nat} {x : α} (h : i ≠ j) : upd g j x i = g i := if_neg h
theorem sumTo_ones (n : Nat) : sumTo (fun _ => 1) n = (n : Int) := by
  induction n with
  | zero => rfl
  | succ n ih => rw [sumTo_succ, ih]; omega
theorem sumTo_single {g : Nat → Int} {p : Nat} : ∀ {n : Nat}, p < n → (∀ i, i < n → i ≠ p → g i = 0) → sumTo g n = g p
  | 0, h, _ => by omega
  | n + 1, h, h0 => by
    rw [sumTo_succ]
    by_cases e : p = n
    · subst e
      rw [sumTo_congr (h := fun _ => 0) (fun i hi => h0 i (by omega) (by omega)), sumTo_c0]; omega
    · rw [sumTo_single (show p < n by omega) (fun i hi hn => h0 i (by omega) hn), h0 n (by omega) (by omega)]; omega
theorem sumTo_one {p n : Nat} (h : p < n) : sumTo (fun i => if i = p then 1 else 0) n = 1 := by
  rw [sumTo_single h (fun i _ hn => if_neg hn), if_pos rfl]
theorem upd2_at {f : Nat → Nat → Int} {j a : Nat} {x : Int} : upd2 f j a x j a = x := by unfold upd2; rw [if_pos rfl, upd_at]
theorem upd2_ne {f : Nat → Nat → Int} {j a i b : Nat} {x : Int} (h : i ≠ j ∨ b ≠ a) : upd2 f j a x i b = f i b := by
  unfold upd2
  by_cases e : i = j
  · subst e; rw [if_pos rfl]
    rcases h with h | h
    · exact absurd rfl h
    · exact upd_ne h
  · rw [if_neg e]
end Go.Proofs.YtkaammkanapkmaaGreat

namespace Go.Proofs.YtkaammkanapkmaaGreat
open Go.RowKit Go.Sort

theorem getD_snoc_lt {O : List Int} {a : Int} {i : Nat} (h : i < O.length) : (O ++ [a]).getD i 0 = O.getD i 0 := by
  simp [List.getD, List.getElem?_append_left h]
theorem getD_snoc_eq {O : List Int} {a : Int} : (O ++ [a]).getD O.length 0 = a := by simp [List.getD]
theorem nd_len : ∀ (xs ys : List Int), xs.Nodup → (∀ x ∈ xs, x ∈ ys) → xs.length ≤ ys.length
  | [], _, _, _ => Nat.zero_le _
  | x :: t, ys, hn, hs => by
    rw [List.nodup_cons] at hn
    have hx : x ∈ ys := hs x List.mem_cons_self
    have h1 := nd_len t (ys.erase x) hn.2 (fun y hy => (List.mem_erase_of_ne (show y ≠ x from fun e => hn.1 (by rw [← e]; exact hy))).2 (hs y (List.mem_cons_of_mem _ hy)))
    rw [List.length_erase_of_mem hx] at h1
    have := List.length_pos_of_mem hx
    rw [List.length_cons]; omega
end Go.Proofs.YtkaammkanapkmaaGreat
