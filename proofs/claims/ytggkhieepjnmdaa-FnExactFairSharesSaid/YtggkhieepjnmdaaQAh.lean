/- The cost of a set of clients: reference and program; GainTable: reference and program; CostOfClients and CostTable: reference and program; A slice of the call's own: one slot read and written; one that was made. No condition. -/
import Derived.Test.YtggkhieepjnmdaaQAf
import Derived.Test.YtggkhieepjnmdaaQAg
import Derived.Test.YtggkhieepjnmdaaQAe
import Derived.Test.YtggkhieepjnmdaaQAc
import Derived.Test.YtggkhieepjnmdaaQAb
namespace Go.Proofs.Ytggkhieepjnmdaa
open Go.RowKit Go.Sort

def costF (F : Fld) (C : List Int) : Int := if C = [] then 0 else totF (partF F C) (bestF (partF F C))
theorem tot_bd {F : Fld} (h : goodF F = true) {S : List Int} (hs : setB F S = true) : 0 ≤ totF F S ∧ totF F S ≤ 1386 := by
  have h1 := payF_bd h hs
  have h2 := serveF_bd h S
  unfold totF; omega
theorem cost_bd {F : Fld} (h : goodF F = true) {C : List Int} (hc : crowdB F C = true) : 0 ≤ costF F C ∧ costF F C ≤ 1386 := by
  unfold costF
  by_cases e : C = []
  · rw [if_pos e]; omega
  · rw [if_neg e]
    have hp := part_good h hc
    exact tot_bd hp (best_set hp).1
theorem crowd_nil (F : Fld) : crowdB F [] = true := rfl
set_option maxRecDepth 100000 in
set_option maxHeartbeats 400000 in
theorem costOf_any (f : Value) (F : Fld) (A0 : Option Addr) (C : List Int) (n c0 : Nat) (w : World) (hf : FldAt w f F) (hC : IntsAt w A0 C) (hn : C.length = n) (hg : goodF F = true) (hc : crowdB F C = true) :
    Calls Try.prog 36 #[f, .slice A0 n c0] w fun e w' => e = .returned (.int .i64 (costF F C)) ∧ Kp w w' := by
  obtain ⟨A, c, B, d, rfl, hA, hB⟩ := hf
  have hk0 : Kp w (w.alloc (.cells #[.slice A F.op.length c, .slice B F.di.length d] 29)) := (Kp.refl w).alloc _
  obtain ⟨d0, d1⟩ := box2 w (.slice A F.op.length c) (.slice B F.di.length d) 29
  have hFA := FldAt.kp (show FldAt w (.agg #[.slice A F.op.length c, .slice B F.di.length d]) F from ⟨A, c, B, d, rfl, hA, hB⟩) hk0
  replace hC := hC.kp hk0
  have HP := Lib.hid (part_good hg hc)
  have hne : Hid (0 < n → costF F C = totF (partF F C) (bestF (partF F C))) := by
    show 0 < n → _
    intro h0
    exact if_neg (fun e => by subst e; simp at hn; omega)
  have hnil : Hid (n = 0 → costF F C = 0) := by
    show n = 0 → _
    intro h0
    exact if_pos (List.eq_nil_of_length_eq_zero (by omega))
  have HG := Lib.hid hg; have HC := Lib.hid hc; have Hn := Lib.hid hn
  clear hA hB hg hc hn
  by_cases h0 : n = 0
  · have e0 : Hid (costF F C = 0) := hnil.out h0
    subst h0
    go_enter Try.func36, Try.ntmps36
    go_wp2_with fail
    go_ret
    exact ⟨ret_int e0.out.symm, hk0⟩
  have hpos : 0 < n := by omega
  have hne0 : ((n : Int) == 0) = false := by simp; omega
  have e1 := Lib.hid (hne.out hpos)
  go_enter Try.func36, Try.ntmps36
  go_wp2_with fail
  have hsz : Hid ((w.alloc (.cells #[.slice A F.op.length c, .slice B F.di.length d] 29)).heap.size = w.heap.size + 1) := by show _ = _; simp
  generalize w.alloc (.cells #[.slice A F.op.length c, .slice B F.di.length d] 29) = wb at *
  have hkb : Kp wb wb := Kp.refl _
  have hkw := hk0
  have CC := Lib.hid (only_any _ F A0 C n c0 _ (hFA.kp hkb) (hC.kp hkb) Hn.out HG.out HC.out)
  with_reducible refine Calls.mono CC.out ?_
  rintro e w1 ⟨v, rfl, hv, hk1⟩
  clear CC
  replace hkb := hkb.trans hk1
  have q_d0 := hkb.get d0
  have q_d1 := hkb.get d1
  go_wp2_with fail
  have CC := Lib.hid (bestTotal_any v (partF F C) _ hv HP.out)
  with_reducible refine Calls.mono CC.out ?_
  rintro e w2 ⟨rfl, hk2⟩
  clear CC q_d0 q_d1
  replace hkb := hkb.trans hk2
  have q_d0 := hkb.get d0
  have q_d1 := hkb.get d1
  go_wp2_with fail
  go_ret
  exact ⟨ret_int e1.out.symm, hkw.trans hkb⟩
set_option maxRecDepth 100000 in
set_option maxHeartbeats 400000 in
theorem l9Cost_any (f : Value) (F : Fld) (A0 : Option Addr) (C : List Int) (n c0 : Nat) (w : World) (hf : FldAt w f F) (hC : IntsAt w A0 C) (hn : C.length = n) (hg : goodF F = true) (hc : crowdB F C = true) :
    Calls Try.prog 31 #[f, .slice A0 n c0] w fun e w' => e = .returned (.int .i64 (costF F C)) ∧ Kp w w' := by
  obtain ⟨A, c, B, d, rfl, hA, hB⟩ := hf
  have hk0 : Kp w (w.alloc (.cells #[.slice A F.op.length c, .slice B F.di.length d] 29)) := (Kp.refl w).alloc _
  obtain ⟨d0, d1⟩ := box2 w (.slice A F.op.length c) (.slice B F.di.length d) 29
  have hFA := FldAt.kp (show FldAt w (.agg #[.slice A F.op.length c, .slice B F.di.length d]) F from ⟨A, c, B, d, rfl, hA, hB⟩) hk0
  replace hC := hC.kp hk0
  have HP := Lib.hid (part_good hg hc)
  have hne : Hid (0 < n → costF F C = totF (partF F C) (bestF (partF F C))) := by
    show 0 < n → _
    intro h0
    exact if_neg (fun e => by subst e; simp at hn; omega)
  have hnil : Hid (n = 0 → costF F C = 0) := by
    show n = 0 → _
    intro h0
    exact if_pos (List.eq_nil_of_length_eq_zero (by omega))
  have HG := Lib.hid hg; have HC := Lib.hid hc; have Hn := Lib.hid hn
  clear hA hB hg hc hn
  by_cases h0 : n = 0
  · have e0 : Hid (costF F C = 0) := hnil.out h0
    subst h0
    go_enter Try.func31, Try.ntmps31
    go_wp2_with fail
    go_ret
    exact ⟨ret_int e0.out.symm, hk0⟩
  have hpos : 0 < n := by omega
  have hne0 : ((n : Int) == 0) = false := by simp; omega
  have e1 := Lib.hid (hne.out hpos)
  go_enter Try.func31, Try.ntmps31
  go_wp2_with fail
  have hsz : Hid ((w.alloc (.cells #[.slice A F.op.length c, .slice B F.di.length d] 29)).heap.size = w.heap.size + 1) := by show _ = _; simp
  generalize w.alloc (.cells #[.slice A F.op.length c, .slice B F.di.length d] 29) = wb at *
  have hkb : Kp wb wb := Kp.refl _
  have hkw := hk0
  have CC := Lib.hid (l9Part_any _ F A0 C n c0 _ (hFA.kp hkb) (hC.kp hkb) Hn.out HG.out HC.out)
  with_reducible refine Calls.mono CC.out ?_
  rintro e w1 ⟨v, rfl, hv, hk1⟩
  clear CC
  replace hkb := hkb.trans hk1
  have hvF := hv
  obtain ⟨A2, c2, B2, d2, rfl, _, _⟩ := hv
  have hk1' := (Kp.refl w1).alloc (.cells #[.slice A2 (partF F C).op.length c2, .slice B2 (partF F C).di.length d2] 29)
  obtain ⟨p0, p1⟩ := box2 w1 (.slice A2 (partF F C).op.length c2) (.slice B2 (partF F C).di.length d2) 29
  replace hvF := hvF.kp hk1'
  have hkw2 := (hkw.trans hkb).trans hk1'
  clear hkb
  go_wp2_with fail
  generalize hH : w1.heap.size = H at *
  generalize w1.alloc (.cells #[.slice A2 (partF F C).op.length c2, .slice B2 (partF F C).di.length d2] 29) = wd at *
  have hkz : Kp wd wd := Kp.refl _
  have C1 := Lib.hid (fun (wx : World) (hx : Kp wd wx) => l2Best_any _ (partF F C) wx (hvF.kp hx) HP.out)
  have C2 := Lib.hid (fun (wx : World) (hx : Kp wd wx) (lo : Option Nat) (u : Value) (hu : RowP wx lo u (bestF (partF F C))) => (show ∃ Av cv, u = .slice Av (bestF (partF F C)).length cv ∧ Calls Try.prog 40 #[.agg #[.slice A2 (partF F C).op.length c2, .slice B2 (partF F C).di.length d2], .slice Av (bestF (partF F C)).length cv] wx fun e w' => e = .returned (.int .i64 (totF (partF F C) (bestF (partF F C)))) ∧ Kp wx w' from by
    obtain ⟨Av, cv, e, _, hi⟩ := hu.read
    exact ⟨Av, cv, e, l2Total_any _ (partF F C) Av _ _ cv wx (hvF.kp hx) hi rfl HP.out (best_set HP.out).1 (best_set HP.out).2⟩))
  have q_p0 := hkz.get p0
  have q_p1 := hkz.get p1
  have tok1 : True := trivial
  go_wp2_with fail
  go_region_held3 (fun w' => w'.cell? ⟨H, 0, none⟩ = some (.slice A2 (partF F C).op.length c2) ∧ w'.cell? ⟨H, 1, none⟩ = some (.slice B2 (partF F C).di.length d2) ∧ Kp wd w')
    (first | (refine keepc2 p0 p1 ?_; exact (by repeat (first | with_reducible assumption | with_reducible exact Kp.refl _ | with_reducible refine Kp.drew ?_ | with_reducible refine Kp.alloc ?_ _ | with_reducible refine Kp.drewN ?_ _ | refine Kp.setCell ?_ (by dsimp only; omega) _))) | fail)
    (first
      | (have _t := tok1; go_at_call 41; with_reducible refine Calls.mono (C1.out _ (by repeat (first | with_reducible assumption | with_reducible exact Kp.refl _ | with_reducible refine Kp.drew ?_ | with_reducible refine Kp.alloc ?_ _ | with_reducible refine Kp.drewN ?_ _ | refine Kp.setCell ?_ (by dsimp only; omega) _))) ?_; rintro e wr1 ⟨u, rfl, hu, hka⟩; have hr1 : Kp wd wr1 := Kp.trans (by repeat (first | with_reducible assumption | with_reducible exact Kp.refl _ | with_reducible refine Kp.drew ?_ | with_reducible refine Kp.alloc ?_ _ | with_reducible refine Kp.drewN ?_ _ | refine Kp.setCell ?_ (by dsimp only; omega) _)) hka; obtain ⟨Av, cv, hue, hct⟩ := C2.out _ hr1 _ _ hu; subst hue; have tok2 : True := trivial; clear tok1 _t)
      | (have _t := tok2; go_at_call 40; with_reducible refine Calls.mono hct ?_; rintro e wr2 ⟨rfl, hka⟩; have hr2 : Kp wd wr2 := Kp.trans hr1 hka; have tok3 : True := trivial; clear tok2 _t)
      | fail)
  go_wp2_with fail
  go_ret
  exact ⟨ret_int e1.out.symm, hkw2.trans hr2⟩
end Go.Proofs.Ytggkhieepjnmdaa

namespace Go.Proofs.Ytggkhieepjnmdaa
open Go.RowKit Go.Sort

def tabF (F : Fld) (worth : Int) (b : Nat) : Int := gainF F worth (bitsL F.op.length b)
def tabOk (F : Fld) (worth : Int) : Bool := goodF F && worthB worth
def tabL (F : Fld) (worth : Int) : List Int := if tabOk F worth = true then mapTo (tabF F worth) (2 ^ F.op.length) else []
theorem tabL_yes {F : Fld} {worth : Int} (h : tabOk F worth = true) : tabL F worth = mapTo (tabF F worth) (2 ^ F.op.length) := if_pos h
theorem tabL_no {F : Fld} {worth : Int} (h : tabOk F worth = false) : tabL F worth = [] := if_neg (by simp [h])
theorem tabOk_parts {F : Fld} {worth : Int} (h : tabOk F worth = true) : goodF F = true ∧ 0 ≤ worth ∧ worth ≤ 999 := by
  simp only [tabOk, worthB, inB, Bool.and_eq_true, decide_eq_true_eq] at h
  exact ⟨h.1, h.2.1, h.2.2⟩
theorem pow7 {n : Nat} (h : n ≤ 7) : 2 ^ n ≤ 128 := Nat.pow_le_pow_right (by omega) h
theorem tabL_len (F : Fld) (worth : Int) : (tabL F worth).length ≤ 1048576 := by
  by_cases h : tabOk F worth = true
  · rw [tabL_yes h, mapTo_len]
    have := pow7 (goodF_iff.1 (tabOk_parts h).1).1.2
    omega
  · rw [tabL_no (by simpa using h)]; simp

end Go.Proofs.Ytggkhieepjnmdaa

namespace Go.Proofs.Ytggkhieepjnmdaa
open Go.RowKit Go.Sort

def cocOk (F : Fld) (C : List Int) : Bool := goodF F && crowdB F C
def cocR (F : Fld) (C : List Int) : Int := if cocOk F C = true then costF F C else 0
theorem coc_no {F : Fld} {C : List Int} (h : cocOk F C = false) : Ending.returned (.tuple #[.int .i64 0, .bool false]) = .returned (.tuple #[.int .i64 (cocR F C), .bool (cocOk F C)]) := by rw [cocR, h]; rfl
theorem coc_yes {F : Fld} {C : List Int} (h : cocOk F C = true) : Ending.returned (.tuple #[.int .i64 (costF F C), .bool true]) = .returned (.tuple #[.int .i64 (cocR F C), .bool (cocOk F C)]) := by rw [cocR, h, if_pos rfl]
def ctF (F : Fld) (b : Nat) : Int := costF F (bitsL F.di.length b)
def ctL (F : Fld) : List Int := if goodF F = true then mapTo (ctF F) (2 ^ F.di.length) else []
theorem ctL_yes {F : Fld} (h : goodF F = true) : ctL F = mapTo (ctF F) (2 ^ F.di.length) := if_pos h
theorem ctL_no {F : Fld} (h : goodF F = false) : ctL F = [] := if_neg (by simp [h])
theorem ctL_len (F : Fld) : (ctL F).length ≤ 1048576 := by
  by_cases h : goodF F = true
  · rw [ctL_yes h, mapTo_len]
    have := pow7 (goodF_iff.1 h).2.2.1
    omega
  · rw [ctL_no (by simpa using h)]; simp
theorem bitsL_crowd (F : Fld) (b : Nat) : crowdB F (bitsL F.di.length b) = true := bitsL_ris _ _ _ (Int.le_refl _)
set_option maxRecDepth 100000 in
set_option maxHeartbeats 2000000 in
theorem costs_any (f : Value) (F : Fld) (w : World) (hf : FldAt w f F) (hg : goodF F = true) :
    Calls Try.prog 23 #[f] w fun e w' => ∃ v, e = .returned v ∧ Own w' w.heap.size v (mapTo (ctF F) (2 ^ F.di.length)) ∧ Kp w w' := by
  obtain ⟨A, c, B, d, rfl, hA, hB⟩ := hf
  have hk0 : Kp w (w.alloc (.cells #[.slice A F.op.length c, .slice B F.di.length d] 29)) := (Kp.refl w).alloc _
  obtain ⟨d0, d1⟩ := box2 w (.slice A F.op.length c) (.slice B F.di.length d) 29
  have hFA := FldAt.kp (show FldAt w (.agg #[.slice A F.op.length c, .slice B F.di.length d]) F from ⟨A, c, B, d, rfl, hA, hB⟩) hk0
  have HG := Lib.hid hg
  have hd7 := (goodF_iff.1 hg).2.2.1
  obtain ⟨P, HP, hpw, hP⟩ := pow_wrap (F.di.length : Int) (by omega) (by omega)
  rw [Int.toNat_natCast] at hpw
  have HP' : Hid (P = 2 ^ F.di.length) := by show P = _; simpa using HP.out
  have hpu := u64_one_shl (F.di.length : Int) (by omega) (by omega)
  rw [Int.toNat_natCast, ← HP'.out] at hpu
  clear hA hB hg
  go_enter Try.func23, Try.ntmps23
  go_wp2_with fail
  have hsz : Hid ((w.alloc (.cells #[.slice A F.op.length c, .slice B F.di.length d] 29)).heap.size = w.heap.size + 1) := by show _ = _; simp
  generalize w.alloc (.cells #[.slice A F.op.length c, .slice B F.di.length d] 29) = wb at *
  have hkb : Kp wb wb := Kp.refl _
  have hkw := hk0
  have hs1 : w.heap.size + 1 ≤ wb.heap.size := Nat.le_of_eq hsz.out.symm
  have ho0 : Own (wb.alloc (.cells #[] 3)) wb.heap.size (.slice (some ⟨w.heap.size + 1, 0, none⟩) 0 0) [] := by
    rw [← hsz.out]; exact own_new0 wb wb.heap.size (Nat.le_refl _)
  replace hkb : Kp wb (wb.alloc (.cells #[] 3)) := (Kp.refl _).alloc _
  go_loopw [3, 4] (fun ov iv wr => ∃ a : Nat, a ≤ P ∧ iv = .int .u64 a ∧ Own wr wb.heap.size ov (mapTo (ctF F) a) ∧ Kp wb wr) (fun _ iv _ => P - (intOf iv).toNat)
  case atStart => exact ⟨0, by omega, rfl, ho0, hkb⟩
  case round =>
    clear ho0 hkb
    obtain ⟨a, ha, rfl, hown, hkb⟩ := hrel
    by_cases hlt : a < P
    · have hlen := Lib.hid (mapTo_len (ctF F) a)
      have hlen2 : (mapTo (ctF F) a).length < 1048576 := by rw [hlen.out]; omega
      have haP : a < 2 ^ F.di.length := by rw [← HP'.out]; exact hlt
      have HPa := Lib.hid haP
      have HS := Lib.hid (bitsL_crowd F a)
      have hbl := bitsL_len F.di.length a
      clear haP
      have C2 := Lib.hid (fun (wx : World) (hx : Kp wb wx) (Av : Option Addr) (cv : Nat) (hv : IntsAt wx Av (bitsL F.di.length a)) => costOf_any _ F Av (bitsL F.di.length a) _ cv wx (hFA.kp hx) hv rfl HG.out HS.out)
      have C1 := Lib.hid (list_any a F.di.length wr.drew HPa.out (by omega))
      have q_d0 := hkb.get d0
      have q_d1 := hkb.get d1
      have tok1 : True := trivial
      go_wp2_with fail
      go_region_held3 (fun w' => w'.cell? ⟨w.heap.size, 0, none⟩ = some (.slice A F.op.length c) ∧ w'.cell? ⟨w.heap.size, 1, none⟩ = some (.slice B F.di.length d) ∧ Kp wb w')
        (first | (refine keepc2 d0 d1 ?_; exact (by repeat (first | with_reducible assumption | with_reducible exact Kp.refl _ | with_reducible refine Kp.drew ?_ | with_reducible refine Kp.alloc ?_ _ | with_reducible refine Kp.drewN ?_ _ | refine Kp.setCell ?_ (by dsimp only; omega) _))) | fail)
        (first
          | (have _t := tok1; go_at_call 37; with_reducible refine Calls.mono (C1.out) ?_; rintro e wr1 ⟨v, rfl, hov, hka⟩; have hr1 : Kp wb wr1 := Kp.trans (by repeat (first | with_reducible assumption | with_reducible exact Kp.refl _ | with_reducible refine Kp.drew ?_ | with_reducible refine Kp.alloc ?_ _ | with_reducible refine Kp.drewN ?_ _ | refine Kp.setCell ?_ (by dsimp only; omega) _)) hka; obtain ⟨Av, cv, hve, hiv⟩ := hov.ints (by omega); subst hve; have hoA := (hown.kp (Kp.refl wr).drew).kp hka; have tok2 : True := trivial; clear tok1 _t)
          | (have _t := tok2; go_at_call 36; with_reducible refine Calls.mono (C2.out _ hr1 Av cv hiv) ?_; rintro e wr2 ⟨rfl, hka⟩; have hr2 : Kp wb wr2 := Kp.trans (by repeat (first | with_reducible assumption | with_reducible exact Kp.refl _ | with_reducible refine Kp.drew ?_ | with_reducible refine Kp.alloc ?_ _ | with_reducible refine Kp.drewN ?_ _ | refine Kp.setCell ?_ (by dsimp only; omega) _)) hka; have hoB := hoA.kp hka; have tok3 : True := trivial; clear tok2 _t)
          | (have _t := tok3; refine step_app (by rfl) (.tmp 14) (.tmp 19) (by rfl) wb.heap.size _ (mapTo (ctF F) a) (ctF F a) _ (by rfl) (by rfl) (by rfl) hoB hr2.le hlen2 ?_; intro v' w' ho' ht' _; have hk4 : Kp wb w' := hoB.kp_turn hr2 (Nat.le_refl _) ht'; have tok4 : True := trivial; clear tok3 _t)
          | fail)
      go_wp2_with fail
      go_roundw
      case rel => exact ⟨a + 1, by omega, by go_num, by rw [mapTo_succ]; exact ho', hk4⟩
      case measure => simp [intOf]; omega
    · obtain rfl : a = P := by omega
      have q_d0 := hkb.get d0
      have q_d1 := hkb.get d1
      go_wp2_with fail
      go_ret
      exact ⟨_, rfl, by rw [← HP'.out]; exact hown.mono hkw.le, hkw.trans hkb⟩
set_option maxRecDepth 100000 in
set_option maxHeartbeats 2000000 in
theorem l9Table_any (f : Value) (F : Fld) (w : World) (hf : FldAt w f F) (hg : goodF F = true) :
    Calls Try.prog 16 #[f] w fun e w' => ∃ v, e = .returned v ∧ Own w' w.heap.size v (mapTo (ctF F) (2 ^ F.di.length)) ∧ Kp w w' := by
  obtain ⟨A, c, B, d, rfl, hA, hB⟩ := hf
  have hk0 : Kp w (w.alloc (.cells #[.slice A F.op.length c, .slice B F.di.length d] 29)) := (Kp.refl w).alloc _
  obtain ⟨d0, d1⟩ := box2 w (.slice A F.op.length c) (.slice B F.di.length d) 29
  have hFA := FldAt.kp (show FldAt w (.agg #[.slice A F.op.length c, .slice B F.di.length d]) F from ⟨A, c, B, d, rfl, hA, hB⟩) hk0
  have HG := Lib.hid hg
  have hd7 := (goodF_iff.1 hg).2.2.1
  obtain ⟨P, HP, hpw, hP⟩ := pow_wrap (F.di.length : Int) (by omega) (by omega)
  rw [Int.toNat_natCast] at hpw
  have HP' : Hid (P = 2 ^ F.di.length) := by show P = _; simpa using HP.out
  have hpu := u64_one_shl (F.di.length : Int) (by omega) (by omega)
  rw [Int.toNat_natCast, ← HP'.out] at hpu
  clear hA hB hg
  go_enter Try.func16, Try.ntmps16
  go_wp2_with fail
  have hsz : Hid ((w.alloc (.cells #[.slice A F.op.length c, .slice B F.di.length d] 29)).heap.size = w.heap.size + 1) := by show _ = _; simp
  generalize w.alloc (.cells #[.slice A F.op.length c, .slice B F.di.length d] 29) = wb at *
  have hkb : Kp wb wb := Kp.refl _
  have hkw := hk0
  have hs1 : w.heap.size + 1 ≤ wb.heap.size := Nat.le_of_eq hsz.out.symm
  have ho0 : Own (wb.alloc (.cells #[] 3)) wb.heap.size (.slice (some ⟨w.heap.size + 1, 0, none⟩) 0 0) [] := by
    rw [← hsz.out]; exact own_new0 wb wb.heap.size (Nat.le_refl _)
  replace hkb : Kp wb (wb.alloc (.cells #[] 3)) := (Kp.refl _).alloc _
  go_loopw [3, 4] (fun ov iv wr => ∃ a : Nat, a ≤ P ∧ iv = .int .i64 a ∧ Own wr wb.heap.size ov (mapTo (ctF F) a) ∧ Kp wb wr) (fun _ iv _ => P - (intOf iv).toNat)
  case atStart => exact ⟨0, by omega, rfl, ho0, hkb⟩
  case round =>
    clear ho0 hkb
    obtain ⟨a, ha, rfl, hown, hkb⟩ := hrel
    by_cases hlt : a < P
    · have hlen := Lib.hid (mapTo_len (ctF F) a)
      have hlen2 : (mapTo (ctF F) a).length < 1048576 := by rw [hlen.out]; omega
      have haP : a < 2 ^ F.di.length := by rw [← HP'.out]; exact hlt
      have HPa := Lib.hid haP
      have HS := Lib.hid (bitsL_crowd F a)
      have hbl := bitsL_len F.di.length a
      clear haP
      have C2 := Lib.hid (fun (wx : World) (hx : Kp wb wx) (Av : Option Addr) (cv : Nat) (hv : IntsAt wx Av (bitsL F.di.length a)) => l9Cost_any _ F Av (bitsL F.di.length a) _ cv wx (hFA.kp hx) hv rfl HG.out HS.out)
      have C1 := Lib.hid (l2Bits_any F.di.length a wr.drew (by omega) (by omega))
      have q_d0 := hkb.get d0
      have q_d1 := hkb.get d1
      have tok1 : True := trivial
      go_wp2_with fail
      go_region_held3 (fun w' => w'.cell? ⟨w.heap.size, 0, none⟩ = some (.slice A F.op.length c) ∧ w'.cell? ⟨w.heap.size, 1, none⟩ = some (.slice B F.di.length d) ∧ Kp wb w')
        (first | (refine keepc2 d0 d1 ?_; exact (by repeat (first | with_reducible assumption | with_reducible exact Kp.refl _ | with_reducible refine Kp.drew ?_ | with_reducible refine Kp.alloc ?_ _ | with_reducible refine Kp.drewN ?_ _ | refine Kp.setCell ?_ (by dsimp only; omega) _))) | fail)
        (first
          | (have _t := tok1; go_at_call 17; with_reducible refine Calls.mono (C1.out) ?_; rintro e wr1 ⟨v, rfl, hov, hka⟩; have hr1 : Kp wb wr1 := Kp.trans (by repeat (first | with_reducible assumption | with_reducible exact Kp.refl _ | with_reducible refine Kp.drew ?_ | with_reducible refine Kp.alloc ?_ _ | with_reducible refine Kp.drewN ?_ _ | refine Kp.setCell ?_ (by dsimp only; omega) _)) hka; obtain ⟨Av, cv, hve, hiv⟩ := hov.ints (by omega); subst hve; have hoA := (hown.kp (Kp.refl wr).drew).kp hka; have tok2 : True := trivial; clear tok1 _t)
          | (have _t := tok2; go_at_call 31; with_reducible refine Calls.mono (C2.out _ hr1 Av cv hiv) ?_; rintro e wr2 ⟨rfl, hka⟩; have hr2 : Kp wb wr2 := Kp.trans (by repeat (first | with_reducible assumption | with_reducible exact Kp.refl _ | with_reducible refine Kp.drew ?_ | with_reducible refine Kp.alloc ?_ _ | with_reducible refine Kp.drewN ?_ _ | refine Kp.setCell ?_ (by dsimp only; omega) _)) hka; have hoB := hoA.kp hka; have tok3 : True := trivial; clear tok2 _t)
          | (have _t := tok3; refine step_app (by rfl) (.tmp 14) (.tmp 22) (by rfl) wb.heap.size _ (mapTo (ctF F) a) (ctF F a) _ (by rfl) (by rfl) (by rfl) hoB hr2.le hlen2 ?_; intro v' w' ho' ht' _; have hk4 : Kp wb w' := hoB.kp_turn hr2 (Nat.le_refl _) ht'; have tok4 : True := trivial; clear tok3 _t)
          | fail)
      go_wp2_with fail
      go_roundw
      case rel => exact ⟨a + 1, by omega, by go_num, by rw [mapTo_succ]; exact ho', hk4⟩
      case measure => simp [intOf]; omega
    · obtain rfl : a = P := by omega
      have q_d0 := hkb.get d0
      have q_d1 := hkb.get d1
      go_wp2_with fail
      go_ret
      exact ⟨_, rfl, by rw [← HP'.out]; exact hown.mono hkw.le, hkw.trans hkb⟩
end Go.Proofs.Ytggkhieepjnmdaa

namespace Go.Proofs.Ytggkhieepjnmdaa
open Go.RowKit Go.Sort

/-- A slot of a slice of the call's own: read and written. -/
theorem Own.slot {w : World} {base g n cap j : Nat} {xs : List Int} (h : Own w base (.slice (some ⟨g, 0, none⟩) n cap) xs) (hn : xs.length = n) (hj : j < n) :
    w.cell? ⟨g, j, none⟩ = some (.int .i64 (xs.getD j 0)) ∧ w.frozen? ⟨g, j, none⟩ = false ∧
    ∀ z : Int, Own (w.setCell ⟨g, j, none⟩ (.int .i64 z)) base (.slice (some ⟨g, 0, none⟩) n cap) (xs.set j z) ∧ Turn (fun i => i = g) w (w.setCell ⟨g, j, none⟩ (.int .i64 z)) := by
  have h' : w.ownsRow base 3 1 (.slice (some ⟨g, 0, none⟩) n cap) n (xs.map (Value.int .i64)) := by
    have := h; unfold Own at this; rw [hn] at this; exact this
  refine ⟨?_, h'.frozenAt j, fun z => ?_⟩
  · rw [h'.cellAt j (by omega), List.getElem?_map]
    have : j < xs.length := by omega
    simp [List.getD, this]
  · have hs := h'.stored j (.int .i64 z)
    refine ⟨?_, (Turn.of_grown hs.2).mono (fun i hi => by simpa using hi.symm)⟩
    have h2 := hs.1
    rw [← List.map_set] at h2
    unfold Own
    rw [List.length_set, hn]; exact h2
/-- A slot of a slice of the call's own: read, written, and written while another such slice stays. -/
theorem Own.slotL {w : World} {base g n cap j : Nat} {xs : List Int} (h : Own w base (.slice (some ⟨g, 0, none⟩) n cap) xs) (hn : xs.length = n) (hj : j < n) :
    w.cell? ⟨g, j, none⟩ = some (.int .i64 (lget xs j)) ∧ w.frozen? ⟨g, j, none⟩ = false ∧
    ∀ z : Int, Own (w.setCell ⟨g, j, none⟩ (.int .i64 z)) base (.slice (some ⟨g, 0, none⟩) n cap) (xs.set j z) ∧ Turn (fun i => i = g) w (w.setCell ⟨g, j, none⟩ (.int .i64 z)) := h.slot hn hj
theorem Own.not_block {w w' : World} {base g n cap : Nat} {v : Value} {xs : List Int} (h : Own w base v xs) (ha : Apart v (.slice (some ⟨g, 0, none⟩) n cap)) (ht : Turn (fun i => i = g) w w') : Own w' base v xs :=
  h.turn ht (fun k hk e => ha k hk (by subst e; rfl))
theorem Own.at0 {w : World} {base n : Nat} {v : Value} {xs : List Int} (h : Own w base v xs) (hn : xs.length = n) (hp : 0 < n) : ∃ g cap, v = .slice (some ⟨g, 0, none⟩) n cap := by
  rcases h.2 with ⟨_, h0⟩ | ⟨g, cap, cur, e, _⟩
  · omega
  · exact ⟨g, cap, by rw [e, hn]⟩
def sLen : Value → Nat
  | .slice _ n _ => n
  | _ => 0
theorem own_made (w : World) (base n : Nat) (hb : base ≤ w.heap.size) (hn : n ≤ 1048576) : Own (w.alloc (.cells (madeCells #[.int .i64 0] n) 3)) base (.slice (some ⟨w.heap.size, 0, none⟩) n n) (List.replicate n 0) := by
  have hr : IntRow (w.alloc (.cells (madeCells #[.int .i64 0] n) 3)) w.heap.size (List.replicate n 0) := by
    unfold IntRow
    rw [List.length_replicate]
    exact (World.rowIs_made w (.int .i64 0) n 3).congr (fun i hi => by simp [List.getD, hi])
  have := Own.of_row hr hb (by simp; omega)
  rw [List.length_replicate] at this
  exact this
end Go.Proofs.Ytggkhieepjnmdaa
