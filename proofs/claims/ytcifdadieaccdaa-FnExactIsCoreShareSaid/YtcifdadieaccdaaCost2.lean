/- CostOfClients and CostTable: reference and program. No condition. -/
import Derived.Test.YtcifdadieaccdaaCost
import Derived.Test.YtcifdadieaccdaaTable
namespace Go.Proofs.Ytcifdadieaccdaa
open Go.RowKit Go.Sort

def cocOk (F : Fld) (C : List Int) : Bool := goodF F && crowdB F C
def cocR (F : Fld) (C : List Int) : Int := if cocOk F C = true then costF F C else 0
theorem coc_no {F : Fld} {C : List Int} (h : cocOk F C = false) : Ending.returned (.tuple #[.int .i64 0, .bool false]) = .returned (.tuple #[.int .i64 (cocR F C), .bool (cocOk F C)]) := by rw [cocR, h]; rfl
theorem coc_yes {F : Fld} {C : List Int} (h : cocOk F C = true) : Ending.returned (.tuple #[.int .i64 (costF F C), .bool true]) = .returned (.tuple #[.int .i64 (cocR F C), .bool (cocOk F C)]) := by rw [cocR, h, if_pos rfl]
set_option maxRecDepth 100000 in
set_option maxHeartbeats 400000 in
theorem l9Clients_any (f : Value) (F : Fld) (A0 : Option Addr) (C : List Int) (n c0 : Nat) (w : World) (hf : FldAt w f F) (hC : IntsAt w A0 C) (hn : C.length = n) :
    Calls Try.prog 32 #[f, .slice A0 n c0] w fun e w' => e = .returned (.bool (crowdB F C)) ∧ Kp w w' := by
  obtain ⟨A, c, B, d, rfl, hA, hB⟩ := hf
  have hk0 : Kp w (w.alloc (.cells #[.slice A F.op.length c, .slice B F.di.length d] 29)) := (Kp.refl w).alloc _
  obtain ⟨d0, d1⟩ := box2 w (.slice A F.op.length c) (.slice B F.di.length d) 29
  have hFA := FldAt.kp (show FldAt w (.agg #[.slice A F.op.length c, .slice B F.di.length d]) F from ⟨A, c, B, d, rfl, hA, hB⟩) hk0
  replace hC := hC.kp hk0
  have hdl := hB.1
  have Hn := Lib.hid hn
  clear hA hB hn
  go_enter Try.func32, Try.ntmps32
  go_wp2_with fail
  have hsz : Hid ((w.alloc (.cells #[.slice A F.op.length c, .slice B F.di.length d] 29)).heap.size = w.heap.size + 1) := by show _ = _; simp
  generalize w.alloc (.cells #[.slice A F.op.length c, .slice B F.di.length d] 29) = wb at *
  have hkb : Kp wb wb := Kp.refl _
  have hkw := hk0
  have CC := Lib.hid (l1Rising_any A0 C n c0 0 ((F.di.length : Int) - 1) _ (hC.kp hkb) Hn.out)
  with_reducible refine Calls.mono CC.out ?_
  rintro e w1 ⟨rfl, hd1⟩
  have hk1 := hd1.kp
  clear CC
  replace hkb := hkb.trans hk1
  have q_d0 := hkb.get d0
  have q_d1 := hkb.get d1
  go_wp2_with fail
  go_ret
  exact ⟨rfl, hkw.trans hkb⟩
set_option maxRecDepth 100000 in
set_option maxHeartbeats 400000 in
theorem isCrowd_any (f : Value) (F : Fld) (A0 : Option Addr) (C : List Int) (n c0 : Nat) (w : World) (hf : FldAt w f F) (hC : IntsAt w A0 C) (hn : C.length = n) :
    Calls Try.prog 35 #[f, .slice A0 n c0] w fun e w' => e = .returned (.bool (goodF F && crowdB F C)) ∧ Kp w w' := by
  obtain ⟨A, c, B, d, rfl, hA, hB⟩ := hf
  have hk0 : Kp w (w.alloc (.cells #[.slice A F.op.length c, .slice B F.di.length d] 29)) := (Kp.refl w).alloc _
  obtain ⟨d0, d1⟩ := box2 w (.slice A F.op.length c) (.slice B F.di.length d) 29
  have hFA := FldAt.kp (show FldAt w (.agg #[.slice A F.op.length c, .slice B F.di.length d]) F from ⟨A, c, B, d, rfl, hA, hB⟩) hk0
  replace hC := hC.kp hk0
  have hdl := hB.1
  have Hn := Lib.hid hn
  clear hA hB hn
  go_enter Try.func35, Try.ntmps35
  go_wp2_with fail
  have hsz : Hid ((w.alloc (.cells #[.slice A F.op.length c, .slice B F.di.length d] 29)).heap.size = w.heap.size + 1) := by show _ = _; simp
  generalize w.alloc (.cells #[.slice A F.op.length c, .slice B F.di.length d] 29) = wb at *
  have hkb : Kp wb wb := Kp.refl _
  have hkw := hk0
  have CC := Lib.hid (isField_any _ F _ (hFA.kp hkb))
  with_reducible refine Calls.mono CC.out ?_
  rintro e w1 ⟨rfl, hk1⟩
  clear CC
  replace hkb := hkb.trans hk1
  cases hg_ : goodF F
  · have Hg := Lib.hid hg_
    clear hg_
    have q_d0 := hkb.get d0
    have q_d1 := hkb.get d1
    go_wp2_with fail
    go_ret
    exact ⟨ret_bool (by rw [Hg.out]; rfl), hkw.trans hkb⟩
  have Hg := Lib.hid hg_
  clear hg_
  have q_d0 := hkb.get d0
  have q_d1 := hkb.get d1
  go_wp2_with fail
  have CC := Lib.hid (isRising_any A0 C n c0 (F.di.length : Int) _ (hC.kp hkb) Hn.out (by omega) (by omega))
  with_reducible refine Calls.mono CC.out ?_
  rintro e w2 ⟨rfl, hw⟩
  obtain rfl := hw
  clear CC q_d0 q_d1
  have q_d0 := hkb.get d0
  have q_d1 := hkb.get d1
  go_wp2_with fail
  go_ret
  exact ⟨ret_bool (by rw [Hg.out]; rfl), hkw.trans hkb⟩
set_option maxRecDepth 100000 in
set_option maxHeartbeats 400000 in
theorem specCoc_any (f : Value) (F : Fld) (A0 : Option Addr) (C : List Int) (n c0 : Nat) (w : World) (hf : FldAt w f F) (hC : IntsAt w A0 C) (hn : C.length = n) :
    Calls Try.prog 10 #[f, .slice A0 n c0] w fun e w' => e = .returned (.tuple #[.int .i64 (cocR F C), .bool (cocOk F C)]) ∧ Kp w w' := by
  obtain ⟨A, c, B, d, rfl, hA, hB⟩ := hf
  have hk0 : Kp w (w.alloc (.cells #[.slice A F.op.length c, .slice B F.di.length d] 29)) := (Kp.refl w).alloc _
  obtain ⟨d0, d1⟩ := box2 w (.slice A F.op.length c) (.slice B F.di.length d) 29
  have hFA := FldAt.kp (show FldAt w (.agg #[.slice A F.op.length c, .slice B F.di.length d]) F from ⟨A, c, B, d, rfl, hA, hB⟩) hk0
  replace hC := hC.kp hk0
  have hdl := hB.1
  have Hn := Lib.hid hn
  clear hA hB hn
  go_enter Try.func10, Try.ntmps10
  go_wp2_with fail
  have hsz : Hid ((w.alloc (.cells #[.slice A F.op.length c, .slice B F.di.length d] 29)).heap.size = w.heap.size + 1) := by show _ = _; simp
  generalize w.alloc (.cells #[.slice A F.op.length c, .slice B F.di.length d] 29) = wb at *
  have hkb : Kp wb wb := Kp.refl _
  have hkw := hk0
  have CC := Lib.hid (l2Good_any _ F _ (hFA.kp hkb))
  with_reducible refine Calls.mono CC.out ?_
  rintro e w1 ⟨rfl, hk1⟩
  clear CC
  replace hkb := hkb.trans hk1
  cases hg_ : (goodF F)
  · have Hg := Lib.hid hg_; clear hg_
    have q_d0 := hkb.get d0
    have q_d1 := hkb.get d1
    go_wp2_with fail
    go_ret2
    exact ⟨coc_no (by simp only [cocOk, Hg.out]; rfl), hkw.trans hkb⟩
  have Hg := Lib.hid hg_; clear hg_
  have q_d0 := hkb.get d0
  have q_d1 := hkb.get d1
  go_wp2_with fail
  have CC := Lib.hid (l9Clients_any _ F A0 C n c0 _ (hFA.kp hkb) (hC.kp hkb) Hn.out)
  with_reducible refine Calls.mono CC.out ?_
  rintro e w2 ⟨rfl, hk2⟩
  clear CC q_d0 q_d1
  replace hkb := hkb.trans hk2
  cases hg_ : (crowdB F C)
  · have Hc := Lib.hid hg_; clear hg_
    have q_d0 := hkb.get d0
    have q_d1 := hkb.get d1
    go_wp2_with fail
    go_ret2
    exact ⟨coc_no (by simp only [cocOk, Hc.out]; simp), hkw.trans hkb⟩
  have Hc := Lib.hid hg_; clear hg_
  have q_d0 := hkb.get d0
  have q_d1 := hkb.get d1
  go_wp2_with fail
  have CC := Lib.hid (l9Cost_any _ F A0 C n c0 _ (hFA.kp hkb) (hC.kp hkb) Hn.out Hg.out Hc.out)
  with_reducible refine Calls.mono CC.out ?_
  rintro e w3 ⟨rfl, hk3⟩
  clear CC q_d0 q_d1
  replace hkb := hkb.trans hk3
  have q_d0 := hkb.get d0
  have q_d1 := hkb.get d1
  go_wp2_with fail
  go_ret2
  exact ⟨coc_yes (by simp only [cocOk, Hg.out, Hc.out]; rfl), hkw.trans hkb⟩
set_option maxRecDepth 100000 in
set_option maxHeartbeats 400000 in
theorem implCoc_any (f : Value) (F : Fld) (A0 : Option Addr) (C : List Int) (n c0 : Nat) (w : World) (hf : FldAt w f F) (hC : IntsAt w A0 C) (hn : C.length = n) :
    Calls Try.prog 13 #[f, .slice A0 n c0] w fun e w' => e = .returned (.tuple #[.int .i64 (cocR F C), .bool (cocOk F C)]) ∧ Kp w w' := by
  obtain ⟨A, c, B, d, rfl, hA, hB⟩ := hf
  have hk0 : Kp w (w.alloc (.cells #[.slice A F.op.length c, .slice B F.di.length d] 29)) := (Kp.refl w).alloc _
  obtain ⟨d0, d1⟩ := box2 w (.slice A F.op.length c) (.slice B F.di.length d) 29
  have hFA := FldAt.kp (show FldAt w (.agg #[.slice A F.op.length c, .slice B F.di.length d]) F from ⟨A, c, B, d, rfl, hA, hB⟩) hk0
  replace hC := hC.kp hk0
  have hdl := hB.1
  have Hn := Lib.hid hn
  clear hA hB hn
  go_enter Try.func13, Try.ntmps13
  go_wp2_with fail
  have hsz : Hid ((w.alloc (.cells #[.slice A F.op.length c, .slice B F.di.length d] 29)).heap.size = w.heap.size + 1) := by show _ = _; simp
  generalize w.alloc (.cells #[.slice A F.op.length c, .slice B F.di.length d] 29) = wb at *
  have hkb : Kp wb wb := Kp.refl _
  have hkw := hk0
  have CC := Lib.hid (isCrowd_any _ F A0 C n c0 _ (hFA.kp hkb) (hC.kp hkb) Hn.out)
  with_reducible refine Calls.mono CC.out ?_
  rintro e w1 ⟨rfl, hk1⟩
  clear CC
  replace hkb := hkb.trans hk1
  cases hg_ : ((goodF F && crowdB F C))
  · have Hg := Lib.hid hg_; clear hg_
    have q_d0 := hkb.get d0
    have q_d1 := hkb.get d1
    go_wp2_with fail
    go_ret2
    exact ⟨coc_no Hg.out, hkw.trans hkb⟩
  have Hg := Lib.hid hg_; clear hg_
  have HP : Hid (goodF F = true ∧ crowdB F C = true) := by show _ ∧ _; simpa using Hg.out
  have q_d0 := hkb.get d0
  have q_d1 := hkb.get d1
  go_wp2_with fail
  have CC := Lib.hid (costOf_any _ F A0 C n c0 _ (hFA.kp hkb) (hC.kp hkb) Hn.out HP.out.1 HP.out.2)
  with_reducible refine Calls.mono CC.out ?_
  rintro e w2 ⟨rfl, hk2⟩
  clear CC q_d0 q_d1
  replace hkb := hkb.trans hk2
  have q_d0 := hkb.get d0
  have q_d1 := hkb.get d1
  go_wp2_with fail
  go_ret2
  exact ⟨coc_yes Hg.out, hkw.trans hkb⟩

def ctF (F : Fld) (b : Nat) : Int := costF F (bitsL F.di.length b)
def ctL (F : Fld) : List Int := if goodF F = true then mapTo (ctF F) (2 ^ F.di.length) else []
theorem ctL_yes {F : Fld} (h : goodF F = true) : ctL F = mapTo (ctF F) (2 ^ F.di.length) := if_pos h
theorem ctL_no {F : Fld} (h : goodF F = false) : ctL F = [] := if_neg (by simp [h])
theorem ctL_len (F : Fld) : (ctL F).length ≤ 1048576 := by
  by_cases h : goodF F = true
  · rw [ctL_yes h, mapTo_len]
    have := pow7 (goodF_iff.1 h).2.2.1
    omega
  · rw [ctL_no (by simpa using h)]; simp
theorem bitsL_crowd (F : Fld) (b : Nat) : crowdB F (bitsL F.di.length b) = true := bitsL_ris _ _ _ (Int.le_refl _)
set_option maxRecDepth 100000 in
set_option maxHeartbeats 2000000 in
theorem costs_any (f : Value) (F : Fld) (w : World) (hf : FldAt w f F) (hg : goodF F = true) :
    Calls Try.prog 40 #[f] w fun e w' => ∃ v, e = .returned v ∧ Own w' w.heap.size v (mapTo (ctF F) (2 ^ F.di.length)) ∧ Kp w w' := by
  obtain ⟨A, c, B, d, rfl, hA, hB⟩ := hf
  have hk0 : Kp w (w.alloc (.cells #[.slice A F.op.length c, .slice B F.di.length d] 29)) := (Kp.refl w).alloc _
  obtain ⟨d0, d1⟩ := box2 w (.slice A F.op.length c) (.slice B F.di.length d) 29
  have hFA := FldAt.kp (show FldAt w (.agg #[.slice A F.op.length c, .slice B F.di.length d]) F from ⟨A, c, B, d, rfl, hA, hB⟩) hk0
  have HG := Lib.hid hg
  have hd7 := (goodF_iff.1 hg).2.2.1
  obtain ⟨P, HP, hpw, hP⟩ := pow_wrap (F.di.length : Int) (by omega) (by omega)
  rw [Int.toNat_natCast] at hpw
  have HP' : Hid (P = 2 ^ F.di.length) := by show P = _; simpa using HP.out
  have hpu := u64_one_shl (F.di.length : Int) (by omega) (by omega)
  rw [Int.toNat_natCast, ← HP'.out] at hpu
  clear hA hB hg
  go_enter Try.func40, Try.ntmps40
  go_wp2_with fail
  have hsz : Hid ((w.alloc (.cells #[.slice A F.op.length c, .slice B F.di.length d] 29)).heap.size = w.heap.size + 1) := by show _ = _; simp
  generalize w.alloc (.cells #[.slice A F.op.length c, .slice B F.di.length d] 29) = wb at *
  have hkb : Kp wb wb := Kp.refl _
  have hkw := hk0
  have hs1 : w.heap.size + 1 ≤ wb.heap.size := Nat.le_of_eq hsz.out.symm
  have ho0 : Own (wb.alloc (.cells #[] 3)) wb.heap.size (.slice (some ⟨w.heap.size + 1, 0, none⟩) 0 0) [] := by
    rw [← hsz.out]; exact own_new0 wb wb.heap.size (Nat.le_refl _)
  replace hkb : Kp wb (wb.alloc (.cells #[] 3)) := (Kp.refl _).alloc _
  go_loopw [3, 4] (fun ov iv wr => ∃ a : Nat, a ≤ P ∧ iv = .int .u64 a ∧ Own wr wb.heap.size ov (mapTo (ctF F) a) ∧ Kp wb wr) (fun _ iv _ => P - (intOf iv).toNat)
  case atStart => exact ⟨0, by omega, rfl, ho0, hkb⟩
  case round =>
    clear ho0 hkb
    obtain ⟨a, ha, rfl, hown, hkb⟩ := hrel
    by_cases hlt : a < P
    · have hlen := Lib.hid (mapTo_len (ctF F) a)
      have hlen2 : (mapTo (ctF F) a).length < 1048576 := by rw [hlen.out]; omega
      have haP : a < 2 ^ F.di.length := by rw [← HP'.out]; exact hlt
      have HPa := Lib.hid haP
      have HS := Lib.hid (bitsL_crowd F a)
      have hbl := bitsL_len F.di.length a
      clear haP
      have C2 := Lib.hid (fun (wx : World) (hx : Kp wb wx) (Av : Option Addr) (cv : Nat) (hv : IntsAt wx Av (bitsL F.di.length a)) => costOf_any _ F Av (bitsL F.di.length a) _ cv wx (hFA.kp hx) hv rfl HG.out HS.out)
      have C1 := Lib.hid (list_any a F.di.length wr.drew HPa.out (by omega))
      have q_d0 := hkb.get d0
      have q_d1 := hkb.get d1
      have tok1 : True := trivial
      go_wp2_with fail
      go_region_held3 (fun w' => w'.cell? ⟨w.heap.size, 0, none⟩ = some (.slice A F.op.length c) ∧ w'.cell? ⟨w.heap.size, 1, none⟩ = some (.slice B F.di.length d) ∧ Kp wb w')
        (first | (refine keepc2 d0 d1 ?_; exact (by repeat (first | with_reducible assumption | with_reducible exact Kp.refl _ | with_reducible refine Kp.drew ?_ | with_reducible refine Kp.alloc ?_ _ | with_reducible refine Kp.drewN ?_ _))) | fail)
        (first
          | (have _t := tok1; go_at_call 53; with_reducible refine Calls.mono (C1.out) ?_; rintro e wr1 ⟨v, rfl, hov, hka⟩; have hr1 : Kp wb wr1 := Kp.trans (by repeat (first | with_reducible assumption | with_reducible exact Kp.refl _ | with_reducible refine Kp.drew ?_ | with_reducible refine Kp.alloc ?_ _ | with_reducible refine Kp.drewN ?_ _)) hka; obtain ⟨Av, cv, hve, hiv⟩ := hov.ints (by omega); subst hve; have hoA := (hown.kp (Kp.refl wr).drew).kp hka; have tok2 : True := trivial; clear tok1 _t)
          | (have _t := tok2; go_at_call 36; with_reducible refine Calls.mono (C2.out _ hr1 Av cv hiv) ?_; rintro e wr2 ⟨rfl, hka⟩; have hr2 : Kp wb wr2 := Kp.trans (by repeat (first | with_reducible assumption | with_reducible exact Kp.refl _ | with_reducible refine Kp.drew ?_ | with_reducible refine Kp.alloc ?_ _ | with_reducible refine Kp.drewN ?_ _)) hka; have hoB := hoA.kp hka; have tok3 : True := trivial; clear tok2 _t)
          | (have _t := tok3; refine step_app (by rfl) (.tmp 14) (.tmp 19) (by rfl) wb.heap.size _ (mapTo (ctF F) a) (ctF F a) _ (by rfl) (by rfl) (by rfl) hoB hr2.le hlen2 ?_; intro v' w' ho' ht' _; have hk4 : Kp wb w' := hoB.kp_turn hr2 (Nat.le_refl _) ht'; have tok4 : True := trivial; clear tok3 _t)
          | fail)
      go_wp2_with fail
      go_roundw
      case rel => exact ⟨a + 1, by omega, by go_num, by rw [mapTo_succ]; exact ho', hk4⟩
      case measure => simp [intOf]; omega
    · obtain rfl : a = P := by omega
      have q_d0 := hkb.get d0
      have q_d1 := hkb.get d1
      go_wp2_with fail
      go_ret
      exact ⟨_, rfl, by rw [← HP'.out]; exact hown.mono hkw.le, hkw.trans hkb⟩
set_option maxRecDepth 100000 in
set_option maxHeartbeats 2000000 in
theorem l9Table_any (f : Value) (F : Fld) (w : World) (hf : FldAt w f F) (hg : goodF F = true) :
    Calls Try.prog 38 #[f] w fun e w' => ∃ v, e = .returned v ∧ Own w' w.heap.size v (mapTo (ctF F) (2 ^ F.di.length)) ∧ Kp w w' := by
  obtain ⟨A, c, B, d, rfl, hA, hB⟩ := hf
  have hk0 : Kp w (w.alloc (.cells #[.slice A F.op.length c, .slice B F.di.length d] 29)) := (Kp.refl w).alloc _
  obtain ⟨d0, d1⟩ := box2 w (.slice A F.op.length c) (.slice B F.di.length d) 29
  have hFA := FldAt.kp (show FldAt w (.agg #[.slice A F.op.length c, .slice B F.di.length d]) F from ⟨A, c, B, d, rfl, hA, hB⟩) hk0
  have HG := Lib.hid hg
  have hd7 := (goodF_iff.1 hg).2.2.1
  obtain ⟨P, HP, hpw, hP⟩ := pow_wrap (F.di.length : Int) (by omega) (by omega)
  rw [Int.toNat_natCast] at hpw
  have HP' : Hid (P = 2 ^ F.di.length) := by show P = _; simpa using HP.out
  have hpu := u64_one_shl (F.di.length : Int) (by omega) (by omega)
  rw [Int.toNat_natCast, ← HP'.out] at hpu
  clear hA hB hg
  go_enter Try.func38, Try.ntmps38
  go_wp2_with fail
  have hsz : Hid ((w.alloc (.cells #[.slice A F.op.length c, .slice B F.di.length d] 29)).heap.size = w.heap.size + 1) := by show _ = _; simp
  generalize w.alloc (.cells #[.slice A F.op.length c, .slice B F.di.length d] 29) = wb at *
  have hkb : Kp wb wb := Kp.refl _
  have hkw := hk0
  have hs1 : w.heap.size + 1 ≤ wb.heap.size := Nat.le_of_eq hsz.out.symm
  have ho0 : Own (wb.alloc (.cells #[] 3)) wb.heap.size (.slice (some ⟨w.heap.size + 1, 0, none⟩) 0 0) [] := by
    rw [← hsz.out]; exact own_new0 wb wb.heap.size (Nat.le_refl _)
  replace hkb : Kp wb (wb.alloc (.cells #[] 3)) := (Kp.refl _).alloc _
  go_loopw [3, 4] (fun ov iv wr => ∃ a : Nat, a ≤ P ∧ iv = .int .i64 a ∧ Own wr wb.heap.size ov (mapTo (ctF F) a) ∧ Kp wb wr) (fun _ iv _ => P - (intOf iv).toNat)
  case atStart => exact ⟨0, by omega, rfl, ho0, hkb⟩
  case round =>
    clear ho0 hkb
    obtain ⟨a, ha, rfl, hown, hkb⟩ := hrel
    by_cases hlt : a < P
    · have hlen := Lib.hid (mapTo_len (ctF F) a)
      have hlen2 : (mapTo (ctF F) a).length < 1048576 := by rw [hlen.out]; omega
      have haP : a < 2 ^ F.di.length := by rw [← HP'.out]; exact hlt
      have HPa := Lib.hid haP
      have HS := Lib.hid (bitsL_crowd F a)
      have hbl := bitsL_len F.di.length a
      clear haP
      have C2 := Lib.hid (fun (wx : World) (hx : Kp wb wx) (Av : Option Addr) (cv : Nat) (hv : IntsAt wx Av (bitsL F.di.length a)) => l9Cost_any _ F Av (bitsL F.di.length a) _ cv wx (hFA.kp hx) hv rfl HG.out HS.out)
      have C1 := Lib.hid (l2Bits_any F.di.length a wr.drew (by omega) (by omega))
      have q_d0 := hkb.get d0
      have q_d1 := hkb.get d1
      have tok1 : True := trivial
      go_wp2_with fail
      go_region_held3 (fun w' => w'.cell? ⟨w.heap.size, 0, none⟩ = some (.slice A F.op.length c) ∧ w'.cell? ⟨w.heap.size, 1, none⟩ = some (.slice B F.di.length d) ∧ Kp wb w')
        (first | (refine keepc2 d0 d1 ?_; exact (by repeat (first | with_reducible assumption | with_reducible exact Kp.refl _ | with_reducible refine Kp.drew ?_ | with_reducible refine Kp.alloc ?_ _ | with_reducible refine Kp.drewN ?_ _))) | fail)
        (first
          | (have _t := tok1; go_at_call 49; with_reducible refine Calls.mono (C1.out) ?_; rintro e wr1 ⟨v, rfl, hov, hka⟩; have hr1 : Kp wb wr1 := Kp.trans (by repeat (first | with_reducible assumption | with_reducible exact Kp.refl _ | with_reducible refine Kp.drew ?_ | with_reducible refine Kp.alloc ?_ _ | with_reducible refine Kp.drewN ?_ _)) hka; obtain ⟨Av, cv, hve, hiv⟩ := hov.ints (by omega); subst hve; have hoA := (hown.kp (Kp.refl wr).drew).kp hka; have tok2 : True := trivial; clear tok1 _t)
          | (have _t := tok2; go_at_call 33; with_reducible refine Calls.mono (C2.out _ hr1 Av cv hiv) ?_; rintro e wr2 ⟨rfl, hka⟩; have hr2 : Kp wb wr2 := Kp.trans (by repeat (first | with_reducible assumption | with_reducible exact Kp.refl _ | with_reducible refine Kp.drew ?_ | with_reducible refine Kp.alloc ?_ _ | with_reducible refine Kp.drewN ?_ _)) hka; have hoB := hoA.kp hka; have tok3 : True := trivial; clear tok2 _t)
          | (have _t := tok3; refine step_app (by rfl) (.tmp 14) (.tmp 22) (by rfl) wb.heap.size _ (mapTo (ctF F) a) (ctF F a) _ (by rfl) (by rfl) (by rfl) hoB hr2.le hlen2 ?_; intro v' w' ho' ht' _; have hk4 : Kp wb w' := hoB.kp_turn hr2 (Nat.le_refl _) ht'; have tok4 : True := trivial; clear tok3 _t)
          | fail)
      go_wp2_with fail
      go_roundw
      case rel => exact ⟨a + 1, by omega, by go_num, by rw [mapTo_succ]; exact ho', hk4⟩
      case measure => simp [intOf]; omega
    · obtain rfl : a = P := by omega
      have q_d0 := hkb.get d0
      have q_d1 := hkb.get d1
      go_wp2_with fail
      go_ret
      exact ⟨_, rfl, by rw [← HP'.out]; exact hown.mono hkw.le, hkw.trans hkb⟩
set_option maxRecDepth 100000 in
set_option maxHeartbeats 400000 in
theorem specCt_any (f : Value) (F : Fld) (w : World) (hf : FldAt w f F) :
    Calls Try.prog 16 #[f] w fun e w' => ∃ v, e = .returned (.tuple #[v, .bool (goodF F)]) ∧ Own w' w.heap.size v (ctL F) ∧ Kp w w' := by
  obtain ⟨A, c, B, d, rfl, hA, hB⟩ := hf
  have hk0 : Kp w (w.alloc (.cells #[.slice A F.op.length c, .slice B F.di.length d] 29)) := (Kp.refl w).alloc _
  obtain ⟨d0, d1⟩ := box2 w (.slice A F.op.length c) (.slice B F.di.length d) 29
  have hFA := FldAt.kp (show FldAt w (.agg #[.slice A F.op.length c, .slice B F.di.length d]) F from ⟨A, c, B, d, rfl, hA, hB⟩) hk0
  clear hA hB
  go_enter Try.func16, Try.ntmps16
  go_wp2_with fail
  have hsz : Hid ((w.alloc (.cells #[.slice A F.op.length c, .slice B F.di.length d] 29)).heap.size = w.heap.size + 1) := by show _ = _; simp
  generalize w.alloc (.cells #[.slice A F.op.length c, .slice B F.di.length d] 29) = wb at *
  have hkb : Kp wb wb := Kp.refl _
  have hkw := hk0
  have CC := Lib.hid (l2Good_any _ F _ (hFA.kp hkb))
  with_reducible refine Calls.mono CC.out ?_
  rintro e w1 ⟨rfl, hk1⟩
  clear CC
  replace hkb := hkb.trans hk1
  cases hg_ : goodF F
  · have Hno := Lib.hid hg_
    clear hg_
    have q_d0 := hkb.get d0
    have q_d1 := hkb.get d1
    go_wp2_with fail
    go_ret2
    exact ⟨_, by rw [Hno.out]; rfl, by rw [ctL_no Hno.out]; exact own_new0 w1 w.heap.size (Nat.le_trans hkw.le hkb.le), (hkw.trans hkb).alloc _⟩
  have Hg := Lib.hid hg_; clear hg_
  have q_d0 := hkb.get d0
  have q_d1 := hkb.get d1
  go_wp2_with fail
  have CC := Lib.hid (l9Table_any _ F _ (hFA.kp hkb) Hg.out)
  with_reducible refine Calls.mono CC.out ?_
  rintro e w2 ⟨v, rfl, ho, hk2⟩
  clear CC q_d0 q_d1
  replace hkb := hkb.trans hk2
  have q_d0 := hkb.get d0
  have q_d1 := hkb.get d1
  go_wp2_with fail
  go_ret2
  exact ⟨_, by rw [Hg.out]; rfl, by rw [ctL_yes Hg.out]; exact ho.mono (Nat.le_trans hkw.le hk1.le), hkw.trans hkb⟩
set_option maxRecDepth 100000 in
set_option maxHeartbeats 400000 in
theorem implCt_any (f : Value) (F : Fld) (w : World) (hf : FldAt w f F) :
    Calls Try.prog 17 #[f] w fun e w' => ∃ v, e = .returned (.tuple #[v, .bool (goodF F)]) ∧ Own w' w.heap.size v (ctL F) ∧ Kp w w' := by
  obtain ⟨A, c, B, d, rfl, hA, hB⟩ := hf
  have hk0 : Kp w (w.alloc (.cells #[.slice A F.op.length c, .slice B F.di.length d] 29)) := (Kp.refl w).alloc _
  obtain ⟨d0, d1⟩ := box2 w (.slice A F.op.length c) (.slice B F.di.length d) 29
  have hFA := FldAt.kp (show FldAt w (.agg #[.slice A F.op.length c, .slice B F.di.length d]) F from ⟨A, c, B, d, rfl, hA, hB⟩) hk0
  clear hA hB
  go_enter Try.func17, Try.ntmps17
  go_wp2_with fail
  have hsz : Hid ((w.alloc (.cells #[.slice A F.op.length c, .slice B F.di.length d] 29)).heap.size = w.heap.size + 1) := by show _ = _; simp
  generalize w.alloc (.cells #[.slice A F.op.length c, .slice B F.di.length d] 29) = wb at *
  have hkb : Kp wb wb := Kp.refl _
  have hkw := hk0
  have CC := Lib.hid (isField_any _ F _ (hFA.kp hkb))
  with_reducible refine Calls.mono CC.out ?_
  rintro e w1 ⟨rfl, hk1⟩
  clear CC
  replace hkb := hkb.trans hk1
  cases hg_ : goodF F
  · have Hno := Lib.hid hg_
    clear hg_
    have q_d0 := hkb.get d0
    have q_d1 := hkb.get d1
    go_wp2_with fail
    go_ret2
    exact ⟨_, by rw [Hno.out]; rfl, by rw [ctL_no Hno.out]; exact Own.nil _ _, hkw.trans hkb⟩
  have Hg := Lib.hid hg_; clear hg_
  have q_d0 := hkb.get d0
  have q_d1 := hkb.get d1
  go_wp2_with fail
  have CC := Lib.hid (costs_any _ F _ (hFA.kp hkb) Hg.out)
  with_reducible refine Calls.mono CC.out ?_
  rintro e w2 ⟨v, rfl, ho, hk2⟩
  clear CC q_d0 q_d1
  replace hkb := hkb.trans hk2
  have q_d0 := hkb.get d0
  have q_d1 := hkb.get d1
  go_wp2_with fail
  go_ret2
  exact ⟨_, by rw [Hg.out]; rfl, by rw [ctL_yes Hg.out]; exact ho.mono (Nat.le_trans hkw.le hk1.le), hkw.trans hkb⟩
end Go.Proofs.Ytcifdadieaccdaa
