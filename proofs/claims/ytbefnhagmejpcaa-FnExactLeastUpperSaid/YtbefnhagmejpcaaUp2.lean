/- UpperGain: the program's upper gain, and both walks. No condition. -/
import Derived.Test.YtbefnhagmejpcaaUp
import Derived.Test.YtbefnhagmejpcaaSortI
import Derived.Test.YtbefnhagmejpcaaSumI
import Derived.Test.YtbefnhagmejpcaaGreedy2
namespace Go.Proofs.Ytbefnhagmejpcaa
open Go.RowKit Go.Sort

theorem own_nv {w : World} {base : Nat} {v : Value} {xs : List Int} (h : Own w base v xs) (hx : xs ≠ []) : v ≠ .slice none 0 0 := by
  rcases h.2 with ⟨_, e⟩ | ⟨g, cap, cur, e, _⟩
  · exact absurd (List.eq_nil_of_length_eq_zero e) hx
  · rw [e]; simp
theorem own_nn {w : World} {base : Nat} {v : Value} {xs : List Int} (h : Own w base v xs) (hv : v ≠ .slice none 0 0) : ∃ g cap, v = .slice (some ⟨g, 0, none⟩) xs.length cap := by
  rcases h.2 with ⟨e, _⟩ | ⟨g, cap, cur, e, _⟩
  · exact absurd e hv
  · exact ⟨g, cap, e⟩
set_option maxRecDepth 100000 in
set_option maxHeartbeats 1000000 in
theorem upper_any (f : Value) (F : Fld) (worth : Int) (A0 : Option Addr) (S : List Int) (n c0 K : Nat) (w : World) (hf : FldAt w f F) (hS : IntsAt w A0 S) (hn : S.length = n) (hg : goodF F = true) (hs : setB F S = true) (hw0 : 0 ≤ worth) (hw1 : worth ≤ 999) (hK : K ≤ 7) :
    Calls Try.prog 59 #[f, .int .i64 worth, .slice A0 n c0, .int .i64 K] w fun e w' => e = .returned (.int .i64 (upF F worth S K)) ∧ Kp w w' := by
  have h7 := (goodF_iff.1 hg).1.2
  have hAM := Lib.hid (allM_facts hg hw0 hw1 S)
  have hgb := gainF_bd hg hw0 hw1 S
  have hub := Lib.hid (upF_bd hg hw0 hw1 S K)
  have hmem := Lib.hid (set_mem hs)
  have hbn := Lib.hid (fun a : Nat => bagN_bit (fun y hy => (hmem.out y hy).1) a)
  have hbits := Lib.hid (set_bits hs)
  have hbl := bagN_lt (S := S) (n := F.op.length) hmem.out
  have hb7 : bagN S < 128 := Nat.lt_of_lt_of_le hbl (Nat.pow_le_pow_right (n := 2) (by omega) h7)
  have Hbl := Lib.hid hbl
  clear hbl
  obtain ⟨A, c, B, d, rfl, hA, hB⟩ := hf
  have hk0 : Kp w (w.alloc (.cells #[.slice A F.op.length c, .slice B F.di.length d] 29)) := (Kp.refl w).alloc _
  obtain ⟨d0, d1⟩ := box2 w (.slice A F.op.length c) (.slice B F.di.length d) 29
  have hFA := FldAt.kp (show FldAt w (.agg #[.slice A F.op.length c, .slice B F.di.length d]) F from ⟨A, c, B, d, rfl, hA, hB⟩) hk0
  have hS0 := hS.kp hk0
  have HG := Lib.hid hg
  have HS := Lib.hid hs
  have Hn := Lib.hid hn
  clear hS hA hB hg hs hn
  go_enter Try.func59, Try.ntmps59
  go_wp2_with fail
  have hsz : Hid ((w.alloc (.cells #[.slice A F.op.length c, .slice B F.di.length d] 29)).heap.size = w.heap.size + 1) := by show _ = _; simp
  generalize w.alloc (.cells #[.slice A F.op.length c, .slice B F.di.length d] 29) = wb at *
  have hkb : Kp wb wb := Kp.refl _
  have hkw := hk0
  have CC := Lib.hid (bagOf_any A0 S n c0 _ hS0 Hn.out (fun x hx => by have := hmem.out x hx; omega))
  with_reducible refine Calls.mono CC.out ?_
  rintro e w1 ⟨rfl, hw⟩
  obtain rfl := hw
  clear CC
  have ho := own_new0 wb wb.heap.size (Nat.le_refl _)
  have hka : Kp wb (wb.alloc (.cells #[] 3)) := (Kp.refl _).alloc _
  replace hkb := hkb.trans hka
  obtain ⟨bg, Hbg⟩ : ∃ bg, Hid (bg = bagN S) := ⟨_, rfl⟩
  rw [← Hbg.out] at hb7
  rw [← Hbg.out]
  have q_d0 := hkb.get d0
  have q_d1 := hkb.get d1
  go_wp2_with fail
  go_loopw [10, 18] (fun lv iv wr => ∃ (a : Nat) (L : List Int), a ≤ F.op.length ∧ iv = .int .i64 a ∧ L.length ≤ a ∧ Hid (lv ≠ .slice none 0 0) ∧ Hid (L = margsTo F worth S a) ∧ Own wr wb.heap.size lv L ∧ Kp wb wr) (fun _ iv _ => F.op.length - (intOf iv).toNat)
  case atStart => exact ⟨0, [], by omega, rfl, by simp, by show _ ≠ _; simp, rfl, ho, hkb⟩
  case round =>
    obtain ⟨a, L, ha, rfl, hla, Hnn, HL, hown, hkb⟩ := hrel
    by_cases hlt : a < F.op.length
    · clear q_d0 q_d1
      have q_d0 := hkb.get d0
      have q_d1 := hkb.get d1
      go_wp2_with fail
      with_reducible refine Calls.mono (has_any bg a _ (by omega) (by omega)) ?_
      rintro e w2 ⟨rfl, hw⟩
      obtain rfl := hw
      clear q_d0 q_d1
      cases hh : bg.testBit a
      · have HL2 : Hid (margsTo F worth S (a + 1) = margsTo F worth S a ++ [moreF F worth S a]) := by
          show _ = _
          refine margs_yes ?_
          have := hbn.out a
          rw [← Hbg.out, hh] at this
          rw [List.any_eq_false]
          intro x hx he
          rw [beq_iff_eq] at he
          subst he
          simp [hx] at this
        clear hh
        have q_d0 := hkb.get d0
        have q_d1 := hkb.get d1
        go_wp2_with fail
        have CC := Lib.hid (marginal_any _ F worth bg a _ (hFA.kp hkb) HG.out (by rw [Hbg.out]; exact Hbl.out) hw0 hw1 hlt)
        with_reducible refine Calls.mono CC.out ?_
        rintro e w3 ⟨rfl, hk3⟩
        clear CC q_d0 q_d1
        replace hkb := hkb.trans hk3
        replace hown := hown.kp hk3
        have hbe : bitsL F.op.length bg = S := by rw [Hbg.out]; exact hbits.out
        rw [hbe]
        clear hbe
        have hmb := moreF_bd HG.out hw0 hw1 S a
        obtain ⟨m, Hm⟩ : ∃ m, Hid (m = moreF F worth S a) := ⟨_, rfl⟩
        rw [← Hm.out] at hmb ⊢
        have q_d0 := hkb.get d0
        have q_d1 := hkb.get d1
        go_wp2_with (at_builtin; go_loud (refine wpl_app rfl (.tmp 25) (.tmp 31) rfl (wb.heap.size) _ (L) (m) rfl rfl hown hkb.le (by omega) ?_; intro v' w' ho' ht' h4'; have hkb' := hown.kp_turn hkb (Nat.le_refl _) ht'; have r_d0 := hkb'.get d0; have r_d1 := hkb'.get d1))
        go_roundw
        case rel => exact ⟨a + 1, L ++ [m], by omega, by go_num, by simp; omega, own_nv ho' (by simp), by show _ = _; rw [HL2.out, Hm.out, ← HL.out], ho', hkb'⟩
        case measure => simp [intOf]; omega
      · have HL2 : Hid (margsTo F worth S (a + 1) = margsTo F worth S a) := by
          show _ = _
          refine margs_no ?_
          have := hbn.out a
          rw [← Hbg.out, hh] at this
          rw [List.any_eq_true]
          exact ⟨a, by simpa using this.symm, by simp⟩
        clear hh
        have q_d0 := hkb.get d0
        have q_d1 := hkb.get d1
        go_wp2_with fail
        go_roundw
        case rel => exact ⟨a + 1, L, by omega, by go_num, by omega, Hnn, by show _ = _; rw [HL2.out]; exact HL.out, hown, hkb⟩
        case measure => simp [intOf]; omega
    · obtain rfl : a = F.op.length := by omega
      have hD : Hid ((L.mergeSort fun x y => decide (x ≤ y)).reverse = allM F worth S) := by show _ = _; rw [desc_sort, HL.out]; rfl
      obtain ⟨g, cp, rfl⟩ := own_nn hown Hnn.out
      clear Hnn
      clear q_d0 q_d1
      have q_d0 := hkb.get d0
      have q_d1 := hkb.get d1
      go_wp2_with fail
      have CC := Lib.hid (sortInts_any wb.heap.size g cp L.length L _ hown rfl (by omega))
      with_reducible refine Calls.mono CC.out ?_
      rintro e w5 ⟨rfl, ho5, ht5⟩
      replace hkb := hown.kp_turn hkb (Nat.le_refl _) (ht5.mono (fun i hi => by subst hi; rfl))
      clear CC ht5
      clear q_d0 q_d1
      have q_d0 := hkb.get d0
      have q_d1 := hkb.get d1
      go_wp2_with fail
      have CC := Lib.hid (revInts_any wb.heap.size g cp L.length (L.mergeSort fun x y => decide (x ≤ y)) _ ho5 (by simp) (by omega))
      with_reducible refine Calls.mono CC.out ?_
      rintro e w6 ⟨rfl, ho6, ht6⟩
      replace hkb := ho5.kp_turn hkb (Nat.le_refl _) (ht6.mono (fun i hi => by subst hi; rfl))
      clear CC ht6
      rw [hD.out] at ho6
      have hAl : (allM F worth S).length = L.length := by rw [← hD.out]; simp
      obtain ⟨M, HM⟩ : ∃ M, Hid (M = allM F worth S) := ⟨_, rfl⟩
      have hAf := Lib.hid hAM.out
      rw [← HM.out] at hAf hAl ho6
      have hiM := ho6.intsOf (by omega)
      have hcM := ho6.cap rfl
      have hq : ∃ q : Nat, min (K : Int) (L.length : Int) = q ∧ q ≤ L.length ∧ Hid (M.take q = M.take K) := by
        by_cases h : K ≤ L.length
        · exact ⟨K, by omega, h, rfl⟩
        · exact ⟨L.length, by omega, Nat.le_refl _, by show _ = _; rw [List.take_of_length_le (by omega), List.take_of_length_le (by omega)]⟩
      obtain ⟨q, hq1, hq2, Hq⟩ := hq
      have hqc : q ≤ cp := by omega
      have Hgf : Hid (gainF F worth S + (M.take q).sum = upF F worth S K) := by show _ = _; rw [Hq.out, HM.out]; rfl
      have hub2 := hub.out
      rw [← Hgf.out] at hub2
      have hwr : IntKind.i64.wrap (gainF F worth S + (M.take q).sum) = gainF F worth S + (M.take q).sum := IntWalk.i64_in _ (by omega)
      have hlt : (M.take q).length = q := by rw [List.length_take]; omega
      have C1 := Lib.hid (fun (wx : World) (hx : Kp _ wx) => gain_any _ F worth A0 S n c0 wx (hFA.kp (hkb.trans hx)) (hS0.kp (hkb.trans hx)) Hn.out HG.out HS.out hw0 hw1)
      have C2 := Lib.hid (fun (wx : World) (hx : Kp _ wx) => sumL_any (some ⟨g, 0, none⟩) (M.take q) q cp wx ((hiM.take q).kp hx) hlt (fun k _ => by rw [List.take_take]; have := hAf.out.2.2 (min k q); omega) (fun x hx => by have := hAf.out.2.1 x (List.mem_of_mem_take hx); omega))
      have d6 := hkb.get d0
      have d7 := hkb.get d1
      have hk6 : Kp w6 w6 := Kp.refl _
      clear q_d0 q_d1
      have q_d6 := hk6.get d6
      have q_d7 := hk6.get d7
      have tok1 : True := trivial
      go_wp2_with fail
      go_region_held3 (fun w' => w'.cell? ⟨w.heap.size, 0, none⟩ = some (.slice A F.op.length c) ∧ w'.cell? ⟨w.heap.size, 1, none⟩ = some (.slice B F.di.length d) ∧ Kp w6 w')
        (first | (refine keepc2 d6 d7 ?_; exact (by repeat (first | with_reducible assumption | with_reducible exact Kp.refl _ | with_reducible refine Kp.drew ?_ | with_reducible refine Kp.alloc ?_ _ | with_reducible refine Kp.drewN ?_ _))) | fail)
        (first
          | (have _t := tok1; go_at_call 56; with_reducible refine Calls.mono (C1.out _ (by repeat (first | with_reducible assumption | with_reducible exact Kp.refl _ | with_reducible refine Kp.drew ?_ | with_reducible refine Kp.alloc ?_ _ | with_reducible refine Kp.drewN ?_ _))) ?_; rintro e wr1 ⟨rfl, hka⟩; have hr1 : Kp w6 wr1 := Kp.trans (by repeat (first | with_reducible assumption | with_reducible exact Kp.refl _ | with_reducible refine Kp.drew ?_ | with_reducible refine Kp.alloc ?_ _ | with_reducible refine Kp.drewN ?_ _)) hka; have tok2 : True := trivial; clear tok1 _t)
          | (have _t := tok2; go_at_call 91; with_reducible refine Calls.mono (C2.out _ (by repeat (first | with_reducible assumption | with_reducible exact Kp.refl _ | with_reducible refine Kp.drew ?_ | with_reducible refine Kp.alloc ?_ _ | with_reducible refine Kp.drewN ?_ _))) ?_; rintro e wr2 ⟨rfl, hw⟩; obtain rfl := hw; have tok3 : True := trivial; clear tok2 _t)
          | fail)
      all_goals (try go_wp2_with fail)
      all_goals
        go_ret
        exact ⟨Hgf.out ▸ rfl, (hkw.trans hkb).trans hr1⟩
def ugOk (F : Fld) (worth : Int) (S : List Int) (k : Int) : Bool := goodF F && worthB worth && (setB F S && inB k 0 7)
def ugR (F : Fld) (worth : Int) (S : List Int) (k : Int) : Int := if ugOk F worth S k = true then upF F worth S k.toNat else 0
theorem ug_no {F : Fld} {worth : Int} {S : List Int} {k : Int} (h : ugOk F worth S k = false) : Ending.returned (.tuple #[.int .i64 0, .bool false]) = .returned (.tuple #[.int .i64 (ugR F worth S k), .bool (ugOk F worth S k)]) := by
  simp [ugR, h]
theorem ug_yes {F : Fld} {worth : Int} {S : List Int} {K : Nat} (h : ugOk F worth S K = true) : Ending.returned (.tuple #[.int .i64 (upF F worth S K), .bool true]) = .returned (.tuple #[.int .i64 (ugR F worth S K), .bool (ugOk F worth S K)]) := by
  simp [ugR, h]
theorem ugOk_parts {F : Fld} {worth : Int} {S : List Int} {k : Int} (h : ugOk F worth S k = true) : goodF F = true ∧ setB F S = true ∧ (0 ≤ worth ∧ worth ≤ 999) ∧ 0 ≤ k ∧ k ≤ 7 := by
  simp only [ugOk, Bool.and_eq_true, worthB, inB_iff] at h
  exact ⟨h.1.1, h.2.1, h.1.2, h.2.2⟩
set_option maxRecDepth 100000 in
set_option maxHeartbeats 400000 in
theorem specUg_any (f : Value) (F : Fld) (worth : Int) (A0 : Option Addr) (S : List Int) (n c0 : Nat) (k : Int) (w : World) (hf : FldAt w f F) (hS : IntsAt w A0 S) (hn : S.length = n) :
    Calls Try.prog 25 #[f, .int .i64 worth, .slice A0 n n, .int .i64 k] w fun e w' => e = .returned (.tuple #[.int .i64 (ugR F worth S k), .bool (ugOk F worth S k)]) ∧ Kp w w' := by
  obtain ⟨A, c, B, d, rfl, hA, hB⟩ := hf
  have hk0 : Kp w (w.alloc (.cells #[.slice A F.op.length c, .slice B F.di.length d] 29)) := (Kp.refl w).alloc _
  obtain ⟨d0, d1⟩ := box2 w (.slice A F.op.length c) (.slice B F.di.length d) 29
  have hFA := FldAt.kp (show FldAt w (.agg #[.slice A F.op.length c, .slice B F.di.length d]) F from ⟨A, c, B, d, rfl, hA, hB⟩) hk0
  have hS0 := hS.kp hk0
  have Hn := Lib.hid hn; clear hn hS hA hB
  go_enter Try.func25, Try.ntmps25
  go_wp2_with fail
  have hsz : Hid ((w.alloc (.cells #[.slice A F.op.length c, .slice B F.di.length d] 29)).heap.size = w.heap.size + 1) := by show _ = _; simp
  generalize w.alloc (.cells #[.slice A F.op.length c, .slice B F.di.length d] 29) = wb at *
  have hkb : Kp wb wb := Kp.refl _
  have hkw := hk0
  have CC := Lib.hid (l8Good_any _ F worth _ (hFA.kp hkb))
  with_reducible refine Calls.mono CC.out ?_
  rintro e w1 ⟨rfl, hk1⟩
  clear CC
  replace hkb := hkb.trans hk1
  cases hg_ : (goodF F && worthB worth)
  · have Hg := Lib.hid hg_; clear hg_
    have q_d0 := hkb.get d0
    have q_d1 := hkb.get d1
    go_wp2_with fail
    go_ret2
    exact ⟨ug_no (by simp only [ugOk, Hg.out]; rfl), hkw.trans hkb⟩
  have Hg := Lib.hid hg_; clear hg_
  have q_d0 := hkb.get d0
  have q_d1 := hkb.get d1
  go_wp2_with fail
  have CC := Lib.hid (l2Set_any _ F A0 S n n _ (hFA.kp hkb) (hS0.kp hkb) Hn.out)
  with_reducible refine Calls.mono CC.out ?_
  rintro e w2 ⟨rfl, hk2⟩
  clear CC q_d0 q_d1
  replace hkb := hkb.trans hk2
  cases hg_ : (setB F S)
  · have Hs := Lib.hid hg_; clear hg_
    have q_d0 := hkb.get d0
    have q_d1 := hkb.get d1
    go_wp2_with fail
    go_ret2
    exact ⟨ug_no (by simp only [ugOk, Hg.out, Hs.out]; rfl), hkw.trans hkb⟩
  have Hs := Lib.hid hg_; clear hg_
  have q_d0 := hkb.get d0
  have q_d1 := hkb.get d1
  go_wp2_with fail
  with_reducible refine Calls.mono (l8K_any k _) ?_
  rintro e w3 ⟨rfl, hw⟩
  obtain rfl := hw
  clear q_d0 q_d1
  cases hg_ : (inB k 0 7)
  · have Hi := Lib.hid hg_; clear hg_
    have q_d0 := hkb.get d0
    have q_d1 := hkb.get d1
    go_wp2_with fail
    go_ret2
    exact ⟨ug_no (by simp only [ugOk, Hi.out, Hs.out]; simp), hkw.trans hkb⟩
  have Hi := Lib.hid hg_; clear hg_
  have Hok : Hid (ugOk F worth S k = true) := by
    show ugOk F worth S k = true
    simp only [ugOk, Hg.out, Hi.out, Hs.out]; rfl
  have HP := Lib.hid (ugOk_parts Hok.out)
  have h0 := HP.out.2.2.2.1
  have h1 := HP.out.2.2.2.2
  obtain ⟨K, rfl⟩ := Int.eq_ofNat_of_zero_le h0
  have q_d0 := hkb.get d0
  have q_d1 := hkb.get d1
  go_wp2_with fail
  have CC := Lib.hid (l8Upper_any _ F worth A0 S n n K _ (hFA.kp hkb) (hS0.kp hkb) Hn.out (Nat.le_refl _) HP.out.1 HP.out.2.1 HP.out.2.2.1.1 HP.out.2.2.1.2 (by omega))
  with_reducible refine Calls.mono CC.out ?_
  rintro e w4 ⟨rfl, hk4⟩
  clear CC q_d0 q_d1
  replace hkb := hkb.trans hk4
  have q_d0 := hkb.get d0
  have q_d1 := hkb.get d1
  go_wp2_with fail
  go_ret2
  exact ⟨ug_yes Hok.out, hkw.trans hkb⟩
set_option maxRecDepth 100000 in
set_option maxHeartbeats 400000 in
theorem implUg_any (f : Value) (F : Fld) (worth : Int) (A0 : Option Addr) (S : List Int) (n c0 : Nat) (k : Int) (w : World) (hf : FldAt w f F) (hS : IntsAt w A0 S) (hn : S.length = n) :
    Calls Try.prog 26 #[f, .int .i64 worth, .slice A0 n c0, .int .i64 k] w fun e w' => e = .returned (.tuple #[.int .i64 (ugR F worth S k), .bool (ugOk F worth S k)]) ∧ Kp w w' := by
  obtain ⟨A, c, B, d, rfl, hA, hB⟩ := hf
  have hk0 : Kp w (w.alloc (.cells #[.slice A F.op.length c, .slice B F.di.length d] 29)) := (Kp.refl w).alloc _
  obtain ⟨d0, d1⟩ := box2 w (.slice A F.op.length c) (.slice B F.di.length d) 29
  have hFA := FldAt.kp (show FldAt w (.agg #[.slice A F.op.length c, .slice B F.di.length d]) F from ⟨A, c, B, d, rfl, hA, hB⟩) hk0
  have hS0 := hS.kp hk0
  have Hn := Lib.hid hn; clear hn hS hA hB
  go_enter Try.func26, Try.ntmps26
  go_wp2_with fail
  have hsz : Hid ((w.alloc (.cells #[.slice A F.op.length c, .slice B F.di.length d] 29)).heap.size = w.heap.size + 1) := by show _ = _; simp
  generalize w.alloc (.cells #[.slice A F.op.length c, .slice B F.di.length d] 29) = wb at *
  have hkb : Kp wb wb := Kp.refl _
  have hkw := hk0
  have CC := Lib.hid (isWorth_any _ F worth A0 S n c0 _ (hFA.kp hkb) (hS0.kp hkb) Hn.out)
  with_reducible refine Calls.mono CC.out ?_
  rintro e w1 ⟨rfl, hk1⟩
  clear CC
  replace hkb := hkb.trans hk1
  cases hg_ : (gainOk F worth S)
  · have Hg := Lib.hid hg_; clear hg_
    have q_d0 := hkb.get d0
    have q_d1 := hkb.get d1
    go_wp2_with fail
    go_ret2
    exact ⟨ug_no (by have h := Hg.out; simp only [gainOk] at h; simp only [ugOk]; revert h; cases goodF F <;> cases worthB worth <;> cases setB F S <;> simp), hkw.trans hkb⟩
  have Hg := Lib.hid hg_; clear hg_
  have q_d0 := hkb.get d0
  have q_d1 := hkb.get d1
  go_wp2_with fail
  with_reducible refine Calls.mono (between_any _ _ _ _) ?_
  rintro e w2 ⟨rfl, hw⟩
  obtain rfl := hw
  clear q_d0 q_d1
  cases hg_ : (inB k 0 7)
  · have Hi := Lib.hid hg_; clear hg_
    have q_d0 := hkb.get d0
    have q_d1 := hkb.get d1
    go_wp2_with fail
    go_ret2
    exact ⟨ug_no (by simp only [ugOk, Hi.out]; simp), hkw.trans hkb⟩
  have Hi := Lib.hid hg_; clear hg_
  have Hok : Hid (ugOk F worth S k = true) := by
    show ugOk F worth S k = true
    have h := Hg.out
    simp only [gainOk] at h
    simp only [ugOk, Hi.out]
    revert h; cases goodF F <;> cases worthB worth <;> cases setB F S <;> simp
  have HP := Lib.hid (ugOk_parts Hok.out)
  have h0 := HP.out.2.2.2.1
  have h1 := HP.out.2.2.2.2
  obtain ⟨K, rfl⟩ := Int.eq_ofNat_of_zero_le h0
  have q_d0 := hkb.get d0
  have q_d1 := hkb.get d1
  go_wp2_with fail
  have CC := Lib.hid (upper_any _ F worth A0 S n c0 K _ (hFA.kp hkb) (hS0.kp hkb) Hn.out HP.out.1 HP.out.2.1 HP.out.2.2.1.1 HP.out.2.2.1.2 (by omega))
  with_reducible refine Calls.mono CC.out ?_
  rintro e w3 ⟨rfl, hk3⟩
  clear CC q_d0 q_d1
  replace hkb := hkb.trans hk3
  have q_d0 := hkb.get d0
  have q_d1 := hkb.get d1
  go_wp2_with fail
  go_ret2
  exact ⟨ug_yes Hok.out, hkw.trans hkb⟩
end Go.Proofs.Ytbefnhagmejpcaa
