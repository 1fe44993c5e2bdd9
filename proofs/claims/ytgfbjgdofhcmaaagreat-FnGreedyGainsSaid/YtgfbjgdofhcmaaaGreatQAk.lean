/- UpperGain: the program's upper gain, and both walks; The program's gain of a list of sites in any order; l1Least; LeastUpper: the program's upper gain of sites in any order, and both walks; LeastUpper: both walks. No condition. -/
import Derived.Test.YtgfbjgdofhcmaaaGreatQAj
import Derived.Test.YtgfbjgdofhcmaaaGreatQAi
import Derived.Test.YtgfbjgdofhcmaaaGreatQAf
import Derived.Test.YtgfbjgdofhcmaaaGreatQAc
import Derived.Test.YtgfbjgdofhcmaaaGreatQAd
import Derived.Test.YtgfbjgdofhcmaaaGreatQAa
namespace Go.Proofs.YtgfbjgdofhcmaaaGreat
open Go.RowKit Go.Sort

theorem own_nv {w : World} {base : Nat} {v : Value} {xs : List Int} (h : Own w base v xs) (hx : xs ≠ []) : v ≠ .slice none 0 0 := by
  rcases h.2 with ⟨_, e⟩ | ⟨g, cap, cur, e, _⟩
  · exact absurd (List.eq_nil_of_length_eq_zero e) hx
  · rw [e]; simp
theorem own_nn {w : World} {base : Nat} {v : Value} {xs : List Int} (h : Own w base v xs) (hv : v ≠ .slice none 0 0) : ∃ g cap, v = .slice (some ⟨g, 0, none⟩) xs.length cap := by
  rcases h.2 with ⟨e, _⟩ | ⟨g, cap, cur, e, _⟩
  · exact absurd e hv
  · exact ⟨g, cap, e⟩
set_option maxRecDepth 100000 in
set_option maxHeartbeats 1000000 in
theorem upper_any (f : Value) (F : Fld) (worth : Int) (A0 : Option Addr) (S : List Int) (n c0 K : Nat) (w : World) (hf : FldAt w f F) (hS : IntsAt w A0 S) (hn : S.length = n) (hg : goodF F = true) (hs : setB F S = true) (hw0 : 0 ≤ worth) (hw1 : worth ≤ 999) (hK : K ≤ 7) :
    Calls Tryz.prog 39 #[f, .int .i64 worth, .slice A0 n c0, .int .i64 K] w fun e w' => e = .returned (.int .i64 (upF F worth S K)) ∧ Kp w w' := by
  have h7 := (goodF_iff.1 hg).1.2
  have hAM := Lib.hid (allM_facts hg hw0 hw1 S)
  have hgb := gainF_bd hg hw0 hw1 S
  have hub := Lib.hid (upF_bd hg hw0 hw1 S K)
  have hmem := Lib.hid (set_mem hs)
  have hbn := Lib.hid (fun a : Nat => bagN_bit (fun y hy => (hmem.out y hy).1) a)
  have hbits := Lib.hid (set_bits hs)
  have hbl := bagN_lt (S := S) (n := F.op.length) hmem.out
  have hb7 : bagN S < 128 := Nat.lt_of_lt_of_le hbl (Nat.pow_le_pow_right (n := 2) (by omega) h7)
  have Hbl := Lib.hid hbl
  clear hbl
  obtain ⟨A, c, B, d, rfl, hA, hB⟩ := hf
  have hk0 : Kp w (w.alloc (.cells #[.slice A F.op.length c, .slice B F.di.length d] 27)) := (Kp.refl w).alloc _
  obtain ⟨d0, d1⟩ := box2 w (.slice A F.op.length c) (.slice B F.di.length d) 27
  have hFA := FldAt.kp (show FldAt w (.agg #[.slice A F.op.length c, .slice B F.di.length d]) F from ⟨A, c, B, d, rfl, hA, hB⟩) hk0
  have hS0 := hS.kp hk0
  have HG := Lib.hid hg
  have HS := Lib.hid hs
  have Hn := Lib.hid hn
  clear hS hA hB hg hs hn
  go_enter Tryz.func39, Tryz.ntmps39
  go_wp2_with fail
  have hsz : Hid ((w.alloc (.cells #[.slice A F.op.length c, .slice B F.di.length d] 27)).heap.size = w.heap.size + 1) := by show _ = _; simp
  generalize w.alloc (.cells #[.slice A F.op.length c, .slice B F.di.length d] 27) = wb at *
  have hkb : Kp wb wb := Kp.refl _
  have hkw := hk0
  have CC := Lib.hid (bagOf_any A0 S n c0 _ hS0 Hn.out (fun x hx => by have := hmem.out x hx; omega))
  with_reducible refine Calls.mono CC.out ?_
  rintro e w1 ⟨rfl, hw⟩
  obtain rfl := hw
  clear CC
  have ho := own_new0 wb wb.heap.size (Nat.le_refl _)
  have hka : Kp wb (wb.alloc (.cells #[] 3)) := (Kp.refl _).alloc _
  replace hkb := hkb.trans hka
  obtain ⟨bg, Hbg⟩ : ∃ bg, Hid (bg = bagN S) := ⟨_, rfl⟩
  rw [← Hbg.out] at hb7
  rw [← Hbg.out]
  have q_d0 := hkb.get d0
  have q_d1 := hkb.get d1
  go_wp2_with fail
  go_loopw [10, 18] (fun lv iv wr => ∃ (a : Nat) (L : List Int), a ≤ F.op.length ∧ iv = .int .i64 a ∧ L.length ≤ a ∧ Hid (lv ≠ .slice none 0 0) ∧ Hid (L = margsTo F worth S a) ∧ Own wr wb.heap.size lv L ∧ Kp wb wr) (fun _ iv _ => F.op.length - (intOf iv).toNat)
  case atStart => exact ⟨0, [], by omega, rfl, by simp, by show _ ≠ _; simp, rfl, ho, hkb⟩
  case round =>
    obtain ⟨a, L, ha, rfl, hla, Hnn, HL, hown, hkb⟩ := hrel
    by_cases hlt : a < F.op.length
    · clear q_d0 q_d1
      have q_d0 := hkb.get d0
      have q_d1 := hkb.get d1
      go_wp2_with fail
      with_reducible refine Calls.mono (has_any bg a _ (by omega) (by omega)) ?_
      rintro e w2 ⟨rfl, hw⟩
      obtain rfl := hw
      clear q_d0 q_d1
      cases hh : bg.testBit a
      · have HL2 : Hid (margsTo F worth S (a + 1) = margsTo F worth S a ++ [moreF F worth S a]) := by
          show _ = _
          refine margs_yes ?_
          have := hbn.out a
          rw [← Hbg.out, hh] at this
          rw [List.any_eq_false]
          intro x hx he
          rw [beq_iff_eq] at he
          subst he
          simp [hx] at this
        clear hh
        have q_d0 := hkb.get d0
        have q_d1 := hkb.get d1
        go_wp2_with fail
        have CC := Lib.hid (marginal_any _ F worth bg a _ (hFA.kp hkb) HG.out (by rw [Hbg.out]; exact Hbl.out) hw0 hw1 hlt)
        with_reducible refine Calls.mono CC.out ?_
        rintro e w3 ⟨rfl, hk3⟩
        clear CC q_d0 q_d1
        replace hkb := hkb.trans hk3
        replace hown := hown.kp hk3
        have hbe : bitsL F.op.length bg = S := by rw [Hbg.out]; exact hbits.out
        rw [hbe]
        clear hbe
        have hmb := moreF_bd HG.out hw0 hw1 S a
        obtain ⟨m, Hm⟩ : ∃ m, Hid (m = moreF F worth S a) := ⟨_, rfl⟩
        rw [← Hm.out] at hmb ⊢
        have q_d0 := hkb.get d0
        have q_d1 := hkb.get d1
        go_wp2_with (at_builtin; go_loud (refine wpl_app rfl (.tmp 25) (.tmp 31) rfl (wb.heap.size) _ (L) (m) rfl rfl hown hkb.le (by omega) ?_; intro v' w' ho' ht' h4'; have hkb' := hown.kp_turn hkb (Nat.le_refl _) ht'; have r_d0 := hkb'.get d0; have r_d1 := hkb'.get d1))
        go_roundw
        case rel => exact ⟨a + 1, L ++ [m], by omega, by go_num, by simp; omega, own_nv ho' (by simp), by show _ = _; rw [HL2.out, Hm.out, ← HL.out], ho', hkb'⟩
        case measure => simp [intOf]; omega
      · have HL2 : Hid (margsTo F worth S (a + 1) = margsTo F worth S a) := by
          show _ = _
          refine margs_no ?_
          have := hbn.out a
          rw [← Hbg.out, hh] at this
          rw [List.any_eq_true]
          exact ⟨a, by simpa using this.symm, by simp⟩
        clear hh
        have q_d0 := hkb.get d0
        have q_d1 := hkb.get d1
        go_wp2_with fail
        go_roundw
        case rel => exact ⟨a + 1, L, by omega, by go_num, by omega, Hnn, by show _ = _; rw [HL2.out]; exact HL.out, hown, hkb⟩
        case measure => simp [intOf]; omega
    · obtain rfl : a = F.op.length := by omega
      have hD : Hid ((L.mergeSort fun x y => decide (x ≤ y)).reverse = allM F worth S) := by show _ = _; rw [desc_sort, HL.out]; rfl
      obtain ⟨g, cp, rfl⟩ := own_nn hown Hnn.out
      clear Hnn
      clear q_d0 q_d1
      have q_d0 := hkb.get d0
      have q_d1 := hkb.get d1
      go_wp2_with fail
      have CC := Lib.hid (sortInts_any wb.heap.size g cp L.length L _ hown rfl (by omega))
      with_reducible refine Calls.mono CC.out ?_
      rintro e w5 ⟨rfl, ho5, ht5⟩
      replace hkb := hown.kp_turn hkb (Nat.le_refl _) (ht5.mono (fun i hi => by subst hi; rfl))
      clear CC ht5
      clear q_d0 q_d1
      have q_d0 := hkb.get d0
      have q_d1 := hkb.get d1
      go_wp2_with fail
      have CC := Lib.hid (revInts_any wb.heap.size g cp L.length (L.mergeSort fun x y => decide (x ≤ y)) _ ho5 (by simp) (by omega))
      with_reducible refine Calls.mono CC.out ?_
      rintro e w6 ⟨rfl, ho6, ht6⟩
      replace hkb := ho5.kp_turn hkb (Nat.le_refl _) (ht6.mono (fun i hi => by subst hi; rfl))
      clear CC ht6
      rw [hD.out] at ho6
      have hAl : (allM F worth S).length = L.length := by rw [← hD.out]; simp
      obtain ⟨M, HM⟩ : ∃ M, Hid (M = allM F worth S) := ⟨_, rfl⟩
      have hAf := Lib.hid hAM.out
      rw [← HM.out] at hAf hAl ho6
      have hiM := ho6.intsOf (by omega)
      have hcM := ho6.cap rfl
      have hq : ∃ q : Nat, min (K : Int) (L.length : Int) = q ∧ q ≤ L.length ∧ Hid (M.take q = M.take K) := by
        by_cases h : K ≤ L.length
        · exact ⟨K, by omega, h, rfl⟩
        · exact ⟨L.length, by omega, Nat.le_refl _, by show _ = _; rw [List.take_of_length_le (by omega), List.take_of_length_le (by omega)]⟩
      obtain ⟨q, hq1, hq2, Hq⟩ := hq
      have hqc : q ≤ cp := by omega
      have Hgf : Hid (gainF F worth S + (M.take q).sum = upF F worth S K) := by show _ = _; rw [Hq.out, HM.out]; rfl
      have hub2 := hub.out
      rw [← Hgf.out] at hub2
      have hwr : IntKind.i64.wrap (gainF F worth S + (M.take q).sum) = gainF F worth S + (M.take q).sum := IntWalk.i64_in _ (by omega)
      have hlt : (M.take q).length = q := by rw [List.length_take]; omega
      have C1 := Lib.hid (fun (wx : World) (hx : Kp _ wx) => gain_any _ F worth A0 S n c0 wx (hFA.kp (hkb.trans hx)) (hS0.kp (hkb.trans hx)) Hn.out HG.out HS.out hw0 hw1)
      have C2 := Lib.hid (fun (wx : World) (hx : Kp _ wx) => sumL_any (some ⟨g, 0, none⟩) (M.take q) q cp wx ((hiM.take q).kp hx) hlt (fun k _ => by rw [List.take_take]; have := hAf.out.2.2 (min k q); omega) (fun x hx => by have := hAf.out.2.1 x (List.mem_of_mem_take hx); omega))
      have d6 := hkb.get d0
      have d7 := hkb.get d1
      have hk6 : Kp w6 w6 := Kp.refl _
      clear q_d0 q_d1
      have q_d6 := hk6.get d6
      have q_d7 := hk6.get d7
      have tok1 : True := trivial
      go_wp2_with fail
      go_region_held3 (fun w' => w'.cell? ⟨w.heap.size, 0, none⟩ = some (.slice A F.op.length c) ∧ w'.cell? ⟨w.heap.size, 1, none⟩ = some (.slice B F.di.length d) ∧ Kp w6 w')
        (first | (refine keepc2 d6 d7 ?_; exact (by repeat (first | with_reducible assumption | with_reducible exact Kp.refl _ | with_reducible refine Kp.drew ?_ | with_reducible refine Kp.alloc ?_ _ | with_reducible refine Kp.drewN ?_ _ | refine Kp.setCell ?_ (by dsimp only; omega) _))) | fail)
        (first
          | (have _t := tok1; go_at_call 47; with_reducible refine Calls.mono (C1.out _ (by repeat (first | with_reducible assumption | with_reducible exact Kp.refl _ | with_reducible refine Kp.drew ?_ | with_reducible refine Kp.alloc ?_ _ | with_reducible refine Kp.drewN ?_ _ | refine Kp.setCell ?_ (by dsimp only; omega) _))) ?_; rintro e wr1 ⟨rfl, hka⟩; have hr1 : Kp w6 wr1 := Kp.trans (by repeat (first | with_reducible assumption | with_reducible exact Kp.refl _ | with_reducible refine Kp.drew ?_ | with_reducible refine Kp.alloc ?_ _ | with_reducible refine Kp.drewN ?_ _ | refine Kp.setCell ?_ (by dsimp only; omega) _)) hka; have tok2 : True := trivial; clear tok1 _t)
          | (have _t := tok2; go_at_call 64; with_reducible refine Calls.mono (C2.out _ (by repeat (first | with_reducible assumption | with_reducible exact Kp.refl _ | with_reducible refine Kp.drew ?_ | with_reducible refine Kp.alloc ?_ _ | with_reducible refine Kp.drewN ?_ _ | refine Kp.setCell ?_ (by dsimp only; omega) _))) ?_; rintro e wr2 ⟨rfl, hw⟩; obtain rfl := hw; have tok3 : True := trivial; clear tok2 _t)
          | fail)
      all_goals (try go_wp2_with fail)
      all_goals
        go_ret
        exact ⟨Hgf.out ▸ rfl, (hkw.trans hkb).trans hr1⟩
def ugOk (F : Fld) (worth : Int) (S : List Int) (k : Int) : Bool := goodF F && worthB worth && (setB F S && inB k 0 7)
def ugR (F : Fld) (worth : Int) (S : List Int) (k : Int) : Int := if ugOk F worth S k = true then upF F worth S k.toNat else 0
theorem ug_no {F : Fld} {worth : Int} {S : List Int} {k : Int} (h : ugOk F worth S k = false) : Ending.returned (.tuple #[.int .i64 0, .bool false]) = .returned (.tuple #[.int .i64 (ugR F worth S k), .bool (ugOk F worth S k)]) := by
  simp [ugR, h]
theorem ug_yes {F : Fld} {worth : Int} {S : List Int} {K : Nat} (h : ugOk F worth S K = true) : Ending.returned (.tuple #[.int .i64 (upF F worth S K), .bool true]) = .returned (.tuple #[.int .i64 (ugR F worth S K), .bool (ugOk F worth S K)]) := by
  simp [ugR, h]
theorem ugOk_parts {F : Fld} {worth : Int} {S : List Int} {k : Int} (h : ugOk F worth S k = true) : goodF F = true ∧ setB F S = true ∧ (0 ≤ worth ∧ worth ≤ 999) ∧ 0 ≤ k ∧ k ≤ 7 := by
  simp only [ugOk, Bool.and_eq_true, worthB, inB_iff] at h
  exact ⟨h.1.1, h.2.1, h.1.2, h.2.2⟩
set_option maxRecDepth 100000 in
set_option maxHeartbeats 400000 in
theorem specUg_any (f : Value) (F : Fld) (worth : Int) (A0 : Option Addr) (S : List Int) (n c0 : Nat) (k : Int) (w : World) (hf : FldAt w f F) (hS : IntsAt w A0 S) (hn : S.length = n) :
    Calls Tryz.prog 17 #[f, .int .i64 worth, .slice A0 n n, .int .i64 k] w fun e w' => e = .returned (.tuple #[.int .i64 (ugR F worth S k), .bool (ugOk F worth S k)]) ∧ Kp w w' := by
  obtain ⟨A, c, B, d, rfl, hA, hB⟩ := hf
  have hk0 : Kp w (w.alloc (.cells #[.slice A F.op.length c, .slice B F.di.length d] 27)) := (Kp.refl w).alloc _
  obtain ⟨d0, d1⟩ := box2 w (.slice A F.op.length c) (.slice B F.di.length d) 27
  have hFA := FldAt.kp (show FldAt w (.agg #[.slice A F.op.length c, .slice B F.di.length d]) F from ⟨A, c, B, d, rfl, hA, hB⟩) hk0
  have hS0 := hS.kp hk0
  have Hn := Lib.hid hn; clear hn hS hA hB
  go_enter Tryz.func17, Tryz.ntmps17
  go_wp2_with fail
  have hsz : Hid ((w.alloc (.cells #[.slice A F.op.length c, .slice B F.di.length d] 27)).heap.size = w.heap.size + 1) := by show _ = _; simp
  generalize w.alloc (.cells #[.slice A F.op.length c, .slice B F.di.length d] 27) = wb at *
  have hkb : Kp wb wb := Kp.refl _
  have hkw := hk0
  have CC := Lib.hid (l8Good_any _ F worth _ (hFA.kp hkb))
  with_reducible refine Calls.mono CC.out ?_
  rintro e w1 ⟨rfl, hk1⟩
  clear CC
  replace hkb := hkb.trans hk1
  cases hg_ : (goodF F && worthB worth)
  · have Hg := Lib.hid hg_; clear hg_
    have q_d0 := hkb.get d0
    have q_d1 := hkb.get d1
    go_wp2_with fail
    go_ret2
    exact ⟨ug_no (by simp only [ugOk, Hg.out]; rfl), hkw.trans hkb⟩
  have Hg := Lib.hid hg_; clear hg_
  have q_d0 := hkb.get d0
  have q_d1 := hkb.get d1
  go_wp2_with fail
  have CC := Lib.hid (l2Set_any _ F A0 S n n _ (hFA.kp hkb) (hS0.kp hkb) Hn.out)
  with_reducible refine Calls.mono CC.out ?_
  rintro e w2 ⟨rfl, hk2⟩
  clear CC q_d0 q_d1
  replace hkb := hkb.trans hk2
  cases hg_ : (setB F S)
  · have Hs := Lib.hid hg_; clear hg_
    have q_d0 := hkb.get d0
    have q_d1 := hkb.get d1
    go_wp2_with fail
    go_ret2
    exact ⟨ug_no (by simp only [ugOk, Hg.out, Hs.out]; rfl), hkw.trans hkb⟩
  have Hs := Lib.hid hg_; clear hg_
  have q_d0 := hkb.get d0
  have q_d1 := hkb.get d1
  go_wp2_with fail
  with_reducible refine Calls.mono (l8K_any k _) ?_
  rintro e w3 ⟨rfl, hw⟩
  obtain rfl := hw
  clear q_d0 q_d1
  cases hg_ : (inB k 0 7)
  · have Hi := Lib.hid hg_; clear hg_
    have q_d0 := hkb.get d0
    have q_d1 := hkb.get d1
    go_wp2_with fail
    go_ret2
    exact ⟨ug_no (by simp only [ugOk, Hi.out, Hs.out]; simp), hkw.trans hkb⟩
  have Hi := Lib.hid hg_; clear hg_
  have Hok : Hid (ugOk F worth S k = true) := by
    show ugOk F worth S k = true
    simp only [ugOk, Hg.out, Hi.out, Hs.out]; rfl
  have HP := Lib.hid (ugOk_parts Hok.out)
  have h0 := HP.out.2.2.2.1
  have h1 := HP.out.2.2.2.2
  obtain ⟨K, rfl⟩ := Int.eq_ofNat_of_zero_le h0
  have q_d0 := hkb.get d0
  have q_d1 := hkb.get d1
  go_wp2_with fail
  have CC := Lib.hid (l8Upper_any _ F worth A0 S n n K _ (hFA.kp hkb) (hS0.kp hkb) Hn.out (Nat.le_refl _) HP.out.1 HP.out.2.1 HP.out.2.2.1.1 HP.out.2.2.1.2 (by omega))
  with_reducible refine Calls.mono CC.out ?_
  rintro e w4 ⟨rfl, hk4⟩
  clear CC q_d0 q_d1
  replace hkb := hkb.trans hk4
  have q_d0 := hkb.get d0
  have q_d1 := hkb.get d1
  go_wp2_with fail
  go_ret2
  exact ⟨ug_yes Hok.out, hkw.trans hkb⟩
set_option maxRecDepth 100000 in
set_option maxHeartbeats 400000 in
theorem implUg_any (f : Value) (F : Fld) (worth : Int) (A0 : Option Addr) (S : List Int) (n c0 : Nat) (k : Int) (w : World) (hf : FldAt w f F) (hS : IntsAt w A0 S) (hn : S.length = n) :
    Calls Tryz.prog 16 #[f, .int .i64 worth, .slice A0 n c0, .int .i64 k] w fun e w' => e = .returned (.tuple #[.int .i64 (ugR F worth S k), .bool (ugOk F worth S k)]) ∧ Kp w w' := by
  obtain ⟨A, c, B, d, rfl, hA, hB⟩ := hf
  have hk0 : Kp w (w.alloc (.cells #[.slice A F.op.length c, .slice B F.di.length d] 27)) := (Kp.refl w).alloc _
  obtain ⟨d0, d1⟩ := box2 w (.slice A F.op.length c) (.slice B F.di.length d) 27
  have hFA := FldAt.kp (show FldAt w (.agg #[.slice A F.op.length c, .slice B F.di.length d]) F from ⟨A, c, B, d, rfl, hA, hB⟩) hk0
  have hS0 := hS.kp hk0
  have Hn := Lib.hid hn; clear hn hS hA hB
  go_enter Tryz.func16, Tryz.ntmps16
  go_wp2_with fail
  have hsz : Hid ((w.alloc (.cells #[.slice A F.op.length c, .slice B F.di.length d] 27)).heap.size = w.heap.size + 1) := by show _ = _; simp
  generalize w.alloc (.cells #[.slice A F.op.length c, .slice B F.di.length d] 27) = wb at *
  have hkb : Kp wb wb := Kp.refl _
  have hkw := hk0
  have CC := Lib.hid (isWorth_any _ F worth A0 S n c0 _ (hFA.kp hkb) (hS0.kp hkb) Hn.out)
  with_reducible refine Calls.mono CC.out ?_
  rintro e w1 ⟨rfl, hk1⟩
  clear CC
  replace hkb := hkb.trans hk1
  cases hg_ : (gainOk F worth S)
  · have Hg := Lib.hid hg_; clear hg_
    have q_d0 := hkb.get d0
    have q_d1 := hkb.get d1
    go_wp2_with fail
    go_ret2
    exact ⟨ug_no (by have h := Hg.out; simp only [gainOk] at h; simp only [ugOk]; revert h; cases goodF F <;> cases worthB worth <;> cases setB F S <;> simp), hkw.trans hkb⟩
  have Hg := Lib.hid hg_; clear hg_
  have q_d0 := hkb.get d0
  have q_d1 := hkb.get d1
  go_wp2_with fail
  with_reducible refine Calls.mono (between_any _ _ _ _) ?_
  rintro e w2 ⟨rfl, hw⟩
  obtain rfl := hw
  clear q_d0 q_d1
  cases hg_ : (inB k 0 7)
  · have Hi := Lib.hid hg_; clear hg_
    have q_d0 := hkb.get d0
    have q_d1 := hkb.get d1
    go_wp2_with fail
    go_ret2
    exact ⟨ug_no (by simp only [ugOk, Hi.out]; simp), hkw.trans hkb⟩
  have Hi := Lib.hid hg_; clear hg_
  have Hok : Hid (ugOk F worth S k = true) := by
    show ugOk F worth S k = true
    have h := Hg.out
    simp only [gainOk] at h
    simp only [ugOk, Hi.out]
    revert h; cases goodF F <;> cases worthB worth <;> cases setB F S <;> simp
  have HP := Lib.hid (ugOk_parts Hok.out)
  have h0 := HP.out.2.2.2.1
  have h1 := HP.out.2.2.2.2
  obtain ⟨K, rfl⟩ := Int.eq_ofNat_of_zero_le h0
  have q_d0 := hkb.get d0
  have q_d1 := hkb.get d1
  go_wp2_with fail
  have CC := Lib.hid (upper_any _ F worth A0 S n c0 K _ (hFA.kp hkb) (hS0.kp hkb) Hn.out HP.out.1 HP.out.2.1 HP.out.2.2.1.1 HP.out.2.2.1.2 (by omega))
  with_reducible refine Calls.mono CC.out ?_
  rintro e w3 ⟨rfl, hk3⟩
  clear CC q_d0 q_d1
  replace hkb := hkb.trans hk3
  have q_d0 := hkb.get d0
  have q_d1 := hkb.get d1
  go_wp2_with fail
  go_ret2
  exact ⟨ug_yes Hok.out, hkw.trans hkb⟩
end Go.Proofs.YtgfbjgdofhcmaaaGreat

namespace Go.Proofs.YtgfbjgdofhcmaaaGreat
open Go.RowKit Go.Sort

set_option maxRecDepth 100000 in
set_option maxHeartbeats 1000000 in
theorem serverM_any (f : Value) (F : Fld) (i : Nat) (A0 : Option Addr) (S : List Int) (n c0 : Nat) (w : World) (hf : FldAt w f F) (hS : IntsAt w A0 S) (hn : S.length = n) (hg : goodF F = true) (hs : ∀ x ∈ S, 0 ≤ x ∧ x < (F.op.length : Int)) (hne : S ≠ []) (hi : i < F.di.length) :
    Calls Tryz.prog 110 #[f, .int .i64 i, .slice A0 n c0] w fun e w' => e = .returned (.int .i64 (siteF F i S)) ∧ Kp w w' := by
  obtain ⟨A, c, B, d, rfl, hA, hB⟩ := hf
  have hk0 : Kp w (w.alloc (.cells #[.slice A F.op.length c, .slice B F.di.length d] 27)) := (Kp.refl w).alloc _
  obtain ⟨d0, d1⟩ := box2 w (.slice A F.op.length c) (.slice B F.di.length d) 27
  have hB0 := hB.kp hk0
  have hS0 := hS.kp hk0
  have hpos : 0 < n := by rw [← hn]; exact List.length_pos_iff.2 hne
  have hnb := hS.1
  rw [hn] at hnb
  have Hn := Lib.hid hn; clear hn
  have Hm := Lib.hid hs
  have Hne := Lib.hid hne
  have hrl := Lib.hid (goodRow hg hi)
  have hd7 := (goodF_iff.1 hg).2.2.1
  clear hs hg hne
  have lx0 : 0 < S.length := by rw [Hn.out]; exact hpos
  obtain ⟨sd, rfl, hc0⟩ := hS0.at_ lx0
  have hz := Lib.hid (siteTo_zero (F := F) (i := i) lx0)
  rw [show sd.add 0 = sd from rfl] at hc0
  have hp1 : (0 : Int) < n := by omega
  obtain ⟨bd, A', c', rfl, hcr, hr⟩ := hB0.at_ hi
  go_enter Tryz.func110, Tryz.ntmps110
  go_wp2_with fail
  generalize w.alloc (.cells #[.slice A F.op.length c, .slice (some bd) F.di.length d] 27) = wb at *
  go_loopw [7, 15] (fun bv ix wr => ∃ k : Nat, k ≤ n ∧ ix = .int .i64 k ∧ bv = .int .i64 (siteTo F i S k) ∧ Dr wb wr) (fun _ ix _ => n - (intOf ix).toNat)
  case atStart => exact ⟨0, by omega, rfl, by rw [hz.out], Dr.refl _⟩
  case round =>
    obtain ⟨k, hk, rfl, rfl, hdr⟩ := hrel
    have e1 := hdr.kp.get d1
    by_cases hlt : k < n
    · have lx : k < S.length := by rw [Hn.out]; exact hlt
      have hck := (hS0.kp hdr.kp).some_ lx
      obtain ⟨ha0, ha1⟩ := Hm.out _ (List.getElem_mem lx)
      obtain ⟨hb0, hb1⟩ := Hm.out _ (siteTo_mem (F := F) (i := i) Hne.out k)
      rw [← hrl.out] at ha1 hb1
      have hrow := (hB0.kp hdr.kp).some_ hi
      obtain ⟨A2, c2, hcr2, hr2⟩ := hrow
      have hpl : 0 < F.di[i].length := by omega
      obtain ⟨rd, rfl, _⟩ := hr2.at_ hpl
      have hda := dCell hi hr2 ha0 ha1
      have hdb := dCell hi hr2 hb0 hb1
      have hsucc := Lib.hid (siteTo_succ (F := F) (i := i) lx)
      go_wp2_with fail
      go_quiet (fail)
      go_wp2_with fail
      · have h2 : dAt F i S[k] < dAt F i (siteTo F i S k) := by assumption
        go_roundw
        case rel => exact ⟨k + 1, by omega, by go_num, by rw [hsucc.out, stepS_lt h2], hdr.drewN nq⟩
        case measure => simp [intOf]; omega
      · have h2 : dAt F i (siteTo F i S k) ≤ dAt F i S[k] := by assumption
        go_roundw
        case rel => exact ⟨k + 1, by omega, by go_num, by rw [hsucc.out, stepS_ge h2], hdr.drewN nq⟩
        case measure => simp [intOf]; omega
    · go_wp2_with fail
      go_ret
      exact ⟨ret_int (by rw [siteTo_all (by rw [Hn.out]; omega)]), hk0.trans hdr.kp⟩

set_option maxHeartbeats 1000000 in
theorem servedM_any (f : Value) (F : Fld) (A0 : Option Addr) (S : List Int) (n c0 : Nat) (w : World) (hf : FldAt w f F) (hS : IntsAt w A0 S) (hn : S.length = n) (hg : goodF F = true) (hs : ∀ x ∈ S, 0 ≤ x ∧ x < (F.op.length : Int)) (hne : S ≠ []) :
    Calls Tryz.prog 87 #[f, .slice A0 n c0] w fun e w' => ∃ v, e = .returned v ∧ Own w' w.heap.size v (mapTo (fun i => siteF F i S) F.di.length) ∧ Kp w w' := by
  obtain ⟨A, c, B, d, rfl, hA, hB⟩ := hf
  have hk0 : Kp w (w.alloc (.cells #[.slice A F.op.length c, .slice B F.di.length d] 27)) := (Kp.refl w).alloc _
  obtain ⟨d0, d1⟩ := box2 w (.slice A F.op.length c) (.slice B F.di.length d) 27
  have hFA := FldAt.kp (show FldAt w (.agg #[.slice A F.op.length c, .slice B F.di.length d]) F from ⟨A, c, B, d, rfl, hA, hB⟩) hk0
  have hS0 := hS.kp hk0
  have Hn := Lib.hid hn; clear hn
  have hd7 := (goodF_iff.1 hg).2.2.1
  have Hg := Lib.hid hg; have Hs := Lib.hid hs; have Hne := Lib.hid hne
  clear hg hs hne hA hB hS
  have hs1 : w.heap.size + 1 ≤ (w.alloc (.cells #[.slice A F.op.length c, .slice B F.di.length d] 27)).heap.size := by simp
  have hs2 : (w.alloc (.cells #[.slice A F.op.length c, .slice B F.di.length d] 27)).heap.size ≤ w.heap.size + 1 := by simp
  go_enter Tryz.func87, Tryz.ntmps87
  go_wp2_with fail
  generalize w.alloc (.cells #[.slice A F.op.length c, .slice B F.di.length d] 27) = wb at *
  have ho0 := own_new0 wb (w.heap.size + 1) hs1
  rw [Nat.le_antisymm hs2 hs1] at ho0
  go_loopw [5, 11] (fun ov ix wr => ∃ k : Nat, k ≤ F.di.length ∧ ix = .int .i64 k ∧ Own wr (w.heap.size + 1) ov (mapTo (fun i => siteF F i S) k) ∧ Kp wb wr) (fun _ ix _ => F.di.length - (intOf ix).toNat)
  case atStart => exact ⟨0, by omega, rfl, ho0, (Kp.refl wb).alloc _⟩
  case round =>
    obtain ⟨k, hk, rfl, hown, hkp⟩ := hrel
    have e0 := hkp.get d0; have e1 := hkp.get d1
    by_cases hlt : k < F.di.length
    · go_wp2_with fail
      have CC := Lib.hid (serverM_any _ F k A0 S n c0 wr (hFA.kp hkp) (hS0.kp hkp) Hn.out Hg.out Hs.out Hne.out hlt)
      with_reducible refine Calls.mono CC.out ?_
      rintro e w1 ⟨rfl, hk1⟩
      clear CC
      have ho2 := hown.kp hk1
      have hk3 := hkp.trans hk1
      have hbl : w.heap.size + 1 ≤ w1.heap.size := Nat.le_trans hs1 hk3.le
      have hlen := Lib.hid (mapTo_len (fun i => siteF F i S) k)
      have hlen2 : (mapTo (fun i => siteF F i S) k).length < 1048576 := by rw [hlen.out]; omega
      go_wp2_with (at_builtin; refine wpl_app rfl (.tmp 14) (.tmp 19) rfl (w.heap.size + 1) _ (mapTo (fun i => siteF F i S) k) (siteF F k S) rfl rfl ho2 hbl hlen2 ?_; intro v' w' ho' ht' _; have hk4 := ho2.kp_turn hk3 hs2 ht')
      go_roundw
      case rel => exact ⟨k + 1, by omega, by go_num, by rw [mapTo_succ]; exact ho', hk4⟩
      case measure => simp [intOf]; omega
    · obtain rfl : k = F.di.length := by omega
      go_wp2_with fail
      go_ret
      exact ⟨_, rfl, hown.mono (Nat.le_succ _), hk0.trans hkp⟩

set_option maxHeartbeats 1000000 in
theorem lengthsM_any (f : Value) (F : Fld) (A0 : Option Addr) (S : List Int) (n c0 : Nat) (w : World) (hf : FldAt w f F) (hS : IntsAt w A0 S) (hn : S.length = n) (hg : goodF F = true) (hs : ∀ x ∈ S, 0 ≤ x ∧ x < (F.op.length : Int)) (hne : S ≠ []) :
    Calls Tryz.prog 70 #[f, .slice A0 n c0] w fun e w' => ∃ v, e = .returned v ∧ Own w' w.heap.size v (mapTo (fun i => nearF F i S) F.di.length) ∧ Kp w w' := by
  obtain ⟨A, c, B, d, rfl, hA, hB⟩ := hf
  have hk0 : Kp w (w.alloc (.cells #[.slice A F.op.length c, .slice B F.di.length d] 27)) := (Kp.refl w).alloc _
  obtain ⟨d0, d1⟩ := box2 w (.slice A F.op.length c) (.slice B F.di.length d) 27
  have hFA := FldAt.kp (show FldAt w (.agg #[.slice A F.op.length c, .slice B F.di.length d]) F from ⟨A, c, B, d, rfl, hA, hB⟩) hk0
  have hS0 := hS.kp hk0
  have hB0 := hB.kp hk0
  have Hn := Lib.hid hn; clear hn
  have hd7 := (goodF_iff.1 hg).2.2.1
  have Hg := Lib.hid hg; have Hs := Lib.hid hs; have Hne := Lib.hid hne
  clear hg hs hne hA hB hS
  have hs1 : w.heap.size + 1 ≤ (w.alloc (.cells #[.slice A F.op.length c, .slice B F.di.length d] 27)).heap.size := by simp
  have hs2 : (w.alloc (.cells #[.slice A F.op.length c, .slice B F.di.length d] 27)).heap.size ≤ w.heap.size + 1 := by simp
  go_enter Tryz.func70, Tryz.ntmps70
  go_wp2_with fail
  generalize w.alloc (.cells #[.slice A F.op.length c, .slice B F.di.length d] 27) = wb at *
  have ho0 := own_new0 wb (w.heap.size + 1) hs1
  rw [Nat.le_antisymm hs2 hs1] at ho0
  have hkn := (Kp.refl wb).alloc (.cells #[] 3)
  have CC := Lib.hid (servedM_any _ F A0 S n c0 _ (hFA.kp hkn) (hS0.kp hkn) Hn.out Hg.out Hs.out Hne.out)
  with_reducible refine Calls.mono CC.out ?_
  rintro e w1 ⟨v, rfl, hov, hk1⟩
  clear CC
  obtain ⟨Av, cv, rfl, hiv⟩ := hov.ints (by rw [mapTo_len]; omega)
  have hk2 := hkn.trans hk1
  have ho1 := ho0.kp hk1
  have hap : Apart (.slice (some ⟨w.heap.size + 1, 0, none⟩) 0 0) (.slice Av (mapTo (fun i => siteF F i S) F.di.length).length cv) := by
    intro g hg e
    have := (hov.lt g e).1
    simp [Value.ownBlock] at hg this
    omega
  have Hl := Lib.hid (mapTo_len (fun i => siteF F i S) F.di.length)
  obtain ⟨N, hN⟩ : ∃ N, N = (mapTo (fun i => siteF F i S) F.di.length).length := ⟨_, rfl⟩
  have HN : Hid (N = F.di.length) := by show N = _; rw [hN]; exact Hl.out
  rw [← hN] at hov hap ⊢
  have hNl : N ≤ F.di.length := by rw [HN.out]; exact Nat.le_refl _
  have hNg : F.di.length ≤ N := by rw [HN.out]; exact Nat.le_refl _
  clear hN hiv
  go_wp2_with fail
  go_loopw [5, 13] (fun ov ix wr => ∃ k : Nat, k ≤ N ∧ ix = .int .i64 k ∧ Own wr (w.heap.size + 1) ov (mapTo (fun i => nearF F i S) k) ∧ Kp wb wr ∧ Own wr (wb.alloc (.cells #[] 3)).heap.size (.slice Av N cv) (mapTo (fun i => siteF F i S) F.di.length) ∧ Apart ov (.slice Av N cv)) (fun _ ix _ => N - (intOf ix).toNat)
  case atStart => exact ⟨0, by omega, rfl, ho1, hk2, hov, hap⟩
  case round =>
    obtain ⟨k, hk, rfl, hown, hkp, hiw, hap⟩ := hrel
    have e0 := hkp.get d0; have e1 := hkp.get d1
    by_cases hlt : k < N
    · have hltd : k < F.di.length := by omega
      have lx : k < (mapTo (fun i => siteF F i S) F.di.length).length := by rw [mapTo_len]; exact hltd
      obtain ⟨ad, rfl, hc⟩ := (hiw.intsOf (by rw [mapTo_len]; omega)).at_ lx
      rw [mapTo_get hltd] at hc
      obtain ⟨bd, A2, c2, rfl, hcr, hr⟩ := (hB0.kp hkp).at_ hltd
      obtain ⟨s0, s1⟩ := Hs.out (siteF F k S) (siteF_mem Hne.out)
      have hrl := goodRow Hg.out hltd
      rw [← hrl] at s1
      clear hrl
      have hpl : 0 < F.di[k].length := by omega
      obtain ⟨rd, rfl, _⟩ := hr.at_ hpl
      have hdc := dCell hltd hr s0 s1
      have hbl : w.heap.size + 1 ≤ wr.heap.size := Nat.le_trans hs1 hkp.le
      have hlen := Lib.hid (mapTo_len (fun i => nearF F i S) k)
      have hlen2 : (mapTo (fun i => nearF F i S) k).length < 1048576 := by rw [hlen.out]; omega
      go_wp2_with (at_builtin; refine wpl_app rfl (.tmp 18) (.tmp 27) rfl (w.heap.size + 1) _ (mapTo (fun i => nearF F i S) k) (dAt F k (siteF F k S)) rfl rfl hown hbl hlen2 ?_; intro v' w' ho' ht' h4'; have hk4 := hown.kp_turn hkp hs2 ht'; have hi4 := hiw.apart_turn hap ht'; have ha4 := hap.grow hiw h4')
      go_roundw
      case rel => exact ⟨k + 1, by omega, by go_num, by rw [mapTo_succ]; exact ho', hk4, hi4, ha4⟩
      case measure => simp [intOf]; omega
    · obtain rfl : k = N := by omega
      go_wp2_with fail
      go_ret
      exact ⟨_, rfl, by rw [← HN.out]; exact hown.mono (Nat.le_succ _), hk0.trans hkp⟩

set_option maxHeartbeats 1000000 in
theorem gainM_any (f : Value) (F : Fld) (worth : Int) (A0 : Option Addr) (S : List Int) (n c0 : Nat) (w : World) (hf : FldAt w f F) (hS : IntsAt w A0 S) (hn : S.length = n) (hg : goodF F = true) (hs : ∀ x ∈ S, 0 ≤ x ∧ x < (F.op.length : Int)) (hw0 : 0 ≤ worth) (hw1 : worth ≤ 999) :
    Calls Tryz.prog 47 #[f, .int .i64 worth, .slice A0 n c0] w fun e w' => e = .returned (.int .i64 (gainF F worth S)) ∧ Kp w w' := by
  obtain ⟨A, c, B, d, rfl, hA, hB⟩ := hf
  have hk0 : Kp w (w.alloc (.cells #[.slice A F.op.length c, .slice B F.di.length d] 27)) := (Kp.refl w).alloc _
  obtain ⟨d0, d1⟩ := box2 w (.slice A F.op.length c) (.slice B F.di.length d) 27
  have hFA := FldAt.kp (show FldAt w (.agg #[.slice A F.op.length c, .slice B F.di.length d]) F from ⟨A, c, B, d, rfl, hA, hB⟩) hk0
  have hS0 := hS.kp hk0
  have hnb := hS.1
  have hd7 := (goodF_iff.1 hg).2.2.1
  by_cases hz : n = 0
  · have h1 : ((n : Int) == 0) = true := by simp [hz]
    have hSn : S = [] := List.eq_nil_of_length_eq_zero (by omega)
    have HS := Lib.hid hSn
    clear hz hn hSn
    go_enter Tryz.func47, Tryz.ntmps47
    go_wp2_with fail
    go_ret
    exact ⟨ret_int (by rw [HS.out, gainF_nil]), hk0⟩
  · have h1 : ((n : Int) == 0) = false := by simp; omega
    have hne : S ≠ [] := by rintro rfl; simp at hn; omega
    have Hn := Lib.hid hn
    have Hbd := Lib.hid (sumTo_bd (gainAt_bd (F := F) (S := S) hw0 hw1 (fun i => (nearF_bd hg S i).1)))
    have Hnb := Lib.hid (nearF_bd hg S)
    have Hg := Lib.hid hg; have Hs := Lib.hid hs; have Hne := Lib.hid hne
    clear hn hz hg hs hne hA hB hS
    go_enter Tryz.func47, Tryz.ntmps47
    go_wp2_with fail
    generalize w.alloc (.cells #[.slice A F.op.length c, .slice B F.di.length d] 27) = wb at *
    have CC := Lib.hid (lengthsM_any _ F A0 S n c0 _ hFA hS0 Hn.out Hg.out Hs.out Hne.out)
    with_reducible refine Calls.mono CC.out ?_
    rintro e w1 ⟨v, rfl, hov, hk1⟩
    clear CC
    obtain ⟨Av, cv, rfl, hiv⟩ := hov.ints (by rw [mapTo_len]; omega)
    rw [mapTo_len]
    go_wp2_with fail
    go_loop [7, 17] (fun sv ix => ∃ k : Nat, k ≤ F.di.length ∧ ix = .int .i64 k ∧ sv = .int .i64 (sumTo (gainAt F worth S) k)) (fun _ ix => F.di.length - (intOf ix).toNat)
    case atStart => exact ⟨0, by omega, rfl, rfl⟩
    case round =>
      obtain ⟨k, hk, rfl, rfl⟩ := hrel
      by_cases hlt : k < F.di.length
      · have lx : k < (mapTo (fun i => nearF F i S) F.di.length).length := by rw [mapTo_len]; exact hlt
        obtain ⟨ad, rfl, hc⟩ := hiv.at_ lx
        rw [mapTo_get hlt] at hc
        obtain ⟨b0, b1⟩ := Hbd.out k
        obtain ⟨t0, t1⟩ := Hnb.out k
        have hsucc := Lib.hid (sumTo_succ (gainAt F worth S) k)
        go_wp2_with fail
        go_round
        case rel => exact ⟨k + 1, by omega, by go_num, by first | (rw [hsucc.out, gainAt_if]) | (rw [hsucc.out]; rfl)⟩
        case measure => simp [intOf]; omega
      · obtain rfl : k = F.di.length := by omega
        go_wp2_with fail
        go_ret
        exact ⟨ret_int (by rw [gainF_cons Hne.out]), hk0.trans hk1⟩

end Go.Proofs.YtgfbjgdofhcmaaaGreat

namespace Go.Proofs.YtgfbjgdofhcmaaaGreat
open Go.RowKit Go.Sort

set_option maxHeartbeats 400000 in
theorem l1Least_any (a b : Int) (w : World) :
    Calls Tryz.prog 41 #[.int .i64 a, .int .i64 b] w fun e w' => e = .returned (.int .i64 (min a b)) ∧ w = w' := by
  go_enter Tryz.func41, Tryz.ntmps41
  go_wp2
  all_goals go_ret
  all_goals refine ⟨ret_int ?_, rfl⟩
  all_goals omega
end Go.Proofs.YtgfbjgdofhcmaaaGreat

namespace Go.Proofs.YtgfbjgdofhcmaaaGreat
open Go.RowKit Go.Sort

theorem gainF_bits {F : Fld} {worth : Int} {T : List Int} (h : ∀ x ∈ T, 0 ≤ x ∧ x < (F.op.length : Int)) : gainF F worth T = gainF F worth (bitsL F.op.length (bagN T)) := by
  have hm : ∀ x : Int, x ∈ bitsL F.op.length (bagN T) ↔ x ∈ T := fun x => by
    constructor
    · intro hx
      have hx2 := set_mem (bitsL_set (F := F) (bagN T)) x hx
      obtain ⟨a, rfl⟩ := Int.eq_ofNat_of_zero_le hx2.1
      have hb := bits_any (n := F.op.length) (b := bagN T) (a := a) (by omega)
      rw [bagN_bit (fun y hy => (h y hy).1) a] at hb
      have : ((bitsL F.op.length (bagN T)).any fun x => x == (a : Int)) = true := List.any_eq_true.2 ⟨_, hx, by simp⟩
      rw [this] at hb
      simpa using hb.symm
    · intro hx
      obtain ⟨h0, h1⟩ := h x hx
      obtain ⟨a, rfl⟩ := Int.eq_ofNat_of_zero_le h0
      have hb := bits_any (n := F.op.length) (b := bagN T) (a := a) (by omega)
      rw [bagN_bit (fun y hy => (h y hy).1) a, decide_eq_true hx, List.any_eq_true] at hb
      obtain ⟨y, hy, he⟩ := hb
      rw [beq_iff_eq] at he
      exact he ▸ hy
  exact Int.le_antisymm (gain_mono fun x hx => (hm x).2 hx) (gain_mono fun x hx => (hm x).1 hx)
set_option maxRecDepth 100000 in
set_option maxHeartbeats 1000000 in
theorem upperM_any (f : Value) (F : Fld) (worth : Int) (A0 : Option Addr) (T : List Int) (n c0 K : Nat) (w : World) (hf : FldAt w f F) (hS : IntsAt w A0 T) (hn : T.length = n) (hg : goodF F = true) (hs : ∀ x ∈ T, 0 ≤ x ∧ x < (F.op.length : Int)) (hw0 : 0 ≤ worth) (hw1 : worth ≤ 999) (hK : K ≤ 7) :
    Calls Tryz.prog 39 #[f, .int .i64 worth, .slice A0 n c0, .int .i64 K] w fun e w' => e = .returned (.int .i64 (upF F worth (bitsL F.op.length (bagN T)) K)) ∧ Kp w w' := by
  have hgT := Lib.hid (gainF_bits (worth := worth) hs)
  obtain ⟨S, HSd⟩ : ∃ S, Hid (S = bitsL F.op.length (bagN T)) := ⟨_, rfl⟩
  rw [← HSd.out]
  have h7 := (goodF_iff.1 hg).1.2
  have hAM := Lib.hid (allM_facts hg hw0 hw1 S)
  have hgb := gainF_bd hg hw0 hw1 S
  have hub := Lib.hid (upF_bd hg hw0 hw1 S K)
  have hmem := Lib.hid hs
  have hbl := bagN_lt (S := T) (n := F.op.length) hmem.out
  have hb7 : bagN T < 128 := Nat.lt_of_lt_of_le hbl (Nat.pow_le_pow_right (n := 2) (by omega) h7)
  have Hbl := Lib.hid hbl
  clear hbl
  obtain ⟨A, c, B, d, rfl, hA, hB⟩ := hf
  have hk0 : Kp w (w.alloc (.cells #[.slice A F.op.length c, .slice B F.di.length d] 27)) := (Kp.refl w).alloc _
  obtain ⟨d0, d1⟩ := box2 w (.slice A F.op.length c) (.slice B F.di.length d) 27
  have hFA := FldAt.kp (show FldAt w (.agg #[.slice A F.op.length c, .slice B F.di.length d]) F from ⟨A, c, B, d, rfl, hA, hB⟩) hk0
  have hS0 := hS.kp hk0
  have HG := Lib.hid hg
  have HS := Lib.hid hs
  have Hn := Lib.hid hn
  clear hS hA hB hg hs hn
  go_enter Tryz.func39, Tryz.ntmps39
  go_wp2_with fail
  have hsz : Hid ((w.alloc (.cells #[.slice A F.op.length c, .slice B F.di.length d] 27)).heap.size = w.heap.size + 1) := by show _ = _; simp
  generalize w.alloc (.cells #[.slice A F.op.length c, .slice B F.di.length d] 27) = wb at *
  have hkb : Kp wb wb := Kp.refl _
  have hkw := hk0
  have CC := Lib.hid (bagOf_any A0 T n c0 _ hS0 Hn.out (fun x hx => by have := hmem.out x hx; omega))
  with_reducible refine Calls.mono CC.out ?_
  rintro e w1 ⟨rfl, hw⟩
  obtain rfl := hw
  clear CC
  have ho := own_new0 wb wb.heap.size (Nat.le_refl _)
  have hka : Kp wb (wb.alloc (.cells #[] 3)) := (Kp.refl _).alloc _
  replace hkb := hkb.trans hka
  obtain ⟨bg, Hbg⟩ : ∃ bg, Hid (bg = bagN T) := ⟨_, rfl⟩
  rw [← Hbg.out] at hb7
  rw [← Hbg.out]
  have q_d0 := hkb.get d0
  have q_d1 := hkb.get d1
  go_wp2_with fail
  go_loopw [10, 18] (fun lv iv wr => ∃ (a : Nat) (L : List Int), a ≤ F.op.length ∧ iv = .int .i64 a ∧ L.length ≤ a ∧ Hid (lv ≠ .slice none 0 0) ∧ Hid (L = margsTo F worth S a) ∧ Own wr wb.heap.size lv L ∧ Kp wb wr) (fun _ iv _ => F.op.length - (intOf iv).toNat)
  case atStart => exact ⟨0, [], by omega, rfl, by simp, by show _ ≠ _; simp, rfl, ho, hkb⟩
  case round =>
    obtain ⟨a, L, ha, rfl, hla, Hnn, HL, hown, hkb⟩ := hrel
    by_cases hlt : a < F.op.length
    · clear q_d0 q_d1
      have q_d0 := hkb.get d0
      have q_d1 := hkb.get d1
      go_wp2_with fail
      with_reducible refine Calls.mono (has_any bg a _ (by omega) (by omega)) ?_
      rintro e w2 ⟨rfl, hw⟩
      obtain rfl := hw
      clear q_d0 q_d1
      cases hh : bg.testBit a
      · have HL2 : Hid (margsTo F worth S (a + 1) = margsTo F worth S a ++ [moreF F worth S a]) := by
          show _ = _
          refine margs_yes ?_
          rw [HSd.out, ← Hbg.out, bits_any hlt, hh]
        clear hh
        have q_d0 := hkb.get d0
        have q_d1 := hkb.get d1
        go_wp2_with fail
        have CC := Lib.hid (marginal_any _ F worth bg a _ (hFA.kp hkb) HG.out (by rw [Hbg.out]; exact Hbl.out) hw0 hw1 hlt)
        with_reducible refine Calls.mono CC.out ?_
        rintro e w3 ⟨rfl, hk3⟩
        clear CC q_d0 q_d1
        replace hkb := hkb.trans hk3
        replace hown := hown.kp hk3
        have hbe : bitsL F.op.length bg = S := by rw [Hbg.out]; exact HSd.out.symm
        rw [hbe]
        clear hbe
        have hmb := moreF_bd HG.out hw0 hw1 S a
        obtain ⟨m, Hm⟩ : ∃ m, Hid (m = moreF F worth S a) := ⟨_, rfl⟩
        rw [← Hm.out] at hmb ⊢
        have q_d0 := hkb.get d0
        have q_d1 := hkb.get d1
        go_wp2_with (at_builtin; go_loud (refine wpl_app rfl (.tmp 25) (.tmp 31) rfl (wb.heap.size) _ (L) (m) rfl rfl hown hkb.le (by omega) ?_; intro v' w' ho' ht' h4'; have hkb' := hown.kp_turn hkb (Nat.le_refl _) ht'; have r_d0 := hkb'.get d0; have r_d1 := hkb'.get d1))
        go_roundw
        case rel => exact ⟨a + 1, L ++ [m], by omega, by go_num, by simp; omega, own_nv ho' (by simp), by show _ = _; rw [HL2.out, Hm.out, ← HL.out], ho', hkb'⟩
        case measure => simp [intOf]; omega
      · have HL2 : Hid (margsTo F worth S (a + 1) = margsTo F worth S a) := by
          show _ = _
          refine margs_no ?_
          rw [HSd.out, ← Hbg.out, bits_any hlt, hh]
        clear hh
        have q_d0 := hkb.get d0
        have q_d1 := hkb.get d1
        go_wp2_with fail
        go_roundw
        case rel => exact ⟨a + 1, L, by omega, by go_num, by omega, Hnn, by show _ = _; rw [HL2.out]; exact HL.out, hown, hkb⟩
        case measure => simp [intOf]; omega
    · obtain rfl : a = F.op.length := by omega
      have hD : Hid ((L.mergeSort fun x y => decide (x ≤ y)).reverse = allM F worth S) := by show _ = _; rw [desc_sort, HL.out]; rfl
      obtain ⟨g, cp, rfl⟩ := own_nn hown Hnn.out
      clear Hnn
      clear q_d0 q_d1
      have q_d0 := hkb.get d0
      have q_d1 := hkb.get d1
      go_wp2_with fail
      have CC := Lib.hid (sortInts_any wb.heap.size g cp L.length L _ hown rfl (by omega))
      with_reducible refine Calls.mono CC.out ?_
      rintro e w5 ⟨rfl, ho5, ht5⟩
      replace hkb := hown.kp_turn hkb (Nat.le_refl _) (ht5.mono (fun i hi => by subst hi; rfl))
      clear CC ht5
      clear q_d0 q_d1
      have q_d0 := hkb.get d0
      have q_d1 := hkb.get d1
      go_wp2_with fail
      have CC := Lib.hid (revInts_any wb.heap.size g cp L.length (L.mergeSort fun x y => decide (x ≤ y)) _ ho5 (by simp) (by omega))
      with_reducible refine Calls.mono CC.out ?_
      rintro e w6 ⟨rfl, ho6, ht6⟩
      replace hkb := ho5.kp_turn hkb (Nat.le_refl _) (ht6.mono (fun i hi => by subst hi; rfl))
      clear CC ht6
      rw [hD.out] at ho6
      have hAl : (allM F worth S).length = L.length := by rw [← hD.out]; simp
      obtain ⟨M, HM⟩ : ∃ M, Hid (M = allM F worth S) := ⟨_, rfl⟩
      have hAf := Lib.hid hAM.out
      rw [← HM.out] at hAf hAl ho6
      have hiM := ho6.intsOf (by omega)
      have hcM := ho6.cap rfl
      have hq : ∃ q : Nat, min (K : Int) (L.length : Int) = q ∧ q ≤ L.length ∧ Hid (M.take q = M.take K) := by
        by_cases h : K ≤ L.length
        · exact ⟨K, by omega, h, rfl⟩
        · exact ⟨L.length, by omega, Nat.le_refl _, by show _ = _; rw [List.take_of_length_le (by omega), List.take_of_length_le (by omega)]⟩
      obtain ⟨q, hq1, hq2, Hq⟩ := hq
      have hqc : q ≤ cp := by omega
      have Hgf : Hid (gainF F worth T + (M.take q).sum = upF F worth S K) := by show _ = _; rw [Hq.out, HM.out, hgT.out, ← HSd.out]; rfl
      have hub2 := hub.out
      rw [← Hgf.out] at hub2
      have hwr : IntKind.i64.wrap (gainF F worth T + (M.take q).sum) = gainF F worth T + (M.take q).sum := IntWalk.i64_in _ (by omega)
      have hlt : (M.take q).length = q := by rw [List.length_take]; omega
      have C1 := Lib.hid (fun (wx : World) (hx : Kp _ wx) => gainM_any _ F worth A0 T n c0 wx (hFA.kp (hkb.trans hx)) (hS0.kp (hkb.trans hx)) Hn.out HG.out HS.out hw0 hw1)
      have C2 := Lib.hid (fun (wx : World) (hx : Kp _ wx) => sumL_any (some ⟨g, 0, none⟩) (M.take q) q cp wx ((hiM.take q).kp hx) hlt (fun k _ => by rw [List.take_take]; have := hAf.out.2.2 (min k q); omega) (fun x hx => by have := hAf.out.2.1 x (List.mem_of_mem_take hx); omega))
      have d6 := hkb.get d0
      have d7 := hkb.get d1
      have hk6 : Kp w6 w6 := Kp.refl _
      clear q_d0 q_d1
      have q_d6 := hk6.get d6
      have q_d7 := hk6.get d7
      have tok1 : True := trivial
      go_wp2_with fail
      go_region_held3 (fun w' => w'.cell? ⟨w.heap.size, 0, none⟩ = some (.slice A F.op.length c) ∧ w'.cell? ⟨w.heap.size, 1, none⟩ = some (.slice B F.di.length d) ∧ Kp w6 w')
        (first | (refine keepc2 d6 d7 ?_; exact (by repeat (first | with_reducible assumption | with_reducible exact Kp.refl _ | with_reducible refine Kp.drew ?_ | with_reducible refine Kp.alloc ?_ _ | with_reducible refine Kp.drewN ?_ _ | refine Kp.setCell ?_ (by dsimp only; omega) _))) | fail)
        (first
          | (have _t := tok1; go_at_call 47; with_reducible refine Calls.mono (C1.out _ (by repeat (first | with_reducible assumption | with_reducible exact Kp.refl _ | with_reducible refine Kp.drew ?_ | with_reducible refine Kp.alloc ?_ _ | with_reducible refine Kp.drewN ?_ _ | refine Kp.setCell ?_ (by dsimp only; omega) _))) ?_; rintro e wr1 ⟨rfl, hka⟩; have hr1 : Kp w6 wr1 := Kp.trans (by repeat (first | with_reducible assumption | with_reducible exact Kp.refl _ | with_reducible refine Kp.drew ?_ | with_reducible refine Kp.alloc ?_ _ | with_reducible refine Kp.drewN ?_ _ | refine Kp.setCell ?_ (by dsimp only; omega) _)) hka; have tok2 : True := trivial; clear tok1 _t)
          | (have _t := tok2; go_at_call 64; with_reducible refine Calls.mono (C2.out _ (by repeat (first | with_reducible assumption | with_reducible exact Kp.refl _ | with_reducible refine Kp.drew ?_ | with_reducible refine Kp.alloc ?_ _ | with_reducible refine Kp.drewN ?_ _ | refine Kp.setCell ?_ (by dsimp only; omega) _))) ?_; rintro e wr2 ⟨rfl, hw⟩; obtain rfl := hw; have tok3 : True := trivial; clear tok2 _t)
          | fail)
      all_goals (try go_wp2_with fail)
      all_goals
        go_ret
        exact ⟨Hgf.out ▸ rfl, (hkw.trans hkb).trans hr1⟩
end Go.Proofs.YtgfbjgdofhcmaaaGreat

namespace Go.Proofs.YtgfbjgdofhcmaaaGreat
open Go.RowKit Go.Sort

theorem grd_in {F : Fld} {worth : Int} {may : List Int → Bool} : ∀ (j : Nat) (out S : List Int), (∀ x ∈ out, 0 ≤ x ∧ x < (F.op.length : Int)) → ∀ x ∈ grd F worth may j out S, 0 ≤ x ∧ x < (F.op.length : Int)
  | 0, out, S, h => h
  | j + 1, out, S, h => by
    by_cases hn : (nextF F worth may S).1 < 0
    · rw [grd_stop hn]; exact h
    · rw [grd_go hn]
      refine grd_in j _ _ (fun x hx => ?_)
      rcases List.mem_append.1 hx with hx | hx
      · exact h x hx
      · have e : x = (nextF F worth may S).1 := by simpa using hx
        have := (next_new hn).2
        omega
def preS (F : Fld) (L : List Int) (k : Nat) : List Int := bitsL F.op.length (bagN (L.take k))
theorem preS_zero (F : Fld) (L : List Int) : preS F L 0 = [] := by rw [preS, List.take_zero]; exact bits_zero _
theorem preS_succ {F : Fld} {L : List Int} (h : ∀ x ∈ L, 0 ≤ x ∧ x < (F.op.length : Int)) {k : Nat} (hk : k < L.length) : preS F L (k + 1) = putL (preS F L k) L[k] := by
  have h1 := h _ (List.getElem_mem hk)
  rw [preS, bag_next hk, bits_put (by omega), preS, show ((L[k].toNat : Nat) : Int) = L[k] from by omega]
def luTo (F : Fld) (worth : Int) (K : Nat) (L : List Int) : Nat → Int
  | 0 => upF F worth [] K
  | k + 1 => min (luTo F worth K L k) (upF F worth (preS F L (k + 1)) K)
def luR (F : Fld) (worth k : Int) : Int := if grdOk F worth k = true then luTo F worth k.toNat (grdL F worth k) (grdL F worth k).length else 0
theorem lu_no {F : Fld} {worth k : Int} (h : grdOk F worth k = false) : Ending.returned (.tuple #[.int .i64 0, .bool false]) = .returned (.tuple #[.int .i64 (luR F worth k), .bool (grdOk F worth k)]) := by
  simp [luR, h]
theorem lu_yes {F : Fld} {worth : Int} {K : Nat} (h : grdOk F worth K = true) : Ending.returned (.tuple #[.int .i64 (luTo F worth K (grdL F worth K) (grdL F worth K).length), .bool true]) = .returned (.tuple #[.int .i64 (luR F worth K), .bool (grdOk F worth K)]) := by
  simp [luR, h]
set_option maxRecDepth 100000 in
set_option maxHeartbeats 1000000 in
theorem specLu_any (f : Value) (F : Fld) (worth k : Int) (w : World) (hf : FldAt w f F) :
    Calls Tryz.prog 14 #[f, .int .i64 worth, .int .i64 k] w fun e w' => e = .returned (.tuple #[.int .i64 (luR F worth k), .bool (grdOk F worth k)]) ∧ Kp w w' := by
  obtain ⟨A, c, B, d, rfl, hA, hB⟩ := hf
  have hk0 : Kp w (w.alloc (.cells #[.slice A F.op.length c, .slice B F.di.length d] 27)) := (Kp.refl w).alloc _
  obtain ⟨d0, d1⟩ := box2 w (.slice A F.op.length c) (.slice B F.di.length d) 27
  have hFA := FldAt.kp (show FldAt w (.agg #[.slice A F.op.length c, .slice B F.di.length d]) F from ⟨A, c, B, d, rfl, hA, hB⟩) hk0
  clear hA hB
  go_enter Tryz.func14, Tryz.ntmps14
  go_wp2_with fail
  have hsz : Hid ((w.alloc (.cells #[.slice A F.op.length c, .slice B F.di.length d] 27)).heap.size = w.heap.size + 1) := by show _ = _; simp
  generalize w.alloc (.cells #[.slice A F.op.length c, .slice B F.di.length d] 27) = wb at *
  have hkb : Kp wb wb := Kp.refl _
  have hkw := hk0
  have CC := Lib.hid (l8Good_any _ F worth _ (hFA.kp hkb))
  with_reducible refine Calls.mono CC.out ?_
  rintro e w1 ⟨rfl, hk1⟩
  clear CC
  replace hkb := hkb.trans hk1
  cases hg_ : (goodF F && worthB worth)
  · have Hno : Hid (grdOk F worth k = false) := by show grdOk F worth k = false; rw [grdOk, hg_]; rfl
    clear hg_
    have q_d0 := hkb.get d0
    have q_d1 := hkb.get d1
    go_wp2_with fail
    go_ret2
    exact ⟨lu_no Hno.out, hkw.trans hkb⟩
  have Hg := Lib.hid hg_; clear hg_
  have q_d0 := hkb.get d0
  have q_d1 := hkb.get d1
  go_wp2_with fail
  with_reducible refine Calls.mono (l8K_any k _) ?_
  rintro e w2 ⟨rfl, hw⟩
  obtain rfl := hw
  clear q_d0 q_d1
  cases hg_ : inB k 0 7
  · have Hno : Hid (grdOk F worth k = false) := by show grdOk F worth k = false; rw [grdOk, Hg.out, hg_]; rfl
    clear hg_
    have q_d0 := hkb.get d0
    have q_d1 := hkb.get d1
    go_wp2_with fail
    go_ret2
    exact ⟨lu_no Hno.out, hkw.trans hkb⟩
  have Hok : Hid (grdOk F worth k = true) := by show grdOk F worth k = true; rw [grdOk, Hg.out, hg_]; rfl
  clear hg_
  have HP := Lib.hid (grdOk_parts Hok.out)
  have hk0' := HP.out.2.2.1
  have hk7 := HP.out.2.2.2
  have h7 := (goodF_iff.1 HP.out.1).1.2
  obtain ⟨K, rfl⟩ := Int.eq_ofNat_of_zero_le hk0'
  have q_d0 := hkb.get d0
  have q_d1 := hkb.get d1
  go_wp2_with fail
  have CC := Lib.hid (l8Greedy_any _ F worth K _ (hFA.kp hkb) HP.out.1 (by omega) HP.out.2.1.1 HP.out.2.1.2)
  with_reducible refine Calls.mono CC.out ?_
  rintro e w3 ⟨v, rfl, ho, hk3⟩
  clear CC q_d0 q_d1
  replace hkb := hkb.trans hk3
  obtain ⟨L, HL⟩ : ∃ L, Hid (L = grd F worth anyS K [] []) := ⟨_, rfl⟩
  rw [← HL.out] at ho
  have hmem : Hid (∀ x ∈ L, 0 ≤ x ∧ x < (F.op.length : Int)) := by show ∀ x ∈ L, _; rw [HL.out]; exact grd_in K [] [] (by simp)
  have hll : L.length ≤ 7 := by
    rw [HL.out]
    have := grd_len (F := F) (worth := worth) (may := anyS) K [] []
    simp only [List.length_nil] at this
    omega
  have hfin : Hid (luTo F worth K L L.length = luTo F worth K (grdL F worth K) (grdL F worth K).length) := by show _ = _; rw [grdL_yes Hok.out, HL.out]; rfl
  obtain ⟨Av, cv, hve, hiv⟩ := ho.ints (by omega)
  subst hve
  clear ho
  obtain ⟨wc, rfl⟩ : ∃ wc : World, wc = w3 := ⟨_, rfl⟩
  have hn0 := own_new0 wc wc.heap.size (Nat.le_refl _)
  have hka : Kp wc (wc.alloc (.cells #[] 3)) := (Kp.refl _).alloc _
  have hin := hn0.intsOf (by simp)
  replace hkb := hkb.trans hka
  replace hiv := hiv.kp hka
  have q_d0 := hkb.get d0
  have q_d1 := hkb.get d1
  go_wp2_with fail
  have CC := Lib.hid (l8Upper_any _ F worth (some ⟨wc.heap.size, 0, none⟩) [] 0 0 K _ (hFA.kp hkb) hin rfl (Nat.le_refl _) HP.out.1 (bitsL_set (F := F) 0 |> fun h => by rwa [bits_zero] at h) HP.out.2.1.1 HP.out.2.1.2 (by omega))
  with_reducible refine Calls.mono CC.out ?_
  rintro e w4 ⟨rfl, hk4⟩
  clear CC q_d0 q_d1
  replace hkb := hkb.trans hk4
  replace hiv := hiv.kp hk4
  replace hin := hin.kp hk4
  have q_d0 := hkb.get d0
  have q_d1 := hkb.get d1
  go_wp2_with fail
  go_loopw [9, 10, 11] (fun sv lv iv wr => ∃ (k : Nat) (A : Option Addr) (n9 c9 : Nat), k ≤ L.length ∧ iv = .int .i64 k ∧ sv = .slice A n9 c9 ∧ Hid ((preS F L k).length = n9) ∧ n9 ≤ c9 ∧ IntsAt wr A (preS F L k) ∧ lv = .int .i64 (luTo F worth K L k) ∧ IntsAt wr Av L ∧ Kp wb wr) (fun _ _ iv _ => L.length - (intOf iv).toNat)
  case atStart => exact ⟨0, _, 0, 0, by omega, rfl, rfl, by show _ = _; rw [preS_zero]; rfl, by omega, by rw [preS_zero]; exact hin, rfl, hiv, hkb⟩
  case round =>
    obtain ⟨k, A9, n9, c9, hk, rfl, rfl, Hn9, hc9, hS9, rfl, hiv, hkb⟩ := hrel
    by_cases hlt : k < L.length
    · obtain ⟨ad, rfl, hc⟩ := hiv.at_ hlt
      have hset := Lib.hid (bitsL_set (F := F) (bagN (L.take k)))
      have hset2 := Lib.hid (bitsL_set (F := F) (bagN (L.take (k + 1))))
      have hsu := Lib.hid (preS_succ hmem.out hlt)
      have hl9 := bitsL_len F.op.length (bagN (L.take k))
      have hl10 := bitsL_len F.op.length (bagN (L.take (k + 1)))
      have hn97 : n9 ≤ 7 := by rw [← Hn9.out]; exact Nat.le_trans hl9 h7
      clear q_d0 q_d1
      have q_d0 := hkb.get d0
      have q_d1 := hkb.get d1
      go_wp2_with fail
      have CC := Lib.hid (l1Put_any A9 (preS F L k) n9 c9 L[k] _ hS9 Hn9.out (ris_iff.1 hset.out).1 hc9 (by omega))
      with_reducible refine Calls.mono CC.out ?_
      rintro e w5 ⟨A', c', rfl, hc', hi', hk5⟩
      clear CC q_d0 q_d1
      replace hkb := hkb.trans hk5
      replace hiv := hiv.kp hk5
      rw [← hsu.out] at hc' hi' ⊢
      obtain ⟨m9, Hm9⟩ : ∃ m, Hid ((preS F L (k + 1)).length = m) := ⟨_, rfl⟩
      rw [Hm9.out] at hc' ⊢
      have q_d0 := hkb.get d0
      have q_d1 := hkb.get d1
      go_wp2_with fail
      have CC := Lib.hid (l8Upper_any _ F worth A' (preS F L (k + 1)) m9 c' K _ (hFA.kp hkb) hi' Hm9.out hc' HP.out.1 hset2.out HP.out.2.1.1 HP.out.2.1.2 (by omega))
      with_reducible refine Calls.mono CC.out ?_
      rintro e w6 ⟨rfl, hk6⟩
      clear CC q_d0 q_d1
      replace hkb := hkb.trans hk6
      replace hiv := hiv.kp hk6
      replace hi' := hi'.kp hk6
      have q_d0 := hkb.get d0
      have q_d1 := hkb.get d1
      go_wp2_with fail
      with_reducible refine Calls.mono (l1Least_any _ _ _) ?_
      rintro e w7 ⟨rfl, hw⟩
      obtain rfl := hw
      clear q_d0 q_d1
      have q_d0 := hkb.get d0
      have q_d1 := hkb.get d1
      go_wp2_with fail
      go_roundw
      case rel => exact ⟨k + 1, A', m9, c', by omega, by go_num, rfl, Hm9, hc', hi', rfl, hiv, hkb⟩
      case measure => simp [intOf]; omega
    · obtain rfl : k = L.length := by omega
      rw [hfin.out]
      clear q_d0 q_d1
      have q_d0 := hkb.get d0
      have q_d1 := hkb.get d1
      go_wp2_with fail
      go_ret2
      exact ⟨lu_yes Hok.out, hkw.trans hkb⟩
set_option maxRecDepth 100000 in
set_option maxHeartbeats 1000000 in
theorem implLu_any (f : Value) (F : Fld) (worth k : Int) (w : World) (hf : FldAt w f F) :
    Calls Tryz.prog 13 #[f, .int .i64 worth, .int .i64 k] w fun e w' => e = .returned (.tuple #[.int .i64 (luR F worth k), .bool (grdOk F worth k)]) ∧ Kp w w' := by
  obtain ⟨A, c, B, d, rfl, hA, hB⟩ := hf
  have hk0 : Kp w (w.alloc (.cells #[.slice A F.op.length c, .slice B F.di.length d] 27)) := (Kp.refl w).alloc _
  obtain ⟨d0, d1⟩ := box2 w (.slice A F.op.length c) (.slice B F.di.length d) 27
  have hFA := FldAt.kp (show FldAt w (.agg #[.slice A F.op.length c, .slice B F.di.length d]) F from ⟨A, c, B, d, rfl, hA, hB⟩) hk0
  clear hA hB
  go_enter Tryz.func13, Tryz.ntmps13
  go_wp2_with fail
  have hsz : Hid ((w.alloc (.cells #[.slice A F.op.length c, .slice B F.di.length d] 27)).heap.size = w.heap.size + 1) := by show _ = _; simp
  generalize w.alloc (.cells #[.slice A F.op.length c, .slice B F.di.length d] 27) = wb at *
  have hkb : Kp wb wb := Kp.refl _
  have hkw := hk0
  have CC := Lib.hid (implGreedy_any _ F worth k _ (hFA.kp hkb))
  with_reducible refine Calls.mono CC.out ?_
  rintro e w1 ⟨v, rfl, ho, hk1⟩
  clear CC
  replace hkb := hkb.trans hk1
  cases hg_ : grdOk F worth k
  · have Hno := Lib.hid hg_; clear hg_
    obtain ⟨Av, cv, hve, hiv⟩ := ho.ints (by have := grdL_len F worth k; omega)
    subst hve
    have q_d0 := hkb.get d0
    have q_d1 := hkb.get d1
    go_wp2_with fail
    go_ret2
    exact ⟨lu_no Hno.out, hkw.trans hkb⟩
  have Hok := Lib.hid hg_; clear hg_
  have HP := Lib.hid (grdOk_parts Hok.out)
  have hk0' := HP.out.2.2.1
  have hk7 := HP.out.2.2.2
  have h7 := (goodF_iff.1 HP.out.1).1.2
  obtain ⟨K, rfl⟩ := Int.eq_ofNat_of_zero_le hk0'
  obtain ⟨L, HL⟩ : ∃ L, Hid (L = grdL F worth K) := ⟨_, rfl⟩
  rw [← HL.out] at ho
  have hmem : Hid (∀ x ∈ L, 0 ≤ x ∧ x < (F.op.length : Int)) := by show ∀ x ∈ L, _; rw [HL.out, grdL_yes Hok.out]; exact grd_in K [] [] (by simp)
  have hll : L.length ≤ 7 := by
    rw [HL.out, grdL_yes Hok.out]
    have := grd_len (F := F) (worth := worth) (may := anyS) (K : Int).toNat [] []
    simp only [List.length_nil, Int.toNat_natCast] at this ⊢
    omega
  have hfin : Hid (luTo F worth K L L.length = luTo F worth K (grdL F worth K) (grdL F worth K).length) := by show _ = _; rw [HL.out]
  obtain ⟨Av, cv, hve, hiv⟩ := ho.ints (by omega)
  have hcv := ho.cap hve
  subst hve
  clear ho
  have q_d0 := hkb.get d0
  have q_d1 := hkb.get d1
  go_wp2_with fail
  have CC := Lib.hid (upperM_any _ F worth none [] 0 0 K _ (hFA.kp hkb) (IntsAt.nil _ none) rfl HP.out.1 (by simp) HP.out.2.1.1 HP.out.2.1.2 (by omega))
  with_reducible refine Calls.mono CC.out ?_
  rintro e w2 ⟨rfl, hk2⟩
  clear CC q_d0 q_d1
  replace hkb := hkb.trans hk2
  replace hiv := hiv.kp hk2
  have hz : bitsL F.op.length (bagN []) = [] := bits_zero _
  rw [hz]
  clear hz
  have q_d0 := hkb.get d0
  have q_d1 := hkb.get d1
  go_wp2_with fail
  go_loopw [10, 27] (fun lv iv wr => ∃ (k : Nat), k ≤ L.length ∧ iv = .int .i64 k ∧ lv = .int .i64 (luTo F worth K L k) ∧ IntsAt wr Av L ∧ Kp wb wr) (fun _ iv _ => L.length - (intOf iv).toNat)
  case atStart => exact ⟨0, by omega, rfl, rfl, hiv, hkb⟩
  case round =>
    obtain ⟨k, hk, rfl, rfl, hiv, hkb⟩ := hrel
    by_cases hlt : k < L.length
    · obtain ⟨ad, rfl, hc⟩ := hiv.at_ hlt
      obtain ⟨m, Hm⟩ : ∃ m : Nat, Hid (m = k + 1) := ⟨_, rfl⟩
      have hwk : IntKind.i64.wrap ((k : Int) + 1) = (m : Int) := by rw [IntWalk.i64_in _ (by omega), Hm.out]; omega
      have hm1 : (0 : Int) ≤ (m : Int) := by omega
      have hm2 : (m : Int) ≤ (cv : Int) := by rw [Hm.out]; omega
      have hm3 : m ≤ cv := by omega
      have hlk : (L.take (k + 1)).length = m := by rw [List.length_take, Hm.out]; omega
      have Hlk := Lib.hid hlk; clear hlk
      have d6 := hkb.get d0
      have d7 := hkb.get d1
      have hk6 : Kp wr wr := Kp.refl _
      have C1 := Lib.hid (fun (wx : World) (hx : Kp wr wx) => upperM_any _ F worth (some ad) (L.take (k + 1)) m cv K wx (hFA.kp (hkb.trans hx)) ((hiv.take (k + 1)).kp hx) Hlk.out HP.out.1 (fun x hx => hmem.out x (List.mem_of_mem_take hx)) HP.out.2.1.1 HP.out.2.1.2 (by omega))
      clear q_d0 q_d1
      have q_d6 := hk6.get d6
      have q_d7 := hk6.get d7
      have tok1 : True := trivial
      go_wp2_with fail
      go_region_held3 (fun w' => w'.cell? ⟨w.heap.size, 0, none⟩ = some (.slice A F.op.length c) ∧ w'.cell? ⟨w.heap.size, 1, none⟩ = some (.slice B F.di.length d) ∧ Kp wr w')
        (first | (refine keepc2 d6 d7 ?_; exact (by repeat (first | with_reducible assumption | with_reducible exact Kp.refl _ | with_reducible refine Kp.drew ?_ | with_reducible refine Kp.alloc ?_ _ | with_reducible refine Kp.drewN ?_ _ | refine Kp.setCell ?_ (by dsimp only; omega) _))) | fail)
        (first
          | (have _t := tok1; go_at_call 39; with_reducible refine Calls.mono (C1.out _ (by repeat (first | with_reducible assumption | with_reducible exact Kp.refl _ | with_reducible refine Kp.drew ?_ | with_reducible refine Kp.alloc ?_ _ | with_reducible refine Kp.drewN ?_ _ | refine Kp.setCell ?_ (by dsimp only; omega) _))) ?_; rintro e wr1 ⟨rfl, hka⟩; have hr1 : Kp wr wr1 := Kp.trans (by repeat (first | with_reducible assumption | with_reducible exact Kp.refl _ | with_reducible refine Kp.drew ?_ | with_reducible refine Kp.alloc ?_ _ | with_reducible refine Kp.drewN ?_ _ | refine Kp.setCell ?_ (by dsimp only; omega) _)) hka; have tok2 : True := trivial; clear tok1 _t)
          | fail)
      all_goals (try go_wp2_with fail)
      all_goals
        go_roundw
        case rel => exact ⟨k + 1, by omega, by rw [Hm.out], by rw [luTo, preS, ← Hm.out], hiv.kp hr1, hkb.trans hr1⟩
        case measure => have := Hm.out; simp [intOf]; omega
    · obtain rfl : k = L.length := by omega
      rw [hfin.out]
      clear q_d0 q_d1
      have q_d0 := hkb.get d0
      have q_d1 := hkb.get d1
      go_wp2_with fail
      go_ret2
      exact ⟨lu_yes Hok.out, hkw.trans hkb⟩
end Go.Proofs.YtgfbjgdofhcmaaaGreat
