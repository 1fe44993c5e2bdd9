/- LeastUpper: the program's upper gain of sites in any order, and both walks. No condition. -/
import Derived.Test.YtbefnhagmejpcaaUp2
import Derived.Test.YtbefnhagmejpcaaGainM
import Derived.Test.YtbefnhagmejpcaaLeast1
namespace Go.Proofs.Ytbefnhagmejpcaa
open Go.RowKit Go.Sort

theorem gainF_bits {F : Fld} {worth : Int} {T : List Int} (h : ∀ x ∈ T, 0 ≤ x ∧ x < (F.op.length : Int)) : gainF F worth T = gainF F worth (bitsL F.op.length (bagN T)) := by
  have hm : ∀ x : Int, x ∈ bitsL F.op.length (bagN T) ↔ x ∈ T := fun x => by
    constructor
    · intro hx
      have hx2 := set_mem (bitsL_set (F := F) (bagN T)) x hx
      obtain ⟨a, rfl⟩ := Int.eq_ofNat_of_zero_le hx2.1
      have hb := bits_any (n := F.op.length) (b := bagN T) (a := a) (by omega)
      rw [bagN_bit (fun y hy => (h y hy).1) a] at hb
      have : ((bitsL F.op.length (bagN T)).any fun x => x == (a : Int)) = true := List.any_eq_true.2 ⟨_, hx, by simp⟩
      rw [this] at hb
      simpa using hb.symm
    · intro hx
      obtain ⟨h0, h1⟩ := h x hx
      obtain ⟨a, rfl⟩ := Int.eq_ofNat_of_zero_le h0
      have hb := bits_any (n := F.op.length) (b := bagN T) (a := a) (by omega)
      rw [bagN_bit (fun y hy => (h y hy).1) a, decide_eq_true hx, List.any_eq_true] at hb
      obtain ⟨y, hy, he⟩ := hb
      rw [beq_iff_eq] at he
      exact he ▸ hy
  exact Int.le_antisymm (gain_mono fun x hx => (hm x).2 hx) (gain_mono fun x hx => (hm x).1 hx)
set_option maxRecDepth 100000 in
set_option maxHeartbeats 1000000 in
theorem upperM_any (f : Value) (F : Fld) (worth : Int) (A0 : Option Addr) (T : List Int) (n c0 K : Nat) (w : World) (hf : FldAt w f F) (hS : IntsAt w A0 T) (hn : T.length = n) (hg : goodF F = true) (hs : ∀ x ∈ T, 0 ≤ x ∧ x < (F.op.length : Int)) (hw0 : 0 ≤ worth) (hw1 : worth ≤ 999) (hK : K ≤ 7) :
    Calls Try.prog 59 #[f, .int .i64 worth, .slice A0 n c0, .int .i64 K] w fun e w' => e = .returned (.int .i64 (upF F worth (bitsL F.op.length (bagN T)) K)) ∧ Kp w w' := by
  have hgT := Lib.hid (gainF_bits (worth := worth) hs)
  obtain ⟨S, HSd⟩ : ∃ S, Hid (S = bitsL F.op.length (bagN T)) := ⟨_, rfl⟩
  rw [← HSd.out]
  have h7 := (goodF_iff.1 hg).1.2
  have hAM := Lib.hid (allM_facts hg hw0 hw1 S)
  have hgb := gainF_bd hg hw0 hw1 S
  have hub := Lib.hid (upF_bd hg hw0 hw1 S K)
  have hmem := Lib.hid hs
  have hbl := bagN_lt (S := T) (n := F.op.length) hmem.out
  have hb7 : bagN T < 128 := Nat.lt_of_lt_of_le hbl (Nat.pow_le_pow_right (n := 2) (by omega) h7)
  have Hbl := Lib.hid hbl
  clear hbl
  obtain ⟨A, c, B, d, rfl, hA, hB⟩ := hf
  have hk0 : Kp w (w.alloc (.cells #[.slice A F.op.length c, .slice B F.di.length d] 29)) := (Kp.refl w).alloc _
  obtain ⟨d0, d1⟩ := box2 w (.slice A F.op.length c) (.slice B F.di.length d) 29
  have hFA := FldAt.kp (show FldAt w (.agg #[.slice A F.op.length c, .slice B F.di.length d]) F from ⟨A, c, B, d, rfl, hA, hB⟩) hk0
  have hS0 := hS.kp hk0
  have HG := Lib.hid hg
  have HS := Lib.hid hs
  have Hn := Lib.hid hn
  clear hS hA hB hg hs hn
  go_enter Try.func59, Try.ntmps59
  go_wp2_with fail
  have hsz : Hid ((w.alloc (.cells #[.slice A F.op.length c, .slice B F.di.length d] 29)).heap.size = w.heap.size + 1) := by show _ = _; simp
  generalize w.alloc (.cells #[.slice A F.op.length c, .slice B F.di.length d] 29) = wb at *
  have hkb : Kp wb wb := Kp.refl _
  have hkw := hk0
  have CC := Lib.hid (bagOf_any A0 T n c0 _ hS0 Hn.out (fun x hx => by have := hmem.out x hx; omega))
  with_reducible refine Calls.mono CC.out ?_
  rintro e w1 ⟨rfl, hw⟩
  obtain rfl := hw
  clear CC
  have ho := own_new0 wb wb.heap.size (Nat.le_refl _)
  have hka : Kp wb (wb.alloc (.cells #[] 3)) := (Kp.refl _).alloc _
  replace hkb := hkb.trans hka
  obtain ⟨bg, Hbg⟩ : ∃ bg, Hid (bg = bagN T) := ⟨_, rfl⟩
  rw [← Hbg.out] at hb7
  rw [← Hbg.out]
  have q_d0 := hkb.get d0
  have q_d1 := hkb.get d1
  go_wp2_with fail
  go_loopw [10, 18] (fun lv iv wr => ∃ (a : Nat) (L : List Int), a ≤ F.op.length ∧ iv = .int .i64 a ∧ L.length ≤ a ∧ Hid (lv ≠ .slice none 0 0) ∧ Hid (L = margsTo F worth S a) ∧ Own wr wb.heap.size lv L ∧ Kp wb wr) (fun _ iv _ => F.op.length - (intOf iv).toNat)
  case atStart => exact ⟨0, [], by omega, rfl, by simp, by show _ ≠ _; simp, rfl, ho, hkb⟩
  case round =>
    obtain ⟨a, L, ha, rfl, hla, Hnn, HL, hown, hkb⟩ := hrel
    by_cases hlt : a < F.op.length
    · clear q_d0 q_d1
      have q_d0 := hkb.get d0
      have q_d1 := hkb.get d1
      go_wp2_with fail
      with_reducible refine Calls.mono (has_any bg a _ (by omega) (by omega)) ?_
      rintro e w2 ⟨rfl, hw⟩
      obtain rfl := hw
      clear q_d0 q_d1
      cases hh : bg.testBit a
      · have HL2 : Hid (margsTo F worth S (a + 1) = margsTo F worth S a ++ [moreF F worth S a]) := by
          show _ = _
          refine margs_yes ?_
          rw [HSd.out, ← Hbg.out, bits_any hlt, hh]
        clear hh
        have q_d0 := hkb.get d0
        have q_d1 := hkb.get d1
        go_wp2_with fail
        have CC := Lib.hid (marginal_any _ F worth bg a _ (hFA.kp hkb) HG.out (by rw [Hbg.out]; exact Hbl.out) hw0 hw1 hlt)
        with_reducible refine Calls.mono CC.out ?_
        rintro e w3 ⟨rfl, hk3⟩
        clear CC q_d0 q_d1
        replace hkb := hkb.trans hk3
        replace hown := hown.kp hk3
        have hbe : bitsL F.op.length bg = S := by rw [Hbg.out]; exact HSd.out.symm
        rw [hbe]
        clear hbe
        have hmb := moreF_bd HG.out hw0 hw1 S a
        obtain ⟨m, Hm⟩ : ∃ m, Hid (m = moreF F worth S a) := ⟨_, rfl⟩
        rw [← Hm.out] at hmb ⊢
        have q_d0 := hkb.get d0
        have q_d1 := hkb.get d1
        go_wp2_with (at_builtin; go_loud (refine wpl_app rfl (.tmp 25) (.tmp 31) rfl (wb.heap.size) _ (L) (m) rfl rfl hown hkb.le (by omega) ?_; intro v' w' ho' ht' h4'; have hkb' := hown.kp_turn hkb (Nat.le_refl _) ht'; have r_d0 := hkb'.get d0; have r_d1 := hkb'.get d1))
        go_roundw
        case rel => exact ⟨a + 1, L ++ [m], by omega, by go_num, by simp; omega, own_nv ho' (by simp), by show _ = _; rw [HL2.out, Hm.out, ← HL.out], ho', hkb'⟩
        case measure => simp [intOf]; omega
      · have HL2 : Hid (margsTo F worth S (a + 1) = margsTo F worth S a) := by
          show _ = _
          refine margs_no ?_
          rw [HSd.out, ← Hbg.out, bits_any hlt, hh]
        clear hh
        have q_d0 := hkb.get d0
        have q_d1 := hkb.get d1
        go_wp2_with fail
        go_roundw
        case rel => exact ⟨a + 1, L, by omega, by go_num, by omega, Hnn, by show _ = _; rw [HL2.out]; exact HL.out, hown, hkb⟩
        case measure => simp [intOf]; omega
    · obtain rfl : a = F.op.length := by omega
      have hD : Hid ((L.mergeSort fun x y => decide (x ≤ y)).reverse = allM F worth S) := by show _ = _; rw [desc_sort, HL.out]; rfl
      obtain ⟨g, cp, rfl⟩ := own_nn hown Hnn.out
      clear Hnn
      clear q_d0 q_d1
      have q_d0 := hkb.get d0
      have q_d1 := hkb.get d1
      go_wp2_with fail
      have CC := Lib.hid (sortInts_any wb.heap.size g cp L.length L _ hown rfl (by omega))
      with_reducible refine Calls.mono CC.out ?_
      rintro e w5 ⟨rfl, ho5, ht5⟩
      replace hkb := hown.kp_turn hkb (Nat.le_refl _) (ht5.mono (fun i hi => by subst hi; rfl))
      clear CC ht5
      clear q_d0 q_d1
      have q_d0 := hkb.get d0
      have q_d1 := hkb.get d1
      go_wp2_with fail
      have CC := Lib.hid (revInts_any wb.heap.size g cp L.length (L.mergeSort fun x y => decide (x ≤ y)) _ ho5 (by simp) (by omega))
      with_reducible refine Calls.mono CC.out ?_
      rintro e w6 ⟨rfl, ho6, ht6⟩
      replace hkb := ho5.kp_turn hkb (Nat.le_refl _) (ht6.mono (fun i hi => by subst hi; rfl))
      clear CC ht6
      rw [hD.out] at ho6
      have hAl : (allM F worth S).length = L.length := by rw [← hD.out]; simp
      obtain ⟨M, HM⟩ : ∃ M, Hid (M = allM F worth S) := ⟨_, rfl⟩
      have hAf := Lib.hid hAM.out
      rw [← HM.out] at hAf hAl ho6
      have hiM := ho6.intsOf (by omega)
      have hcM := ho6.cap rfl
      have hq : ∃ q : Nat, min (K : Int) (L.length : Int) = q ∧ q ≤ L.length ∧ Hid (M.take q = M.take K) := by
        by_cases h : K ≤ L.length
        · exact ⟨K, by omega, h, rfl⟩
        · exact ⟨L.length, by omega, Nat.le_refl _, by show _ = _; rw [List.take_of_length_le (by omega), List.take_of_length_le (by omega)]⟩
      obtain ⟨q, hq1, hq2, Hq⟩ := hq
      have hqc : q ≤ cp := by omega
      have Hgf : Hid (gainF F worth T + (M.take q).sum = upF F worth S K) := by show _ = _; rw [Hq.out, HM.out, hgT.out, ← HSd.out]; rfl
      have hub2 := hub.out
      rw [← Hgf.out] at hub2
      have hwr : IntKind.i64.wrap (gainF F worth T + (M.take q).sum) = gainF F worth T + (M.take q).sum := IntWalk.i64_in _ (by omega)
      have hlt : (M.take q).length = q := by rw [List.length_take]; omega
      have C1 := Lib.hid (fun (wx : World) (hx : Kp _ wx) => gainM_any _ F worth A0 T n c0 wx (hFA.kp (hkb.trans hx)) (hS0.kp (hkb.trans hx)) Hn.out HG.out HS.out hw0 hw1)
      have C2 := Lib.hid (fun (wx : World) (hx : Kp _ wx) => sumL_any (some ⟨g, 0, none⟩) (M.take q) q cp wx ((hiM.take q).kp hx) hlt (fun k _ => by rw [List.take_take]; have := hAf.out.2.2 (min k q); omega) (fun x hx => by have := hAf.out.2.1 x (List.mem_of_mem_take hx); omega))
      have d6 := hkb.get d0
      have d7 := hkb.get d1
      have hk6 : Kp w6 w6 := Kp.refl _
      clear q_d0 q_d1
      have q_d6 := hk6.get d6
      have q_d7 := hk6.get d7
      have tok1 : True := trivial
      go_wp2_with fail
      go_region_held3 (fun w' => w'.cell? ⟨w.heap.size, 0, none⟩ = some (.slice A F.op.length c) ∧ w'.cell? ⟨w.heap.size, 1, none⟩ = some (.slice B F.di.length d) ∧ Kp w6 w')
        (first | (refine keepc2 d6 d7 ?_; exact (by repeat (first | with_reducible assumption | with_reducible exact Kp.refl _ | with_reducible refine Kp.drew ?_ | with_reducible refine Kp.alloc ?_ _ | with_reducible refine Kp.drewN ?_ _))) | fail)
        (first
          | (have _t := tok1; go_at_call 56; with_reducible refine Calls.mono (C1.out _ (by repeat (first | with_reducible assumption | with_reducible exact Kp.refl _ | with_reducible refine Kp.drew ?_ | with_reducible refine Kp.alloc ?_ _ | with_reducible refine Kp.drewN ?_ _))) ?_; rintro e wr1 ⟨rfl, hka⟩; have hr1 : Kp w6 wr1 := Kp.trans (by repeat (first | with_reducible assumption | with_reducible exact Kp.refl _ | with_reducible refine Kp.drew ?_ | with_reducible refine Kp.alloc ?_ _ | with_reducible refine Kp.drewN ?_ _)) hka; have tok2 : True := trivial; clear tok1 _t)
          | (have _t := tok2; go_at_call 91; with_reducible refine Calls.mono (C2.out _ (by repeat (first | with_reducible assumption | with_reducible exact Kp.refl _ | with_reducible refine Kp.drew ?_ | with_reducible refine Kp.alloc ?_ _ | with_reducible refine Kp.drewN ?_ _))) ?_; rintro e wr2 ⟨rfl, hw⟩; obtain rfl := hw; have tok3 : True := trivial; clear tok2 _t)
          | fail)
      all_goals (try go_wp2_with fail)
      all_goals
        go_ret
        exact ⟨Hgf.out ▸ rfl, (hkw.trans hkb).trans hr1⟩
end Go.Proofs.Ytbefnhagmejpcaa
