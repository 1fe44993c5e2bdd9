/- Flow prices: the program's test; the yield, by reference and program. No condition. -/
import Derived.Test.YteaeedeaoddpcaaPrice2
namespace Go.Proofs.Yteaeedeaoddpcaa
open Go.RowKit Go.Sort

theorem flHas_mem {S : List Int} {a : Nat} : flHas S a = true ↔ (a : Int) ∈ S := by
  unfold flHas
  rw [List.any_eq_true]
  constructor
  · rintro ⟨y, hy, e⟩
    have : y = (a : Int) := by simpa using e
    exact this ▸ hy
  · intro h; exact ⟨_, h, by simp⟩
theorem pr_off {F : Fld} {S us ws : List Int} {a j : Nat} (hne : S ≠ []) (hj : j < us.length) (h : flHas S a = true) (h2 : ¬ lget us j ≤ dAt F j (a : Int) + lget ws a) : prB F S us ws = false := pr_no fun hb => by
  have h3 := ((prB_iff.1 hb).2.2.2 j hj).2
  exact h2 ((le_off hne).1 h3 _ (flHas_mem.1 h))
theorem pr_yes {F : Fld} {S us ws : List Int} (hne : S ≠ []) (hS : ∀ x ∈ S, 0 ≤ x ∧ x < F.op.length) (h1 : us.length = F.di.length) (h2 : ws.length = F.op.length) (h3 : allB us (-999) 999 = true) (h4 : allB ws 0 999 = true) (h5 : ∀ a, a < ws.length → 0 < lget ws a → flHas S a = true) (h6 : ∀ a, a < ws.length → ∀ j, j < us.length → flHas S a = true → lget us j ≤ dAt F j (a : Int) + lget ws a) : prB F S us ws = true := by
  refine prB_iff.2 ⟨h1, ⟨allB_iff.1 h4, h2⟩, h5, fun j hj => ⟨?_, (le_off hne).2 fun s hs => ?_⟩⟩
  · rw [lget_at hj]; exact allB_iff.1 h3 _ (List.getElem_mem hj)
  · obtain ⟨x1, x2⟩ := hS s hs
    obtain ⟨a, rfl⟩ := Int.eq_ofNat_of_zero_le x1
    exact h6 a (by omega) j hj (flHas_mem.2 hs)
theorem pr_ub {F : Fld} {S us ws : List Int} (h : allB us (-999) 999 = false) : prB F S us ws = false := pr_no fun hb => by
  have : allB us (-999) 999 = true := allB_iff.2 fun x hx => by
    obtain ⟨i, hi, rfl⟩ := List.mem_iff_getElem.1 hx
    have := ((prB_iff.1 hb).2.2.2 i hi).1
    rwa [lget_at hi] at this
  rw [this] at h; cases h
theorem pr_wb {F : Fld} {S us ws : List Int} (h : allB ws 0 999 = false) : prB F S us ws = false := pr_no fun hb => by
  rw [allB_iff.2 (prB_iff.1 hb).2.1.1] at h; cases h
theorem pr_wl {F : Fld} {S us ws : List Int} (h : ws.length ≠ F.op.length) : prB F S us ws = false := pr_no fun hb => h (prB_iff.1 hb).2.1.2
set_option maxRecDepth 100000 in
set_option maxHeartbeats 2000000 in
theorem areFlowPrices_any (f : Value) (F : Fld) (A3 : Option Addr) (S : List Int) (n3 c3 : Nat) (A4 : Option Addr) (us : List Int) (n4 c4 : Nat) (A5 : Option Addr) (ws : List Int) (n5 c5 : Nat) (w : World) (hf : FldAt w f F) (h3 : IntsAt w A3 S) (hn3 : S.length = n3) (h4 : IntsAt w A4 us) (hn4 : us.length = n4) (h5 : IntsAt w A5 ws) (hn5 : ws.length = n5) (ho : openedB F S = true) :
    Calls Try.prog 39 #[f, .slice A3 n3 c3, .slice A4 n4 c4, .slice A5 n5 c5] w fun e w' => e = .returned (.bool (prB F S us ws)) ∧ Kp w w' := by
  have hm4 : n4 ≤ 9223372036854775807 := hn4 ▸ h4.1
  have hm5 : n5 ≤ 9223372036854775807 := hn5 ▸ h5.1
  obtain ⟨A, c, B, d, rfl, hA, hB⟩ := hf
  have hk0 : Kp w (w.alloc (.cells #[.slice A F.op.length c, .slice B F.di.length d] 30)) := (Kp.refl w).alloc _
  obtain ⟨d0, d1⟩ := box2 w (.slice A F.op.length c) (.slice B F.di.length d) 30
  have hFA := FldAt.kp (show FldAt w (.agg #[.slice A F.op.length c, .slice B F.di.length d]) F from ⟨A, c, B, d, rfl, hA, hB⟩) hk0
  replace h3 := h3.kp hk0
  replace h4 := h4.kp hk0
  replace h5 := h5.kp hk0
  replace hB := hB.kp hk0
  have Hn3 := Lib.hid hn3; have Hn4 := Lib.hid hn4; have Hn5 := Lib.hid hn5
  have HO := Lib.hid (openedB_parts ho)
  have HS := Lib.hid (set_mem HO.out.2.1)
  have h7n := (goodF_iff.1 HO.out.1).1.2
  have h7d := (goodF_iff.1 HO.out.1).2.2.1
  have hbs : Hid (bagN S < 128) := Nat.lt_of_lt_of_le (bagN_lt HS.out) (Nat.pow_le_pow_right (n := 2) (by omega) h7n)
  clear hA hn3 hn4 hn5 ho
  by_cases hmd : n4 = F.di.length
  case neg =>
    have hne : ((n4 : Int) != (F.di.length : Int)) = true := by simp; omega
    have Hno : Hid (prB F S us ws = false) := pr_len (by rw [Hn4.out]; exact hmd)
    go_enter Try.func39, Try.ntmps39
    go_wp2_with fail
    go_ret
    exact ⟨ret_bool Hno.out.symm, hk0⟩
  have hne : ((n4 : Int) != (F.di.length : Int)) = false := by simp; omega
  have Hmd := Lib.hid hmd
  by_cases hmo : n5 = F.op.length
  case neg =>
    have hne : ((n5 : Int) != (F.op.length : Int)) = true := by simp; omega
    have Hno : Hid (prB F S us ws = false) := pr_wl (by rw [Hn5.out]; exact hmo)
    clear hmd
    go_enter Try.func39, Try.ntmps39
    go_wp2_with fail
    go_ret
    exact ⟨ret_bool Hno.out.symm, hk0⟩
  have hne2 : ((n5 : Int) != (F.op.length : Int)) = false := by simp; omega
  have Hmo := Lib.hid hmo
  have hn7 : n5 ≤ 7 := by omega
  have hd7 : n4 ≤ 7 := by omega
  clear hmd hmo
  go_enter Try.func39, Try.ntmps39
  go_wp2_with fail
  have hsz : Hid ((w.alloc (.cells #[.slice A F.op.length c, .slice B F.di.length d] 30)).heap.size = w.heap.size + 1) := by show _ = _; simp
  generalize w.alloc (.cells #[.slice A F.op.length c, .slice B F.di.length d] 30) = wb at *
  have hkb : Kp wb wb := Kp.refl _
  have hkw := hk0
  have CC := Lib.hid (areBetween_any A4 us n4 c4 (-999) 999 wb h4 Hn4.out)
  with_reducible refine Calls.mono CC.out ?_
  rintro e w1 ⟨rfl, hk1⟩
  clear CC
  replace hkb := hkb.trans hk1
  cases hg_ : allB us (-999) 999
  · have Hno : Hid (prB F S us ws = false) := pr_ub hg_
    clear hg_
    have q_d0 := hkb.get d0
    have q_d1 := hkb.get d1
    go_wp2_with fail
    go_ret
    exact ⟨ret_bool Hno.out.symm, hkw.trans hkb⟩
  have Hu := Lib.hid hg_
  clear hg_
  have q_d0 := hkb.get d0
  have q_d1 := hkb.get d1
  go_wp2_with fail
  have CC := Lib.hid (areBetween_any A5 ws n5 c5 0 999 _ (h5.kp hkb) Hn5.out)
  with_reducible refine Calls.mono CC.out ?_
  rintro e w2 ⟨rfl, hk2⟩
  clear CC q_d0 q_d1
  replace hkb := hkb.trans hk2
  cases hg_ : allB ws 0 999
  · have Hno : Hid (prB F S us ws = false) := pr_wb hg_
    clear hg_
    have q_d0 := hkb.get d0
    have q_d1 := hkb.get d1
    go_wp2_with fail
    go_ret
    exact ⟨ret_bool Hno.out.symm, hkw.trans hkb⟩
  have Hw := Lib.hid hg_
  have HwM := Lib.hid (lget_all (M := 999) (by omega) (allB_iff.1 hg_))
  clear hg_
  have q_d0 := hkb.get d0
  have q_d1 := hkb.get d1
  go_wp2_with fail
  have CC := Lib.hid (bagOf_any A3 S n3 c3 _ (h3.kp hkb) Hn3.out (fun x hx => by have := HS.out x hx; omega))
  with_reducible refine Calls.mono CC.out ?_
  rintro e w3 ⟨rfl, hw⟩
  obtain rfl := hw
  clear CC q_d0 q_d1
  have q_d0 := hkb.get d0
  have q_d1 := hkb.get d1
  go_wp2_with fail
  go_loopw [42] (fun iv wr => ∃ a : Nat, a ≤ n5 ∧ iv = .int .i64 a ∧ Hid (∀ b, b < a → 0 < lget ws b → flHas S b = true) ∧ Hid (∀ b, b < a → ∀ j, j < n4 → flHas S b = true → lget us j ≤ dAt F j (b : Int) + lget ws b) ∧ Kp wb wr) (fun iv _ => n5 - (intOf iv).toNat)
  case atStart => exact ⟨0, by omega, rfl, fun b hb => absurd hb (by omega), fun b hb => absurd hb (by omega), hkb⟩
  case round =>
    clear hkb
    obtain ⟨a, ha, rfl, Hc1, Hc2, hkb⟩ := hrel
    obtain ⟨wo, rfl⟩ : ∃ wo : World, wo = wr := ⟨_, rfl⟩
    by_cases hla : a < n5
    · have l5 : a < ws.length := by rw [Hn5.out]; exact hla
      have hao : a < F.op.length := by rw [← Hmo.out]; exact hla
      obtain ⟨wd, rfl, hwc⟩ := h5.at_ l5
      rw [← lget_at l5] at hwc
      have Hhb := Lib.hid (fl_bag (fun y hy => (HS.out y hy).1) a)
      have hbs' := hbs.out
      obtain ⟨m1, m2⟩ := HwM.out a
      clear q_d0 q_d1
      have q_d0 := hkb.get d0
      have q_d1 := hkb.get d1
      have q_hwc := hkb.get hwc
      go_wp2_with fail
      have CC := Lib.hid (has_any (bagN S) a wo (by omega) (by omega))
      with_reducible refine Calls.mono CC.out ?_
      rintro e wz ⟨rfl, hwz⟩
      obtain rfl := hwz
      rw [Hhb.out]
      clear CC
      have CH := Lib.hid (fun (wx : World) => by have h := has_any (bagN S) a wx (by omega) (by omega); rw [Hhb.out] at h; exact h)
      cases hh : flHas S a
      · rw [hh] at CH
        by_cases hp : 0 < lget ws a
        · have Hno : Hid (prB F S us ws = false) := pr_w l5 hp hh
          clear hh
          clear q_d0 q_d1 q_hwc
          have q_d0 := hkb.get d0
          have q_d1 := hkb.get d1
          have q_hwc := hkb.get hwc
          go_wp2_with fail
          go_ret
          exact ⟨ret_bool Hno.out.symm, hkw.trans hkb⟩
        · have Hd1 : Hid (∀ b, b < a + 1 → 0 < lget ws b → flHas S b = true) := fun b hb h => by
            by_cases e : b = a
            · subst e; exact absurd h hp
            · exact Hc1.out b (by omega) h
          have Hd2 : Hid (∀ b, b < a + 1 → ∀ j, j < n4 → flHas S b = true → lget us j ≤ dAt F j (b : Int) + lget ws b) := fun b hb j hj h => by
            by_cases e : b = a
            · subst e; rw [hh] at h; cases h
            · exact Hc2.out b (by omega) j hj h
          clear hh
          clear q_d0 q_d1 q_hwc
          have q_d0 := hkb.get d0
          have q_d1 := hkb.get d1
          have q_hwc := hkb.get hwc
          go_wp2_with fail
          go_loopw [58] (fun iv wr => ∃ j : Nat, j ≤ F.di.length ∧ iv = .int .i64 j ∧ Kp wb wr) (fun iv _ => F.di.length - (intOf iv).toNat)
          case atStart => exact ⟨0, by omega, rfl, hkb⟩
          case round =>
            clear hkb
            obtain ⟨j, hj, rfl, hkb⟩ := hrel
            by_cases hlj : j < F.di.length
            · obtain ⟨bd, A6, c6, rfl, hcr, hrr⟩ := hB.at_ hlj
              have q2 := hkb.get hcr
              clear q_d0 q_d1 q_hwc
              have q_d0 := hkb.get d0
              have q_d1 := hkb.get d1
              have q_hwc := hkb.get hwc
              go_wp2_with fail
              go_quiet ((go_at_call 61; exact Calls.same_quiet (CH.out _)))
              go_wp2_with fail
              go_roundw
              case rel => exact ⟨j + 1, by omega, by go_num, hkb.drewN _⟩
              case measure => simp [intOf]; omega
            · clear q_d0 q_d1 q_hwc
              have q_d0 := hkb.get d0
              have q_d1 := hkb.get d1
              have q_hwc := hkb.get hwc
              go_wp2_with fail
              go_roundw
              case rel => exact ⟨a + 1, by omega, by go_num, Hd1, Hd2, hkb⟩
              case measure => simp [intOf]; omega
      · rw [hh] at CH
        have Hd1 : Hid (∀ b, b < a + 1 → 0 < lget ws b → flHas S b = true) := fun b hb h => by
          by_cases e : b = a
          · subst e; exact hh
          · exact Hc1.out b (by omega) h
        have Hh := Lib.hid hh
        clear hh
        clear q_d0 q_d1 q_hwc
        have q_d0 := hkb.get d0
        have q_d1 := hkb.get d1
        have q_hwc := hkb.get hwc
        go_wp2_with fail
        go_loopw [58] (fun iv wr => ∃ j : Nat, j ≤ F.di.length ∧ iv = .int .i64 j ∧ Hid (∀ i, i < j → lget us i ≤ dAt F i (a : Int) + lget ws a) ∧ Kp wb wr) (fun iv _ => F.di.length - (intOf iv).toNat)
        case atStart => exact ⟨0, by omega, rfl, fun i hi => absurd hi (by omega), hkb⟩
        case round =>
          clear hkb
          obtain ⟨j, hj, rfl, Hi, hkb⟩ := hrel
          by_cases hlj : j < F.di.length
          · obtain ⟨bd, A6, c6, rfl, hcr, hrr⟩ := hB.at_ hlj
            have hrl : F.di[j].length = F.op.length := goodRow HO.out.1 hlj
            have lr : a < F.di[j].length := by rw [hrl]; exact hao
            obtain ⟨rd, rfl, hrc⟩ := hrr.at_ lr
            rw [dAt_at hlj lr] at hrc
            have hj4 : j < n4 := by rw [Hmd.out]; exact hlj
            have l4 : j < us.length := by rw [Hn4.out]; exact hj4
            obtain ⟨ud, rfl, huc⟩ := h4.at_ l4
            rw [← lget_at l4] at huc
            obtain ⟨m3, m4⟩ := dAt_bd HO.out.1 hlj (a : Int)
            clear hrl
            have q2 := hkb.get hcr
            have q3 := hkb.get hrc
            have q4 := hkb.get huc
            by_cases hle : lget us j ≤ dAt F j (a : Int) + lget ws a
            · have Hy : Hid (∀ i, i < j + 1 → lget us i ≤ dAt F i (a : Int) + lget ws a) := fun i hi => by
                by_cases e : i = j
                · subst e; exact hle
                · exact Hi.out i (by omega)
              have hgt : ¬ dAt F j (a : Int) + lget ws a < lget us j := by omega
              clear hle
              clear q_d0 q_d1 q_hwc
              have q_d0 := hkb.get d0
              have q_d1 := hkb.get d1
              have q_hwc := hkb.get hwc
              go_wp2_with fail
              go_quiet ((go_at_call 61; exact Calls.same_quiet (CH.out _)))
              go_wp2_with fail
              go_roundw
              case rel => exact ⟨j + 1, by omega, by go_num, Hy, hkb.drewN _⟩
              case measure => simp [intOf]; omega
            · have Hno : Hid (prB F S us ws = false) := pr_off HO.out.2.2 l4 Hh.out hle
              have hgt : dAt F j (a : Int) + lget ws a < lget us j := by omega
              clear hle
              clear q_d0 q_d1 q_hwc
              have q_d0 := hkb.get d0
              have q_d1 := hkb.get d1
              have q_hwc := hkb.get hwc
              go_wp2_with fail
              go_quiet ((go_at_call 61; exact Calls.same_quiet (CH.out _)))
              go_wp2_with fail
              go_ret
              exact ⟨ret_bool Hno.out.symm, hkw.trans (hkb.drewN _)⟩
          · have Hd2 : Hid (∀ b, b < a + 1 → ∀ j, j < n4 → flHas S b = true → lget us j ≤ dAt F j (b : Int) + lget ws b) := fun b hb i hi h => by
              by_cases e : b = a
              · subst e; exact Hi.out i (by have := Hmd.out; omega)
              · exact Hc2.out b (by omega) i hi h
            clear q_d0 q_d1 q_hwc
            have q_d0 := hkb.get d0
            have q_d1 := hkb.get d1
            have q_hwc := hkb.get hwc
            go_wp2_with fail
            go_roundw
            case rel => exact ⟨a + 1, by omega, by go_num, Hd1, Hd2, hkb⟩
            case measure => simp [intOf]; omega
    · have Hyes : Hid (prB F S us ws = true) := pr_yes HO.out.2.2 HS.out (by rw [Hn4.out]; exact Hmd.out) (by rw [Hn5.out]; exact Hmo.out) Hu.out Hw.out (fun b hb => Hc1.out b (by rw [Hn5.out] at hb; omega)) (fun b hb j hj => Hc2.out b (by rw [Hn5.out] at hb; omega) j (by rw [← Hn4.out]; exact hj))
      clear q_d0 q_d1
      have q_d0 := hkb.get d0
      have q_d1 := hkb.get d1
      go_wp2_with fail
      go_ret
      exact ⟨ret_bool Hyes.out.symm, hkw.trans hkb⟩
end Go.Proofs.Yteaeedeaoddpcaa
