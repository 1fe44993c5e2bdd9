/- Flow prices: the program's test; the yield, by reference and program; IsFlowProof: the yield; reference and program; Flows and flow prices: no flow costs less than prices yield. No condition. -/
import Derived.Test.YtcnceocgdghciaaQAs
namespace Go.Proofs.Ytcnceocgdghciaa
open Go.RowKit Go.Sort

theorem flHas_mem {S : List Int} {a : Nat} : flHas S a = true ↔ (a : Int) ∈ S := by
  unfold flHas
  rw [List.any_eq_true]
  constructor
  · rintro ⟨y, hy, e⟩
    have : y = (a : Int) := by simpa using e
    exact this ▸ hy
  · intro h; exact ⟨_, h, by simp⟩
theorem pr_off {F : Fld} {S us ws : List Int} {a j : Nat} (hne : S ≠ []) (hj : j < us.length) (h : flHas S a = true) (h2 : ¬ lget us j ≤ dAt F j (a : Int) + lget ws a) : prB F S us ws = false := pr_no fun hb => by
  have h3 := ((prB_iff.1 hb).2.2.2 j hj).2
  exact h2 ((le_off hne).1 h3 _ (flHas_mem.1 h))
theorem pr_yes {F : Fld} {S us ws : List Int} (hne : S ≠ []) (hS : ∀ x ∈ S, 0 ≤ x ∧ x < F.op.length) (h1 : us.length = F.di.length) (h2 : ws.length = F.op.length) (h3 : allB us (-999) 999 = true) (h4 : allB ws 0 999 = true) (h5 : ∀ a, a < ws.length → 0 < lget ws a → flHas S a = true) (h6 : ∀ a, a < ws.length → ∀ j, j < us.length → flHas S a = true → lget us j ≤ dAt F j (a : Int) + lget ws a) : prB F S us ws = true := by
  refine prB_iff.2 ⟨h1, ⟨allB_iff.1 h4, h2⟩, h5, fun j hj => ⟨?_, (le_off hne).2 fun s hs => ?_⟩⟩
  · rw [lget_at hj]; exact allB_iff.1 h3 _ (List.getElem_mem hj)
  · obtain ⟨x1, x2⟩ := hS s hs
    obtain ⟨a, rfl⟩ := Int.eq_ofNat_of_zero_le x1
    exact h6 a (by omega) j hj (flHas_mem.2 hs)
theorem pr_ub {F : Fld} {S us ws : List Int} (h : allB us (-999) 999 = false) : prB F S us ws = false := pr_no fun hb => by
  have : allB us (-999) 999 = true := allB_iff.2 fun x hx => by
    obtain ⟨i, hi, rfl⟩ := List.mem_iff_getElem.1 hx
    have := ((prB_iff.1 hb).2.2.2 i hi).1
    rwa [lget_at hi] at this
  rw [this] at h; cases h
theorem pr_wb {F : Fld} {S us ws : List Int} (h : allB ws 0 999 = false) : prB F S us ws = false := pr_no fun hb => by
  rw [allB_iff.2 (prB_iff.1 hb).2.1.1] at h; cases h
theorem pr_wl {F : Fld} {S us ws : List Int} (h : ws.length ≠ F.op.length) : prB F S us ws = false := pr_no fun hb => h (prB_iff.1 hb).2.1.2
set_option maxRecDepth 100000 in
set_option maxHeartbeats 2000000 in
theorem areFlowPrices_any (f : Value) (F : Fld) (A3 : Option Addr) (S : List Int) (n3 c3 : Nat) (A4 : Option Addr) (us : List Int) (n4 c4 : Nat) (A5 : Option Addr) (ws : List Int) (n5 c5 : Nat) (w : World) (hf : FldAt w f F) (h3 : IntsAt w A3 S) (hn3 : S.length = n3) (h4 : IntsAt w A4 us) (hn4 : us.length = n4) (h5 : IntsAt w A5 ws) (hn5 : ws.length = n5) (ho : openedB F S = true) :
    Calls Try.prog 31 #[f, .slice A3 n3 c3, .slice A4 n4 c4, .slice A5 n5 c5] w fun e w' => e = .returned (.bool (prB F S us ws)) ∧ Kp w w' := by
  have hm4 : n4 ≤ 9223372036854775807 := hn4 ▸ h4.1
  have hm5 : n5 ≤ 9223372036854775807 := hn5 ▸ h5.1
  obtain ⟨A, c, B, d, rfl, hA, hB⟩ := hf
  have hk0 : Kp w (w.alloc (.cells #[.slice A F.op.length c, .slice B F.di.length d] 27)) := (Kp.refl w).alloc _
  obtain ⟨d0, d1⟩ := box2 w (.slice A F.op.length c) (.slice B F.di.length d) 27
  have hFA := FldAt.kp (show FldAt w (.agg #[.slice A F.op.length c, .slice B F.di.length d]) F from ⟨A, c, B, d, rfl, hA, hB⟩) hk0
  replace h3 := h3.kp hk0
  replace h4 := h4.kp hk0
  replace h5 := h5.kp hk0
  replace hB := hB.kp hk0
  have Hn3 := Lib.hid hn3; have Hn4 := Lib.hid hn4; have Hn5 := Lib.hid hn5
  have HO := Lib.hid (openedB_parts ho)
  have HS := Lib.hid (set_mem HO.out.2.1)
  have h7n := (goodF_iff.1 HO.out.1).1.2
  have h7d := (goodF_iff.1 HO.out.1).2.2.1
  have hbs : Hid (bagN S < 128) := Nat.lt_of_lt_of_le (bagN_lt HS.out) (Nat.pow_le_pow_right (n := 2) (by omega) h7n)
  clear hA hn3 hn4 hn5 ho
  by_cases hmd : n4 = F.di.length
  case neg =>
    have hne : ((n4 : Int) != (F.di.length : Int)) = true := by simp; omega
    have Hno : Hid (prB F S us ws = false) := pr_len (by rw [Hn4.out]; exact hmd)
    go_enter Try.func31, Try.ntmps31
    go_wp2_with fail
    go_ret
    exact ⟨ret_bool Hno.out.symm, hk0⟩
  have hne : ((n4 : Int) != (F.di.length : Int)) = false := by simp; omega
  have Hmd := Lib.hid hmd
  by_cases hmo : n5 = F.op.length
  case neg =>
    have hne : ((n5 : Int) != (F.op.length : Int)) = true := by simp; omega
    have Hno : Hid (prB F S us ws = false) := pr_wl (by rw [Hn5.out]; exact hmo)
    clear hmd
    go_enter Try.func31, Try.ntmps31
    go_wp2_with fail
    go_ret
    exact ⟨ret_bool Hno.out.symm, hk0⟩
  have hne2 : ((n5 : Int) != (F.op.length : Int)) = false := by simp; omega
  have Hmo := Lib.hid hmo
  have hn7 : n5 ≤ 7 := by omega
  have hd7 : n4 ≤ 7 := by omega
  clear hmd hmo
  go_enter Try.func31, Try.ntmps31
  go_wp2_with fail
  have hsz : Hid ((w.alloc (.cells #[.slice A F.op.length c, .slice B F.di.length d] 27)).heap.size = w.heap.size + 1) := by show _ = _; simp
  generalize w.alloc (.cells #[.slice A F.op.length c, .slice B F.di.length d] 27) = wb at *
  have hkb : Kp wb wb := Kp.refl _
  have hkw := hk0
  have CC := Lib.hid (areBetween_any A4 us n4 c4 (-999) 999 wb h4 Hn4.out)
  with_reducible refine Calls.mono CC.out ?_
  rintro e w1 ⟨rfl, hk1⟩
  clear CC
  replace hkb := hkb.trans hk1
  cases hg_ : allB us (-999) 999
  · have Hno : Hid (prB F S us ws = false) := pr_ub hg_
    clear hg_
    have q_d0 := hkb.get d0
    have q_d1 := hkb.get d1
    go_wp2_with fail
    go_ret
    exact ⟨ret_bool Hno.out.symm, hkw.trans hkb⟩
  have Hu := Lib.hid hg_
  clear hg_
  have q_d0 := hkb.get d0
  have q_d1 := hkb.get d1
  go_wp2_with fail
  have CC := Lib.hid (areBetween_any A5 ws n5 c5 0 999 _ (h5.kp hkb) Hn5.out)
  with_reducible refine Calls.mono CC.out ?_
  rintro e w2 ⟨rfl, hk2⟩
  clear CC q_d0 q_d1
  replace hkb := hkb.trans hk2
  cases hg_ : allB ws 0 999
  · have Hno : Hid (prB F S us ws = false) := pr_wb hg_
    clear hg_
    have q_d0 := hkb.get d0
    have q_d1 := hkb.get d1
    go_wp2_with fail
    go_ret
    exact ⟨ret_bool Hno.out.symm, hkw.trans hkb⟩
  have Hw := Lib.hid hg_
  have HwM := Lib.hid (lget_all (M := 999) (by omega) (allB_iff.1 hg_))
  clear hg_
  have q_d0 := hkb.get d0
  have q_d1 := hkb.get d1
  go_wp2_with fail
  have CC := Lib.hid (bagOf_any A3 S n3 c3 _ (h3.kp hkb) Hn3.out (fun x hx => by have := HS.out x hx; omega))
  with_reducible refine Calls.mono CC.out ?_
  rintro e w3 ⟨rfl, hw⟩
  obtain rfl := hw
  clear CC q_d0 q_d1
  have q_d0 := hkb.get d0
  have q_d1 := hkb.get d1
  go_wp2_with fail
  go_loopw [42] (fun iv wr => ∃ a : Nat, a ≤ n5 ∧ iv = .int .i64 a ∧ Hid (∀ b, b < a → 0 < lget ws b → flHas S b = true) ∧ Hid (∀ b, b < a → ∀ j, j < n4 → flHas S b = true → lget us j ≤ dAt F j (b : Int) + lget ws b) ∧ Kp wb wr) (fun iv _ => n5 - (intOf iv).toNat)
  case atStart => exact ⟨0, by omega, rfl, fun b hb => absurd hb (by omega), fun b hb => absurd hb (by omega), hkb⟩
  case round =>
    clear hkb
    obtain ⟨a, ha, rfl, Hc1, Hc2, hkb⟩ := hrel
    obtain ⟨wo, rfl⟩ : ∃ wo : World, wo = wr := ⟨_, rfl⟩
    by_cases hla : a < n5
    · have l5 : a < ws.length := by rw [Hn5.out]; exact hla
      have hao : a < F.op.length := by rw [← Hmo.out]; exact hla
      obtain ⟨wd, rfl, hwc⟩ := h5.at_ l5
      rw [← lget_at l5] at hwc
      have Hhb := Lib.hid (fl_bag (fun y hy => (HS.out y hy).1) a)
      have hbs' := hbs.out
      obtain ⟨m1, m2⟩ := HwM.out a
      clear q_d0 q_d1
      have q_d0 := hkb.get d0
      have q_d1 := hkb.get d1
      have q_hwc := hkb.get hwc
      go_wp2_with fail
      have CC := Lib.hid (has_any (bagN S) a wo (by omega) (by omega))
      with_reducible refine Calls.mono CC.out ?_
      rintro e wz ⟨rfl, hwz⟩
      obtain rfl := hwz
      rw [Hhb.out]
      clear CC
      have CH := Lib.hid (fun (wx : World) => by have h := has_any (bagN S) a wx (by omega) (by omega); rw [Hhb.out] at h; exact h)
      cases hh : flHas S a
      · rw [hh] at CH
        by_cases hp : 0 < lget ws a
        · have Hno : Hid (prB F S us ws = false) := pr_w l5 hp hh
          clear hh
          clear q_d0 q_d1 q_hwc
          have q_d0 := hkb.get d0
          have q_d1 := hkb.get d1
          have q_hwc := hkb.get hwc
          go_wp2_with fail
          go_ret
          exact ⟨ret_bool Hno.out.symm, hkw.trans hkb⟩
        · have Hd1 : Hid (∀ b, b < a + 1 → 0 < lget ws b → flHas S b = true) := fun b hb h => by
            by_cases e : b = a
            · subst e; exact absurd h hp
            · exact Hc1.out b (by omega) h
          have Hd2 : Hid (∀ b, b < a + 1 → ∀ j, j < n4 → flHas S b = true → lget us j ≤ dAt F j (b : Int) + lget ws b) := fun b hb j hj h => by
            by_cases e : b = a
            · subst e; rw [hh] at h; cases h
            · exact Hc2.out b (by omega) j hj h
          clear hh
          clear q_d0 q_d1 q_hwc
          have q_d0 := hkb.get d0
          have q_d1 := hkb.get d1
          have q_hwc := hkb.get hwc
          go_wp2_with fail
          go_loopw [58] (fun iv wr => ∃ j : Nat, j ≤ F.di.length ∧ iv = .int .i64 j ∧ Kp wb wr) (fun iv _ => F.di.length - (intOf iv).toNat)
          case atStart => exact ⟨0, by omega, rfl, hkb⟩
          case round =>
            clear hkb
            obtain ⟨j, hj, rfl, hkb⟩ := hrel
            by_cases hlj : j < F.di.length
            · obtain ⟨bd, A6, c6, rfl, hcr, hrr⟩ := hB.at_ hlj
              have q2 := hkb.get hcr
              clear q_d0 q_d1 q_hwc
              have q_d0 := hkb.get d0
              have q_d1 := hkb.get d1
              have q_hwc := hkb.get hwc
              go_wp2_with fail
              go_quiet ((go_at_call 57; exact Calls.same_quiet (CH.out _)))
              go_wp2_with fail
              go_roundw
              case rel => exact ⟨j + 1, by omega, by go_num, hkb.drewN _⟩
              case measure => simp [intOf]; omega
            · clear q_d0 q_d1 q_hwc
              have q_d0 := hkb.get d0
              have q_d1 := hkb.get d1
              have q_hwc := hkb.get hwc
              go_wp2_with fail
              go_roundw
              case rel => exact ⟨a + 1, by omega, by go_num, Hd1, Hd2, hkb⟩
              case measure => simp [intOf]; omega
      · rw [hh] at CH
        have Hd1 : Hid (∀ b, b < a + 1 → 0 < lget ws b → flHas S b = true) := fun b hb h => by
          by_cases e : b = a
          · subst e; exact hh
          · exact Hc1.out b (by omega) h
        have Hh := Lib.hid hh
        clear hh
        clear q_d0 q_d1 q_hwc
        have q_d0 := hkb.get d0
        have q_d1 := hkb.get d1
        have q_hwc := hkb.get hwc
        go_wp2_with fail
        go_loopw [58] (fun iv wr => ∃ j : Nat, j ≤ F.di.length ∧ iv = .int .i64 j ∧ Hid (∀ i, i < j → lget us i ≤ dAt F i (a : Int) + lget ws a) ∧ Kp wb wr) (fun iv _ => F.di.length - (intOf iv).toNat)
        case atStart => exact ⟨0, by omega, rfl, fun i hi => absurd hi (by omega), hkb⟩
        case round =>
          clear hkb
          obtain ⟨j, hj, rfl, Hi, hkb⟩ := hrel
          by_cases hlj : j < F.di.length
          · obtain ⟨bd, A6, c6, rfl, hcr, hrr⟩ := hB.at_ hlj
            have hrl : F.di[j].length = F.op.length := goodRow HO.out.1 hlj
            have lr : a < F.di[j].length := by rw [hrl]; exact hao
            obtain ⟨rd, rfl, hrc⟩ := hrr.at_ lr
            rw [dAt_at hlj lr] at hrc
            have hj4 : j < n4 := by rw [Hmd.out]; exact hlj
            have l4 : j < us.length := by rw [Hn4.out]; exact hj4
            obtain ⟨ud, rfl, huc⟩ := h4.at_ l4
            rw [← lget_at l4] at huc
            obtain ⟨m3, m4⟩ := dAt_bd HO.out.1 hlj (a : Int)
            clear hrl
            have q2 := hkb.get hcr
            have q3 := hkb.get hrc
            have q4 := hkb.get huc
            by_cases hle : lget us j ≤ dAt F j (a : Int) + lget ws a
            · have Hy : Hid (∀ i, i < j + 1 → lget us i ≤ dAt F i (a : Int) + lget ws a) := fun i hi => by
                by_cases e : i = j
                · subst e; exact hle
                · exact Hi.out i (by omega)
              have hgt : ¬ dAt F j (a : Int) + lget ws a < lget us j := by omega
              clear hle
              clear q_d0 q_d1 q_hwc
              have q_d0 := hkb.get d0
              have q_d1 := hkb.get d1
              have q_hwc := hkb.get hwc
              go_wp2_with fail
              go_quiet ((go_at_call 57; exact Calls.same_quiet (CH.out _)))
              go_wp2_with fail
              go_roundw
              case rel => exact ⟨j + 1, by omega, by go_num, Hy, hkb.drewN _⟩
              case measure => simp [intOf]; omega
            · have Hno : Hid (prB F S us ws = false) := pr_off HO.out.2.2 l4 Hh.out hle
              have hgt : dAt F j (a : Int) + lget ws a < lget us j := by omega
              clear hle
              clear q_d0 q_d1 q_hwc
              have q_d0 := hkb.get d0
              have q_d1 := hkb.get d1
              have q_hwc := hkb.get hwc
              go_wp2_with fail
              go_quiet ((go_at_call 57; exact Calls.same_quiet (CH.out _)))
              go_wp2_with fail
              go_ret
              exact ⟨ret_bool Hno.out.symm, hkw.trans (hkb.drewN _)⟩
          · have Hd2 : Hid (∀ b, b < a + 1 → ∀ j, j < n4 → flHas S b = true → lget us j ≤ dAt F j (b : Int) + lget ws b) := fun b hb i hi h => by
              by_cases e : b = a
              · subst e; exact Hi.out i (by have := Hmd.out; omega)
              · exact Hc2.out b (by omega) i hi h
            clear q_d0 q_d1 q_hwc
            have q_d0 := hkb.get d0
            have q_d1 := hkb.get d1
            have q_hwc := hkb.get hwc
            go_wp2_with fail
            go_roundw
            case rel => exact ⟨a + 1, by omega, by go_num, Hd1, Hd2, hkb⟩
            case measure => simp [intOf]; omega
    · have Hyes : Hid (prB F S us ws = true) := pr_yes HO.out.2.2 HS.out (by rw [Hn4.out]; exact Hmd.out) (by rw [Hn5.out]; exact Hmo.out) Hu.out Hw.out (fun b hb => Hc1.out b (by rw [Hn5.out] at hb; omega)) (fun b hb j hj => Hc2.out b (by rw [Hn5.out] at hb; omega) j (by rw [← Hn4.out]; exact hj))
      clear q_d0 q_d1
      have q_d0 := hkb.get d0
      have q_d1 := hkb.get d1
      go_wp2_with fail
      go_ret
      exact ⟨ret_bool Hyes.out.symm, hkw.trans hkb⟩
end Go.Proofs.Ytcnceocgdghciaa

namespace Go.Proofs.Ytcnceocgdghciaa
open Go.RowKit Go.Sort

def yP (xs ys : List Int) (k : Nat) : Int := sumTo (fun j => lget xs j * lget ys j) k
def yieldF (rooms needs us ws : List Int) : Int := yP needs us needs.length - yP rooms ws rooms.length
theorem yP_succ (xs ys : List Int) (k : Nat) : yP xs ys (k + 1) = yP xs ys k + lget xs k * lget ys k := sumTo_succ _ _
theorem mul_bd {x y : Int} (h0 : 0 ≤ x) (h1 : x ≤ 20) (h2 : -999 ≤ y) (h3 : y ≤ 999) : -19980 ≤ x * y ∧ x * y ≤ 19980 := by
  have a1 := Int.mul_le_mul_of_nonneg_left h3 h0
  have a2 := Int.mul_le_mul_of_nonneg_left h2 h0
  omega
theorem yP_bd {xs ys : List Int} (h : ∀ i, 0 ≤ lget xs i ∧ lget xs i ≤ 20) (h2 : ∀ i, -999 ≤ lget ys i ∧ lget ys i ≤ 999) : ∀ k : Nat, -((k : Int) * 19980) ≤ yP xs ys k ∧ yP xs ys k ≤ (k : Int) * 19980
  | 0 => by simp [yP, sumTo_zero]
  | k + 1 => by
    have h3 := yP_bd h h2 k
    obtain ⟨a1, a2⟩ := h k
    obtain ⟨a3, a4⟩ := h2 k
    have h4 := mul_bd a1 a2 a3 a4
    rw [yP_succ]; omega
theorem lget_sall {xs : List Int} (h : ∀ x ∈ xs, -999 ≤ x ∧ x ≤ 999) (i : Nat) : -999 ≤ lget xs i ∧ lget xs i ≤ 999 := by
  by_cases hi : i < xs.length
  · rw [lget_at hi]; exact h _ (List.getElem_mem hi)
  · have : lget xs i = 0 := by unfold lget; rw [List.getD_eq_getElem?_getD, List.getElem?_eq_none (by omega)]; rfl
    rw [this]; omega
set_option maxRecDepth 100000 in
set_option maxHeartbeats 2000000 in
theorem l7Yield_any (A1 : Option Addr) (rooms : List Int) (n1 c1 : Nat) (A2 : Option Addr) (needs : List Int) (n2 c2 : Nat) (A4 : Option Addr) (us : List Int) (n4 c4 : Nat) (A5 : Option Addr) (ws : List Int) (n5 c5 : Nat) (w : World) (h1 : IntsAt w A1 rooms) (hn1 : rooms.length = n1) (h2 : IntsAt w A2 needs) (hn2 : needs.length = n2) (h4 : IntsAt w A4 us) (hn4 : us.length = n4) (h5 : IntsAt w A5 ws) (hn5 : ws.length = n5) (e1 : n4 = n2) (e2 : n5 = n1) (s1 : n1 ≤ 7) (s2 : n2 ≤ 7) (b1 : ∀ i, 0 ≤ lget rooms i ∧ lget rooms i ≤ 20) (b2 : ∀ i, 0 ≤ lget needs i ∧ lget needs i ≤ 5) (b3 : ∀ i, -999 ≤ lget us i ∧ lget us i ≤ 999) (b4 : ∀ i, -999 ≤ lget ws i ∧ lget ws i ≤ 999) :
    Calls Try.prog 35 #[.slice A1 n1 c1, .slice A2 n2 c2, .slice A4 n4 c4, .slice A5 n5 c5] w fun e w' => e = .returned (.int .i64 (yieldF rooms needs us ws)) ∧ Kp w w' := by
  have Hn1 := Lib.hid hn1; have Hn2 := Lib.hid hn2; have Hn4 := Lib.hid hn4; have Hn5 := Lib.hid hn5
  have B1 := Lib.hid b1; have B2 := Lib.hid b2; have B3 := Lib.hid b3; have B4 := Lib.hid b4
  have Q1 := Lib.hid (yP_bd (xs := needs) (ys := us) (fun i => by have := b2 i; omega) b3)
  have Q2 := Lib.hid (yP_bd (xs := rooms) (ys := ws) b1 b4)
  have HY : Hid (yieldF rooms needs us ws = yP needs us n2 - yP rooms ws n1) := by show _ = _; rw [yieldF, hn1, hn2]
  subst e1 e2
  clear hn1 hn2 hn4 hn5 b1 b2 b3 b4
  go_enter Try.func35, Try.ntmps35
  go_wp2_with fail
  go_loopw [9, 10] (fun sv iv wr => ∃ j : Nat, j ≤ n4 ∧ iv = .int .i64 j ∧ sv = .int .i64 (yP needs us j) ∧ Kp w wr) (fun _ iv _ => n4 - (intOf iv).toNat)
  case atStart => exact ⟨0, by omega, rfl, rfl, Kp.refl _⟩
  case round =>
    obtain ⟨j, hj, rfl, rfl, hkb⟩ := hrel
    obtain ⟨p1, p2⟩ := Q1.out j
    by_cases hlj : j < n4
    · have l2 : j < needs.length := by rw [Hn2.out]; exact hlj
      have l4 : j < us.length := by rw [Hn4.out]; exact hlj
      obtain ⟨nd, rfl, hnc⟩ := h2.at_ l2
      obtain ⟨ud, rfl, huc⟩ := h4.at_ l4
      rw [← lget_at l2] at hnc
      rw [← lget_at l4] at huc
      obtain ⟨x1, x2⟩ := B2.out j
      obtain ⟨x3, x4⟩ := B3.out j
      obtain ⟨x5, x6⟩ := mul_bd x1 (by omega) x3 x4
      have Hs := Lib.hid (yP_succ needs us j)
      have q0 := hkb.get hnc
      have q1 := hkb.get huc
      generalize yP needs us j = y at *
      go_wp2_with fail
      go_quiet (fail)
      go_wp2_with fail
      go_roundw
      case rel => exact ⟨j + 1, by omega, by go_num, by rw [Hs.out], hkb.drewN _⟩
      case measure => simp [intOf]; omega
    · obtain rfl : j = n4 := by omega
      go_wp2_with fail
      go_loopw [9, 11] (fun sv iv wr => ∃ a : Nat, a ≤ n5 ∧ iv = .int .i64 a ∧ sv = .int .i64 (yP needs us j - yP rooms ws a) ∧ Kp w wr) (fun _ iv _ => n5 - (intOf iv).toNat)
      case atStart => exact ⟨0, by omega, rfl, by rw [show yP rooms ws 0 = 0 from rfl]; go_num, hkb⟩
      case round =>
        clear hkb
        obtain ⟨a, ha, rfl, rfl, hkb⟩ := hrel
        obtain ⟨p3, p4⟩ := Q2.out a
        by_cases hla : a < n5
        · have l1 : a < rooms.length := by rw [Hn1.out]; exact hla
          have l5 : a < ws.length := by rw [Hn5.out]; exact hla
          obtain ⟨rd, rfl, hrc⟩ := h1.at_ l1
          obtain ⟨wd, rfl, hwc⟩ := h5.at_ l5
          rw [← lget_at l1] at hrc
          rw [← lget_at l5] at hwc
          obtain ⟨x1, x2⟩ := B1.out a
          obtain ⟨x3, x4⟩ := B4.out a
          obtain ⟨x5, x6⟩ := mul_bd x1 x2 x3 x4
          have Hs := Lib.hid (yP_succ rooms ws a)
          have q0 := hkb.get hrc
          have q1 := hkb.get hwc
          go_wp2_with fail
          go_quiet (fail)
          go_wp2_with fail
          go_roundw
          case rel => exact ⟨a + 1, by omega, by go_num, by rw [Hs.out]; go_num, hkb.drewN _⟩
          case measure => simp [intOf]; omega
        · obtain rfl : a = n5 := by omega
          go_wp2_with fail
          go_ret
          exact ⟨ret_int HY.out.symm, hkb⟩
set_option maxRecDepth 100000 in
set_option maxHeartbeats 2000000 in
theorem yield_any (A1 : Option Addr) (rooms : List Int) (n1 c1 : Nat) (A2 : Option Addr) (needs : List Int) (n2 c2 : Nat) (A4 : Option Addr) (us : List Int) (n4 c4 : Nat) (A5 : Option Addr) (ws : List Int) (n5 c5 : Nat) (w : World) (h1 : IntsAt w A1 rooms) (hn1 : rooms.length = n1) (h2 : IntsAt w A2 needs) (hn2 : needs.length = n2) (h4 : IntsAt w A4 us) (hn4 : us.length = n4) (h5 : IntsAt w A5 ws) (hn5 : ws.length = n5) (e1 : n4 = n2) (e2 : n5 = n1) (s1 : n1 ≤ 7) (s2 : n2 ≤ 7) (b1 : ∀ i, 0 ≤ lget rooms i ∧ lget rooms i ≤ 20) (b2 : ∀ i, 0 ≤ lget needs i ∧ lget needs i ≤ 5) (b3 : ∀ i, -999 ≤ lget us i ∧ lget us i ≤ 999) (b4 : ∀ i, -999 ≤ lget ws i ∧ lget ws i ≤ 999) :
    Calls Try.prog 34 #[.slice A1 n1 c1, .slice A2 n2 c2, .slice A4 n4 c4, .slice A5 n5 c5] w fun e w' => e = .returned (.int .i64 (yieldF rooms needs us ws)) ∧ Kp w w' := by
  have Hn1 := Lib.hid hn1; have Hn2 := Lib.hid hn2; have Hn4 := Lib.hid hn4; have Hn5 := Lib.hid hn5
  have B1 := Lib.hid b1; have B2 := Lib.hid b2; have B3 := Lib.hid b3; have B4 := Lib.hid b4
  have Q1 := Lib.hid (yP_bd (xs := needs) (ys := us) (fun i => by have := b2 i; omega) b3)
  have Q2 := Lib.hid (yP_bd (xs := rooms) (ys := ws) b1 b4)
  have HY : Hid (yieldF rooms needs us ws = yP needs us n2 - yP rooms ws n1) := by show _ = _; rw [yieldF, hn1, hn2]
  subst e1 e2
  clear hn1 hn2 hn4 hn5 b1 b2 b3 b4
  go_enter Try.func34, Try.ntmps34
  go_wp2_with fail
  go_loopw [9, 16] (fun sv iv wr => ∃ j : Nat, j ≤ n4 ∧ iv = .int .i64 j ∧ sv = .int .i64 (yP needs us j) ∧ Kp w wr) (fun _ iv _ => n4 - (intOf iv).toNat)
  case atStart => exact ⟨0, by omega, rfl, rfl, Kp.refl _⟩
  case round =>
    obtain ⟨j, hj, rfl, rfl, hkb⟩ := hrel
    obtain ⟨p1, p2⟩ := Q1.out j
    by_cases hlj : j < n4
    · have l2 : j < needs.length := by rw [Hn2.out]; exact hlj
      have l4 : j < us.length := by rw [Hn4.out]; exact hlj
      obtain ⟨nd, rfl, hnc⟩ := h2.at_ l2
      obtain ⟨ud, rfl, huc⟩ := h4.at_ l4
      rw [← lget_at l2] at hnc
      rw [← lget_at l4] at huc
      obtain ⟨x1, x2⟩ := B2.out j
      obtain ⟨x3, x4⟩ := B3.out j
      obtain ⟨x5, x6⟩ := mul_bd x1 (by omega) x3 x4
      have Hs := Lib.hid (yP_succ needs us j)
      have q0 := hkb.get hnc
      have q1 := hkb.get huc
      generalize yP needs us j = y at *
      go_wp2_with fail
      go_roundw
      case rel => exact ⟨j + 1, by omega, by go_num, by rw [Hs.out], hkb⟩
      case measure => simp [intOf]; omega
    · obtain rfl : j = n4 := by omega
      go_wp2_with fail
      go_loopw [9, 32] (fun sv iv wr => ∃ a : Nat, a ≤ n5 ∧ iv = .int .i64 a ∧ sv = .int .i64 (yP needs us j - yP rooms ws a) ∧ Kp w wr) (fun _ iv _ => n5 - (intOf iv).toNat)
      case atStart => exact ⟨0, by omega, rfl, by rw [show yP rooms ws 0 = 0 from rfl]; go_num, hkb⟩
      case round =>
        clear hkb
        obtain ⟨a, ha, rfl, rfl, hkb⟩ := hrel
        obtain ⟨p3, p4⟩ := Q2.out a
        by_cases hla : a < n5
        · have l1 : a < rooms.length := by rw [Hn1.out]; exact hla
          have l5 : a < ws.length := by rw [Hn5.out]; exact hla
          obtain ⟨rd, rfl, hrc⟩ := h1.at_ l1
          obtain ⟨wd, rfl, hwc⟩ := h5.at_ l5
          rw [← lget_at l1] at hrc
          rw [← lget_at l5] at hwc
          obtain ⟨x1, x2⟩ := B1.out a
          obtain ⟨x3, x4⟩ := B4.out a
          obtain ⟨x5, x6⟩ := mul_bd x1 x2 x3 x4
          have Hs := Lib.hid (yP_succ rooms ws a)
          have q0 := hkb.get hrc
          have q1 := hkb.get hwc
          go_wp2_with fail
          go_roundw
          case rel => exact ⟨a + 1, by omega, by go_num, by rw [Hs.out]; go_num, hkb⟩
          case measure => simp [intOf]; omega
        · obtain rfl : a = n5 := by omega
          go_wp2_with fail
          go_ret
          exact ⟨ret_int HY.out.symm, hkb⟩
/-- What FlowYield answers. -/
def fyIn (F : Fld) (rooms needs S us ws : List Int) : Bool := haulB F rooms needs S && prB F S us ws
def fyV (F : Fld) (rooms needs S us ws : List Int) : Int := if fyIn F rooms needs S us ws = true then yieldF rooms needs us ws else 0
theorem fy_no {F : Fld} {rooms needs S us ws : List Int} (h : fyIn F rooms needs S us ws = false) : Ending.returned (.tuple #[.int .i64 0, .bool false]) = .returned (.tuple #[.int .i64 (fyV F rooms needs S us ws), .bool (fyIn F rooms needs S us ws)]) := by simp [fyV, h]
theorem fy_yes {F : Fld} {rooms needs S us ws : List Int} (h : fyIn F rooms needs S us ws = true) : Ending.returned (.tuple #[.int .i64 (yieldF rooms needs us ws), .bool true]) = .returned (.tuple #[.int .i64 (fyV F rooms needs S us ws), .bool (fyIn F rooms needs S us ws)]) := by simp [fyV, h]
structure FyP (F : Fld) (rooms needs us ws : List Int) (n1 n2 n4 n5 : Nat) : Prop where
  e1 : n4 = n2
  e2 : n5 = n1
  s1 : n1 ≤ 7
  s2 : n2 ≤ 7
  b1 : ∀ i, 0 ≤ lget rooms i ∧ lget rooms i ≤ 20
  b2 : ∀ i, 0 ≤ lget needs i ∧ lget needs i ≤ 5
  b3 : ∀ i, -999 ≤ lget us i ∧ lget us i ≤ 999
  b4 : ∀ i, -999 ≤ lget ws i ∧ lget ws i ≤ 999
theorem fy_parts {F : Fld} {rooms needs S us ws : List Int} {n1 n2 n4 n5 : Nat} (h : haulB F rooms needs S = true) (h2 : prB F S us ws = true) (hn1 : rooms.length = n1) (hn2 : needs.length = n2) (hn4 : us.length = n4) (hn5 : ws.length = n5) : FyP F rooms needs us ws n1 n2 n4 n5 := by
  obtain ⟨h3, h4, h5⟩ := haulB_iff.1 h
  obtain ⟨p1, p2, p3, p4⟩ := prB_iff.1 h2
  have g := goodF_iff.1 (openedB_parts h3).1
  refine ⟨by rw [← hn4, ← hn2, p1, h5.2], by rw [← hn5, ← hn1, p2.2, h4.2], by rw [← hn1, h4.2]; exact g.1.2, by rw [← hn2, h5.2]; exact g.2.2.1, lget_all (by omega) h4.1, lget_all (by omega) h5.1, lget_sall fun x hx => ?_, lget_sall fun x hx => ?_⟩
  · obtain ⟨i, hi, rfl⟩ := List.mem_iff_getElem.1 hx
    have := (p4 i hi).1
    rwa [lget_at hi] at this
  · have := p2.1 x hx; omega
def ipIn (F : Fld) (rooms needs S : List Int) (flow : List (List Int)) (us ws : List Int) : Bool := fcIn F rooms needs S flow && prB F S us ws
def ipR (F : Fld) (rooms needs S : List Int) (flow : List (List Int)) (us ws : List Int) : Bool := ipIn F rooms needs S flow us ws && decide (costFl F flow F.di.length = yieldF rooms needs us ws)
theorem ip_no {F : Fld} {rooms needs S : List Int} {flow : List (List Int)} {us ws : List Int} (h : ipIn F rooms needs S flow us ws = false) : Ending.returned (.tuple #[.bool false, .bool false]) = .returned (.tuple #[.bool (ipR F rooms needs S flow us ws), .bool (ipIn F rooms needs S flow us ws)]) := by simp [ipR, h]
theorem ip_yes {F : Fld} {rooms needs S : List Int} {flow : List (List Int)} {us ws : List Int} {b : Bool} (h : ipIn F rooms needs S flow us ws = true) (hb : b = decide (costFl F flow F.di.length = yieldF rooms needs us ws)) : Ending.returned (.tuple #[.bool b, .bool true]) = .returned (.tuple #[.bool (ipR F rooms needs S flow us ws), .bool (ipIn F rooms needs S flow us ws)]) := by simp [ipR, h, hb]
set_option maxRecDepth 100000 in
set_option maxHeartbeats 400000 in
theorem specFy_any (f : Value) (F : Fld) (A1 : Option Addr) (rooms : List Int) (n1 c1 : Nat) (A2 : Option Addr) (needs : List Int) (n2 c2 : Nat) (A3 : Option Addr) (S : List Int) (n3 c3 : Nat) (A4 : Option Addr) (us : List Int) (n4 c4 : Nat) (A5 : Option Addr) (ws : List Int) (n5 c5 : Nat) (w : World) (hf : FldAt w f F) (h1 : IntsAt w A1 rooms) (hn1 : rooms.length = n1) (h2 : IntsAt w A2 needs) (hn2 : needs.length = n2) (h3 : IntsAt w A3 S) (hn3 : S.length = n3) (h4 : IntsAt w A4 us) (hn4 : us.length = n4) (h5 : IntsAt w A5 ws) (hn5 : ws.length = n5) :
    Calls Try.prog 13 #[f, .slice A1 n1 c1, .slice A2 n2 c2, .slice A3 n3 c3, .slice A4 n4 c4, .slice A5 n5 c5] w fun e w' => e = .returned (.tuple #[.int .i64 (fyV F rooms needs S us ws), .bool (fyIn F rooms needs S us ws)]) ∧ Kp w w' := by
  obtain ⟨A, c, B, d, rfl, hA, hB⟩ := hf
  have hk0 : Kp w (w.alloc (.cells #[.slice A F.op.length c, .slice B F.di.length d] 27)) := (Kp.refl w).alloc _
  obtain ⟨d0, d1⟩ := box2 w (.slice A F.op.length c) (.slice B F.di.length d) 27
  have hFA := FldAt.kp (show FldAt w (.agg #[.slice A F.op.length c, .slice B F.di.length d]) F from ⟨A, c, B, d, rfl, hA, hB⟩) hk0
  replace h1 := h1.kp hk0
  replace h2 := h2.kp hk0
  replace h3 := h3.kp hk0
  replace h4 := h4.kp hk0
  replace h5 := h5.kp hk0
  have Hn1 := Lib.hid hn1; have Hn2 := Lib.hid hn2; have Hn3 := Lib.hid hn3; have Hn4 := Lib.hid hn4; have Hn5 := Lib.hid hn5
  clear hA hB hn1 hn2 hn3 hn4 hn5
  go_enter Try.func13, Try.ntmps13
  go_wp2_with fail
  have hsz : Hid ((w.alloc (.cells #[.slice A F.op.length c, .slice B F.di.length d] 27)).heap.size = w.heap.size + 1) := by show _ = _; simp
  generalize w.alloc (.cells #[.slice A F.op.length c, .slice B F.di.length d] 27) = wb at *
  have hkb : Kp wb wb := Kp.refl _
  have hkw := hk0
  have q_d0 := hkb.get d0
  have q_d1 := hkb.get d1
  go_wp2_with fail
  have CC := Lib.hid (l7Given_any _ F A1 rooms n1 c1 A2 needs n2 c2 A3 S n3 c3 _ (hFA.kp hkb) (h1.kp hkb) Hn1.out (h2.kp hkb) Hn2.out (h3.kp hkb) Hn3.out)
  with_reducible refine Calls.mono CC.out ?_
  rintro e w1 ⟨rfl, hk1⟩
  clear CC q_d0 q_d1
  replace hkb := hkb.trans hk1
  cases hg_ : haulB F rooms needs S
  · have Hno : Hid (fyIn F rooms needs S us ws = false) := by show _ = _; rw [fyIn, hg_]; rfl
    clear hg_
    have q_d0 := hkb.get d0
    have q_d1 := hkb.get d1
    go_wp2_with fail
    go_ret2
    exact ⟨fy_no Hno.out, hkw.trans hkb⟩
  have HH := Lib.hid hg_
  clear hg_
  have q_d0 := hkb.get d0
  have q_d1 := hkb.get d1
  go_wp2_with fail
  have CC := Lib.hid (l7Prices_any _ F A3 S n3 c3 A4 us n4 c4 A5 ws n5 c5 _ (hFA.kp hkb) (h3.kp hkb) Hn3.out (h4.kp hkb) Hn4.out (h5.kp hkb) Hn5.out (haulB_iff.1 HH.out).1)
  with_reducible refine Calls.mono CC.out ?_
  rintro e w2 ⟨rfl, hk2⟩
  clear CC q_d0 q_d1
  replace hkb := hkb.trans hk2
  cases hg_ : prB F S us ws
  · have Hno : Hid (fyIn F rooms needs S us ws = false) := by show _ = _; rw [fyIn, hg_, Bool.and_false]
    clear hg_
    have q_d0 := hkb.get d0
    have q_d1 := hkb.get d1
    go_wp2_with fail
    go_ret2
    exact ⟨fy_no Hno.out, hkw.trans hkb⟩
  have HP := Lib.hid (fy_parts HH.out hg_ Hn1.out Hn2.out Hn4.out Hn5.out)
  have Hy : Hid (fyIn F rooms needs S us ws = true) := by show _ = _; rw [fyIn, hg_, HH.out]; rfl
  clear hg_
  have q_d0 := hkb.get d0
  have q_d1 := hkb.get d1
  go_wp2_with fail
  have CC := Lib.hid (l7Yield_any A1 rooms n1 c1 A2 needs n2 c2 A4 us n4 c4 A5 ws n5 c5 _ (h1.kp hkb) Hn1.out (h2.kp hkb) Hn2.out (h4.kp hkb) Hn4.out (h5.kp hkb) Hn5.out HP.out.e1 HP.out.e2 HP.out.s1 HP.out.s2 HP.out.b1 HP.out.b2 HP.out.b3 HP.out.b4)
  with_reducible refine Calls.mono CC.out ?_
  rintro e w3 ⟨rfl, hk3⟩
  clear CC q_d0 q_d1
  replace hkb := hkb.trans hk3
  have q_d0 := hkb.get d0
  have q_d1 := hkb.get d1
  go_wp2_with fail
  go_ret2
  exact ⟨fy_yes Hy.out, hkw.trans hkb⟩
theorem fc_off {F : Fld} {rooms needs S : List Int} {flow : List (List Int)} {us ws : List Int} (h : fcIn F rooms needs S flow = false) : ipIn F rooms needs S flow us ws = false := by rw [ipIn, h]; rfl
theorem fy_ip {F : Fld} {rooms needs S : List Int} {flow : List (List Int)} {us ws : List Int} (h : fcIn F rooms needs S flow = true) : ipIn F rooms needs S flow us ws = fyIn F rooms needs S us ws := by rw [ipIn, h, fyIn, (fc_parts h).1]
theorem fc_val {F : Fld} {rooms needs S : List Int} {flow : List (List Int)} (h : fcIn F rooms needs S flow = true) : fcV F rooms needs S flow = costFl F flow F.di.length := if_pos h
theorem fy_val {F : Fld} {rooms needs S us ws : List Int} (h : fyIn F rooms needs S us ws = true) : fyV F rooms needs S us ws = yieldF rooms needs us ws := if_pos h
set_option maxRecDepth 100000 in
set_option maxHeartbeats 400000 in
theorem specIp_any (f : Value) (F : Fld) (A1 : Option Addr) (rooms : List Int) (n1 c1 : Nat) (A2 : Option Addr) (needs : List Int) (n2 c2 : Nat) (A3 : Option Addr) (S : List Int) (n3 c3 : Nat) (P0 : Option Addr) (flow : List (List Int)) (m cm : Nat) (A4 : Option Addr) (us : List Int) (n4 c4 : Nat) (A5 : Option Addr) (ws : List Int) (n5 c5 : Nat) (w : World) (hf : FldAt w f F) (h1 : IntsAt w A1 rooms) (hn1 : rooms.length = n1) (h2 : IntsAt w A2 needs) (hn2 : needs.length = n2) (h3 : IntsAt w A3 S) (hn3 : S.length = n3) (hP : GridAt w P0 flow) (hm : flow.length = m) (h4 : IntsAt w A4 us) (hn4 : us.length = n4) (h5 : IntsAt w A5 ws) (hn5 : ws.length = n5) :
    Calls Try.prog 15 #[f, .slice A1 n1 c1, .slice A2 n2 c2, .slice A3 n3 c3, .slice P0 m cm, .slice A4 n4 c4, .slice A5 n5 c5] w fun e w' => e = .returned (.tuple #[.bool (ipR F rooms needs S flow us ws), .bool (ipIn F rooms needs S flow us ws)]) ∧ Kp w w' := by
  obtain ⟨A, c, B, d, rfl, hA, hB⟩ := hf
  have hk0 : Kp w (w.alloc (.cells #[.slice A F.op.length c, .slice B F.di.length d] 27)) := (Kp.refl w).alloc _
  obtain ⟨d0, d1⟩ := box2 w (.slice A F.op.length c) (.slice B F.di.length d) 27
  have hFA := FldAt.kp (show FldAt w (.agg #[.slice A F.op.length c, .slice B F.di.length d]) F from ⟨A, c, B, d, rfl, hA, hB⟩) hk0
  replace h1 := h1.kp hk0
  replace h2 := h2.kp hk0
  replace h3 := h3.kp hk0
  replace h4 := h4.kp hk0
  replace h5 := h5.kp hk0
  replace hP := hP.kp hk0
  have Hn1 := Lib.hid hn1; have Hn2 := Lib.hid hn2; have Hn3 := Lib.hid hn3; have Hm := Lib.hid hm; have Hn4 := Lib.hid hn4; have Hn5 := Lib.hid hn5
  clear hA hB hn1 hn2 hn3 hm hn4 hn5
  go_enter Try.func15, Try.ntmps15
  go_wp2_with fail
  have hsz : Hid ((w.alloc (.cells #[.slice A F.op.length c, .slice B F.di.length d] 27)).heap.size = w.heap.size + 1) := by show _ = _; simp
  generalize w.alloc (.cells #[.slice A F.op.length c, .slice B F.di.length d] 27) = wb at *
  have hkb : Kp wb wb := Kp.refl _
  have hkw := hk0
  have q_d0 := hkb.get d0
  have q_d1 := hkb.get d1
  go_wp2_with fail
  have CC := Lib.hid (specFc_any _ F A1 rooms n1 c1 A2 needs n2 c2 A3 S n3 c3 P0 flow m cm _ (hFA.kp hkb) (h1.kp hkb) Hn1.out (h2.kp hkb) Hn2.out (h3.kp hkb) Hn3.out (hP.kp hkb) Hm.out)
  with_reducible refine Calls.mono CC.out ?_
  rintro e w1 ⟨rfl, hk1⟩
  clear CC q_d0 q_d1
  replace hkb := hkb.trans hk1
  have q_d0 := hkb.get d0
  have q_d1 := hkb.get d1
  go_wp2_with fail
  have CC := Lib.hid (specFy_any _ F A1 rooms n1 c1 A2 needs n2 c2 A3 S n3 c3 A4 us n4 c4 A5 ws n5 c5 _ (hFA.kp hkb) (h1.kp hkb) Hn1.out (h2.kp hkb) Hn2.out (h3.kp hkb) Hn3.out (h4.kp hkb) Hn4.out (h5.kp hkb) Hn5.out)
  with_reducible refine Calls.mono CC.out ?_
  rintro e w2 ⟨rfl, hk2⟩
  clear CC q_d0 q_d1
  replace hkb := hkb.trans hk2
  cases hg_ : fcIn F rooms needs S flow
  · have Hno := Lib.hid (fc_off (us := us) (ws := ws) hg_)
    clear hg_
    have q_d0 := hkb.get d0
    have q_d1 := hkb.get d1
    go_wp2_with fail
    go_ret2
    exact ⟨ip_no Hno.out, hkw.trans hkb⟩
  have HE := Lib.hid (fy_ip (us := us) (ws := ws) hg_)
  have HV := Lib.hid (fc_val hg_)
  clear hg_
  cases hg_ : fyIn F rooms needs S us ws
  · have Hno : Hid (ipIn F rooms needs S flow us ws = false) := by show _ = _; rw [HE.out, hg_]
    clear hg_
    have q_d0 := hkb.get d0
    have q_d1 := hkb.get d1
    go_wp2_with fail
    go_ret2
    exact ⟨ip_no Hno.out, hkw.trans hkb⟩
  have Hy : Hid (ipIn F rooms needs S flow us ws = true) := by show _ = _; rw [HE.out, hg_]
  have HW := Lib.hid (fy_val hg_)
  clear hg_
  rw [HV.out, HW.out]
  have q_d0 := hkb.get d0
  have q_d1 := hkb.get d1
  go_wp2_with fail
  go_ret2
  exact ⟨ip_yes Hy.out rfl, hkw.trans hkb⟩
set_option maxRecDepth 100000 in
set_option maxHeartbeats 400000 in
theorem implIp_any (f : Value) (F : Fld) (A1 : Option Addr) (rooms : List Int) (n1 c1 : Nat) (A2 : Option Addr) (needs : List Int) (n2 c2 : Nat) (A3 : Option Addr) (S : List Int) (n3 c3 : Nat) (P0 : Option Addr) (flow : List (List Int)) (m cm : Nat) (A4 : Option Addr) (us : List Int) (n4 c4 : Nat) (A5 : Option Addr) (ws : List Int) (n5 c5 : Nat) (w : World) (hf : FldAt w f F) (h1 : IntsAt w A1 rooms) (hn1 : rooms.length = n1) (h2 : IntsAt w A2 needs) (hn2 : needs.length = n2) (h3 : IntsAt w A3 S) (hn3 : S.length = n3) (hP : GridAt w P0 flow) (hm : flow.length = m) (h4 : IntsAt w A4 us) (hn4 : us.length = n4) (h5 : IntsAt w A5 ws) (hn5 : ws.length = n5) :
    Calls Try.prog 14 #[f, .slice A1 n1 c1, .slice A2 n2 c2, .slice A3 n3 c3, .slice P0 m cm, .slice A4 n4 c4, .slice A5 n5 c5] w fun e w' => e = .returned (.tuple #[.bool (ipR F rooms needs S flow us ws), .bool (ipIn F rooms needs S flow us ws)]) ∧ Kp w w' := by
  obtain ⟨A, c, B, d, rfl, hA, hB⟩ := hf
  have hk0 : Kp w (w.alloc (.cells #[.slice A F.op.length c, .slice B F.di.length d] 27)) := (Kp.refl w).alloc _
  obtain ⟨d0, d1⟩ := box2 w (.slice A F.op.length c) (.slice B F.di.length d) 27
  have hFA := FldAt.kp (show FldAt w (.agg #[.slice A F.op.length c, .slice B F.di.length d]) F from ⟨A, c, B, d, rfl, hA, hB⟩) hk0
  replace h1 := h1.kp hk0
  replace h2 := h2.kp hk0
  replace h3 := h3.kp hk0
  replace h4 := h4.kp hk0
  replace h5 := h5.kp hk0
  replace hP := hP.kp hk0
  have Hn1 := Lib.hid hn1; have Hn2 := Lib.hid hn2; have Hn3 := Lib.hid hn3; have Hm := Lib.hid hm; have Hn4 := Lib.hid hn4; have Hn5 := Lib.hid hn5
  clear hA hB hn1 hn2 hn3 hm hn4 hn5
  go_enter Try.func14, Try.ntmps14
  go_wp2_with fail
  have hsz : Hid ((w.alloc (.cells #[.slice A F.op.length c, .slice B F.di.length d] 27)).heap.size = w.heap.size + 1) := by show _ = _; simp
  generalize w.alloc (.cells #[.slice A F.op.length c, .slice B F.di.length d] 27) = wb at *
  have hkb : Kp wb wb := Kp.refl _
  have hkw := hk0
  have q_d0 := hkb.get d0
  have q_d1 := hkb.get d1
  go_wp2_with fail
  have CC := Lib.hid (implFc_any _ F A1 rooms n1 c1 A2 needs n2 c2 A3 S n3 c3 P0 flow m cm _ (hFA.kp hkb) (h1.kp hkb) Hn1.out (h2.kp hkb) Hn2.out (h3.kp hkb) Hn3.out (hP.kp hkb) Hm.out)
  with_reducible refine Calls.mono CC.out ?_
  rintro e w1 ⟨rfl, hk1⟩
  clear CC q_d0 q_d1
  replace hkb := hkb.trans hk1
  cases hg_ : fcIn F rooms needs S flow
  · have Hno := Lib.hid (fc_off (us := us) (ws := ws) hg_)
    clear hg_
    have q_d0 := hkb.get d0
    have q_d1 := hkb.get d1
    go_wp2_with fail
    go_ret2
    exact ⟨ip_no Hno.out, hkw.trans hkb⟩
  have HH := Lib.hid (fc_parts hg_).1
  have HE : Hid (ipIn F rooms needs S flow us ws = prB F S us ws) := by show _ = _; rw [ipIn, hg_]; rfl
  have HV := Lib.hid (fc_val hg_)
  clear hg_
  rw [HV.out]
  have q_d0 := hkb.get d0
  have q_d1 := hkb.get d1
  go_wp2_with fail
  have CC := Lib.hid (areFlowPrices_any _ F A3 S n3 c3 A4 us n4 c4 A5 ws n5 c5 _ (hFA.kp hkb) (h3.kp hkb) Hn3.out (h4.kp hkb) Hn4.out (h5.kp hkb) Hn5.out (haulB_iff.1 HH.out).1)
  with_reducible refine Calls.mono CC.out ?_
  rintro e w2 ⟨rfl, hk2⟩
  clear CC q_d0 q_d1
  replace hkb := hkb.trans hk2
  cases hg_ : prB F S us ws
  · have Hno : Hid (ipIn F rooms needs S flow us ws = false) := by show _ = _; rw [HE.out, hg_]
    clear hg_
    have q_d0 := hkb.get d0
    have q_d1 := hkb.get d1
    go_wp2_with fail
    go_ret2
    exact ⟨ip_no Hno.out, hkw.trans hkb⟩
  have HP := Lib.hid (fy_parts HH.out hg_ Hn1.out Hn2.out Hn4.out Hn5.out)
  have Hy : Hid (ipIn F rooms needs S flow us ws = true) := by show _ = _; rw [HE.out, hg_]
  clear hg_
  have q_d0 := hkb.get d0
  have q_d1 := hkb.get d1
  go_wp2_with fail
  have CC := Lib.hid (yield_any A1 rooms n1 c1 A2 needs n2 c2 A4 us n4 c4 A5 ws n5 c5 _ (h1.kp hkb) Hn1.out (h2.kp hkb) Hn2.out (h4.kp hkb) Hn4.out (h5.kp hkb) Hn5.out HP.out.e1 HP.out.e2 HP.out.s1 HP.out.s2 HP.out.b1 HP.out.b2 HP.out.b3 HP.out.b4)
  with_reducible refine Calls.mono CC.out ?_
  rintro e w3 ⟨rfl, hk3⟩
  clear CC q_d0 q_d1
  replace hkb := hkb.trans hk3
  have q_d0 := hkb.get d0
  have q_d1 := hkb.get d1
  go_wp2_with fail
  go_ret2
  exact ⟨ip_yes Hy.out rfl, hkw.trans hkb⟩
end Go.Proofs.Ytcnceocgdghciaa

namespace Go.Proofs.Ytcnceocgdghciaa
open Go.RowKit Go.Sort

theorem flow_haul {F : Fld} {rooms needs S : List Int} {flow : List (List Int)} (h : flowB F rooms needs S flow = true) : Haul F.di.length F.op.length (openM S) (lget needs) (lget rooms) (flAt flow) := by
  obtain ⟨h1, h2, h3⟩ := flow_parts h
  refine ⟨fun j a hj ha => (flAt_pos (h2 j (by omega)) ha).1, fun j a hj ha hp => ((flRow_iff.1 (h2 j (by omega))).2.1 a ha).2.2 hp, fun j hj => (flRow_iff.1 (h2 j (by omega))).2.2, fun a ha => ?_⟩
  have := h3 a ha
  rw [h1] at this
  exact this
theorem flow_cost (F : Fld) (flow : List (List Int)) : costT F.di.length F.op.length (dF F) (flAt flow) = costFl F flow F.di.length := rfl
theorem yield_haul {F : Fld} {rooms needs S us ws : List Int} {x : Nat → Nat → Int} (hP : HaulP F rooms needs S) (hx : Haul F.di.length F.op.length (openM S) (lget needs) (lget rooms) x) (hp : prB F S us ws = true) : yieldF rooms needs us ws ≤ costT F.di.length F.op.length (dF F) x := by
  obtain ⟨p1, p2, p3, p4⟩ := prB_iff.1 hp
  have h1 : ∀ j a, j < F.di.length → a < F.op.length → x j a * (-(lget ws a) - -(lget us j)) ≤ x j a * dF F j a := fun j a hj ha => by
    by_cases h0 : 0 < x j a
    · have hS := hx.may j a hj ha h0
      have hm := flHas_iff.1 (show flHas S a = true from hS)
      have h2 := (le_off hP.ne).1 (p4 j (by omega)).2 _ hm
      refine Int.mul_le_mul_of_nonneg_left ?_ (by omega)
      have e : valF F ws j (a : Int) = dF F j a + lget ws a := rfl
      omega
    · have := hx.nn j a hj ha
      have e : x j a = 0 := by omega
      rw [e, Int.zero_mul, Int.zero_mul]; exact Int.le_refl _
  have h2 : sumTo (fun j => sumTo (fun a => x j a * (-(lget ws a) - -(lget us j))) F.op.length) F.di.length ≤ costT F.di.length F.op.length (dF F) x := sumTo_mono' (fun j hj => sumTo_mono' (fun a ha => h1 j a hj ha))
  have h3 := pot_sum (J := F.di.length) (M := F.op.length) x (fun j => -(lget us j)) (fun a => -(lget ws a))
  have e1 : sumTo (fun j => rowS F.op.length x j * -(lget us j)) F.di.length = yP needs us F.di.length * -1 := by
    unfold yP
    rw [← sumTo_mulc]
    exact sumTo_congr (fun j hj => by rw [hx.row j hj, Int.mul_neg, Int.mul_neg, Int.mul_one])
  have e2 : yP rooms ws F.op.length * -1 ≤ sumTo (fun a => colT F.di.length x a * -(lget ws a)) F.op.length := by
    unfold yP
    rw [← sumTo_mulc]
    refine sumTo_mono' (fun a ha => ?_)
    have h4 := (lget_all (M := 999) (by omega) p2.1 a).1
    have h5 := Int.mul_le_mul_of_nonneg_right (hx.col a ha) h4
    rw [Int.mul_neg, Int.mul_neg, Int.mul_one]; omega
  unfold yieldF
  rw [hP.nl, hP.rl]
  rw [h3, e1] at h2
  omega
theorem lst_exF {J M : Nat} {d : Nat → Nat → Int} {may : Nat → Nat → Bool} {nd rm : Nat → Int} (hd : ∀ j a, j < J → a < M → 0 ≤ d j a) (h : CanH J M may nd rm) : ∃ c, IsLst J M d may nd rm c := by
  have h0 : ∀ x, Haul J M may nd rm x → 0 ≤ costT J M d x := fun x hx => sumTo_nn (fun j hj => sumTo_nn (fun a ha => Int.mul_nonneg (hx.nn j a hj ha) (hd j a hj ha)))
  have key : ∀ (n : Nat) (x : Nat → Nat → Int), Haul J M may nd rm x → costT J M d x ≤ n → ∃ c, IsLst J M d may nd rm c := by
    intro n
    induction n with
    | zero => exact fun x hx hc => ⟨_, ⟨x, hx, rfl⟩, fun y hy => by have := h0 y hy; omega⟩
    | succ n ih =>
      intro x hx hc
      by_cases hy : ∃ y, Haul J M may nd rm y ∧ costT J M d y < costT J M d x
      · obtain ⟨y, h1, h2⟩ := hy
        exact ih y h1 (by omega)
      · exact ⟨_, ⟨x, hx, rfl⟩, fun y h1 => by
          by_cases h2 : costT J M d y < costT J M d x
          · exact absurd ⟨y, h1, h2⟩ hy
          · omega⟩
  obtain ⟨x, hx⟩ := h
  exact key (costT J M d x).toNat x hx (by omega)
theorem lf_lstF {F : Fld} {rooms needs S : List Int} (h : lfOk F rooms needs S = true) : IsLst F.di.length F.op.length (dF F) (openM S) (lget needs) (lget rooms) (lfV F rooms needs S) := by
  have h1 := h
  unfold lfOk at h1
  rw [Bool.and_eq_true, decide_eq_true_eq] at h1
  have hP := haul_p h1.1
  obtain ⟨c, hc⟩ := lst_exF (d := dF F) (fun j a hj ha => (dAt_bd hP.good hj (a : Int)).1) (any_full hP h1.2)
  have hc2 := start_lst hP hc
  rw [lfV_yes h hc2]
  exact hc2
theorem flow_ok {F : Fld} {rooms needs S : List Int} {x : Nat → Nat → Int} (h : haulB F rooms needs S = true) (hx : Haul F.di.length F.op.length (openM S) (lget needs) (lget rooms) x) : lfOk F rooms needs S = true := by
  have hP := haul_p h
  have h1 := haul_room hx (fun a => flHas S a) (fun j a _ _ hm => hm)
  rw [hP.ns, hP.rs] at h1
  unfold lfOk
  rw [h, decide_eq_true h1]; rfl
/-- What the law on flows says. -/
theorem flows_a {F : Fld} {rooms needs S us ws : List Int} {flow : List (List Int)} (h1 : fcIn F rooms needs S flow = true) : lfOk F rooms needs S = true ∧ lfV F rooms needs S ≤ fcV F rooms needs S flow := by
  have h2 := h1
  unfold fcIn at h2
  rw [Bool.and_eq_true] at h2
  have hx := flow_haul h2.2
  have hk := flow_ok h2.1 hx
  refine ⟨hk, ?_⟩
  rw [fcV, if_pos h1, ← flow_cost]
  exact (lf_lstF hk).all_ _ hx
theorem flows_b {F : Fld} {rooms needs S us ws : List Int} (h1 : lfOk F rooms needs S = true) (h2 : fyIn F rooms needs S us ws = true) : fyV F rooms needs S us ws ≤ lfV F rooms needs S := by
  have h3 := h2
  unfold fyIn at h3
  rw [Bool.and_eq_true] at h3
  obtain ⟨x, hx, hc⟩ := (lf_lstF h1).some_
  rw [fyV, if_pos h2, ← hc]
  exact yield_haul (haul_p h3.1) hx h3.2
theorem flows_c {F : Fld} {rooms needs S us ws : List Int} {flow : List (List Int)} (h1 : fcIn F rooms needs S flow = true) (h2 : fyIn F rooms needs S us ws = true) :
    fyV F rooms needs S us ws ≤ fcV F rooms needs S flow ∧ ipIn F rooms needs S flow us ws = true ∧ ipR F rooms needs S flow us ws = decide (fyV F rooms needs S us ws = fcV F rooms needs S flow) := by
  have ha := flows_a (us := us) (ws := ws) h1
  have hb := flows_b ha.1 h2
  have hi : ipIn F rooms needs S flow us ws = true := by
    have h3 := h2
    unfold fyIn at h3
    rw [Bool.and_eq_true] at h3
    unfold ipIn; rw [h1, h3.2]; rfl
  refine ⟨Int.le_trans hb ha.2, hi, ?_⟩
  unfold ipR
  rw [hi, fcV, if_pos h1, fyV, if_pos h2, Bool.true_and]
  by_cases e : costFl F flow F.di.length = yieldF rooms needs us ws
  · rw [decide_eq_true e, decide_eq_true e.symm]
  · rw [decide_eq_false e, decide_eq_false (Ne.symm e)]
theorem flows_d {F : Fld} {rooms needs S us ws : List Int} {flow : List (List Int)} (h : ipR F rooms needs S flow us ws = true) : lfV F rooms needs S = fcV F rooms needs S flow := by
  have h0 := h
  unfold ipR at h
  rw [Bool.and_eq_true, decide_eq_true_eq] at h
  obtain ⟨h1, h2⟩ := h
  unfold ipIn at h1
  rw [Bool.and_eq_true] at h1
  have h5 := h1.1
  unfold fcIn at h5
  rw [Bool.and_eq_true] at h5
  have h3 : fyIn F rooms needs S us ws = true := by unfold fyIn; rw [h5.1, h1.2]; rfl
  have ha := flows_a (us := us) (ws := ws) h1.1
  have hb := flows_b ha.1 h3
  rw [fcV, if_pos h1.1] at *
  rw [fyV, if_pos h3] at hb
  omega
end Go.Proofs.Ytcnceocgdghciaa
