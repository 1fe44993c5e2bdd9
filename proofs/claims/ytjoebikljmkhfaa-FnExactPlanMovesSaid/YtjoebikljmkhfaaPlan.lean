/- IsPlan: reference and program. No condition. -/
import Derived.Test.YtjoebikljmkhfaaSea7
import Derived.Test.YtjoebikljmkhfaaSet
import Derived.Test.YtjoebikljmkhfaaKeep
namespace Go.Proofs.Ytjoebikljmkhfaa
open Go.RowKit Go.Sort

/-- A list that may be the set of a round. -/
def mayR (S : Sea) (r : Nat) (T : List Int) : Bool := risB T 0 ((S.op.length : Int) - 1) && (decide (0 < T.length) || decide ((S.ro.getD r []).length = 0))
def planB (S : Sea) (plan : List (List Int)) : Bool := decide (plan.length = S.ro.length) && (List.range plan.length).all fun r => mayR S r (plan.getD r [])
theorem mayR_no {S : Sea} {r : Nat} {T : List Int} (h : risB T 0 ((S.op.length : Int) - 1) = false) : mayR S r T = false := by simp [mayR, h]
theorem mayR_pos {S : Sea} {r : Nat} {T : List Int} (h : risB T 0 ((S.op.length : Int) - 1) = true) (h0 : 0 < T.length) : mayR S r T = true := by simp [mayR, h, h0]
theorem mayR_nil {S : Sea} {r : Nat} {T : List Int} (h : risB T 0 ((S.op.length : Int) - 1) = true) (h0 : ¬ 0 < T.length) (hr : r < S.ro.length) : mayR S r T = ((S.ro[r].length : Int) == 0) := by
  have e : S.ro.getD r [] = S.ro[r] := by simp [List.getD, hr]
  rw [mayR, h, e]
  have : decide (0 < T.length) = false := by simpa using h0
  rw [this, Bool.eq_iff_iff]
  simp
theorem plan_no {S : Sea} {plan : List (List Int)} {r : Nat} (hr : r < plan.length) (h : mayR S r plan[r] = false) : planB S plan = false := by
  have e : plan.getD r [] = plan[r] := by simp [List.getD, hr]
  have : ((List.range plan.length).all fun r => mayR S r (plan.getD r [])) = false := all_range_false (p := fun r => mayR S r (plan.getD r [])) hr (by rw [e]; exact h)
  rw [planB, this, Bool.and_false]
theorem plan_len {S : Sea} {plan : List (List Int)} (h : plan.length ≠ S.ro.length) : planB S plan = false := by simp [planB, h]
theorem plan_next {S : Sea} {plan : List (List Int)} {r : Nat} (h : ((List.range r).all fun r => mayR S r (plan.getD r [])) = true) (hr : r < plan.length) (h2 : mayR S r plan[r] = true) : ((List.range (r + 1)).all fun r => mayR S r (plan.getD r [])) = true := by
  have e : plan.getD r [] = plan[r] := by simp [List.getD, hr]
  rw [all_range_succ, h, e, h2]; rfl
theorem plan_yes {S : Sea} {plan : List (List Int)} {r : Nat} (h : ((List.range r).all fun r => mayR S r (plan.getD r [])) = true) (hr : r = plan.length) (hl : plan.length = S.ro.length) : planB S plan = true := by
  subst hr; rw [planB, h]; simp [hl]
set_option maxRecDepth 100000 in
set_option maxHeartbeats 400000 in
theorem l10May_any (f : Value) (S : Sea) (r : Nat) (A0 : Option Addr) (T : List Int) (n c0 : Nat) (w : World) (hf : SeaAt w f S) (hT : IntsAt w A0 T) (hn : T.length = n) (hr : r < S.ro.length) :
    Calls Try.prog 30 #[f, .int .i64 r, .slice A0 n c0] w fun e w' => e = .returned (.bool (mayR S r T)) ∧ Kp w w' := by
  have hm : n ≤ 9223372036854775807 := hn ▸ hT.1
  obtain ⟨A, a, B, b, C, c, D, d, rfl, hA, hB, hC, hD⟩ := hf
  have hk0 : Kp w (w.alloc (.cells #[.slice A S.op.length a, .slice B S.cl.length b, .slice C S.ke.length c, .slice D S.ro.length d] 31)) := (Kp.refl w).alloc _
  obtain ⟨d0, d1, d2, d3⟩ := box4 w (.slice A S.op.length a) (.slice B S.cl.length b) (.slice C S.ke.length c) (.slice D S.ro.length d) 31
  have hSA := SeaAt.kp (show SeaAt w (.agg #[.slice A S.op.length a, .slice B S.cl.length b, .slice C S.ke.length c, .slice D S.ro.length d]) S from ⟨A, a, B, b, C, c, D, d, rfl, hA, hB, hC, hD⟩) hk0
  replace hA := hA.kp hk0
  replace hB := hB.kp hk0
  replace hC := hC.kp hk0
  replace hD := hD.kp hk0
  replace hT := hT.kp hk0
  have hol := hA.1
  have hrl := hD.1
  obtain ⟨cd, B2, cb, hDe, hcr, hgr⟩ := hD.at_ hr
  have HDe := Lib.hid hDe
  clear hDe
  have Hn := Lib.hid hn
  clear hn hA hB hC
  go_enter Try.func30, Try.ntmps30
  go_wp2_with fail
  have hsz : Hid ((w.alloc (.cells #[.slice A S.op.length a, .slice B S.cl.length b, .slice C S.ke.length c, .slice D S.ro.length d] 31)).heap.size = w.heap.size + 1) := by show _ = _; simp
  generalize w.alloc (.cells #[.slice A S.op.length a, .slice B S.cl.length b, .slice C S.ke.length c, .slice D S.ro.length d] 31) = wb at *
  have hkb : Kp wb wb := Kp.refl _
  have hkw := hk0
  have CC := Lib.hid (l1Rising_any A0 T n c0 0 ((S.op.length : Int) - 1) _ hT Hn.out)
  with_reducible refine Calls.mono CC.out ?_
  rintro e w1 ⟨rfl, hd1⟩
  have hk1 := hd1.kp
  clear CC
  replace hkb := hkb.trans hk1
  have hDe := HDe.out
  subst hDe
  cases h1 : risB T 0 ((S.op.length : Int) - 1)
  · have Hno := Lib.hid (mayR_no (r := r) h1)
    clear h1
    have q_d0 := hkb.get d0
    have q_d1 := hkb.get d1
    have q_d2 := hkb.get d2
    have q_d3 := hkb.get d3
    go_wp2_with fail
    go_ret
    exact ⟨ret_bool Hno.out.symm, hkw.trans hkb⟩
  have hcr2 := hkb.get hcr
  by_cases h0 : 0 < n
  · have Hy := Lib.hid (mayR_pos (r := r) h1 (by rw [Hn.out]; exact h0))
    clear h1
    have q_d0 := hkb.get d0
    have q_d1 := hkb.get d1
    have q_d2 := hkb.get d2
    have q_d3 := hkb.get d3
    go_wp2_with fail
    go_ret
    exact ⟨ret_bool Hy.out.symm, hkw.trans hkb⟩
  · have Hy := Lib.hid (mayR_nil h1 (by rw [Hn.out]; exact h0) hr)
    clear h1
    have q_d0 := hkb.get d0
    have q_d1 := hkb.get d1
    have q_d2 := hkb.get d2
    have q_d3 := hkb.get d3
    go_wp2_with fail
    go_ret
    exact ⟨ret_bool Hy.out.symm, hkw.trans hkb⟩
set_option maxRecDepth 100000 in
set_option maxHeartbeats 400000 in
theorem isPossible_any (f : Value) (S : Sea) (r : Nat) (A0 : Option Addr) (T : List Int) (n c0 : Nat) (w : World) (hf : SeaAt w f S) (hT : IntsAt w A0 T) (hn : T.length = n) (hr : r < S.ro.length) :
    Calls Try.prog 45 #[f, .int .i64 r, .slice A0 n c0] w fun e w' => e = .returned (.bool (mayR S r T)) ∧ Kp w w' := by
  have hm : n ≤ 9223372036854775807 := hn ▸ hT.1
  obtain ⟨A, a, B, b, C, c, D, d, rfl, hA, hB, hC, hD⟩ := hf
  have hk0 : Kp w (w.alloc (.cells #[.slice A S.op.length a, .slice B S.cl.length b, .slice C S.ke.length c, .slice D S.ro.length d] 31)) := (Kp.refl w).alloc _
  obtain ⟨d0, d1, d2, d3⟩ := box4 w (.slice A S.op.length a) (.slice B S.cl.length b) (.slice C S.ke.length c) (.slice D S.ro.length d) 31
  have hSA := SeaAt.kp (show SeaAt w (.agg #[.slice A S.op.length a, .slice B S.cl.length b, .slice C S.ke.length c, .slice D S.ro.length d]) S from ⟨A, a, B, b, C, c, D, d, rfl, hA, hB, hC, hD⟩) hk0
  replace hA := hA.kp hk0
  replace hB := hB.kp hk0
  replace hC := hC.kp hk0
  replace hD := hD.kp hk0
  replace hT := hT.kp hk0
  have hol := hA.1
  have hrl := hD.1
  obtain ⟨cd, B2, cb, hDe, hcr, hgr⟩ := hD.at_ hr
  have HDe := Lib.hid hDe
  clear hDe
  have Hn := Lib.hid hn
  clear hn hA hB hC
  go_enter Try.func45, Try.ntmps45
  go_wp2_with fail
  have hsz : Hid ((w.alloc (.cells #[.slice A S.op.length a, .slice B S.cl.length b, .slice C S.ke.length c, .slice D S.ro.length d] 31)).heap.size = w.heap.size + 1) := by show _ = _; simp
  generalize w.alloc (.cells #[.slice A S.op.length a, .slice B S.cl.length b, .slice C S.ke.length c, .slice D S.ro.length d] 31) = wb at *
  have hkb : Kp wb wb := Kp.refl _
  have hkw := hk0
  have CC := Lib.hid (isRising_any A0 T n c0 (S.op.length : Int) _ hT Hn.out (by omega) (by omega))
  with_reducible refine Calls.mono CC.out ?_
  rintro e w1 ⟨rfl, hw⟩
  obtain rfl := hw
  clear CC
  have hDe := HDe.out
  subst hDe
  cases h1 : risB T 0 ((S.op.length : Int) - 1)
  · have Hno := Lib.hid (mayR_no (r := r) h1)
    clear h1
    have q_d0 := hkb.get d0
    have q_d1 := hkb.get d1
    have q_d2 := hkb.get d2
    have q_d3 := hkb.get d3
    go_wp2_with fail
    go_ret
    exact ⟨ret_bool Hno.out.symm, hkw.trans hkb⟩
  have hcr2 := hkb.get hcr
  by_cases h0 : 0 < n
  · have Hy := Lib.hid (mayR_pos (r := r) h1 (by rw [Hn.out]; exact h0))
    clear h1
    have q_d0 := hkb.get d0
    have q_d1 := hkb.get d1
    have q_d2 := hkb.get d2
    have q_d3 := hkb.get d3
    go_wp2_with fail
    go_ret
    exact ⟨ret_bool Hy.out.symm, hkw.trans hkb⟩
  · have Hy := Lib.hid (mayR_nil h1 (by rw [Hn.out]; exact h0) hr)
    clear h1
    have q_d0 := hkb.get d0
    have q_d1 := hkb.get d1
    have q_d2 := hkb.get d2
    have q_d3 := hkb.get d3
    go_wp2_with fail
    go_ret
    exact ⟨ret_bool Hy.out.symm, hkw.trans hkb⟩
set_option maxRecDepth 100000 in
set_option maxHeartbeats 400000 in
theorem l10Plan_any (f : Value) (S : Sea) (P0 : Option Addr) (plan : List (List Int)) (n c0 : Nat) (w : World) (hf : SeaAt w f S) (hP : GridAt w P0 plan) (hn : plan.length = n) :
    Calls Try.prog 20 #[f, .slice P0 n c0] w fun e w' => e = .returned (.bool (planB S plan)) ∧ Kp w w' := by
  have hm : n ≤ 9223372036854775807 := hn ▸ hP.1
  obtain ⟨A, a, B, b, C, c, D, d, rfl, hA, hB, hC, hD⟩ := hf
  have hk0 : Kp w (w.alloc (.cells #[.slice A S.op.length a, .slice B S.cl.length b, .slice C S.ke.length c, .slice D S.ro.length d] 31)) := (Kp.refl w).alloc _
  obtain ⟨d0, d1, d2, d3⟩ := box4 w (.slice A S.op.length a) (.slice B S.cl.length b) (.slice C S.ke.length c) (.slice D S.ro.length d) 31
  have hSA := SeaAt.kp (show SeaAt w (.agg #[.slice A S.op.length a, .slice B S.cl.length b, .slice C S.ke.length c, .slice D S.ro.length d]) S from ⟨A, a, B, b, C, c, D, d, rfl, hA, hB, hC, hD⟩) hk0
  replace hA := hA.kp hk0
  replace hB := hB.kp hk0
  replace hC := hC.kp hk0
  replace hD := hD.kp hk0
  replace hP := hP.kp hk0
  have hrl := hD.1
  have Hn := Lib.hid hn
  clear hn hA hB hC hD
  go_enter Try.func20, Try.ntmps20
  go_wp2_with fail
  have hsz : Hid ((w.alloc (.cells #[.slice A S.op.length a, .slice B S.cl.length b, .slice C S.ke.length c, .slice D S.ro.length d] 31)).heap.size = w.heap.size + 1) := by show _ = _; simp
  generalize w.alloc (.cells #[.slice A S.op.length a, .slice B S.cl.length b, .slice C S.ke.length c, .slice D S.ro.length d] 31) = wb at *
  have hkb : Kp wb wb := Kp.refl _
  have hkw := hk0
  go_loopw [5] (fun iv wr => ∃ k : Nat, k ≤ n ∧ k ≤ S.ro.length ∧ iv = .int .i64 k ∧ Hid (((List.range k).all fun r => mayR S r (plan.getD r [])) = true) ∧ Kp wb wr) (fun iv _ => n - (intOf iv).toNat)
  case atStart => exact ⟨0, by omega, by omega, rfl, rfl, Kp.refl _⟩
  case round =>
    obtain ⟨k, hk, hkr, rfl, Hp, hkb⟩ := hrel
    by_cases hlt : k < n
    · by_cases hlr : k < S.ro.length
      · have lx : k < plan.length := by rw [Hn.out]; exact hlt
        obtain ⟨pd, A2, ca, hPe, hcp, hrp⟩ := hP.at_ lx
        subst hPe
        have CM := Lib.hid (fun (wx : World) (hx : Kp wb wx) => l10May_any _ S k A2 plan[k] _ ca wx (hSA.kp hx) (hrp.kp hx) rfl hlr)
        have q_d0 := hkb.get d0
        have q_d1 := hkb.get d1
        have q_d2 := hkb.get d2
        have q_d3 := hkb.get d3
        have q_hcp := hkb.get hcp
        have tok1 : True := trivial
        go_wp2_with fail
        go_region_held3 (fun w' => w'.cell? ⟨w.heap.size, 0, none⟩ = some (.slice A S.op.length a) ∧ w'.cell? ⟨w.heap.size, 1, none⟩ = some (.slice B S.cl.length b) ∧ w'.cell? ⟨w.heap.size, 2, none⟩ = some (.slice C S.ke.length c) ∧ w'.cell? ⟨w.heap.size, 3, none⟩ = some (.slice D S.ro.length d) ∧ w'.cell? (pd.add k) = some (.slice A2 plan[k].length ca) ∧ Kp wb w')
          (first | (refine keepc5 d0 d1 d2 d3 hcp ?_; exact (by repeat (first | with_reducible assumption | with_reducible exact Kp.refl _ | with_reducible refine Kp.drew ?_ | with_reducible refine Kp.alloc ?_ _ | with_reducible refine Kp.drewN ?_ _))) | fail)
          (first
            | (have _t := tok1; go_at_call 30; with_reducible refine Calls.mono (CM.out _ (by repeat (first | with_reducible assumption | with_reducible exact Kp.refl _ | with_reducible refine Kp.drew ?_ | with_reducible refine Kp.alloc ?_ _ | with_reducible refine Kp.drewN ?_ _))) ?_; rintro e wr1 ⟨rfl, hka⟩; have hr1 : Kp wb wr1 := Kp.trans (by repeat (first | with_reducible assumption | with_reducible exact Kp.refl _ | with_reducible refine Kp.drew ?_ | with_reducible refine Kp.alloc ?_ _ | with_reducible refine Kp.drewN ?_ _)) hka; have tok2 : True := trivial; clear tok1 _t)
            | fail)
        cases hmay : mayR S k plan[k]
        · have Hno := Lib.hid (plan_no lx hmay)
          go_wp2_with fail
          go_ret
          exact ⟨ret_bool Hno.out.symm, hkw.trans hr1⟩
        · have Hy := Lib.hid (plan_next Hp.out lx hmay)
          go_wp2_with fail
          go_roundw
          case rel => exact ⟨k + 1, by omega, by omega, by go_num, Hy.out, hr1⟩
          case measure => simp [intOf]; omega
      · have hne : ((n : Int) == (S.ro.length : Int)) = false := by simp; omega
        have Hno : Hid (planB S plan = false) := plan_len (by rw [Hn.out]; omega)
        have q_d0 := hkb.get d0
        have q_d1 := hkb.get d1
        have q_d2 := hkb.get d2
        have q_d3 := hkb.get d3
        go_wp2_with fail
        go_ret
        exact ⟨ret_bool Hno.out.symm, hkw.trans hkb⟩
    · by_cases he : n = S.ro.length
      · have hne : ((n : Int) == (S.ro.length : Int)) = true := by simp [he]
        have Hy := Lib.hid (plan_yes Hp.out (by rw [Hn.out]; omega) (by rw [Hn.out]; exact he))
        clear he
        have q_d0 := hkb.get d0
        have q_d1 := hkb.get d1
        have q_d2 := hkb.get d2
        have q_d3 := hkb.get d3
        go_wp2_with fail
        go_ret
        exact ⟨ret_bool Hy.out.symm, hkw.trans hkb⟩
      · have hne : ((n : Int) == (S.ro.length : Int)) = false := by simp; omega
        have Hno : Hid (planB S plan = false) := plan_len (by rw [Hn.out]; exact he)
        have q_d0 := hkb.get d0
        have q_d1 := hkb.get d1
        have q_d2 := hkb.get d2
        have q_d3 := hkb.get d3
        go_wp2_with fail
        go_ret
        exact ⟨ret_bool Hno.out.symm, hkw.trans hkb⟩
set_option maxRecDepth 100000 in
set_option maxHeartbeats 400000 in
theorem isPlan_any (f : Value) (S : Sea) (P0 : Option Addr) (plan : List (List Int)) (n c0 : Nat) (w : World) (hf : SeaAt w f S) (hP : GridAt w P0 plan) (hn : plan.length = n) :
    Calls Try.prog 33 #[f, .slice P0 n c0] w fun e w' => e = .returned (.bool (planB S plan)) ∧ Kp w w' := by
  have hm : n ≤ 9223372036854775807 := hn ▸ hP.1
  obtain ⟨A, a, B, b, C, c, D, d, rfl, hA, hB, hC, hD⟩ := hf
  have hk0 : Kp w (w.alloc (.cells #[.slice A S.op.length a, .slice B S.cl.length b, .slice C S.ke.length c, .slice D S.ro.length d] 31)) := (Kp.refl w).alloc _
  obtain ⟨d0, d1, d2, d3⟩ := box4 w (.slice A S.op.length a) (.slice B S.cl.length b) (.slice C S.ke.length c) (.slice D S.ro.length d) 31
  have hSA := SeaAt.kp (show SeaAt w (.agg #[.slice A S.op.length a, .slice B S.cl.length b, .slice C S.ke.length c, .slice D S.ro.length d]) S from ⟨A, a, B, b, C, c, D, d, rfl, hA, hB, hC, hD⟩) hk0
  replace hA := hA.kp hk0
  replace hB := hB.kp hk0
  replace hC := hC.kp hk0
  replace hD := hD.kp hk0
  replace hP := hP.kp hk0
  have hrl := hD.1
  have Hn := Lib.hid hn
  clear hn hA hB hC hD
  by_cases he : n = S.ro.length
  case neg =>
    have hne : ((n : Int) != (S.ro.length : Int)) = true := by simp; omega
    have Hno : Hid (planB S plan = false) := plan_len (by rw [Hn.out]; exact he)
    go_enter Try.func33, Try.ntmps33
    go_wp2_with fail
    go_ret
    exact ⟨ret_bool Hno.out.symm, hk0⟩
  have hne : ((n : Int) != (S.ro.length : Int)) = false := by simp [he]
  have He := Lib.hid he
  clear he
  go_enter Try.func33, Try.ntmps33
  go_wp2_with fail
  have hsz : Hid ((w.alloc (.cells #[.slice A S.op.length a, .slice B S.cl.length b, .slice C S.ke.length c, .slice D S.ro.length d] 31)).heap.size = w.heap.size + 1) := by show _ = _; simp
  generalize w.alloc (.cells #[.slice A S.op.length a, .slice B S.cl.length b, .slice C S.ke.length c, .slice D S.ro.length d] 31) = wb at *
  have hkb : Kp wb wb := Kp.refl _
  have hkw := hk0
  go_loopw [15] (fun iv wr => ∃ k : Nat, k ≤ n ∧ iv = .int .i64 k ∧ Hid (((List.range k).all fun r => mayR S r (plan.getD r [])) = true) ∧ Kp wb wr) (fun iv _ => n - (intOf iv).toNat)
  case atStart => exact ⟨0, by omega, rfl, rfl, Kp.refl _⟩
  case round =>
    obtain ⟨k, hk, rfl, Hp, hkb⟩ := hrel
    by_cases hlt : k < n
    · have lx : k < plan.length := by rw [Hn.out]; exact hlt
      have hlr : k < S.ro.length := by rw [← He.out]; exact hlt
      obtain ⟨pd, A2, ca, hPe, hcp, hrp⟩ := hP.at_ lx
      subst hPe
      have q_d0 := hkb.get d0
      have q_d1 := hkb.get d1
      have q_d2 := hkb.get d2
      have q_d3 := hkb.get d3
      have q_hcp := hkb.get hcp
      go_wp2_with fail
      have CC := Lib.hid (isPossible_any _ S k A2 plan[k] _ ca _ (hSA.kp hkb) (hrp.kp hkb) rfl hlr)
      with_reducible refine Calls.mono CC.out ?_
      rintro e w1 ⟨rfl, hk1⟩
      clear CC q_d0 q_d1 q_d2 q_d3 q_hcp
      replace hkb := hkb.trans hk1
      cases hmay : mayR S k plan[k]
      · have Hno := Lib.hid (plan_no lx hmay)
        clear hmay
        have q_d0 := hkb.get d0
        have q_d1 := hkb.get d1
        have q_d2 := hkb.get d2
        have q_d3 := hkb.get d3
        have q_hcp := hkb.get hcp
        go_wp2_with fail
        go_ret
        exact ⟨ret_bool Hno.out.symm, hkw.trans hkb⟩
      · have Hy := Lib.hid (plan_next Hp.out lx hmay)
        clear hmay
        have q_d0 := hkb.get d0
        have q_d1 := hkb.get d1
        have q_d2 := hkb.get d2
        have q_d3 := hkb.get d3
        have q_hcp := hkb.get hcp
        go_wp2_with fail
        go_roundw
        case rel => exact ⟨k + 1, by omega, by go_num, Hy.out, hkb⟩
        case measure => simp [intOf]; omega
    · have Hy := Lib.hid (plan_yes Hp.out (by rw [Hn.out]; omega) (by rw [Hn.out]; exact He.out))
      have q_d0 := hkb.get d0
      have q_d1 := hkb.get d1
      have q_d2 := hkb.get d2
      have q_d3 := hkb.get d3
      go_wp2_with fail
      go_ret
      exact ⟨ret_bool Hy.out.symm, hkw.trans hkb⟩
def planR (S : Sea) (plan : List (List Int)) : Bool := goodS S && planB S plan
theorem planR_no {S : Sea} {plan : List (List Int)} (h : goodS S = false) : Ending.returned (.tuple #[.bool false, .bool false]) = .returned (.tuple #[.bool (planR S plan), .bool (goodS S)]) := by simp [planR, h]
theorem planR_yes {S : Sea} {plan : List (List Int)} (h : goodS S = true) : Ending.returned (.tuple #[.bool (planB S plan), .bool true]) = .returned (.tuple #[.bool (planR S plan), .bool (goodS S)]) := by simp [planR, h]
set_option maxHeartbeats 400000 in
theorem implIsPlan_any (f : Value) (S : Sea) (P0 : Option Addr) (plan : List (List Int)) (n c0 : Nat) (w : World) (hf : SeaAt w f S) (hP : GridAt w P0 plan) (hn : plan.length = n) :
    Calls Try.prog 24 #[f, .slice P0 n c0] w fun e w' => e = .returned (.tuple #[.bool (planR S plan), .bool (goodS S)]) ∧ Kp w w' := by
  obtain ⟨A, a, B, b, C, c, D, d, rfl, hA, hB, hC, hD⟩ := hf
  have hk0 : Kp w (w.alloc (.cells #[.slice A S.op.length a, .slice B S.cl.length b, .slice C S.ke.length c, .slice D S.ro.length d] 31)) := (Kp.refl w).alloc _
  obtain ⟨d0, d1, d2, d3⟩ := box4 w (.slice A S.op.length a) (.slice B S.cl.length b) (.slice C S.ke.length c) (.slice D S.ro.length d) 31
  have hSA := SeaAt.kp (show SeaAt w (.agg #[.slice A S.op.length a, .slice B S.cl.length b, .slice C S.ke.length c, .slice D S.ro.length d]) S from ⟨A, a, B, b, C, c, D, d, rfl, hA, hB, hC, hD⟩) hk0
  replace hA := hA.kp hk0
  replace hB := hB.kp hk0
  replace hC := hC.kp hk0
  replace hD := hD.kp hk0
  replace hP := hP.kp hk0
  have Hn := Lib.hid hn
  clear hn hA hB hC hD
  go_enter Try.func24, Try.ntmps24
  go_wp2_with fail
  have hsz : Hid ((w.alloc (.cells #[.slice A S.op.length a, .slice B S.cl.length b, .slice C S.ke.length c, .slice D S.ro.length d] 31)).heap.size = w.heap.size + 1) := by show _ = _; simp
  generalize w.alloc (.cells #[.slice A S.op.length a, .slice B S.cl.length b, .slice C S.ke.length c, .slice D S.ro.length d] 31) = wb at *
  have hkb : Kp wb wb := Kp.refl _
  have hkw := hk0
  have CC := Lib.hid (implIsSeason_any _ S _ (hSA.kp hkb))
  with_reducible refine Calls.mono CC.out ?_
  rintro e w1 ⟨rfl, hk1⟩
  clear CC
  replace hkb := hkb.trans hk1
  cases hg_ : (goodS S)
  · have Hg := Lib.hid hg_; clear hg_
    have q_d0 := hkb.get d0
    have q_d1 := hkb.get d1
    have q_d2 := hkb.get d2
    have q_d3 := hkb.get d3
    go_wp2_with fail
    go_ret2
    exact ⟨planR_no Hg.out, hkw.trans hkb⟩
  have Hg := Lib.hid hg_; clear hg_
  have q_d0 := hkb.get d0
  have q_d1 := hkb.get d1
  have q_d2 := hkb.get d2
  have q_d3 := hkb.get d3
  go_wp2_with fail
  have CC := Lib.hid (isPlan_any _ S P0 plan n c0 _ (hSA.kp hkb) (hP.kp hkb) Hn.out)
  with_reducible refine Calls.mono CC.out ?_
  rintro e w2 ⟨rfl, hk2⟩
  clear CC q_d0 q_d1 q_d2 q_d3
  replace hkb := hkb.trans hk2
  have q_d0 := hkb.get d0
  have q_d1 := hkb.get d1
  have q_d2 := hkb.get d2
  have q_d3 := hkb.get d3
  go_wp2_with fail
  go_ret2
  exact ⟨planR_yes Hg.out, hkw.trans hkb⟩
end Go.Proofs.Ytjoebikljmkhfaa
