/- PlanMoves and PlanCost: reference and program. No condition. -/
import Derived.Test.YtjoebikljmkhfaaMove3
import Derived.Test.YtjoebikljmkhfaaPut2
namespace Go.Proofs.Ytjoebikljmkhfaa
open Go.RowKit Go.Sort

def prevL (plan : List (List Int)) (k : Nat) : List Int := if k = 0 then [] else plan.getD (k - 1) []
def mvsF (S : Sea) (plan : List (List Int)) (r : Nat) : Int := moveF S r (prevL plan r) (plan.getD r [])
theorem prevL_succ {plan : List (List Int)} {k : Nat} (hk : k < plan.length) : prevL plan (k + 1) = plan[k] := by
  rw [prevL, if_neg (by omega)]; simp [List.getD, hk]
theorem mvsF_at {S : Sea} {plan : List (List Int)} {k : Nat} (hk : k < plan.length) : mvsF S plan k = moveF S k (prevL plan k) plan[k] := by
  rw [mvsF]; simp [List.getD, hk]
theorem planB_parts {S : Sea} {plan : List (List Int)} (h : planB S plan = true) : plan.length = S.ro.length ∧ ∀ r (hr : r < plan.length), mayR S r plan[r] = true := by
  simp only [planB, Bool.and_eq_true, decide_eq_true_eq, List.all_eq_true, List.mem_range] at h
  refine ⟨h.1, fun r hr => ?_⟩
  have := h.2 r hr
  simpa [List.getD, hr] using this
theorem mayR_ris {S : Sea} {r : Nat} {T : List Int} (h : mayR S r T = true) : risB T 0 ((S.op.length : Int) - 1) = true := by
  simp only [mayR, Bool.and_eq_true] at h
  exact h.1
theorem prev_ris {S : Sea} {plan : List (List Int)} (h : planB S plan = true) {k : Nat} (hk : k ≤ plan.length) : risB (prevL plan k) 0 ((S.op.length : Int) - 1) = true := by
  cases k with
  | zero => rfl
  | succ k =>
    rw [prevL_succ (by omega)]
    exact mayR_ris ((planB_parts h).2 k (by omega))
set_option maxRecDepth 100000 in
set_option maxHeartbeats 1000000 in
theorem l10Moves_any (f : Value) (S : Sea) (P0 : Option Addr) (plan : List (List Int)) (n c0 : Nat) (w : World) (hf : SeaAt w f S) (hP : GridAt w P0 plan) (hn : plan.length = n) (hg : goodS S = true) (hp : planB S plan = true) :
    Calls Try.prog 21 #[f, .slice P0 n c0] w fun e w' => ∃ v, e = .returned v ∧ Own w' w.heap.size v (mapTo (mvsF S plan) n) ∧ Kp w w' := by
  have hm : n ≤ 9223372036854775807 := hn ▸ hP.1
  have h5 := (goodS_iff.1 hg).2.2.2.2.1
  have hl := (planB_parts hp).1
  have hn5 : n ≤ 5 := by omega
  have hnr : n ≤ S.ro.length := by omega
  have HPP := Lib.hid (planB_parts hp).2
  have HPR := Lib.hid (fun k (hk : k ≤ plan.length) => prev_ris hp hk)
  have HG := Lib.hid hg
  have Hn := Lib.hid hn
  obtain ⟨A, a, B, b, C, c, D, d, rfl, hA, hB, hC, hD⟩ := hf
  have hk0 : Kp w (w.alloc (.cells #[.slice A S.op.length a, .slice B S.cl.length b, .slice C S.ke.length c, .slice D S.ro.length d] 31)) := (Kp.refl w).alloc _
  obtain ⟨d0, d1, d2, d3⟩ := box4 w (.slice A S.op.length a) (.slice B S.cl.length b) (.slice C S.ke.length c) (.slice D S.ro.length d) 31
  have hSA := SeaAt.kp (show SeaAt w (.agg #[.slice A S.op.length a, .slice B S.cl.length b, .slice C S.ke.length c, .slice D S.ro.length d]) S from ⟨A, a, B, b, C, c, D, d, rfl, hA, hB, hC, hD⟩) hk0
  replace hA := hA.kp hk0
  replace hB := hB.kp hk0
  replace hC := hC.kp hk0
  replace hD := hD.kp hk0
  replace hP := hP.kp hk0
  clear hA hB hC hD hn hg hp h5 hl
  go_enter Try.func21, Try.ntmps21
  go_wp2_with fail
  have hsz : Hid ((w.alloc (.cells #[.slice A S.op.length a, .slice B S.cl.length b, .slice C S.ke.length c, .slice D S.ro.length d] 31)).heap.size = w.heap.size + 1) := by show _ = _; simp
  generalize w.alloc (.cells #[.slice A S.op.length a, .slice B S.cl.length b, .slice C S.ke.length c, .slice D S.ro.length d] 31) = wb at *
  have hkb : Kp wb wb := Kp.refl _
  have hkw := hk0
  have ho : Own ((wb.alloc (.cells #[] 3)).alloc (.cells #[] 3)) wb.heap.size (.slice (some ⟨w.heap.size + 1, 0, none⟩) 0 0) [] := by
    rw [← hsz.out]; exact (own_new0 wb wb.heap.size (Nat.le_refl _)).kp ((Kp.refl _).alloc _)
  replace hkb : Kp wb ((wb.alloc (.cells #[] 3)).alloc (.cells #[] 3)) := ((Kp.refl _).alloc _).alloc _
  skip
  go_loopw [5, 6, 7] (fun ov bv iv wr => ∃ (k : Nat) (Av : Option Addr) (cv : Nat), k ≤ n ∧ iv = .int .i64 k ∧ bv = .slice Av (prevL plan k).length cv ∧ IntsAt wr Av (prevL plan k) ∧ Own wr wb.heap.size ov (mapTo (mvsF S plan) k) ∧ Kp wb wr) (fun _ _ iv _ => n - (intOf iv).toNat)
  case atStart => exact ⟨0, _, _, by omega, rfl, rfl, IntsAt.nil _ _, ho, hkb⟩
  case round =>
    clear ho hkb
    obtain ⟨k, Av, cv, hk, rfl, rfl, hpv, hown, hkb⟩ := hrel
    by_cases hlt : k < n
    · have lx : k < plan.length := by rw [Hn.out]; exact hlt
      have hlr : k < S.ro.length := by omega
      obtain ⟨pd, A2, ca, hPe, hcp, hrp⟩ := hP.at_ lx
      subst hPe
      have hml := Lib.hid (mapTo_len (mvsF S plan) k)
      have hlen : (mapTo (mvsF S plan) k).length < 1048576 := by rw [hml.out]; omega
      have hmv := Lib.hid (mvsF_at (S := S) lx)
      have hpr := Lib.hid (HPR.out k (by rw [Hn.out]; omega))
      have hmy := Lib.hid (HPP.out k lx)
      have CM := Lib.hid (fun (wx : World) (hx : Kp wr wx) => l10Move_any _ S k Av (prevL plan k) _ cv A2 plan[k] _ ca wx (hSA.kp (hkb.trans hx)) (hpv.kp hx) rfl (hrp.kp (hkb.trans hx)) rfl HG.out hlr hmy.out)
      have hkr : Kp wr wr := Kp.refl _
      have q_d0 := hkb.get d0
      have q_d1 := hkb.get d1
      have q_d2 := hkb.get d2
      have q_d3 := hkb.get d3
      have q_hcp := hkb.get hcp
      have tok1 : True := trivial
      go_wp2_with fail
      go_region_held3 (fun w' => w'.cell? ⟨w.heap.size, 0, none⟩ = some (.slice A S.op.length a) ∧ w'.cell? ⟨w.heap.size, 1, none⟩ = some (.slice B S.cl.length b) ∧ w'.cell? ⟨w.heap.size, 2, none⟩ = some (.slice C S.ke.length c) ∧ w'.cell? ⟨w.heap.size, 3, none⟩ = some (.slice D S.ro.length d) ∧ w'.cell? (pd.add k) = some (.slice A2 plan[k].length ca) ∧ Kp wb w')
        (first | (refine keepc5 d0 d1 d2 d3 hcp ?_; exact (by repeat (first | with_reducible assumption | with_reducible exact Kp.refl _ | with_reducible refine Kp.drew ?_ | with_reducible refine Kp.alloc ?_ _ | with_reducible refine Kp.drewN ?_ _))) | fail)
        (first
          | (have _t := tok1; go_at_call 31; with_reducible refine Calls.mono (CM.out _ (by repeat (first | with_reducible assumption | with_reducible exact Kp.refl _ | with_reducible refine Kp.drew ?_ | with_reducible refine Kp.alloc ?_ _ | with_reducible refine Kp.drewN ?_ _))) ?_; rintro e wr1 ⟨rfl, hka⟩; have hr1 : Kp wb wr1 := Kp.trans (by repeat (first | with_reducible assumption | with_reducible exact Kp.refl _ | with_reducible refine Kp.drew ?_ | with_reducible refine Kp.alloc ?_ _ | with_reducible refine Kp.drewN ?_ _)) hka; have hoB := hown.drew.kp hka; have tok2 : True := trivial; clear tok1 _t)
          | (have _t := tok2; refine step_app (by rfl) (.tmp 16) (.tmp 25) (by rfl) wb.heap.size _ (mapTo (mvsF S plan) k) (moveF S k (prevL plan k) plan[k]) _ (by rfl) (by rfl) (by rfl) hoB hr1.le hlen ?_; intro v' w' ho' ht' _; have hk4 : Kp wb w' := hoB.kp_turn hr1 (Nat.le_refl _) ht'; have tok3 : True := trivial; clear tok2 _t)
          | fail)
      have hc9 := hk4.get hcp
      go_wp2_with fail
      go_roundw
      case rel => exact ⟨k + 1, A2, ca, by omega, by go_num, by rw [prevL_succ lx], by rw [prevL_succ lx]; exact hrp.kp hk4, by rw [mapTo_succ, hmv.out]; exact ho', hk4⟩
      case measure => simp [intOf]; omega
    · obtain rfl : k = n := by omega
      have q_d0 := hkb.get d0
      have q_d1 := hkb.get d1
      have q_d2 := hkb.get d2
      have q_d3 := hkb.get d3
      go_wp2_with fail
      go_ret
      exact ⟨_, rfl, hown.mono hkw.le, hkw.trans hkb⟩
set_option maxRecDepth 100000 in
set_option maxHeartbeats 1000000 in
theorem moves_any (f : Value) (S : Sea) (P0 : Option Addr) (plan : List (List Int)) (n c0 : Nat) (w : World) (hf : SeaAt w f S) (hP : GridAt w P0 plan) (hn : plan.length = n) (hg : goodS S = true) (hp : planB S plan = true) :
    Calls Try.prog 25 #[f, .slice P0 n c0] w fun e w' => ∃ v, e = .returned v ∧ Own w' w.heap.size v (mapTo (mvsF S plan) n) ∧ Kp w w' := by
  have hm : n ≤ 9223372036854775807 := hn ▸ hP.1
  have h5 := (goodS_iff.1 hg).2.2.2.2.1
  have hl := (planB_parts hp).1
  have hn5 : n ≤ 5 := by omega
  have hnr : n ≤ S.ro.length := by omega
  have HPP := Lib.hid (planB_parts hp).2
  have HPR := Lib.hid (fun k (hk : k ≤ plan.length) => prev_ris hp hk)
  have HG := Lib.hid hg
  have Hn := Lib.hid hn
  obtain ⟨A, a, B, b, C, c, D, d, rfl, hA, hB, hC, hD⟩ := hf
  have hk0 : Kp w (w.alloc (.cells #[.slice A S.op.length a, .slice B S.cl.length b, .slice C S.ke.length c, .slice D S.ro.length d] 31)) := (Kp.refl w).alloc _
  obtain ⟨d0, d1, d2, d3⟩ := box4 w (.slice A S.op.length a) (.slice B S.cl.length b) (.slice C S.ke.length c) (.slice D S.ro.length d) 31
  have hSA := SeaAt.kp (show SeaAt w (.agg #[.slice A S.op.length a, .slice B S.cl.length b, .slice C S.ke.length c, .slice D S.ro.length d]) S from ⟨A, a, B, b, C, c, D, d, rfl, hA, hB, hC, hD⟩) hk0
  replace hA := hA.kp hk0
  replace hB := hB.kp hk0
  replace hC := hC.kp hk0
  replace hD := hD.kp hk0
  replace hP := hP.kp hk0
  clear hA hB hC hD hn hg hp h5 hl
  go_enter Try.func25, Try.ntmps25
  go_wp2_with fail
  have hsz : Hid ((w.alloc (.cells #[.slice A S.op.length a, .slice B S.cl.length b, .slice C S.ke.length c, .slice D S.ro.length d] 31)).heap.size = w.heap.size + 1) := by show _ = _; simp
  generalize w.alloc (.cells #[.slice A S.op.length a, .slice B S.cl.length b, .slice C S.ke.length c, .slice D S.ro.length d] 31) = wb at *
  have hkb : Kp wb wb := Kp.refl _
  have hkw := hk0
  have ho : Own ((wb.alloc (.cells #[] 3)).alloc (.cells #[] 3)) wb.heap.size (.slice (some ⟨w.heap.size + 1, 0, none⟩) 0 0) [] := by
    rw [← hsz.out]; exact (own_new0 wb wb.heap.size (Nat.le_refl _)).kp ((Kp.refl _).alloc _)
  replace hkb : Kp wb ((wb.alloc (.cells #[] 3)).alloc (.cells #[] 3)) := ((Kp.refl _).alloc _).alloc _
  skip
  go_loopw [5, 6, 13] (fun ov bv iv wr => ∃ (k : Nat) (Av : Option Addr) (cv : Nat), k ≤ n ∧ iv = .int .i64 k ∧ bv = .slice Av (prevL plan k).length cv ∧ IntsAt wr Av (prevL plan k) ∧ Own wr wb.heap.size ov (mapTo (mvsF S plan) k) ∧ Kp wb wr) (fun _ _ iv _ => n - (intOf iv).toNat)
  case atStart => exact ⟨0, _, _, by omega, rfl, rfl, IntsAt.nil _ _, ho, hkb⟩
  case round =>
    clear ho hkb
    obtain ⟨k, Av, cv, hk, rfl, rfl, hpv, hown, hkb⟩ := hrel
    by_cases hlt : k < n
    · have lx : k < plan.length := by rw [Hn.out]; exact hlt
      have hlr : k < S.ro.length := by omega
      obtain ⟨pd, A2, ca, hPe, hcp, hrp⟩ := hP.at_ lx
      subst hPe
      have hml := Lib.hid (mapTo_len (mvsF S plan) k)
      have hlen : (mapTo (mvsF S plan) k).length < 1048576 := by rw [hml.out]; omega
      have hmv := Lib.hid (mvsF_at (S := S) lx)
      have hpr := Lib.hid (HPR.out k (by rw [Hn.out]; omega))
      have hmy := Lib.hid (HPP.out k lx)
      have q_d0 := hkb.get d0
      have q_d1 := hkb.get d1
      have q_d2 := hkb.get d2
      have q_d3 := hkb.get d3
      have q_hcp := hkb.get hcp
      go_wp2_with fail
      have CC := Lib.hid (move_any _ S k Av (prevL plan k) _ cv A2 plan[k] _ ca _ (hSA.kp hkb) hpv rfl (hrp.kp hkb) rfl HG.out hlr hpr.out hmy.out)
      with_reducible refine Calls.mono CC.out ?_
      rintro e w1 ⟨rfl, hk1⟩
      clear CC q_d0 q_d1 q_d2 q_d3 q_hcp
      replace hkb := hkb.trans hk1
      replace hown := hown.kp hk1
      have q_d0 := hkb.get d0
      have q_d1 := hkb.get d1
      have q_d2 := hkb.get d2
      have q_d3 := hkb.get d3
      have q_hcp := hkb.get hcp
      go_wp2_with (at_builtin; go_loud (refine wpl_app rfl (.tmp 18) (.tmp 24) rfl (wb.heap.size) _ ((mapTo (mvsF S plan) k)) ((moveF S k (prevL plan k) plan[k])) rfl rfl hown hkb.le (by omega) ?_; intro v' w' ho' ht' h4'; have hkb' := hown.kp_turn hkb (Nat.le_refl _) ht'; have r_d0 := hkb'.get d0; have r_d1 := hkb'.get d1; have r_d2 := hkb'.get d2; have r_d3 := hkb'.get d3; have r_hcp := hkb'.get hcp))
      go_roundw
      case rel => exact ⟨k + 1, A2, ca, by omega, by go_num, by rw [prevL_succ lx], by rw [prevL_succ lx]; exact hrp.kp hkb', by rw [mapTo_succ, hmv.out]; exact ho', hkb'⟩
      case measure => simp [intOf]; omega
    · obtain rfl : k = n := by omega
      have q_d0 := hkb.get d0
      have q_d1 := hkb.get d1
      have q_d2 := hkb.get d2
      have q_d3 := hkb.get d3
      go_wp2_with fail
      go_ret
      exact ⟨_, rfl, hown.mono hkw.le, hkw.trans hkb⟩
def plOk (S : Sea) (plan : List (List Int)) : Bool := planR S plan
def plL (S : Sea) (plan : List (List Int)) : List Int := if plOk S plan = true then mapTo (mvsF S plan) plan.length else []
def plC (S : Sea) (plan : List (List Int)) : Int := (plL S plan).sum
theorem plL_yes {S : Sea} {plan : List (List Int)} (h : plOk S plan = true) : plL S plan = mapTo (mvsF S plan) plan.length := if_pos h
theorem plL_no {S : Sea} {plan : List (List Int)} (h : plOk S plan = false) : plL S plan = [] := if_neg (by simp [h])
theorem plOk_parts {S : Sea} {plan : List (List Int)} (h : plOk S plan = true) : goodS S = true ∧ planB S plan = true := by simpa [plOk, planR] using h
theorem pl_five {S : Sea} {plan : List (List Int)} (h : plOk S plan = true) : plan.length ≤ 5 := by
  have hp := plOk_parts h
  have h5 := (goodS_iff.1 hp.1).2.2.2.2.1
  have hl := (planB_parts hp.2).1
  omega
theorem plL_len (S : Sea) (plan : List (List Int)) : (plL S plan).length ≤ 1048576 := by
  by_cases h : plOk S plan = true
  · rw [plL_yes h, mapTo_len]; have := pl_five h; omega
  · rw [plL_no (by simpa using h)]; simp
theorem mvs_bd {S : Sea} {plan : List (List Int)} (h : plOk S plan = true) {r : Nat} (hr : r < plan.length) : 0 ≤ mvsF S plan r ∧ mvsF S plan r ≤ 2178 := by
  have hp := plOk_parts h
  exact moveF_bd hp.1 (by have := (planB_parts hp.2).1; omega) _ _
theorem mvs_sum {S : Sea} {plan : List (List Int)} (h : plOk S plan = true) : ∀ k, k ≤ plan.length → 0 ≤ sumTo (mvsF S plan) k ∧ sumTo (mvsF S plan) k ≤ k * 2178
  | 0, _ => by simp [sumTo_zero]
  | k + 1, hk => by
    have h1 := mvs_sum h k (by omega)
    have h2 := mvs_bd h (r := k) (by omega)
    rw [sumTo_succ]; omega
theorem pl_take {S : Sea} {plan : List (List Int)} (k : Nat) (hk : k ≤ (plL S plan).length) : -1000000000 ≤ ((plL S plan).take k).sum ∧ ((plL S plan).take k).sum ≤ 1000000000 := by
  by_cases h : plOk S plan = true
  · have h5 := pl_five h
    rw [plL_yes h, mapTo_len] at hk
    rw [plL_yes h, mapTo_take _ _ _ hk]
    have h1 := mvs_sum h k hk
    unfold sumTo at h1
    omega
  · rw [plL_no (by simpa using h)]; simp
theorem pl_mem {S : Sea} {plan : List (List Int)} : ∀ x ∈ plL S plan, -1000000000 ≤ x ∧ x ≤ 1000000000 := fun x hx => by
  by_cases h : plOk S plan = true
  · rw [plL_yes h] at hx
    obtain ⟨i, hi, rfl⟩ := mem_mapTo hx
    have := mvs_bd h hi
    omega
  · rw [plL_no (by simpa using h)] at hx; cases hx
set_option maxRecDepth 100000 in
set_option maxHeartbeats 400000 in
theorem specPlanMoves_any (f : Value) (S : Sea) (P0 : Option Addr) (plan : List (List Int)) (n c0 : Nat) (w : World) (hf : SeaAt w f S) (hP : GridAt w P0 plan) (hn : plan.length = n) :
    Calls Try.prog 6 #[f, .slice P0 n c0] w fun e w' => ∃ v, e = .returned (.tuple #[v, .bool (plOk S plan)]) ∧ Own w' w.heap.size v (plL S plan) ∧ Kp w w' := by
  obtain ⟨A, a, B, b, C, c, D, d, rfl, hA, hB, hC, hD⟩ := hf
  have hk0 : Kp w (w.alloc (.cells #[.slice A S.op.length a, .slice B S.cl.length b, .slice C S.ke.length c, .slice D S.ro.length d] 31)) := (Kp.refl w).alloc _
  obtain ⟨d0, d1, d2, d3⟩ := box4 w (.slice A S.op.length a) (.slice B S.cl.length b) (.slice C S.ke.length c) (.slice D S.ro.length d) 31
  have hSA := SeaAt.kp (show SeaAt w (.agg #[.slice A S.op.length a, .slice B S.cl.length b, .slice C S.ke.length c, .slice D S.ro.length d]) S from ⟨A, a, B, b, C, c, D, d, rfl, hA, hB, hC, hD⟩) hk0
  replace hA := hA.kp hk0
  replace hB := hB.kp hk0
  replace hC := hC.kp hk0
  replace hD := hD.kp hk0
  replace hP := hP.kp hk0
  have Hn := Lib.hid hn
  clear hA hB hC hD hn
  go_enter Try.func6, Try.ntmps6
  go_wp2_with fail
  have hsz : Hid ((w.alloc (.cells #[.slice A S.op.length a, .slice B S.cl.length b, .slice C S.ke.length c, .slice D S.ro.length d] 31)).heap.size = w.heap.size + 1) := by show _ = _; simp
  generalize w.alloc (.cells #[.slice A S.op.length a, .slice B S.cl.length b, .slice C S.ke.length c, .slice D S.ro.length d] 31) = wb at *
  have hkb : Kp wb wb := Kp.refl _
  have hkw := hk0
  have CC := Lib.hid (l10Good_any _ S _ (hSA.kp hkb))
  with_reducible refine Calls.mono CC.out ?_
  rintro e w1 ⟨rfl, hk1⟩
  clear CC
  replace hkb := hkb.trans hk1
  cases hg_ : goodS S
  · have Hno : Hid (plOk S plan = false) := by show plOk S plan = false; simp [plOk, planR, hg_]
    clear hg_
    have q_d0 := hkb.get d0
    have q_d1 := hkb.get d1
    have q_d2 := hkb.get d2
    have q_d3 := hkb.get d3
    go_wp2_with fail
    have ho := own_new0 w1 w.heap.size (Nat.le_trans hkw.le hkb.le)
    go_ret2
    exact ⟨_, by rw [Hno.out]; rfl, by rw [plL_no Hno.out]; exact ho, (hkw.trans hkb).alloc _⟩
  have Hg := Lib.hid hg_; clear hg_
  have q_d0 := hkb.get d0
  have q_d1 := hkb.get d1
  have q_d2 := hkb.get d2
  have q_d3 := hkb.get d3
  go_wp2_with fail
  have CC := Lib.hid (l10Plan_any _ S P0 plan n c0 _ (hSA.kp hkb) (hP.kp hkb) Hn.out)
  with_reducible refine Calls.mono CC.out ?_
  rintro e w2 ⟨rfl, hk2⟩
  clear CC q_d0 q_d1 q_d2 q_d3
  replace hkb := hkb.trans hk2
  cases hp_ : planB S plan
  · have Hno : Hid (plOk S plan = false) := by show plOk S plan = false; simp [plOk, planR, hp_]
    clear hp_
    have q_d0 := hkb.get d0
    have q_d1 := hkb.get d1
    have q_d2 := hkb.get d2
    have q_d3 := hkb.get d3
    go_wp2_with fail
    have ho := own_new0 w2 w.heap.size (Nat.le_trans hkw.le hkb.le)
    go_ret2
    exact ⟨_, by rw [Hno.out]; rfl, by rw [plL_no Hno.out]; exact ho, (hkw.trans hkb).alloc _⟩
  have Hp := Lib.hid hp_; clear hp_
  have Hok : Hid (plOk S plan = true) := by show plOk S plan = true; simp [plOk, planR, Hg.out, Hp.out]
  have q_d0 := hkb.get d0
  have q_d1 := hkb.get d1
  have q_d2 := hkb.get d2
  have q_d3 := hkb.get d3
  go_wp2_with fail
  have CC := Lib.hid (l10Moves_any _ S P0 plan n c0 _ (hSA.kp hkb) (hP.kp hkb) Hn.out Hg.out Hp.out)
  with_reducible refine Calls.mono CC.out ?_
  rintro e w3 ⟨v, rfl, ho, hk3⟩
  clear CC q_d0 q_d1 q_d2 q_d3
  replace hkb := hkb.trans hk3
  have q_d0 := hkb.get d0
  have q_d1 := hkb.get d1
  have q_d2 := hkb.get d2
  have q_d3 := hkb.get d3
  go_wp2_with fail
  go_ret2
  exact ⟨_, by rw [Hok.out]; rfl, by rw [plL_yes Hok.out, Hn.out]; exact ho.mono (Nat.le_trans hkw.le (Nat.le_trans hk1.le hk2.le)), hkw.trans hkb⟩
set_option maxRecDepth 100000 in
set_option maxHeartbeats 400000 in
theorem implPlanMoves_any (f : Value) (S : Sea) (P0 : Option Addr) (plan : List (List Int)) (n c0 : Nat) (w : World) (hf : SeaAt w f S) (hP : GridAt w P0 plan) (hn : plan.length = n) :
    Calls Try.prog 9 #[f, .slice P0 n c0] w fun e w' => ∃ v, e = .returned (.tuple #[v, .bool (plOk S plan)]) ∧ Own w' w.heap.size v (plL S plan) ∧ Kp w w' := by
  obtain ⟨A, a, B, b, C, c, D, d, rfl, hA, hB, hC, hD⟩ := hf
  have hk0 : Kp w (w.alloc (.cells #[.slice A S.op.length a, .slice B S.cl.length b, .slice C S.ke.length c, .slice D S.ro.length d] 31)) := (Kp.refl w).alloc _
  obtain ⟨d0, d1, d2, d3⟩ := box4 w (.slice A S.op.length a) (.slice B S.cl.length b) (.slice C S.ke.length c) (.slice D S.ro.length d) 31
  have hSA := SeaAt.kp (show SeaAt w (.agg #[.slice A S.op.length a, .slice B S.cl.length b, .slice C S.ke.length c, .slice D S.ro.length d]) S from ⟨A, a, B, b, C, c, D, d, rfl, hA, hB, hC, hD⟩) hk0
  replace hA := hA.kp hk0
  replace hB := hB.kp hk0
  replace hC := hC.kp hk0
  replace hD := hD.kp hk0
  replace hP := hP.kp hk0
  have Hn := Lib.hid hn
  clear hA hB hC hD hn
  go_enter Try.func9, Try.ntmps9
  go_wp2_with fail
  have hsz : Hid ((w.alloc (.cells #[.slice A S.op.length a, .slice B S.cl.length b, .slice C S.ke.length c, .slice D S.ro.length d] 31)).heap.size = w.heap.size + 1) := by show _ = _; simp
  generalize w.alloc (.cells #[.slice A S.op.length a, .slice B S.cl.length b, .slice C S.ke.length c, .slice D S.ro.length d] 31) = wb at *
  have hkb : Kp wb wb := Kp.refl _
  have hkw := hk0
  have CC := Lib.hid (implIsPlan_any _ S P0 plan n c0 _ (hSA.kp hkb) (hP.kp hkb) Hn.out)
  with_reducible refine Calls.mono CC.out ?_
  rintro e w1 ⟨rfl, hk1⟩
  clear CC
  replace hkb := hkb.trans hk1
  cases hg_ : planR S plan
  · have Hno : Hid (plOk S plan = false) := hg_
    clear hg_
    have q_d0 := hkb.get d0
    have q_d1 := hkb.get d1
    have q_d2 := hkb.get d2
    have q_d3 := hkb.get d3
    go_wp2_with fail
    go_ret2
    exact ⟨_, by rw [Hno.out]; rfl, by rw [plL_no Hno.out]; exact Own.nil _ _, hkw.trans hkb⟩
  have Hok : Hid (plOk S plan = true) := hg_
  clear hg_
  have HPt := Lib.hid (plOk_parts Hok.out)
  have q_d0 := hkb.get d0
  have q_d1 := hkb.get d1
  have q_d2 := hkb.get d2
  have q_d3 := hkb.get d3
  go_wp2_with fail
  have CC := Lib.hid (moves_any _ S P0 plan n c0 _ (hSA.kp hkb) (hP.kp hkb) Hn.out HPt.out.1 HPt.out.2)
  with_reducible refine Calls.mono CC.out ?_
  rintro e w2 ⟨v, rfl, ho, hk2⟩
  clear CC q_d0 q_d1 q_d2 q_d3
  replace hkb := hkb.trans hk2
  have q_d0 := hkb.get d0
  have q_d1 := hkb.get d1
  have q_d2 := hkb.get d2
  have q_d3 := hkb.get d3
  go_wp2_with fail
  go_ret2
  exact ⟨_, by rw [Hok.out]; rfl, by rw [plL_yes Hok.out, Hn.out]; exact ho.mono (Nat.le_trans hkw.le hk1.le), hkw.trans hkb⟩
end Go.Proofs.Ytjoebikljmkhfaa
