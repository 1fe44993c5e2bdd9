/- MoveCost: the program's walk, and both functions. No condition. -/
import Derived.Test.YtjoebikljmkhfaaMove2
namespace Go.Proofs.Ytjoebikljmkhfaa
open Go.RowKit Go.Sort

set_option maxRecDepth 100000 in
set_option maxHeartbeats 2000000 in
theorem move_any (f : Value) (S : Sea) (r : Nat) (A0 : Option Addr) (bef : List Int) (n0 c0 : Nat) (A1 : Option Addr) (T : List Int) (n1 c1 : Nat) (w : World) (hf : SeaAt w f S) (h0 : IntsAt w A0 bef) (hn0 : bef.length = n0) (h1 : IntsAt w A1 T) (hn1 : T.length = n1) (hg : goodS S = true) (hr : r < S.ro.length) (hb : risB bef 0 ((S.op.length : Int) - 1) = true) (hm : mayR S r T = true) :
    Calls Try.prog 34 #[f, .int .i64 r, .slice A0 n0 c0, .slice A1 n1 c1] w fun e w' => e = .returned (.int .i64 (moveF S r bef T)) ∧ Kp w w' := by
  obtain ⟨⟨g1, g5⟩, r1, r2, r3, _⟩ := goodS_iff.1 hg
  have HR1 := Lib.hid (rowB_iff.1 r1).2; have HR2 := Lib.hid (rowB_iff.1 r2).2; have HR3 := Lib.hid (rowB_iff.1 r3).2
  have hm1 : n1 ≤ 9223372036854775807 := hn1 ▸ h1.1
  obtain ⟨A, a, B, b, C, c, D, d, rfl, hA, hB, hC, hD⟩ := hf
  have hk0 : Kp w (w.alloc (.cells #[.slice A S.op.length a, .slice B S.cl.length b, .slice C S.ke.length c, .slice D S.ro.length d] 31)) := (Kp.refl w).alloc _
  obtain ⟨d0, d1, d2, d3⟩ := box4 w (.slice A S.op.length a) (.slice B S.cl.length b) (.slice C S.ke.length c) (.slice D S.ro.length d) 31
  have hSA := SeaAt.kp (show SeaAt w (.agg #[.slice A S.op.length a, .slice B S.cl.length b, .slice C S.ke.length c, .slice D S.ro.length d]) S from ⟨A, a, B, b, C, c, D, d, rfl, hA, hB, hC, hD⟩) hk0
  replace hA := hA.kp hk0
  replace hB := hB.kp hk0
  replace hC := hC.kp hk0
  replace hD := hD.kp hk0
  obtain ⟨cd, B2, cb, rfl, hcr, hgr⟩ := hD.at_ hr
  replace h0 := h0.kp hk0
  replace h1 := h1.kp hk0
  have hrl := hD.1
  have HG := Lib.hid hg
  have hb' : setB (fldR S r) bef = true := hb
  have hmp := may_parts hm
  have HB := Lib.hid (set_mem hb')
  have HT := Lib.hid (set_mem hmp.1)
  have HM := Lib.hid hmp
  have Hn0 := Lib.hid hn0; have Hn1 := Lib.hid hn1
  have Hgf := Lib.hid (fldR_good hg hr)
  have hdl := Lib.hid (fldR_di hr)
  have hF := fldR_at (a := a) (cb := cb) hr hA hgr
  have hop : (fldR S r).op.length = S.op.length := rfl
  have u1 : bagN bef < 2 ^ 5 := bagN_lt (fun y hy => by have := HB.out y hy; rw [hop] at this; omega)
  have u2 : bagN T < 2 ^ 5 := bagN_lt (fun y hy => by have := HT.out y hy; rw [hop] at this; omega)
  have BB := Lib.hid (fun a => bag_any (S := bef) (fun y hy => (HB.out y hy).1) a)
  have BT := Lib.hid (fun a => bag_any (S := T) (fun y hy => (HT.out y hy).1) a)
  have W1 : Hid (∀ x ∈ bef, 0 ≤ x ∧ x < 32) := fun x hx => by have := HB.out x hx; rw [hop] at this; omega
  have W2 : Hid (∀ x ∈ T, 0 ≤ x ∧ x < 32) := fun x hx => by have := HT.out x hx; rw [hop] at this; omega
  clear hg hm hn0 hn1 r1 r2 r3 hD hb hb' hmp hop
  go_enter Try.func34, Try.ntmps34
  go_wp2_with fail
  have hsz : Hid ((w.alloc (.cells #[.slice A S.op.length a, .slice B S.cl.length b, .slice C S.ke.length c, .slice (some cd) S.ro.length d] 31)).heap.size = w.heap.size + 1) := by show _ = _; simp
  generalize w.alloc (.cells #[.slice A S.op.length a, .slice B S.cl.length b, .slice C S.ke.length c, .slice (some cd) S.ro.length d] 31) = wb at *
  have hkb : Kp wb wb := Kp.refl _
  have hkw := hk0
  have CC := Lib.hid (bagOf_any A0 bef n0 c0 _ (h0.kp hkb) Hn0.out W1.out)
  with_reducible refine Calls.mono CC.out ?_
  rintro e w1 ⟨rfl, hw⟩
  obtain rfl := hw
  clear CC
  have q_d0 := hkb.get d0
  have q_d1 := hkb.get d1
  have q_d2 := hkb.get d2
  have q_d3 := hkb.get d3
  have q_hcr := hkb.get hcr
  go_wp2_with fail
  have CC := Lib.hid (bagOf_any A1 T n1 c1 _ (h1.kp hkb) Hn1.out W2.out)
  with_reducible refine Calls.mono CC.out ?_
  rintro e w2 ⟨rfl, hw⟩
  obtain rfl := hw
  clear CC q_d0 q_d1 q_d2 q_d3 q_hcr
  have q_d0 := hkb.get d0
  have q_d1 := hkb.get d1
  have q_d2 := hkb.get d2
  have q_d3 := hkb.get d3
  have q_hcr := hkb.get hcr
  go_wp2_with fail
  clear q_d0 q_d1 q_d2 q_d3 q_hcr
  clear hkb
  go_loop [11, 20] (fun mv iv => ∃ k : Nat, k ≤ S.op.length ∧ iv = .int .i64 k ∧ mv = .int .i64 (sumTo (mvAt S bef T) k)) (fun _ iv => S.op.length - (intOf iv).toNat)
  case atStart => exact ⟨0, by omega, rfl, rfl⟩
  case round =>
    obtain ⟨k, hk, rfl, rfl⟩ := hrel
    by_cases hlt : k < S.op.length
    · obtain ⟨b1, b2⟩ := mvSum_bd HG.out bef T k (by omega)
      have hsu := sumTo_succ (mvAt S bef T) k
      have l2 : k < S.cl.length := by rw [HR2.out]; exact hlt
      have l3 : k < S.ke.length := by rw [HR3.out]; exact hlt
      obtain ⟨p1, pe1, x1⟩ := hA.at_ hlt
      obtain ⟨p2, pe2, x2⟩ := hB.at_ l2
      obtain ⟨p3, pe3, x3⟩ := hC.at_ l3
      rw [← lget_at hlt] at x1
      rw [← lget_at l2] at x2
      rw [← lget_at l3] at x3
      subst pe1 pe2 pe3
      have hp := goodS_iff.1 HG.out
      obtain ⟨y1, y2⟩ := lget_bd hp.2.1 k
      obtain ⟨y3, y4⟩ := lget_bd hp.2.2.1 k
      obtain ⟨y5, y6⟩ := lget_bd hp.2.2.2.1 k
      clear hp
      have t1 := BB.out k
      have t2 := BT.out k
      rw [mvAt] at hsu
      cases hnow : (T.any fun x => x == (k : Int)) <;> cases hthen : (bef.any fun x => x == (k : Int)) <;> rw [hnow] at t2 <;> rw [hthen] at t1 <;> simp only [hnow, hthen, if_true, if_false, and_self, and_true, true_and, and_false, false_and, Bool.false_eq_true, Bool.true_eq_false, Int.add_zero, Int.zero_add] at hsu <;> have Hsu := Lib.hid hsu <;> clear hsu hnow hthen
      all_goals
        go_wp2_with (first | (go_at_call 47; with_reducible refine Calls.mono (has_any (bagN T) k _ (by omega) (by omega)) ?_; rintro e w' ⟨rfl, hw⟩; obtain rfl := hw) | (go_at_call 47; with_reducible refine Calls.mono (has_any (bagN bef) k _ (by omega) (by omega)) ?_; rintro e w' ⟨rfl, hw⟩; obtain rfl := hw))
        go_round
        case rel => exact ⟨k + 1, by omega, by go_num, by rw [Hsu.out] <;> go_num⟩
        case measure => simp [intOf]; omega
    · obtain rfl : k = S.op.length := by omega
      obtain ⟨b1, b2⟩ := mvSum_bd HG.out bef T S.op.length (by omega)
      obtain ⟨q1, q2⟩ := serveF_bd Hgf.out T
      by_cases hp : 0 < n1
      · have hne : T ≠ [] := fun e => by subst e; have := Hn1.out; simp at this; omega
        have CS := Lib.hid (fun (wx : World) (hx : Kp _ wx) => service_any _ (fldR S r) A1 T n1 c1 wx (hF.kp hx) (h1.kp hx) Hn1.out Hgf.out HM.out.1 hne)
        clear hne
        have hkb : Kp wb wb := Kp.refl _
        have q_d0 := hkb.get d0
        have q_d1 := hkb.get d1
        have q_d2 := hkb.get d2
        have q_d3 := hkb.get d3
        have q_hcr := hkb.get hcr
        have tok1 : True := trivial
        go_wp2_with fail
        go_region_held3 (fun w' => w'.cell? ⟨w.heap.size, 0, none⟩ = some (.slice A S.op.length a) ∧ w'.cell? ⟨w.heap.size, 1, none⟩ = some (.slice B S.cl.length b) ∧ w'.cell? ⟨w.heap.size, 2, none⟩ = some (.slice C S.ke.length c) ∧ w'.cell? ⟨w.heap.size, 3, none⟩ = some (.slice (some cd) S.ro.length d) ∧ w'.cell? (cd.add r) = some (.slice B2 S.ro[r].length cb) ∧ Kp wb w')
          (first | (refine keepc5 d0 d1 d2 d3 hcr ?_; exact (by repeat (first | with_reducible assumption | with_reducible exact Kp.refl _ | with_reducible refine Kp.drew ?_ | with_reducible refine Kp.alloc ?_ _ | with_reducible refine Kp.drewN ?_ _))) | fail)
          (first
            | (have _t := tok1; go_at_call 48; with_reducible refine Calls.mono (CS.out _ (by repeat (first | with_reducible assumption | with_reducible exact Kp.refl _ | with_reducible refine Kp.drew ?_ | with_reducible refine Kp.alloc ?_ _ | with_reducible refine Kp.drewN ?_ _))) ?_; rintro e wr1 ⟨rfl, hka⟩; have hr1 : Kp wb wr1 := Kp.trans (by repeat (first | with_reducible assumption | with_reducible exact Kp.refl _ | with_reducible refine Kp.drew ?_ | with_reducible refine Kp.alloc ?_ _ | with_reducible refine Kp.drewN ?_ _)) hka; have tok2 : True := trivial; clear tok1 _t)
            | fail)
        go_wp2_with fail
        go_ret
        exact ⟨ret_int (by first | (rw [IntWalk.i64_in _ (by omega)]; unfold moveF; omega) | (unfold moveF; omega)), hkw.trans hr1⟩
      · have h00 : Hid (serveF (fldR S r) T = 0) := by
          have h := HM.out.2
          show _ = _
          rcases h with h | h
          · exact absurd (List.eq_nil_of_length_eq_zero (by rw [Hn1.out]; omega)) h
          · unfold serveF; rw [h]; rfl
        go_wp2_with fail
        go_ret
        exact ⟨ret_int (by unfold moveF; rw [h00.out]; omega), hkw⟩
def mvOk (S : Sea) (r : Int) (bef T : List Int) : Bool := goodS S && inB r 0 ((S.ro.length : Int) - 1) && risB bef 0 ((S.op.length : Int) - 1) && mayR S r.toNat T
def mvR (S : Sea) (r : Int) (bef T : List Int) : Int := if mvOk S r bef T = true then moveF S r.toNat bef T else 0
theorem mv_no {S : Sea} {r : Int} {bef T : List Int} (h : mvOk S r bef T = false) : Ending.returned (.tuple #[.int .i64 0, .bool false]) = .returned (.tuple #[.int .i64 (mvR S r bef T), .bool (mvOk S r bef T)]) := by simp [mvR, h]
theorem mv_yes {S : Sea} {r : Int} {bef T : List Int} (h : mvOk S r bef T = true) : Ending.returned (.tuple #[.int .i64 (moveF S r.toNat bef T), .bool true]) = .returned (.tuple #[.int .i64 (mvR S r bef T), .bool (mvOk S r bef T)]) := by simp [mvR, h]
end Go.Proofs.Ytjoebikljmkhfaa
