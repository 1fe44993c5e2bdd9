/- MoveCost: the walks. No condition. -/
import Derived.Test.YtjoebikljmkhfaaMove
namespace Go.Proofs.Ytjoebikljmkhfaa
open Go.RowKit Go.Sort

theorem any_mem {S : List Int} {x : Int} : (S.any fun y => y == x) = decide (x ∈ S) := by
  rw [Bool.eq_iff_iff, List.any_eq_true, decide_eq_true_eq]
  constructor
  · rintro ⟨y, hy, e⟩; have : y = x := by simpa using e
    exact this ▸ hy
  · intro h; exact ⟨x, h, by simp⟩
theorem bag_any {S : List Int} (h : ∀ y ∈ S, 0 ≤ y) (a : Nat) : (bagN S).testBit a = (S.any fun y => y == (a : Int)) := by rw [bagN_bit h, any_mem]
theorem fldR_at {w : World} {A B2 : Option Addr} {a cb : Nat} {S : Sea} {r : Nat} (hr : r < S.ro.length) (hA : IntsAt w A S.op) (hg : GridAt w B2 S.ro[r]) : FldAt w (.agg #[.slice A S.op.length a, .slice B2 S.ro[r].length cb]) (fldR S r) := by
  have e : S.ro.getD r [] = S.ro[r] := by simp [List.getD, hr]
  exact ⟨A, a, B2, cb, by show _ = Value.agg #[.slice A S.op.length a, .slice B2 (S.ro.getD r []).length cb]; rw [e], hA, by show GridAt w B2 (S.ro.getD r []); rw [e]; exact hg⟩
theorem fldR_di {S : Sea} {r : Nat} (hr : r < S.ro.length) : (fldR S r).di.length = S.ro[r].length := by
  show (S.ro.getD r []).length = _
  simp [List.getD, hr]
/-- What a set must be for a move. -/
theorem may_parts {S : Sea} {r : Nat} {T : List Int} (h : mayR S r T = true) : setB (fldR S r) T = true ∧ (T ≠ [] ∨ (fldR S r).di.length = 0) := by
  simp only [mayR, Bool.and_eq_true, Bool.or_eq_true, decide_eq_true_eq] at h
  refine ⟨h.1, ?_⟩
  rcases h.2 with h2 | h2
  · exact .inl (fun e => by subst e; simp at h2)
  · exact .inr h2
set_option maxRecDepth 100000 in
set_option maxHeartbeats 2000000 in
theorem l10Move_any (f : Value) (S : Sea) (r : Nat) (A0 : Option Addr) (bef : List Int) (n0 c0 : Nat) (A1 : Option Addr) (T : List Int) (n1 c1 : Nat) (w : World) (hf : SeaAt w f S) (h0 : IntsAt w A0 bef) (hn0 : bef.length = n0) (h1 : IntsAt w A1 T) (hn1 : T.length = n1) (hg : goodS S = true) (hr : r < S.ro.length) (hm : mayR S r T = true) :
    Calls Try.prog 31 #[f, .int .i64 r, .slice A0 n0 c0, .slice A1 n1 c1] w fun e w' => e = .returned (.int .i64 (moveF S r bef T)) ∧ Kp w w' := by
  obtain ⟨⟨g1, g5⟩, r1, r2, r3, _⟩ := goodS_iff.1 hg
  have HR1 := Lib.hid (rowB_iff.1 r1).2; have HR2 := Lib.hid (rowB_iff.1 r2).2; have HR3 := Lib.hid (rowB_iff.1 r3).2
  obtain ⟨A, a, B, b, C, c, D, d, rfl, hA, hB, hC, hD⟩ := hf
  have hk0 : Kp w (w.alloc (.cells #[.slice A S.op.length a, .slice B S.cl.length b, .slice C S.ke.length c, .slice D S.ro.length d] 31)) := (Kp.refl w).alloc _
  obtain ⟨d0, d1, d2, d3⟩ := box4 w (.slice A S.op.length a) (.slice B S.cl.length b) (.slice C S.ke.length c) (.slice D S.ro.length d) 31
  have hSA := SeaAt.kp (show SeaAt w (.agg #[.slice A S.op.length a, .slice B S.cl.length b, .slice C S.ke.length c, .slice D S.ro.length d]) S from ⟨A, a, B, b, C, c, D, d, rfl, hA, hB, hC, hD⟩) hk0
  replace hA := hA.kp hk0
  replace hB := hB.kp hk0
  replace hC := hC.kp hk0
  replace hD := hD.kp hk0
  obtain ⟨cd, B2, cb, rfl, hcr, hgr⟩ := hD.at_ hr
  replace h0 := h0.kp hk0
  replace h1 := h1.kp hk0
  have hrl := hD.1
  have HG := Lib.hid hg; have HM := Lib.hid (may_parts hm)
  have Hn0 := Lib.hid hn0; have Hn1 := Lib.hid hn1
  have Hgf := Lib.hid (fldR_good hg hr)
  have hdl := Lib.hid (fldR_di hr)
  have hF := fldR_at (a := a) (cb := cb) hr hA hgr
  obtain ⟨q1, q2⟩ := serveF_bd (fldR_good hg hr) T
  clear hg hm hn0 hn1 r1 r2 r3 hD
  have CS := Lib.hid (fun (wx : World) (hx : Kp _ wx) => l2Serve_any _ (fldR S r) A1 T n1 c1 wx (hF.kp hx) (h1.kp hx) Hn1.out Hgf.out HM.out.1 HM.out.2)
  go_enter Try.func31, Try.ntmps31
  go_wp2_with fail
  have hsz : Hid ((w.alloc (.cells #[.slice A S.op.length a, .slice B S.cl.length b, .slice C S.ke.length c, .slice (some cd) S.ro.length d] 31)).heap.size = w.heap.size + 1) := by show _ = _; simp
  generalize w.alloc (.cells #[.slice A S.op.length a, .slice B S.cl.length b, .slice C S.ke.length c, .slice (some cd) S.ro.length d] 31) = wb at *
  have hkb : Kp wb wb := Kp.refl _
  have hkw := hk0
  have q_d0 := hkb.get d0
  have q_d1 := hkb.get d1
  have q_d2 := hkb.get d2
  have q_d3 := hkb.get d3
  have q_hcr := hkb.get hcr
  have tok1 : True := trivial
  go_wp2_with fail
  go_region_held3 (fun w' => w'.cell? ⟨w.heap.size, 0, none⟩ = some (.slice A S.op.length a) ∧ w'.cell? ⟨w.heap.size, 1, none⟩ = some (.slice B S.cl.length b) ∧ w'.cell? ⟨w.heap.size, 2, none⟩ = some (.slice C S.ke.length c) ∧ w'.cell? ⟨w.heap.size, 3, none⟩ = some (.slice (some cd) S.ro.length d) ∧ w'.cell? (cd.add r) = some (.slice B2 S.ro[r].length cb) ∧ Kp wb w')
    (first | (refine keepc5 d0 d1 d2 d3 hcr ?_; exact (by repeat (first | with_reducible assumption | with_reducible exact Kp.refl _ | with_reducible refine Kp.drew ?_ | with_reducible refine Kp.alloc ?_ _ | with_reducible refine Kp.drewN ?_ _))) | fail)
    (first
      | (have _t := tok1; go_at_call 36; with_reducible refine Calls.mono (CS.out _ (by repeat (first | with_reducible assumption | with_reducible exact Kp.refl _ | with_reducible refine Kp.drew ?_ | with_reducible refine Kp.alloc ?_ _ | with_reducible refine Kp.drewN ?_ _))) ?_; rintro e wr1 ⟨rfl, hka⟩; have hr1 : Kp wb wr1 := Kp.trans (by repeat (first | with_reducible assumption | with_reducible exact Kp.refl _ | with_reducible refine Kp.drew ?_ | with_reducible refine Kp.alloc ?_ _ | with_reducible refine Kp.drewN ?_ _)) hka; have tok2 : True := trivial; clear tok1 _t)
      | fail)
  replace hkb := hr1
  generalize hsv : serveF (fldR S r) T = sv at *
  have Hsv := Lib.hid hsv
  clear hsv
  go_wp2_with fail
  go_loopw [9, 10] (fun mv iv wr => ∃ k : Nat, k ≤ S.op.length ∧ iv = .int .i64 k ∧ mv = .int .i64 (sv + sumTo (mvAt S bef T) k) ∧ Kp wb wr) (fun _ iv _ => S.op.length - (intOf iv).toNat)
  case atStart => exact ⟨0, by omega, rfl, by rw [sumTo_zero]; go_num, hkb⟩
  case round =>
    clear hkb
    obtain ⟨k, hk, rfl, rfl, hkb⟩ := hrel
    by_cases hlt : k < S.op.length
    · obtain ⟨b1, b2⟩ := mvSum_bd HG.out bef T k (by omega)
      have hsu := sumTo_succ (mvAt S bef T) k
      have l2 : k < S.cl.length := by rw [HR2.out]; exact hlt
      have l3 : k < S.ke.length := by rw [HR3.out]; exact hlt
      obtain ⟨p1, pe1, x1⟩ := hA.at_ hlt
      obtain ⟨p2, pe2, x2⟩ := hB.at_ l2
      obtain ⟨p3, pe3, x3⟩ := hC.at_ l3
      rw [← lget_at hlt] at x1
      rw [← lget_at l2] at x2
      rw [← lget_at l3] at x3
      subst pe1 pe2 pe3
      have hp := goodS_iff.1 HG.out
      obtain ⟨y1, y2⟩ := lget_bd hp.2.1 k
      obtain ⟨y3, y4⟩ := lget_bd hp.2.2.1 k
      obtain ⟨y5, y6⟩ := lget_bd hp.2.2.2.1 k
      clear hp
      clear q_d0 q_d1 q_d2 q_d3 q_hcr
      have q_d0 := hkb.get d0
      have q_d1 := hkb.get d1
      have q_d2 := hkb.get d2
      have q_d3 := hkb.get d3
      have q_hcr := hkb.get hcr
      go_wp2_with fail
      have CC := Lib.hid (l1Has_any A1 T n1 c1 (k : Int) _ (h1.kp hkb) Hn1.out)
      with_reducible refine Calls.mono CC.out ?_
      rintro e w1 ⟨rfl, hw⟩
      obtain rfl := hw
      clear CC q_d0 q_d1 q_d2 q_d3 q_hcr
      have q_d0 := hkb.get d0
      have q_d1 := hkb.get d1
      have q_d2 := hkb.get d2
      have q_d3 := hkb.get d3
      have q_hcr := hkb.get hcr
      go_wp2_with fail
      have CC := Lib.hid (l1Has_any A0 bef n0 c0 (k : Int) _ (h0.kp hkb) Hn0.out)
      with_reducible refine Calls.mono CC.out ?_
      rintro e w2 ⟨rfl, hw⟩
      obtain rfl := hw
      clear CC q_d0 q_d1 q_d2 q_d3 q_hcr
      have z1 := hkb.get x1; have z2 := hkb.get x2; have z3 := hkb.get x3
      rw [mvAt] at hsu
      cases hnow : (T.any fun x => x == (k : Int)) <;> cases hthen : (bef.any fun x => x == (k : Int)) <;> simp only [hnow, hthen, if_true, if_false, and_self, and_true, true_and, and_false, false_and, Bool.false_eq_true, Bool.true_eq_false, Int.add_zero, Int.zero_add] at hsu <;> have Hsu := Lib.hid hsu <;> clear hsu hnow hthen
      all_goals
        have q_d0 := hkb.get d0
        have q_d1 := hkb.get d1
        have q_d2 := hkb.get d2
        have q_d3 := hkb.get d3
        have q_hcr := hkb.get hcr
        go_wp2_with fail
        go_roundw
        case rel => exact ⟨k + 1, by omega, by go_num, by rw [Hsu.out] <;> go_num, hkb⟩
        case measure => simp [intOf]; omega
    · obtain rfl : k = S.op.length := by omega
      clear q_d0 q_d1 q_d2 q_d3 q_hcr
      have q_d0 := hkb.get d0
      have q_d1 := hkb.get d1
      have q_d2 := hkb.get d2
      have q_d3 := hkb.get d3
      have q_hcr := hkb.get hcr
      go_wp2_with fail
      go_ret
      exact ⟨ret_int (by rw [← Hsv.out]; rfl), hkw.trans hkb⟩
end Go.Proofs.Ytjoebikljmkhfaa
