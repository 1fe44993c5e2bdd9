/- FnExactMoveCost: for every input the program and the reference agree. No condition. -/
import Derived.Test.YtpifeplcmfcheaaFrame2
import Derived.Test.YtpifeplcmfcheaaLawU
import Derived.Test.YtpifeplcmfcheaaSea2
import Derived.Test.YtpifeplcmfcheaaSeaLaw
import Derived.Test.YtpifeplcmfcheaaMove3
namespace Go.Proofs.Ytpifeplcmfcheaa
open Go.ChangeShapes Go.WideShapes Go.ChangeAt Go.RowKit

set_option maxRecDepth 100000 in
set_option maxHeartbeats 4000000 in
theorem mvCost_law (f0 : Value) (S0 : Sea) (a1 : Int) (A2 : Option Addr) (xs2 : List Int) (m2 c2 : Nat) (A3 : Option Addr) (xs3 : List Int) (m3 c3 : Nat) (w : World) (hf0 : SeaAt w f0 S0) (wf1 : (Lit.int .i64 a1).wf = true) (hx2 : IntsAt w A2 xs2) (hn2 : xs2.length = m2) (hx3 : IntsAt w A3 xs3) (hn3 : xs3.length = m3) :
    Calls Try.prog 7 #[f0, .int .i64 a1, .slice A2 m2 c2, .slice A3 m3 c3] w fun e w' => e = .returned (.bool true) ∧ Kp w w' := by
  have Wf1 := Lib.hid wf1; clear wf1
  have Hn2 := Lib.hid hn2; clear hn2
  have Hn3 := Lib.hid hn3; clear hn3
  obtain ⟨A, a, B, b, C, c, D, d, rfl, hA, hB, hC, hD⟩ := id hf0
  clear hA hB hC hD
  have hk0 : Kp w (w.alloc (.cells #[.slice A S0.op.length a, .slice B S0.cl.length b, .slice C S0.ke.length c, .slice D S0.ro.length d] 25)) := (Kp.refl w).alloc _
  obtain ⟨b0, b1, b2, b3⟩ := box4 w (.slice A S0.op.length a) (.slice B S0.cl.length b) (.slice C S0.ke.length c) (.slice D S0.ro.length d) 25
  by_cases hm2 : 1048576 < m2
  · go_enter Try.func7, Try.ntmps7
    go_wp2_with fail
    go_ret
    exact ⟨rfl, hk0⟩
  by_cases hm3 : 1048576 < m3
  · go_enter Try.func7, Try.ntmps7
    go_wp2_with fail
    go_ret
    exact ⟨rfl, hk0⟩
  by_cases hb : ¬ S0.bulk ≤ 1048576
  · have hs := Lib.hid (left_big hb)
    go_enter Try.func7, Try.ntmps7
    go_wp2_with fail
    have CC := Lib.hid (szSeason_any _ S0 _ (hf0.kp hk0))
    with_reducible refine Calls.mono CC.out ?_
    rintro e w1 ⟨rfl, hk1⟩
    rw [hs.out]
    go_wp2_with fail
    go_ret
    exact ⟨rfl, hk0.trans hk1⟩
  replace hb : S0.bulk ≤ 1048576 := Decidable.not_not.1 hb
  have hs := Lib.hid (left_small hb)
  have n0 : ((mvR S0 a1 xs2 xs3) != (mvR S0 a1 xs2 xs3)) = false := by simp
  have n1 : ((mvOk S0 a1 xs2 xs3) != (mvOk S0 a1 xs2 xs3)) = false := by simp
  have hfk := hf0.kp hk0
  have K0 : Kp w (w.alloc (.cells #[.slice A S0.op.length a, .slice B S0.cl.length b, .slice C S0.ke.length c, .slice D S0.ro.length d] 25)) := hk0
  go_enter Try.func7, Try.ntmps7
  go_wp2_with fail
  generalize w.alloc (.cells #[.slice A S0.op.length a, .slice B S0.cl.length b, .slice C S0.ke.length c, .slice D S0.ro.length d] 25) = w0 at *
  have KB : Kp w0 w0 := Kp.refl _
  have hz0 := hk0.le
  have CC := Lib.hid (szSeason_any _ S0 _ hfk)
  with_reducible refine Calls.mono CC.out ?_
  rintro e w1 ⟨rfl, hkc1⟩
  clear CC
  replace K0 := K0.trans hkc1
  replace KB := KB.trans hkc1
  rw [hs.out]
  rw [show ((1048576 : Int) - (S0.bulk : Nat)) = 1048576 - (S0.bulk : Int) from rfl]
  have qb0 := KB.get b0
  have qb1 := KB.get b1
  have qb2 := KB.get b2
  have qb3 := KB.get b3
  go_wp2_with fail
  have CC := Lib.hid (toSeason_any _ S0 _ (hfk.kp KB) hb)
  with_reducible refine Calls.mono CC.out ?_
  rintro e w2 ⟨vs, rfl, hs0, hkc2⟩
  clear CC qb0 qb1 qb2 qb3
  replace K0 := K0.trans hkc2
  replace KB := KB.trans hkc2
  have Ks0 : Kp w2 w2 := Kp.refl _
  have qb0 := KB.get b0
  have qb1 := KB.get b1
  have qb2 := KB.get b2
  have qb3 := KB.get b3
  go_wp2_with fail
  have CC := Lib.hid (toIntS_any A2 xs2 m2 c2 _ (hx2.kp K0) Hn2.out (by omega))
  with_reducible refine Calls.mono CC.out ?_
  rintro e w3 ⟨gs2, rfl, hgs2, hs2, hkc3⟩
  clear CC qb0 qb1 qb2 qb3
  replace K0 := K0.trans hkc3
  replace KB := KB.trans hkc3
  replace Ks0 := Ks0.trans hkc3
  have Ks2 : Kp w3 w3 := Kp.refl _
  have qb0 := KB.get b0
  have qb1 := KB.get b1
  have qb2 := KB.get b2
  have qb3 := KB.get b3
  go_wp2_with fail
  have CC := Lib.hid (toIntS_any A3 xs3 m3 c3 _ (hx3.kp K0) Hn3.out (by omega))
  with_reducible refine Calls.mono CC.out ?_
  rintro e w4 ⟨gs3, rfl, hgs3, hs3, hkc4⟩
  clear CC qb0 qb1 qb2 qb3
  replace K0 := K0.trans hkc4
  replace KB := KB.trans hkc4
  replace Ks0 := Ks0.trans hkc4
  replace Ks2 := Ks2.trans hkc4
  have Ks3 : Kp w4 w4 := Kp.refl _
  have qb0 := KB.get b0
  have qb1 := KB.get b1
  have qb2 := KB.get b2
  have qb3 := KB.get b3
  go_wp2_with fail
  have CC := Lib.hid (specMove_any _ S0 a1 _ xs2 m2 m2 _ xs3 m3 m3 _ (hs0.kp Ks0) (hs2.ats Hn2.out (by omega) Ks2) Hn2.out (hs3.ats Hn3.out (by omega) Ks3) Hn3.out)
  with_reducible refine Calls.mono CC.out ?_
  rintro e w5 ⟨rfl, hkc5⟩
  clear CC qb0 qb1 qb2 qb3
  replace K0 := K0.trans hkc5
  replace KB := KB.trans hkc5
  replace Ks0 := Ks0.trans hkc5
  replace Ks2 := Ks2.trans hkc5
  replace Ks3 := Ks3.trans hkc5
  clear Ks0
  clear Ks2
  clear Ks3
  have qb0 := KB.get b0
  have qb1 := KB.get b1
  have qb2 := KB.get b2
  have qb3 := KB.get b3
  go_wp2_with fail
  have CC := Lib.hid (toSeason_any _ S0 _ (hfk.kp KB) hb)
  with_reducible refine Calls.mono CC.out ?_
  rintro e w6 ⟨vx, rfl, hx0s, hkc6⟩
  clear CC qb0 qb1 qb2 qb3
  replace K0 := K0.trans hkc6
  replace KB := KB.trans hkc6
  obtain ⟨Ax, ax, Bx, bx, Cx, cx, Dx, dx, hv2e, hq1, hq2, hq3, hq4⟩ := id hx0s
  clear hq1 hq2 hq3 hq4
  subst hv2e
  have hkx := (Kp.refl w6).alloc (.cells #[.slice Ax S0.op.length ax, .slice Bx S0.cl.length bx, .slice Cx S0.ke.length cx, .slice Dx S0.ro.length dx] 28)
  obtain ⟨x0, x1, x2, x3⟩ := box4 w6 (.slice Ax S0.op.length ax) (.slice Bx S0.cl.length bx) (.slice Cx S0.ke.length cx) (.slice Dx S0.ro.length dx) 28
  have Kx0 : Kp w6 w6 := Kp.refl _
  replace K0 := K0.trans hkx
  replace KB := KB.trans hkx
  replace Kx0 := Kx0.trans hkx
  have KX : Kp (w6.alloc (.cells #[.slice Ax S0.op.length ax, .slice Bx S0.cl.length bx, .slice Cx S0.ke.length cx, .slice Dx S0.ro.length dx] 28)) (w6.alloc (.cells #[.slice Ax S0.op.length ax, .slice Bx S0.cl.length bx, .slice Cx S0.ke.length cx, .slice Dx S0.ro.length dx] 28)) := Kp.refl _
  have qb0 := KB.get b0
  have qb1 := KB.get b1
  have qb2 := KB.get b2
  have qb3 := KB.get b3
  have qx0 := KX.get x0
  have qx1 := KX.get x1
  have qx2 := KX.get x2
  have qx3 := KX.get x3
  go_wp2_with fail
  have CC := Lib.hid (toIntS_any A2 xs2 m2 c2 _ (hx2.kp K0) Hn2.out (by omega))
  with_reducible refine Calls.mono CC.out ?_
  rintro e w7 ⟨gx2, rfl, hgx2, hx2r, hkc7⟩
  clear CC qb0 qb1 qb2 qb3 qx0 qx1 qx2 qx3
  replace K0 := K0.trans hkc7
  replace KB := KB.trans hkc7
  replace Kx0 := Kx0.trans hkc7
  replace KX := KX.trans hkc7
  have Kx2 : Kp w7 w7 := Kp.refl _
  have qb0 := KB.get b0
  have qb1 := KB.get b1
  have qb2 := KB.get b2
  have qb3 := KB.get b3
  have qx0 := KX.get x0
  have qx1 := KX.get x1
  have qx2 := KX.get x2
  have qx3 := KX.get x3
  go_wp2_with fail
  have CC := Lib.hid (toIntS_any A3 xs3 m3 c3 _ (hx3.kp K0) Hn3.out (by omega))
  with_reducible refine Calls.mono CC.out ?_
  rintro e w8 ⟨gx3, rfl, hgx3, hx3r, hkc8⟩
  clear CC qb0 qb1 qb2 qb3 qx0 qx1 qx2 qx3
  replace K0 := K0.trans hkc8
  replace KB := KB.trans hkc8
  replace Kx0 := Kx0.trans hkc8
  replace KX := KX.trans hkc8
  replace Kx2 := Kx2.trans hkc8
  have Kx3 : Kp w8 w8 := Kp.refl _
  have qb0 := KB.get b0
  have qb1 := KB.get b1
  have qb2 := KB.get b2
  have qb3 := KB.get b3
  have qx0 := KX.get x0
  have qx1 := KX.get x1
  have qx2 := KX.get x2
  have qx3 := KX.get x3
  go_wp2_with fail
  have CC := Lib.hid (implMove_any _ S0 a1 _ xs2 m2 m2 _ xs3 m3 m3 _ (hx0s.kp Kx0) (hx2r.ats Hn2.out (by omega) Kx2) Hn2.out (hx3r.ats Hn3.out (by omega) Kx3) Hn3.out)
  with_reducible refine Calls.mono CC.out ?_
  rintro e w9 ⟨rfl, hkc9⟩
  clear CC qb0 qb1 qb2 qb3 qx0 qx1 qx2 qx3
  replace K0 := K0.trans hkc9
  replace KB := KB.trans hkc9
  replace Kx0 := Kx0.trans hkc9
  replace KX := KX.trans hkc9
  replace Kx2 := Kx2.trans hkc9
  replace Kx3 := Kx3.trans hkc9
  have qb0 := KB.get b0
  have qb1 := KB.get b1
  have qb2 := KB.get b2
  have qb3 := KB.get b3
  have qx0 := KX.get x0
  have qx1 := KX.get x1
  have qx2 := KX.get x2
  have qx3 := KX.get x3
  go_wp2_with fail
  have HS1 := Lib.hid (fun (wq : World) (hq : Kp w9 wq) => toSeason_any _ S0 wq ((hfk.kp KB).kp hq) hb)
  have HS2 := Lib.hid (fun (wq : World) (hq : Kp w9 wq) (va : Value) (hv : SeaAt wq va S0) => eqSeason_any _ va S0 wq ((hx0s.kp Kx0).kp hq) hv)
  have tok1 : True := trivial
  have hk_ : Kp w9 w9 := Kp.refl _
  go_cut [65] (fun s wc => s = .bool false ∧ Kp w9 wc)
  case first =>
    go_region_held3 (fun w' => w'.cell? ⟨w.heap.size, 0, none⟩ = some (.slice A S0.op.length a) ∧ w'.cell? ⟨w.heap.size, 1, none⟩ = some (.slice B S0.cl.length b) ∧ w'.cell? ⟨w.heap.size, 2, none⟩ = some (.slice C S0.ke.length c) ∧ w'.cell? ⟨w.heap.size, 3, none⟩ = some (.slice D S0.ro.length d) ∧ w'.cell? ⟨w6.heap.size, 0, none⟩ = some (.slice Ax S0.op.length ax) ∧ w'.cell? ⟨w6.heap.size, 1, none⟩ = some (.slice Bx S0.cl.length bx) ∧ w'.cell? ⟨w6.heap.size, 2, none⟩ = some (.slice Cx S0.ke.length cx) ∧ w'.cell? ⟨w6.heap.size, 3, none⟩ = some (.slice Dx S0.ro.length dx) ∧ Kp w9 w')
      (first | (refine keepc8 qb0 qb1 qb2 qb3 qx0 qx1 qx2 qx3 ?_; exact (by repeat (first | with_reducible assumption | with_reducible exact Kp.refl _ | with_reducible refine Kp.drew ?_ | with_reducible refine Kp.alloc ?_ _ | with_reducible refine Kp.drewN ?_ _))) | fail)
      (first
        | (have _t := tok1; go_at_call 12; with_reducible refine Calls.mono (HS1.out _ (by repeat (first | with_reducible assumption | with_reducible exact Kp.refl _ | with_reducible refine Kp.drew ?_ | with_reducible refine Kp.alloc ?_ _ | with_reducible refine Kp.drewN ?_ _))) ?_; rintro e wa ⟨va, rfl, hva, hka⟩; obtain ⟨Ay, ay, By, byy, Cy, cy, Dy, dy, hv3e⟩ := hva.agg; subst hv3e; have hr1 : Kp w9 wa := Kp.trans (by repeat (first | with_reducible assumption | with_reducible exact Kp.refl _ | with_reducible refine Kp.drew ?_ | with_reducible refine Kp.alloc ?_ _ | with_reducible refine Kp.drewN ?_ _)) hka; have tok2 : True := trivial; clear tok1 _t)
        | (have _t := tok2; go_at_call 14; with_reducible refine Calls.mono (HS2.out _ (by repeat (first | with_reducible assumption | with_reducible exact Kp.refl _ | with_reducible refine Kp.drew ?_ | with_reducible refine Kp.alloc ?_ _ | with_reducible refine Kp.drewN ?_ _)) _ (hva.kp (by repeat (first | with_reducible assumption | with_reducible exact Kp.refl _ | with_reducible refine Kp.drew ?_ | with_reducible refine Kp.alloc ?_ _ | with_reducible refine Kp.drewN ?_ _)))) ?_; rintro e wb ⟨rfl, hkb⟩; have hr2 : Kp w9 wb := Kp.trans (by repeat (first | with_reducible assumption | with_reducible exact Kp.refl _ | with_reducible refine Kp.drew ?_ | with_reducible refine Kp.alloc ?_ _ | with_reducible refine Kp.drewN ?_ _)) hkb; clear tok2 _t)
        | fail)
    all_goals (go_wp2_with fail; go_meet; exact ⟨rfl, hr2⟩)
  case rest =>
    obtain ⟨rfl, hkc⟩ := hcut
    obtain ⟨w10, rfl⟩ : ∃ q : World, q = wc := ⟨_, rfl⟩
    clear HS1 HS2 tok1 hk_ qb0 qb1 qb2 qb3 qx0 qx1 qx2 qx3
    replace K0 := K0.trans hkc
    replace KB := KB.trans hkc
    replace Kx0 := Kx0.trans hkc
    replace KX := KX.trans hkc
    replace Kx2 := Kx2.trans hkc
    replace Kx3 := Kx3.trans hkc
    have qb0 := KB.get b0
    have qb1 := KB.get b1
    have qb2 := KB.get b2
    have qb3 := KB.get b3
    have qx0 := KX.get x0
    have qx1 := KX.get x1
    have qx2 := KX.get x2
    have qx3 := KX.get x3
    go_wp2_with fail
    have CC := Lib.hid (toIntS_any A2 xs2 m2 c2 _ (hx2.kp K0) Hn2.out (by omega))
    with_reducible refine Calls.mono CC.out ?_
    rintro e w11 ⟨gy2, rfl, hgy2, hy2, hkc11⟩
    clear CC qb0 qb1 qb2 qb3 qx0 qx1 qx2 qx3
    replace K0 := K0.trans hkc11
    replace KB := KB.trans hkc11
    replace Kx0 := Kx0.trans hkc11
    replace KX := KX.trans hkc11
    replace Kx2 := Kx2.trans hkc11
    replace Kx3 := Kx3.trans hkc11
    have qb0 := KB.get b0
    have qb1 := KB.get b1
    have qb2 := KB.get b2
    have qb3 := KB.get b3
    have qx0 := KX.get x0
    have qx1 := KX.get x1
    have qx2 := KX.get x2
    have qx3 := KX.get x3
    go_wp2_with fail
    have CC := Lib.hid (eqIntS_any _ _ xs2 xs2 m2 m2 m2 m2 _ (hx2r.ats Hn2.out (by omega) Kx2) (hy2.ats Hn2.out (by omega) (Kp.refl _)) Hn2.out Hn2.out)
    with_reducible refine Calls.mono CC.out ?_
    rintro e w12 ⟨rfl, hkc12⟩
    clear CC qb0 qb1 qb2 qb3 qx0 qx1 qx2 qx3
    replace K0 := K0.trans hkc12
    replace KB := KB.trans hkc12
    replace Kx0 := Kx0.trans hkc12
    replace KX := KX.trans hkc12
    replace Kx2 := Kx2.trans hkc12
    replace Kx3 := Kx3.trans hkc12
    simp only [decide_true]
    have qb0 := KB.get b0
    have qb1 := KB.get b1
    have qb2 := KB.get b2
    have qb3 := KB.get b3
    have qx0 := KX.get x0
    have qx1 := KX.get x1
    have qx2 := KX.get x2
    have qx3 := KX.get x3
    go_wp2_with fail
    have CC := Lib.hid (toIntS_any A3 xs3 m3 c3 _ (hx3.kp K0) Hn3.out (by omega))
    with_reducible refine Calls.mono CC.out ?_
    rintro e w13 ⟨gy3, rfl, hgy3, hy3, hkc13⟩
    clear CC qb0 qb1 qb2 qb3 qx0 qx1 qx2 qx3
    replace K0 := K0.trans hkc13
    replace KB := KB.trans hkc13
    replace Kx0 := Kx0.trans hkc13
    replace KX := KX.trans hkc13
    replace Kx2 := Kx2.trans hkc13
    replace Kx3 := Kx3.trans hkc13
    have qb0 := KB.get b0
    have qb1 := KB.get b1
    have qb2 := KB.get b2
    have qb3 := KB.get b3
    have qx0 := KX.get x0
    have qx1 := KX.get x1
    have qx2 := KX.get x2
    have qx3 := KX.get x3
    go_wp2_with fail
    have CC := Lib.hid (eqIntS_any _ _ xs3 xs3 m3 m3 m3 m3 _ (hx3r.ats Hn3.out (by omega) Kx3) (hy3.ats Hn3.out (by omega) (Kp.refl _)) Hn3.out Hn3.out)
    with_reducible refine Calls.mono CC.out ?_
    rintro e w14 ⟨rfl, hkc14⟩
    clear CC qb0 qb1 qb2 qb3 qx0 qx1 qx2 qx3
    replace K0 := K0.trans hkc14
    replace KB := KB.trans hkc14
    replace Kx0 := Kx0.trans hkc14
    replace KX := KX.trans hkc14
    replace Kx2 := Kx2.trans hkc14
    replace Kx3 := Kx3.trans hkc14
    simp only [decide_true]
    have qb0 := KB.get b0
    have qb1 := KB.get b1
    have qb2 := KB.get b2
    have qb3 := KB.get b3
    have qx0 := KX.get x0
    have qx1 := KX.get x1
    have qx2 := KX.get x2
    have qx3 := KX.get x3
    go_wp2_with fail
    go_ret
    exact ⟨rfl, K0⟩

set_option maxRecDepth 100000 in
theorem mvCost_lifted (os : Os) (started : os.Started) (H : Type) (enc : TypeId × Value → H) :
    ReturnsInHanded {} Try.checked os 7 .any (Rows.fnExactMoveCostSpec.pre6 enc Try.prog Try.f7 Rows.fnExactMoveCostRow.domain false) (Rows.fnExactMoveCostSpec.post enc Try.prog Try.f7 false true false false) := by
  refine returnsInHanded_of_change (C := Try.checked) ownKnobs started (by kernel_rfl) Try.func7
    (ChangeSpec.witness6 (enc := enc) (C := Try.checked) false ⟨#[], #[.agg #[.slice none 0 0, .slice none 0 0, .slice none 0 0, .slice none 0 0], .int .i64 0, .slice none 0 0, .slice none 0 0], []⟩ 8 (by kernel_rfl) (by kernel_rfl) (by kernel_rfl) (by kernel_rfl)) ?_
  intro W base args ds gs before hval hW _ _
  obtain ⟨p, q, hA0, hV, hbf, hz, hn⟩ := id hW
  have hA : DataW.TrodAll enc Try.prog W 0 (fun _ => true) true Try.f7.params.toList args.toList ds p := hA0
  have hval' : ∀ (j : Nat) t v, Try.f7.params[j]? = some t → args[j]? = some v → Value.okWide Try.prog W .any base t v := hval
  rw [Try.params7] at hA hval'
  obtain ⟨v0, v1, v2, v3, d0, d1, d2, d3, p0, p1, p2, p3, rfl, rfl, rfl, h0, h1, h2, h3⟩ := trodAll_four hA
  obtain ⟨F0, hf0⟩ := open_seasonAt (hval' 0 _ v0 rfl rfl) h0
  obtain ⟨a1, rfl, rfl, rfl, w1⟩ := open_int Try.underlying3 (hval' 1 _ v1 rfl rfl) h1
  obtain ⟨A2, xs2, c2, rfl, hx2⟩ := open_intsAt Try.underlying22 Try.underlying3 cellsInt (hval' 2 _ v2 rfl rfl) h2
  obtain ⟨A3, xs3, c3, rfl, hx3⟩ := open_intsAt Try.underlying22 Try.underlying3 cellsInt (hval' 3 _ v3 rfl rfl) h3
  refine (mvCost_law _ F0 a1 A2 xs2 _ c2 A3 xs3 _ c3 W hf0 w1 hx2 rfl hx3 rfl).mono fun e W' ⟨he, hk⟩ => ⟨_, he, ?_⟩
  exact post_of_kp laidOut rfl (by kernel_rfl) rfl Try.underlying4 (fun ds' hd => match ds', hd with | [_, _, _, _], _ => rfl) rfl hW hk

theorem FnExactMoveCost_holds : Rows.FnExactMoveCostSaid :=
  OpenClaim.holds_of_wide 7 Try.f7 rfl rfl rfl rfl rfl rfl rfl ⟨rfl, rfl, rfl, rfl, rfl⟩ rfl rfl rfl rfl rfl (by kernel_rfl) Try.func7 (by kernel_rfl)
    (of_decide_eq_true (by kernel_rfl)) (by unfold Func.isWrapper; first | (rw [if_pos (by decide +kernel)]; kernel_rfl) | (rw [if_neg (by decide +kernel)]; exact ⟨rfl, rfl⟩))
    (fun os started H enc _ => mvCost_lifted os started H enc)
end Go.Proofs.Ytpifeplcmfcheaa
