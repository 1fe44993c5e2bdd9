/- FnExactPlanMoves: for every input the program and the reference agree. No condition. -/
import Derived.Test.YtjoebikljmkhfaaFrame2
import Derived.Test.YtjoebikljmkhfaaLawU
import Derived.Test.YtjoebikljmkhfaaSea2
import Derived.Test.YtjoebikljmkhfaaSeaLaw
import Derived.Test.YtjoebikljmkhfaaMoves
import Derived.Test.YtjoebikljmkhfaaSea9
namespace Go.Proofs.Ytjoebikljmkhfaa
open Go.ChangeShapes Go.WideShapes Go.ChangeAt Go.RowKit

set_option maxRecDepth 100000 in
set_option maxHeartbeats 4000000 in
theorem pm_law (f0 : Value) (S0 : Sea) (B1 : Option Addr) (rs1 : List (List Int)) (m1 c1 : Nat) (w : World) (hf0 : SeaAt w f0 S0) (hx1 : GridAt w B1 rs1) (hn1 : rs1.length = m1) :
    Calls Try.prog 3 #[f0, .slice B1 m1 c1] w fun e w' => e = .returned (.bool true) ∧ Kp w w' := by
  have Hn1 := Lib.hid hn1; clear hn1
  obtain ⟨A, a, B, b, C, c, D, d, rfl, hA, hB, hC, hD⟩ := id hf0
  clear hA hB hC hD
  have hk0 : Kp w (w.alloc (.cells #[.slice A S0.op.length a, .slice B S0.cl.length b, .slice C S0.ke.length c, .slice D S0.ro.length d] 25)) := (Kp.refl w).alloc _
  obtain ⟨b0, b1, b2, b3⟩ := box4 w (.slice A S0.op.length a) (.slice B S0.cl.length b) (.slice C S0.ke.length c) (.slice D S0.ro.length d) 25
  by_cases hb : ¬ S0.bulk ≤ 1048576
  · have hs := Lib.hid (left_big hb)
    go_enter Try.func3, Try.ntmps3
    go_wp2_with fail
    have CC := Lib.hid (szSeason_any _ S0 _ (hf0.kp hk0))
    with_reducible refine Calls.mono CC.out ?_
    rintro e w1 ⟨rfl, hk1⟩
    rw [hs.out]
    go_wp2_with fail
    go_ret
    exact ⟨rfl, hk0.trans hk1⟩
  replace hb : S0.bulk ≤ 1048576 := Decidable.not_not.1 hb
  have hs := Lib.hid (left_small hb)
  have n1 : ((plOk S0 rs1) != (plOk S0 rs1)) = false := by simp
  have hfk := hf0.kp hk0
  have K0 : Kp w (w.alloc (.cells #[.slice A S0.op.length a, .slice B S0.cl.length b, .slice C S0.ke.length c, .slice D S0.ro.length d] 25)) := hk0
  go_enter Try.func3, Try.ntmps3
  go_wp2_with fail
  generalize w.alloc (.cells #[.slice A S0.op.length a, .slice B S0.cl.length b, .slice C S0.ke.length c, .slice D S0.ro.length d] 25) = w0 at *
  have KB : Kp w0 w0 := Kp.refl _
  have CC := Lib.hid (szSeason_any _ S0 _ hfk)
  with_reducible refine Calls.mono CC.out ?_
  rintro e w1 ⟨rfl, hkc1⟩
  clear CC
  replace K0 := K0.trans hkc1
  replace KB := KB.trans hkc1
  rw [hs.out]
  rw [show ((1048576 : Int) - (S0.bulk : Nat)) = 1048576 - (S0.bulk : Int) from rfl]
  have qb0 := KB.get b0
  have qb1 := KB.get b1
  have qb2 := KB.get b2
  have qb3 := KB.get b3
  go_wp2_with fail
  have CC := Lib.hid (szIntSS_any B1 rs1 m1 c1 (1048576 - (S0.bulk : Int)) _ (hx1.kp K0) Hn1.out (by omega) (by omega))
  with_reducible refine Calls.mono CC.out ?_
  rintro e wz ⟨rfl, hw⟩
  obtain rfl := hw
  clear CC qb0 qb1 qb2 qb3
  by_cases hg1 : ¬ ((m1 + rowSum rs1 : Nat) : Int) ≤ (1048576 - (S0.bulk : Int))
  · rw [left1_no hg1]
    have qb0 := KB.get b0
    have qb1 := KB.get b1
    have qb2 := KB.get b2
    have qb3 := KB.get b3
    go_wp2_with fail
    go_ret
    exact ⟨rfl, K0⟩
  replace hg1 := Decidable.not_not.1 hg1
  rw [left1_pos hg1]
  have hmr : m1 + rowSum rs1 ≤ 1048576 := by omega
  have qb0 := KB.get b0
  have qb1 := KB.get b1
  have qb2 := KB.get b2
  have qb3 := KB.get b3
  go_wp2_with fail
  have CC := Lib.hid (toSeason_any _ S0 _ (hfk.kp KB) hb)
  with_reducible refine Calls.mono CC.out ?_
  rintro e w2 ⟨vs, rfl, hs0, hkc2⟩
  clear CC qb0 qb1 qb2 qb3
  replace K0 := K0.trans hkc2
  replace KB := KB.trans hkc2
  have Ks0 : Kp w2 w2 := Kp.refl _
  have qb0 := KB.get b0
  have qb1 := KB.get b1
  have qb2 := KB.get b2
  have qb3 := KB.get b3
  go_wp2_with fail
  have CC := Lib.hid (toIntSS_at B1 rs1 m1 c1 _ (hx1.kp K0) Hn1.out (by omega))
  with_reducible refine Calls.mono CC.out ?_
  rintro e w3 ⟨As1, cs1, rfl, hs1, hkc3⟩
  clear CC qb0 qb1 qb2 qb3
  replace K0 := K0.trans hkc3
  replace KB := KB.trans hkc3
  replace Ks0 := Ks0.trans hkc3
  have Ks1 : Kp w3 w3 := Kp.refl _
  have qb0 := KB.get b0
  have qb1 := KB.get b1
  have qb2 := KB.get b2
  have qb3 := KB.get b3
  go_wp2_with fail
  have CC := Lib.hid (specPlanMoves_any _ S0 _ rs1 m1 cs1 _ (hs0.kp Ks0) (hs1.kp Ks1) Hn1.out)
  with_reducible refine Calls.mono CC.out ?_
  rintro e w4 ⟨vr0, rfl, hr0, hkc4⟩
  clear CC qb0 qb1 qb2 qb3
  replace K0 := K0.trans hkc4
  replace KB := KB.trans hkc4
  replace Ks0 := Ks0.trans hkc4
  replace Ks1 := Ks1.trans hkc4
  obtain ⟨Br0, ccr0, hvr0, hir0⟩ := hr0.ints (by have := plL_len S0 rs1; omega)
  subst hvr0
  have KS : Kp w4 w4 := Kp.refl _
  clear Ks0
  clear Ks1
  have qb0 := KB.get b0
  have qb1 := KB.get b1
  have qb2 := KB.get b2
  have qb3 := KB.get b3
  go_wp2_with fail
  have zpK0 := K0.le
  have zpKB := KB.le
  have zpKS := KS.le
  have CC := Lib.hid (toSeason_own _ S0 _ (hfk.kp KB) hb)
  with_reducible refine Calls.mono CC.out ?_
  rintro e w5 ⟨vx, rfl, hx0o, hkc5⟩
  clear CC qb0 qb1 qb2 qb3
  replace K0 := K0.trans hkc5
  replace KB := KB.trans hkc5
  replace KS := KS.trans hkc5
  have zqa := hkc5.le
  have hx0s := hx0o.at_ hb
  obtain ⟨Ax, ax, Bx, bx, Cx, cx, Dx, dx, hv2e, hq1, hq2, hq3, hq4⟩ := id hx0s
  clear hq1 hq2 hq3 hq4
  subst hv2e
  have hkx := (Kp.refl w5).alloc (.cells #[.slice Ax S0.op.length ax, .slice Bx S0.cl.length bx, .slice Cx S0.ke.length cx, .slice Dx S0.ro.length dx] 31)
  obtain ⟨x0, x1, x2, x3⟩ := box4 w5 (.slice Ax S0.op.length ax) (.slice Bx S0.cl.length bx) (.slice Cx S0.ke.length cx) (.slice Dx S0.ro.length dx) 31
  have Kx0 : Kp w5 w5 := Kp.refl _
  replace K0 := K0.trans hkx
  replace KB := KB.trans hkx
  replace KS := KS.trans hkx
  replace Kx0 := Kx0.trans hkx
  have KX : Kp (w5.alloc (.cells #[.slice Ax S0.op.length ax, .slice Bx S0.cl.length bx, .slice Cx S0.ke.length cx, .slice Dx S0.ro.length dx] 31)) (w5.alloc (.cells #[.slice Ax S0.op.length ax, .slice Bx S0.cl.length bx, .slice Cx S0.ke.length cx, .slice Dx S0.ro.length dx] 31)) := Kp.refl _
  have qb0 := KB.get b0
  have qb1 := KB.get b1
  have qb2 := KB.get b2
  have qb3 := KB.get b3
  have qx0 := KX.get x0
  have qx1 := KX.get x1
  have qx2 := KX.get x2
  have qx3 := KX.get x3
  go_wp2_with fail
  have zgx := Kx0.le
  have CC := Lib.hid (toIntSS_both B1 rs1 m1 c1 _ (hx1.kp K0) Hn1.out hmr)
  with_reducible refine Calls.mono CC.out ?_
  rintro e w6 ⟨Ax1, cx1, rfl, hx1o, hx1g, hkc6⟩
  clear CC qb0 qb1 qb2 qb3 qx0 qx1 qx2 qx3
  replace K0 := K0.trans hkc6
  replace KB := KB.trans hkc6
  replace KS := KS.trans hkc6
  replace Kx0 := Kx0.trans hkc6
  replace KX := KX.trans hkc6
  have zqb := hkc6.le
  have Kx1 : Kp w6 w6 := Kp.refl _
  have qb0 := KB.get b0
  have qb1 := KB.get b1
  have qb2 := KB.get b2
  have qb3 := KB.get b3
  have qx0 := KX.get x0
  have qx1 := KX.get x1
  have qx2 := KX.get x2
  have qx3 := KX.get x3
  go_wp2_with fail
  have zx0 := Kx0.le
  have zx1 := Kx1.le
  have zsp := KS.le
  have CC := Lib.hid (implPlanMoves_any _ S0 _ rs1 m1 cx1 _ (hx0s.kp Kx0) (hx1g.kp Kx1) Hn1.out)
  with_reducible refine Calls.mono CC.out ?_
  rintro e w7 ⟨vg0, rfl, hg0, hkc7⟩
  clear CC qb0 qb1 qb2 qb3 qx0 qx1 qx2 qx3
  replace K0 := K0.trans hkc7
  replace KB := KB.trans hkc7
  replace KS := KS.trans hkc7
  replace Kx0 := Kx0.trans hkc7
  replace KX := KX.trans hkc7
  replace Kx1 := Kx1.trans hkc7
  obtain ⟨Bg0, ccg0, hvg0, hig0⟩ := hg0.ints (by have := plL_len S0 rs1; omega)
  subst hvg0
  have KG : Kp w7 w7 := Kp.refl _
  have qb0 := KB.get b0
  have qb1 := KB.get b1
  have qb2 := KB.get b2
  have qb3 := KB.get b3
  have qx0 := KX.get x0
  have qx1 := KX.get x1
  have qx2 := KX.get x2
  have qx3 := KX.get x3
  go_wp2_with fail
  have CC := Lib.hid (eqIntS_any _ _ (plL S0 rs1) (plL S0 rs1) _ _ ccg0 ccr0 _ (hig0.kp KG) (hir0.kp KS) rfl rfl)
  with_reducible refine Calls.mono CC.out ?_
  rintro e w8 ⟨rfl, hkc8⟩
  clear CC qb0 qb1 qb2 qb3 qx0 qx1 qx2 qx3
  replace K0 := K0.trans hkc8
  replace KB := KB.trans hkc8
  replace KS := KS.trans hkc8
  replace Kx0 := Kx0.trans hkc8
  replace KX := KX.trans hkc8
  replace Kx1 := Kx1.trans hkc8
  replace KG := KG.trans hkc8
  simp only [decide_true]
  have qb0 := KB.get b0
  have qb1 := KB.get b1
  have qb2 := KB.get b2
  have qb3 := KB.get b3
  have qx0 := KX.get x0
  have qx1 := KX.get x1
  have qx2 := KX.get x2
  have qx3 := KX.get x3
  go_wp2_with fail
  have HS1 := Lib.hid (fun (wq : World) (hq : Kp w8 wq) => toSeason_any _ S0 wq ((hfk.kp KB).kp hq) hb)
  have HS2 := Lib.hid (fun (wq : World) (hq : Kp w8 wq) (va : Value) (hv : SeaAt wq va S0) => eqSeason_any _ va S0 wq ((hx0s.kp Kx0).kp hq) hv)
  have tok1 : True := trivial
  have hk_ : Kp w8 w8 := Kp.refl _
  go_cut [58] (fun s wc => s = .bool false ∧ Kp w8 wc)
  case first =>
    go_region_held3 (fun w' => w'.cell? ⟨w.heap.size, 0, none⟩ = some (.slice A S0.op.length a) ∧ w'.cell? ⟨w.heap.size, 1, none⟩ = some (.slice B S0.cl.length b) ∧ w'.cell? ⟨w.heap.size, 2, none⟩ = some (.slice C S0.ke.length c) ∧ w'.cell? ⟨w.heap.size, 3, none⟩ = some (.slice D S0.ro.length d) ∧ w'.cell? ⟨w5.heap.size, 0, none⟩ = some (.slice Ax S0.op.length ax) ∧ w'.cell? ⟨w5.heap.size, 1, none⟩ = some (.slice Bx S0.cl.length bx) ∧ w'.cell? ⟨w5.heap.size, 2, none⟩ = some (.slice Cx S0.ke.length cx) ∧ w'.cell? ⟨w5.heap.size, 3, none⟩ = some (.slice Dx S0.ro.length dx) ∧ Kp w8 w')
      (first | (refine keepc8 qb0 qb1 qb2 qb3 qx0 qx1 qx2 qx3 ?_; exact (by repeat (first | with_reducible assumption | with_reducible exact Kp.refl _ | with_reducible refine Kp.drew ?_ | with_reducible refine Kp.alloc ?_ _ | with_reducible refine Kp.drewN ?_ _))) | fail)
      (first
        | (have _t := tok1; go_at_call 7; with_reducible refine Calls.mono (HS1.out _ (by repeat (first | with_reducible assumption | with_reducible exact Kp.refl _ | with_reducible refine Kp.drew ?_ | with_reducible refine Kp.alloc ?_ _ | with_reducible refine Kp.drewN ?_ _))) ?_; rintro e wa ⟨va, rfl, hva, hka⟩; obtain ⟨Ay, ay, By, byy, Cy, cy, Dy, dy, hv3e⟩ := hva.agg; subst hv3e; have hr1 : Kp w8 wa := Kp.trans (by repeat (first | with_reducible assumption | with_reducible exact Kp.refl _ | with_reducible refine Kp.drew ?_ | with_reducible refine Kp.alloc ?_ _ | with_reducible refine Kp.drewN ?_ _)) hka; have tok2 : True := trivial; clear tok1 _t)
        | (have _t := tok2; go_at_call 11; with_reducible refine Calls.mono (HS2.out _ (by repeat (first | with_reducible assumption | with_reducible exact Kp.refl _ | with_reducible refine Kp.drew ?_ | with_reducible refine Kp.alloc ?_ _ | with_reducible refine Kp.drewN ?_ _)) _ (hva.kp (by repeat (first | with_reducible assumption | with_reducible exact Kp.refl _ | with_reducible refine Kp.drew ?_ | with_reducible refine Kp.alloc ?_ _ | with_reducible refine Kp.drewN ?_ _)))) ?_; rintro e wb ⟨rfl, hkb⟩; have hr2 : Kp w8 wb := Kp.trans (by repeat (first | with_reducible assumption | with_reducible exact Kp.refl _ | with_reducible refine Kp.drew ?_ | with_reducible refine Kp.alloc ?_ _ | with_reducible refine Kp.drewN ?_ _)) hkb; clear tok2 _t)
        | fail)
    all_goals (go_wp2_with fail; go_meet; exact ⟨rfl, hr2⟩)
  case rest =>
    obtain ⟨rfl, hkc⟩ := hcut
    obtain ⟨w9, rfl⟩ : ∃ q : World, q = wc := ⟨_, rfl⟩
    clear HS1 HS2 tok1 hk_ qb0 qb1 qb2 qb3 qx0 qx1 qx2 qx3
    replace K0 := K0.trans hkc
    replace KB := KB.trans hkc
    replace KS := KS.trans hkc
    replace Kx0 := Kx0.trans hkc
    replace KX := KX.trans hkc
    replace Kx1 := Kx1.trans hkc
    replace KG := KG.trans hkc
    have qb0 := KB.get b0
    have qb1 := KB.get b1
    have qb2 := KB.get b2
    have qb3 := KB.get b3
    have qx0 := KX.get x0
    have qx1 := KX.get x1
    have qx2 := KX.get x2
    have qx3 := KX.get x3
    go_wp2_with fail
    have CC := Lib.hid (toIntSS_at B1 rs1 m1 c1 _ (hx1.kp K0) Hn1.out (by omega))
    with_reducible refine Calls.mono CC.out ?_
    rintro e w10 ⟨Ay1, cy1, rfl, hy1g, hkc10⟩
    clear CC qb0 qb1 qb2 qb3 qx0 qx1 qx2 qx3
    replace K0 := K0.trans hkc10
    replace KB := KB.trans hkc10
    replace KS := KS.trans hkc10
    replace Kx0 := Kx0.trans hkc10
    replace KX := KX.trans hkc10
    replace Kx1 := Kx1.trans hkc10
    replace KG := KG.trans hkc10
    have qb0 := KB.get b0
    have qb1 := KB.get b1
    have qb2 := KB.get b2
    have qb3 := KB.get b3
    have qx0 := KX.get x0
    have qx1 := KX.get x1
    have qx2 := KX.get x2
    have qx3 := KX.get x3
    go_wp2_with fail
    have CC := Lib.hid (eqIntSS_any2 _ _ rs1 m1 cx1 cy1 _ (hx1g.kp Kx1) hy1g Hn1.out)
    with_reducible refine Calls.mono CC.out ?_
    rintro e w11 ⟨rfl, hkc11⟩
    clear CC qb0 qb1 qb2 qb3 qx0 qx1 qx2 qx3
    replace K0 := K0.trans hkc11
    replace KB := KB.trans hkc11
    replace KS := KS.trans hkc11
    replace Kx0 := Kx0.trans hkc11
    replace KX := KX.trans hkc11
    replace Kx1 := Kx1.trans hkc11
    replace KG := KG.trans hkc11
    have qb0 := KB.get b0
    have qb1 := KB.get b1
    have qb2 := KB.get b2
    have qb3 := KB.get b3
    have qx0 := KX.get x0
    have qx1 := KX.get x1
    have qx2 := KX.get x2
    have qx3 := KX.get x3
    go_wp2_with fail
    have og0 := hg0.kp KG
    clear KG
    have hxo := hx0o.kp Kx0
    have hTx := Turn.of_kp (S := fun _ => False) Kx1
    have CC := Lib.hid (markSeason_any _ S0 1 _ _ _ hxo (by omega) hb)
    clear hxo
    with_reducible refine Calls.mono CC.out ?_
    rintro e w12 ⟨q1, rfl, hq1, hT⟩
    have hT' : Turn (fun i => w4.heap.size ≤ i ∧ i < w5.heap.size) _ w12 := hT
    clear CC hT qb0 qb1 qb2 qb3 qx0 qx1 qx2 qx3
    replace K0 := K0.turn hT' (fun i hi => by have h1 := hi.1; omega)
    replace KB := KB.turn hT' (fun i hi => by have h1 := hi.1; omega)
    replace KS := KS.turn hT' (fun i hi => by have h1 := hi.1; omega)
    replace og0 := og0.turn hT' (fun g hg hi => by have h1 := hi.2; have h2 := (hg0.lt g hg).1; omega)
    have hT2 : Turn (fun i => i < (w5.alloc (.cells #[.slice Ax S0.op.length ax, .slice Bx S0.cl.length bx, .slice Cx S0.ke.length cx, .slice Dx S0.ro.length dx] 31)).heap.size) w6 w12 := (hTx.mono (fun i h => h.elim)).trans (hT'.mono (fun i h => by have := h.2; omega))
    clear hT' hTx
    have qb0 := KB.get b0
    have qb1 := KB.get b1
    have qb2 := KB.get b2
    have qb3 := KB.get b3
    go_wp2_with fail
    have CC := Lib.hid (markGr_any _ m1 rs1 (q1 : Int) _ w6 w12 hx1o Hn1.out hT2 (by omega) (by omega) (by omega) hmr)
    with_reducible refine Calls.mono CC.out ?_
    rintro e w13 ⟨q2, rfl, hT⟩
    have hT' : Turn (fun i => (w5.alloc (.cells #[.slice Ax S0.op.length ax, .slice Bx S0.cl.length bx, .slice Cx S0.ke.length cx, .slice Dx S0.ro.length dx] 31)).heap.size ≤ i ∧ i < w6.heap.size) _ w13 := hT
    clear CC hT hT2 qb0 qb1 qb2 qb3
    replace K0 := K0.turn hT' (fun i hi => by have h1 := hi.1; omega)
    replace KB := KB.turn hT' (fun i hi => by have h1 := hi.1; omega)
    replace KS := KS.turn hT' (fun i hi => by have h1 := hi.1; omega)
    replace og0 := og0.turn hT' (fun g hg hi => by have h1 := hi.2; have h2 := (hg0.lt g hg).1; omega)
    clear hT'
    have hng : ¬ ((q2 : Int) < 0) := by omega
    have qb0 := KB.get b0
    have qb1 := KB.get b1
    have qb2 := KB.get b2
    have qb3 := KB.get b3
    go_wp2_with fail
    have CC := Lib.hid (eqIntS_any _ _ (plL S0 rs1) (plL S0 rs1) _ _ ccg0 ccr0 _ (og0.intsOf (by have := plL_len S0 rs1; omega)) (hir0.kp KS) rfl rfl)
    with_reducible refine Calls.mono CC.out ?_
    rintro e w14 ⟨rfl, hkc14⟩
    clear CC qb0 qb1 qb2 qb3
    replace K0 := K0.trans hkc14
    replace KB := KB.trans hkc14
    replace KS := KS.trans hkc14
    replace og0 := og0.kp hkc14
    simp only [decide_true]
    have qb0 := KB.get b0
    have qb1 := KB.get b1
    have qb2 := KB.get b2
    have qb3 := KB.get b3
    go_wp2_with fail
    have CC := Lib.hid (markIntS_any _ (plL S0 rs1) 1 _ w14 og0 (by omega) (by have := plL_len S0 rs1; omega))
    with_reducible refine Calls.mono CC.out ?_
    rintro e w15 ⟨rfl, om0, hT⟩
    clear CC qb0 qb1 qb2 qb3
    replace K0 := K0.turn hT (fun i hi => by have h2 := (hg0.lt i hi).1; omega)
    replace KB := KB.turn hT (fun i hi => by have h2 := (hg0.lt i hi).1; omega)
    replace KS := KS.turn hT (fun i hi => by have h2 := (hg0.lt i hi).1; omega)
    clear hT
    have KM0 : Kp w15 w15 := Kp.refl _
    have qb0 := KB.get b0
    have qb1 := KB.get b1
    have qb2 := KB.get b2
    have qb3 := KB.get b3
    go_wp2_with fail
    have nq : ((1 + ((plL S0 rs1).length : Int)) != (1 + ((plL S0 rs1).length : Int))) = false := by simp
    have CC := Lib.hid (heldIntS_any _ (plL S0 rs1).length ccg0 1 _ ((om0.kp KM0).intsOf (by rw [seqF_len]; have := plL_len S0 rs1; omega)) (by omega) (by have := plL_len S0 rs1; omega))
    with_reducible refine Calls.mono CC.out ?_
    rintro e w16 ⟨rfl, hdr16⟩
    have hkc16 := hdr16.kp
    clear CC hdr16 qb0 qb1 qb2 qb3
    replace K0 := K0.trans hkc16
    replace KB := KB.trans hkc16
    replace KS := KS.trans hkc16
    replace KM0 := KM0.trans hkc16
    have qb0 := KB.get b0
    have qb1 := KB.get b1
    have qb2 := KB.get b2
    have qb3 := KB.get b3
    go_wp2_with fail
    have CC := Lib.hid (toSeason_any _ S0 _ (hfk.kp KB) hb)
    with_reducible refine Calls.mono CC.out ?_
    rintro e w17 ⟨vh, rfl, hh0, hkc17⟩
    clear CC qb0 qb1 qb2 qb3
    replace K0 := K0.trans hkc17
    replace KB := KB.trans hkc17
    replace KS := KS.trans hkc17
    replace KM0 := KM0.trans hkc17
    have Kh0 : Kp w17 w17 := Kp.refl _
    have qb0 := KB.get b0
    have qb1 := KB.get b1
    have qb2 := KB.get b2
    have qb3 := KB.get b3
    go_wp2_with fail
    have CC := Lib.hid (toIntSS_at B1 rs1 m1 c1 _ (hx1.kp K0) Hn1.out (by omega))
    with_reducible refine Calls.mono CC.out ?_
    rintro e w18 ⟨Ah1, ch1, rfl, hh1, hkc18⟩
    clear CC qb0 qb1 qb2 qb3
    replace K0 := K0.trans hkc18
    replace KB := KB.trans hkc18
    replace KS := KS.trans hkc18
    replace KM0 := KM0.trans hkc18
    replace Kh0 := Kh0.trans hkc18
    have Kh1 : Kp w18 w18 := Kp.refl _
    have qb0 := KB.get b0
    have qb1 := KB.get b1
    have qb2 := KB.get b2
    have qb3 := KB.get b3
    go_wp2_with fail
    have CC := Lib.hid (implPlanMoves_any _ S0 _ rs1 m1 ch1 _ (hh0.kp Kh0) (hh1.kp Kh1) Hn1.out)
    with_reducible refine Calls.mono CC.out ?_
    rintro e w19 ⟨vt0, rfl, ht0, hkc19⟩
    clear CC qb0 qb1 qb2 qb3
    replace K0 := K0.trans hkc19
    replace KB := KB.trans hkc19
    replace KS := KS.trans hkc19
    replace KM0 := KM0.trans hkc19
    replace Kh0 := Kh0.trans hkc19
    replace Kh1 := Kh1.trans hkc19
    obtain ⟨Bt0, cct0, hvt0, hit0⟩ := ht0.ints (by have := plL_len S0 rs1; omega)
    subst hvt0
    clear Kh0
    clear Kh1
    have KT : Kp w19 w19 := Kp.refl _
    have qb0 := KB.get b0
    have qb1 := KB.get b1
    have qb2 := KB.get b2
    have qb3 := KB.get b3
    go_wp2_with fail
    have CC := Lib.hid (eqIntS_any _ _ (plL S0 rs1) (plL S0 rs1) _ _ cct0 ccr0 _ (hit0.kp KT) (hir0.kp KS) rfl rfl)
    with_reducible refine Calls.mono CC.out ?_
    rintro e w20 ⟨rfl, hkc20⟩
    clear CC qb0 qb1 qb2 qb3
    replace K0 := K0.trans hkc20
    replace KB := KB.trans hkc20
    replace KS := KS.trans hkc20
    replace KM0 := KM0.trans hkc20
    replace KT := KT.trans hkc20
    simp only [decide_true]
    have qb0 := KB.get b0
    have qb1 := KB.get b1
    have qb2 := KB.get b2
    have qb3 := KB.get b3
    go_wp2_with fail
    have CC := Lib.hid (heldIntS_any _ (plL S0 rs1).length ccg0 1 _ ((om0.kp KM0).intsOf (by rw [seqF_len]; have := plL_len S0 rs1; omega)) (by omega) (by have := plL_len S0 rs1; omega))
    with_reducible refine Calls.mono CC.out ?_
    rintro e w21 ⟨rfl, hdr21⟩
    have hkc21 := hdr21.kp
    clear CC hdr21 qb0 qb1 qb2 qb3
    replace K0 := K0.trans hkc21
    replace KB := KB.trans hkc21
    replace KS := KS.trans hkc21
    replace KM0 := KM0.trans hkc21
    replace KT := KT.trans hkc21
    have qb0 := KB.get b0
    have qb1 := KB.get b1
    have qb2 := KB.get b2
    have qb3 := KB.get b3
    go_wp2_with fail
    go_ret
    exact ⟨rfl, K0⟩

set_option maxRecDepth 100000 in
theorem pm_lifted (os : Os) (started : os.Started) (H : Type) (enc : TypeId × Value → H) :
    ReturnsInHanded {} Try.checked os 3 .any (Rows.fnExactPlanMovesSpec.pre6 enc Try.prog Try.f3 Rows.fnExactPlanMovesRow.domain false) (Rows.fnExactPlanMovesSpec.post enc Try.prog Try.f3 false true false false) := by
  refine returnsInHanded_of_change (C := Try.checked) ownKnobs started (by kernel_rfl) Try.func3
    (ChangeSpec.witness6 (enc := enc) (C := Try.checked) false ⟨#[], #[.agg #[.slice none 0 0, .slice none 0 0, .slice none 0 0, .slice none 0 0], .slice none 0 0], []⟩ 8 (by kernel_rfl) (by kernel_rfl) (by kernel_rfl) (by kernel_rfl)) ?_
  intro W base args ds gs before hval hW _ _
  obtain ⟨p, q, hA0, hV, hbf, hz, hn⟩ := id hW
  have hA : DataW.TrodAll enc Try.prog W 0 (fun _ => true) true Try.f3.params.toList args.toList ds p := hA0
  have hval' : ∀ (j : Nat) t v, Try.f3.params[j]? = some t → args[j]? = some v → Value.okWide Try.prog W .any base t v := hval
  rw [Try.params3] at hA hval'
  obtain ⟨v0, v1, d0, d1, p0, p1, rfl, rfl, rfl, h0, h1⟩ := trodAll_two hA
  obtain ⟨F0, hf0⟩ := open_seasonAt (hval' 0 _ v0 rfl rfl) h0
  obtain ⟨B1, rs1, c1, rfl, hx1⟩ := open_gridAt (hval' 1 _ v1 rfl rfl) h1
  refine (pm_law _ F0 B1 rs1 _ c1 W hf0 hx1 rfl).mono fun e W' ⟨he, hk⟩ => ⟨_, he, ?_⟩
  exact post_of_kp laidOut rfl (by kernel_rfl) rfl Try.underlying4 (fun ds' hd => match ds', hd with | [_, _], _ => rfl) rfl hW hk

theorem FnExactPlanMoves_holds : Rows.FnExactPlanMovesSaid :=
  OpenClaim.holds_of_wide 3 Try.f3 rfl rfl rfl rfl rfl rfl rfl ⟨rfl, rfl, rfl, rfl, rfl⟩ rfl rfl rfl rfl rfl (by kernel_rfl) Try.func3 (by kernel_rfl)
    (of_decide_eq_true (by kernel_rfl)) (by unfold Func.isWrapper; first | (rw [if_pos (by decide +kernel)]; kernel_rfl) | (rw [if_neg (by decide +kernel)]; exact ⟨rfl, rfl⟩))
    (fun os started H enc _ => pm_lifted os started H enc)
end Go.Proofs.Ytjoebikljmkhfaa
