/- FnFlows: the walk of the law. No condition. -/
import Derived.Test.YtcnceocgdghciaaQAc
import Derived.Test.YtcnceocgdghciaaQAt
import Derived.Test.YtcnceocgdghciaaQAu
import Derived.Test.YtcnceocgdghciaaQBl
import Derived.Test.YtcnceocgdghciaaQAb
namespace Go.Proofs.Ytcnceocgdghciaa
open Go.ChangeShapes Go.WideShapes Go.ChangeAt Go.RowKit Go.Sort

theorem DFld.open {w : World} {b : Nat} {v : Value} (h : DFld w b v) : ∃ F A c B d, v = .agg #[.slice A F.op.length c, .slice B F.di.length d] ∧ FldAt w v F := by
  obtain ⟨F, hf⟩ := h
  have hfa := hf.fld
  obtain ⟨A, c, B, d, e, _⟩ := hf
  exact ⟨F, A, c, B, d, e, hfa⟩
theorem DInts.listL {w : World} {b : Nat} {v : Value} (h : DInts w b v) : ∃ A c xs L, v = .slice A L c ∧ IntsAt w A xs ∧ Hid (xs.length = L) := by
  obtain ⟨A, c, xs, e, hi, _⟩ := h.ints
  exact ⟨A, c, xs, _, e, hi, Lib.hid rfl⟩
theorem DGrid.listL {w : World} {b : Nat} {v : Value} (h : DGrid w b v) : ∃ A c rows L, v = .slice A L c ∧ GridAt w A rows ∧ Hid (rows.length = L) := by
  obtain ⟨A, c, rows, e, hi, _⟩ := h.grid
  exact ⟨A, c, rows, _, e, hi, Lib.hid rfl⟩
/-- The answers, as the law compares them. -/
structure FwP (hb fi yi lk pr pi : Bool) (fv yv lv : Int) : Prop where
  a : fi = true → hb = true ∧ lk = true ∧ lv ≤ fv
  b : lk = true → yi = true → yv ≤ lv
  c : fi = true → yi = true → yv ≤ fv ∧ pi = true ∧ pr = (yv == fv)
  d : pr = true → lv = fv
theorem fw_parts (F : Fld) (R N S U V : List Int) (X : List (List Int)) : FwP (haulB F R N S) (fcIn F R N S X) (fyIn F R N S U V) (lfOk F R N S) (ipR F R N S X U V) (ipIn F R N S X U V) (fcV F R N S X) (fyV F R N S U V) (lfV F R N S) := by
  refine ⟨fun h => ?_, fun h1 h2 => flows_b h1 h2, fun h1 h2 => ?_, fun h => flows_d h⟩
  · obtain ⟨h1, h2⟩ := flows_a (us := U) (ws := V) h
    exact ⟨(fc_parts h).1, h1, h2⟩
  · obtain ⟨h3, h4, h5⟩ := flows_c h1 h2
    refine ⟨h3, h4, ?_⟩
    rw [h5]
    by_cases e : fyV F R N S U V = fcV F R N S X
    · rw [decide_eq_true e, e]; simp
    · rw [decide_eq_false e]; simp [e]
set_option maxRecDepth 100000 in
set_option maxHeartbeats 8000000 in
theorem fw_law (A : Option Addr) (n c : Nat) (w : World) (hb : BytesAt w A n) :
    Calls Try.prog 3 #[.slice A n c] w fun e w' => e = .returned (.bool true) ∧ Kp w w' := by
  have CB := Lib.hid (vBig_any A n c w)
  by_cases hbig : 65536 < n
  · have hd : decide (65536 < (n : Int)) = true := decide_eq_true (by omega)
    rw [hd] at CB
    go_enter Try.func3, Try.ntmps3
    go_wp2_with fail
    with_reducible refine Calls.mono CB.out ?_
    rintro e w1 ⟨rfl, rfl⟩
    go_wp2_with fail
    go_ret
    exact ⟨rfl, Kp.refl _⟩
  have hd : decide (65536 < (n : Int)) = false := decide_eq_false (by omega)
  rw [hd] at CB
  go_enter Try.func3, Try.ntmps3
  go_wp2_with fail
  with_reducible refine Calls.mono CB.out ?_
  rintro e w1 ⟨rfl, rfl⟩
  clear CB hd hbig
  have K0 : Kp w w := Kp.refl _
  have H0 := Lib.hid hb
  clear hb
  go_wp2_with fail
  have CC := Lib.hid (drawIsFlowProof_any A n c w H0.out)
  with_reducible refine Calls.mono CC.out ?_
  rintro e w1 ⟨v, rv, nv, sv, gv, uv, wv, rfl, hv, h2, h3, h4, h5, h6, h7, hk1⟩
  clear CC
  replace K0 := K0.trans hk1
  obtain ⟨F, A1, c1, B1, d1, rfl, hf⟩ := hv.open
  obtain ⟨A2, c2, R, L2, rfl, i2, H2⟩ := h2.listL
  obtain ⟨A3, c3, N, L3, rfl, i3, H3⟩ := h3.listL
  obtain ⟨A4, c4, S, L4, rfl, i4, H4⟩ := h4.listL
  obtain ⟨A5, c5, X, L5, rfl, i5, H5⟩ := h5.listL
  obtain ⟨A6, c6, U, L6, rfl, i6, H6⟩ := h6.listL
  obtain ⟨A7, c7, V, L7, rfl, i7, H7⟩ := h7.listL
  have kv : Kp w1 (World.alloc w1 (.cells #[.slice A1 F.op.length c1, .slice B1 F.di.length d1] 27)) := (Kp.refl _).alloc _
  obtain ⟨x1, y1⟩ := box2 w1 (.slice A1 F.op.length c1) (.slice B1 F.di.length d1) 27
  replace K0 := K0.trans kv
  replace hf := hf.kp kv
  replace i2 := i2.kp kv
  replace i3 := i3.kp kv
  replace i4 := i4.kp kv
  replace i5 := i5.kp kv
  replace i6 := i6.kp kv
  replace i7 := i7.kp kv
  clear hv h2 h3 h4 h5 h6 h7 H0
  go_wp2_with fail
  generalize w1.alloc (.cells #[.slice A1 F.op.length c1, .slice B1 F.di.length d1] 27) = wf at *
  generalize w1.heap.size = b1 at *
  clear kv
  have KF : Kp wf wf := Kp.refl _
  have HP := Lib.hid (fw_parts F R N S U V X)
  obtain ⟨hb, Hhb⟩ : ∃ b, Hid (haulB F R N S = b) := ⟨_, Lib.hid rfl⟩
  obtain ⟨fi, Hfi⟩ : ∃ b, Hid (fcIn F R N S X = b) := ⟨_, Lib.hid rfl⟩
  obtain ⟨fv, Hfv⟩ : ∃ b, Hid (fcV F R N S X = b) := ⟨_, Lib.hid rfl⟩
  obtain ⟨ap, Hap⟩ : ∃ b, Hid (apB F S U V = b) := ⟨_, Lib.hid rfl⟩
  obtain ⟨ob, Hob⟩ : ∃ b, Hid (openedB F S = b) := ⟨_, Lib.hid rfl⟩
  obtain ⟨yv, Hyv⟩ : ∃ b, Hid (fyV F R N S U V = b) := ⟨_, Lib.hid rfl⟩
  obtain ⟨yi, Hyi⟩ : ∃ b, Hid (fyIn F R N S U V = b) := ⟨_, Lib.hid rfl⟩
  obtain ⟨pr, Hpr⟩ : ∃ b, Hid (ipR F R N S X U V = b) := ⟨_, Lib.hid rfl⟩
  obtain ⟨pi, Hpi⟩ : ∃ b, Hid (ipIn F R N S X U V = b) := ⟨_, Lib.hid rfl⟩
  obtain ⟨an, Han⟩ : ∃ b, Hid (anB F R N = b) := ⟨_, Lib.hid rfl⟩
  obtain ⟨gd, Hgd⟩ : ∃ b, Hid (goodF F = b) := ⟨_, Lib.hid rfl⟩
  obtain ⟨lv, Hlv⟩ : ∃ b, Hid (lfV F R N S = b) := ⟨_, Lib.hid rfl⟩
  obtain ⟨lk, Hlk⟩ : ∃ b, Hid (lfOk F R N S = b) := ⟨_, Lib.hid rfl⟩
  rw [Hhb.out, Hfi.out, Hfv.out, Hyv.out, Hyi.out, Hpr.out, Hpi.out, Hlv.out, Hlk.out] at HP
  have CC := Lib.hid (implIsFlow_any _ F A2 R L2 c2 A3 N L3 c3 A4 S L4 c4 A5 X L5 c5 wf hf i2 H2.out i3 H3.out i4 H4.out i5 H5.out)
  with_reducible refine Calls.mono CC.out ?_
  rintro e w2 ⟨rfl, hk2⟩
  clear CC
  replace K0 := K0.trans hk2
  replace KF := KF.trans hk2
  replace hf := hf.kp hk2
  replace i2 := i2.kp hk2
  replace i3 := i3.kp hk2
  replace i4 := i4.kp hk2
  replace i5 := i5.kp hk2
  replace i6 := i6.kp hk2
  replace i7 := i7.kp hk2
  rw [Hfi.out, Hhb.out]
  have q_x1 := KF.get x1
  have q_y1 := KF.get y1
  go_wp2_with fail
  have CC := Lib.hid (specIsFlow_any _ F A2 R L2 c2 A3 N L3 c3 A4 S L4 c4 A5 X L5 c5 w2 hf i2 H2.out i3 H3.out i4 H4.out i5 H5.out)
  with_reducible refine Calls.mono CC.out ?_
  rintro e w3 ⟨rfl, hk3⟩
  clear CC q_x1 q_y1
  replace K0 := K0.trans hk3
  replace KF := KF.trans hk3
  replace hf := hf.kp hk3
  replace i2 := i2.kp hk3
  replace i3 := i3.kp hk3
  replace i4 := i4.kp hk3
  replace i5 := i5.kp hk3
  replace i6 := i6.kp hk3
  replace i7 := i7.kp hk3
  rw [Hfi.out, Hhb.out]
  have q_x1 := KF.get x1
  have q_y1 := KF.get y1
  go_wp2_with fail
  have CC := Lib.hid (implFc_any _ F A2 R L2 c2 A3 N L3 c3 A4 S L4 c4 A5 X L5 c5 w3 hf i2 H2.out i3 H3.out i4 H4.out i5 H5.out)
  with_reducible refine Calls.mono CC.out ?_
  rintro e w4 ⟨rfl, hk4⟩
  clear CC q_x1 q_y1
  replace K0 := K0.trans hk4
  replace KF := KF.trans hk4
  replace hf := hf.kp hk4
  replace i2 := i2.kp hk4
  replace i3 := i3.kp hk4
  replace i4 := i4.kp hk4
  replace i5 := i5.kp hk4
  replace i6 := i6.kp hk4
  replace i7 := i7.kp hk4
  rw [Hfv.out, Hfi.out]
  have q_x1 := KF.get x1
  have q_y1 := KF.get y1
  go_wp2_with fail
  have CC := Lib.hid (specFc_any _ F A2 R L2 c2 A3 N L3 c3 A4 S L4 c4 A5 X L5 c5 w4 hf i2 H2.out i3 H3.out i4 H4.out i5 H5.out)
  with_reducible refine Calls.mono CC.out ?_
  rintro e w5 ⟨rfl, hk5⟩
  clear CC q_x1 q_y1
  replace K0 := K0.trans hk5
  replace KF := KF.trans hk5
  replace hf := hf.kp hk5
  replace i2 := i2.kp hk5
  replace i3 := i3.kp hk5
  replace i4 := i4.kp hk5
  replace i5 := i5.kp hk5
  replace i6 := i6.kp hk5
  replace i7 := i7.kp hk5
  rw [Hfv.out, Hfi.out]
  have q_x1 := KF.get x1
  have q_y1 := KF.get y1
  go_wp2_with fail
  have CC := Lib.hid (implAp_any _ F A4 S L4 c4 A6 U L6 c6 A7 V L7 c7 w5 hf i4 H4.out i6 H6.out i7 H7.out)
  with_reducible refine Calls.mono CC.out ?_
  rintro e w6 ⟨rfl, hk6⟩
  clear CC q_x1 q_y1
  replace K0 := K0.trans hk6
  replace KF := KF.trans hk6
  replace hf := hf.kp hk6
  replace i2 := i2.kp hk6
  replace i3 := i3.kp hk6
  replace i4 := i4.kp hk6
  replace i5 := i5.kp hk6
  replace i6 := i6.kp hk6
  replace i7 := i7.kp hk6
  rw [Hap.out, Hob.out]
  have q_x1 := KF.get x1
  have q_y1 := KF.get y1
  go_wp2_with fail
  have CC := Lib.hid (specAp_any _ F A4 S L4 c4 A6 U L6 c6 A7 V L7 c7 w6 hf i4 H4.out i6 H6.out i7 H7.out)
  with_reducible refine Calls.mono CC.out ?_
  rintro e w7 ⟨rfl, hk7⟩
  clear CC q_x1 q_y1
  replace K0 := K0.trans hk7
  replace KF := KF.trans hk7
  replace hf := hf.kp hk7
  replace i2 := i2.kp hk7
  replace i3 := i3.kp hk7
  replace i4 := i4.kp hk7
  replace i5 := i5.kp hk7
  replace i6 := i6.kp hk7
  replace i7 := i7.kp hk7
  rw [Hap.out, Hob.out]
  have q_x1 := KF.get x1
  have q_y1 := KF.get y1
  go_wp2_with fail
  have CC := Lib.hid (implFy_any _ F A2 R L2 c2 A3 N L3 c3 A4 S L4 c4 A6 U L6 c6 A7 V L7 c7 w7 hf i2 H2.out i3 H3.out i4 H4.out i6 H6.out i7 H7.out)
  with_reducible refine Calls.mono CC.out ?_
  rintro e w8 ⟨rfl, hk8⟩
  clear CC q_x1 q_y1
  replace K0 := K0.trans hk8
  replace KF := KF.trans hk8
  replace hf := hf.kp hk8
  replace i2 := i2.kp hk8
  replace i3 := i3.kp hk8
  replace i4 := i4.kp hk8
  replace i5 := i5.kp hk8
  replace i6 := i6.kp hk8
  replace i7 := i7.kp hk8
  rw [Hyv.out, Hyi.out]
  have q_x1 := KF.get x1
  have q_y1 := KF.get y1
  go_wp2_with fail
  have CC := Lib.hid (specFy_any _ F A2 R L2 c2 A3 N L3 c3 A4 S L4 c4 A6 U L6 c6 A7 V L7 c7 w8 hf i2 H2.out i3 H3.out i4 H4.out i6 H6.out i7 H7.out)
  with_reducible refine Calls.mono CC.out ?_
  rintro e w9 ⟨rfl, hk9⟩
  clear CC q_x1 q_y1
  replace K0 := K0.trans hk9
  replace KF := KF.trans hk9
  replace hf := hf.kp hk9
  replace i2 := i2.kp hk9
  replace i3 := i3.kp hk9
  replace i4 := i4.kp hk9
  replace i5 := i5.kp hk9
  replace i6 := i6.kp hk9
  replace i7 := i7.kp hk9
  rw [Hyv.out, Hyi.out]
  have q_x1 := KF.get x1
  have q_y1 := KF.get y1
  go_wp2_with fail
  have CC := Lib.hid (implIp_any _ F A2 R L2 c2 A3 N L3 c3 A4 S L4 c4 A5 X L5 c5 A6 U L6 c6 A7 V L7 c7 w9 hf i2 H2.out i3 H3.out i4 H4.out i5 H5.out i6 H6.out i7 H7.out)
  with_reducible refine Calls.mono CC.out ?_
  rintro e w10 ⟨rfl, hk10⟩
  clear CC q_x1 q_y1
  replace K0 := K0.trans hk10
  replace KF := KF.trans hk10
  replace hf := hf.kp hk10
  replace i2 := i2.kp hk10
  replace i3 := i3.kp hk10
  replace i4 := i4.kp hk10
  replace i5 := i5.kp hk10
  replace i6 := i6.kp hk10
  replace i7 := i7.kp hk10
  rw [Hpr.out, Hpi.out]
  have q_x1 := KF.get x1
  have q_y1 := KF.get y1
  go_wp2_with fail
  have CC := Lib.hid (specIp_any _ F A2 R L2 c2 A3 N L3 c3 A4 S L4 c4 A5 X L5 c5 A6 U L6 c6 A7 V L7 c7 w10 hf i2 H2.out i3 H3.out i4 H4.out i5 H5.out i6 H6.out i7 H7.out)
  with_reducible refine Calls.mono CC.out ?_
  rintro e w11 ⟨rfl, hk11⟩
  clear CC q_x1 q_y1
  replace K0 := K0.trans hk11
  replace KF := KF.trans hk11
  replace hf := hf.kp hk11
  replace i2 := i2.kp hk11
  replace i3 := i3.kp hk11
  replace i4 := i4.kp hk11
  replace i5 := i5.kp hk11
  replace i6 := i6.kp hk11
  replace i7 := i7.kp hk11
  rw [Hpr.out, Hpi.out]
  have q_x1 := KF.get x1
  have q_y1 := KF.get y1
  go_wp2_with fail
  have CC := Lib.hid (implAn_any _ F A2 R L2 c2 A3 N L3 c3 w11 hf i2 H2.out i3 H3.out)
  with_reducible refine Calls.mono CC.out ?_
  rintro e w12 ⟨rfl, hk12⟩
  clear CC q_x1 q_y1
  replace K0 := K0.trans hk12
  replace KF := KF.trans hk12
  replace hf := hf.kp hk12
  replace i2 := i2.kp hk12
  replace i3 := i3.kp hk12
  replace i4 := i4.kp hk12
  replace i5 := i5.kp hk12
  replace i6 := i6.kp hk12
  replace i7 := i7.kp hk12
  rw [Han.out, Hgd.out]
  have q_x1 := KF.get x1
  have q_y1 := KF.get y1
  go_wp2_with fail
  have CC := Lib.hid (specAn_any _ F A2 R L2 c2 A3 N L3 c3 w12 hf i2 H2.out i3 H3.out)
  with_reducible refine Calls.mono CC.out ?_
  rintro e w13 ⟨rfl, hk13⟩
  clear CC q_x1 q_y1
  replace K0 := K0.trans hk13
  replace KF := KF.trans hk13
  replace hf := hf.kp hk13
  replace i2 := i2.kp hk13
  replace i3 := i3.kp hk13
  replace i4 := i4.kp hk13
  replace i5 := i5.kp hk13
  replace i6 := i6.kp hk13
  replace i7 := i7.kp hk13
  rw [Han.out, Hgd.out]
  have n1 : (fv != fv) = false := by simp
  have n2 : (ap != ap) = false := by simp
  have n3 : (ob != ob) = false := by simp
  have n4 : (yv != yv) = false := by simp
  have n5 : (pr != pr) = false := by simp
  have n6 : (pi != pi) = false := by simp
  have n7 : (an != an) = false := by simp
  have n8 : (gd != gd) = false := by simp
  have n9 : (lv != lv) = false := by simp
  have n10 : (fi != fi) = false := by simp
  have n11 : (lk != lk) = false := by simp
  cases hb
  · have hfi : fi = false := by
      cases fi
      · rfl
      · exact absurd (HP.out.a rfl).1 (by simp)
    subst hfi
    have hlk : lk = false := by
      cases lk
      · rfl
      · have h1 := Hlk.out
        unfold lfOk at h1
        rw [Hhb.out] at h1
        exact absurd h1 (by simp)
    have hpr : pr = false := by
      cases pr
      · rfl
      · have h1 := Hpr.out
        unfold ipR ipIn at h1
        rw [Hfi.out] at h1
        exact absurd h1 (by simp)
    subst hlk hpr
    go_upto_region 16 with fail
    refine wp_region_lit ?_
    refine wpList_12 (fun Q9 hQ9 => ?_)
    have HQ9 := Lib.hid hQ9
    clear hQ9
    go_wp2_with fail
    refine HQ9.out _ _ ?_
    clear HQ9 Q9
    refine wpList_12 (fun Q9 hQ9 => ?_)
    have HQ9 := Lib.hid hQ9
    clear hQ9
    go_wp2_with fail
    refine HQ9.out _ _ ?_
    clear HQ9 Q9
    refine wpList_12 (fun Q9 hQ9 => ?_)
    have HQ9 := Lib.hid hQ9
    clear hQ9
    go_wp2_with fail
    refine HQ9.out _ _ ?_
    clear HQ9 Q9
    refine wpList_12 (fun Q9 hQ9 => ?_)
    have HQ9 := Lib.hid hQ9
    clear hQ9
    go_wp2_with fail
    refine HQ9.out _ _ ?_
    clear HQ9 Q9
    refine wpList_12 (fun Q9 hQ9 => ?_)
    have HQ9 := Lib.hid hQ9
    clear hQ9
    go_wp2_with fail
    refine HQ9.out _ _ ?_
    clear HQ9 Q9
    go_upto_region 18 with fail
    have q_x1 := KF.get x1
    have q_y1 := KF.get y1
    go_wp2_with fail
    have CC := Lib.hid (implLf_any _ F A2 R L2 c2 A3 N L3 c3 A4 S L4 c4 w13 hf i2 H2.out i3 H3.out i4 H4.out)
    with_reducible refine Calls.mono CC.out ?_
    rintro e w14 ⟨rfl, hk14⟩
    clear CC q_x1 q_y1
    replace K0 := K0.trans hk14
    replace KF := KF.trans hk14
    replace hf := hf.kp hk14
    replace i2 := i2.kp hk14
    replace i3 := i3.kp hk14
    replace i4 := i4.kp hk14
    replace i5 := i5.kp hk14
    replace i6 := i6.kp hk14
    replace i7 := i7.kp hk14
    rw [Hlv.out, Hlk.out]
    have q_x1 := KF.get x1
    have q_y1 := KF.get y1
    go_wp2_with fail
    have CC := Lib.hid (specLf_any _ F A2 R L2 c2 A3 N L3 c3 A4 S L4 c4 w14 hf i2 H2.out i3 H3.out i4 H4.out)
    with_reducible refine Calls.mono CC.out ?_
    rintro e w15 ⟨rfl, hk15⟩
    clear CC q_x1 q_y1
    replace K0 := K0.trans hk15
    replace KF := KF.trans hk15
    replace hf := hf.kp hk15
    replace i2 := i2.kp hk15
    replace i3 := i3.kp hk15
    replace i4 := i4.kp hk15
    replace i5 := i5.kp hk15
    replace i6 := i6.kp hk15
    replace i7 := i7.kp hk15
    rw [Hlv.out, Hlk.out]
    go_wp2_with fail
    go_ret
    exact ⟨rfl, K0⟩
  · go_upto_region 16 with fail
    refine wp_region_lit ?_
    refine wpList_12 (fun Q9 hQ9 => ?_)
    have HQ9 := Lib.hid hQ9
    clear hQ9
    go_wp2_with fail
    refine HQ9.out _ _ ?_
    clear HQ9 Q9
    refine wpList_12 (fun Q9 hQ9 => ?_)
    have HQ9 := Lib.hid hQ9
    clear hQ9
    go_wp2_with fail
    refine HQ9.out _ _ ?_
    clear HQ9 Q9
    refine wpList_12 (fun Q9 hQ9 => ?_)
    have HQ9 := Lib.hid hQ9
    clear hQ9
    go_wp2_with fail
    refine HQ9.out _ _ ?_
    clear HQ9 Q9
    refine wpList_12 (fun Q9 hQ9 => ?_)
    have HQ9 := Lib.hid hQ9
    clear hQ9
    go_wp2_with fail
    refine HQ9.out _ _ ?_
    clear HQ9 Q9
    refine wpList_12 (fun Q9 hQ9 => ?_)
    have HQ9 := Lib.hid hQ9
    clear hQ9
    go_wp2_with fail
    refine HQ9.out _ _ ?_
    clear HQ9 Q9
    go_upto_region 18 with fail
    cases fi
    · have hpr : pr = false := by
        cases pr
        · rfl
        · have h1 := Hpr.out
          unfold ipR ipIn at h1
          rw [Hfi.out] at h1
          exact absurd h1 (by simp)
      subst hpr
      have q_x1 := KF.get x1
      have q_y1 := KF.get y1
      go_wp2_with fail
      have CC := Lib.hid (implLf_any _ F A2 R L2 c2 A3 N L3 c3 A4 S L4 c4 w13 hf i2 H2.out i3 H3.out i4 H4.out)
      with_reducible refine Calls.mono CC.out ?_
      rintro e w16 ⟨rfl, hk16⟩
      clear CC q_x1 q_y1
      replace K0 := K0.trans hk16
      replace KF := KF.trans hk16
      replace hf := hf.kp hk16
      replace i2 := i2.kp hk16
      replace i3 := i3.kp hk16
      replace i4 := i4.kp hk16
      replace i5 := i5.kp hk16
      replace i6 := i6.kp hk16
      replace i7 := i7.kp hk16
      rw [Hlv.out, Hlk.out]
      have q_x1 := KF.get x1
      have q_y1 := KF.get y1
      go_wp2_with fail
      have CC := Lib.hid (specLf_any _ F A2 R L2 c2 A3 N L3 c3 A4 S L4 c4 w16 hf i2 H2.out i3 H3.out i4 H4.out)
      with_reducible refine Calls.mono CC.out ?_
      rintro e w17 ⟨rfl, hk17⟩
      clear CC q_x1 q_y1
      replace K0 := K0.trans hk17
      replace KF := KF.trans hk17
      replace hf := hf.kp hk17
      replace i2 := i2.kp hk17
      replace i3 := i3.kp hk17
      replace i4 := i4.kp hk17
      replace i5 := i5.kp hk17
      replace i6 := i6.kp hk17
      replace i7 := i7.kp hk17
      rw [Hlv.out, Hlk.out]
      cases lk
      · go_wp2_with fail
        go_ret
        exact ⟨rfl, K0⟩
      · cases yi
        · go_wp2_with fail
          go_ret
          exact ⟨rfl, K0⟩
        · have h3 := HP.out.b rfl rfl
          have p4 : decide (lv < yv) = false := decide_eq_false (by omega)
          go_wp2_with fail
          go_ret
          exact ⟨rfl, K0⟩
    · obtain ⟨-, rfl, ha⟩ := HP.out.a rfl
      have p1 : decide (fv < lv) = false := decide_eq_false (by omega)
      cases yi
      · have q_x1 := KF.get x1
        have q_y1 := KF.get y1
        go_wp2_with fail
        have CC := Lib.hid (implLf_any _ F A2 R L2 c2 A3 N L3 c3 A4 S L4 c4 w13 hf i2 H2.out i3 H3.out i4 H4.out)
        with_reducible refine Calls.mono CC.out ?_
        rintro e w18 ⟨rfl, hk18⟩
        clear CC q_x1 q_y1
        replace K0 := K0.trans hk18
        replace KF := KF.trans hk18
        replace hf := hf.kp hk18
        replace i2 := i2.kp hk18
        replace i3 := i3.kp hk18
        replace i4 := i4.kp hk18
        replace i5 := i5.kp hk18
        replace i6 := i6.kp hk18
        replace i7 := i7.kp hk18
        rw [Hlv.out, Hlk.out]
        have q_x1 := KF.get x1
        have q_y1 := KF.get y1
        go_wp2_with fail
        have CC := Lib.hid (specLf_any _ F A2 R L2 c2 A3 N L3 c3 A4 S L4 c4 w18 hf i2 H2.out i3 H3.out i4 H4.out)
        with_reducible refine Calls.mono CC.out ?_
        rintro e w19 ⟨rfl, hk19⟩
        clear CC q_x1 q_y1
        replace K0 := K0.trans hk19
        replace KF := KF.trans hk19
        replace hf := hf.kp hk19
        replace i2 := i2.kp hk19
        replace i3 := i3.kp hk19
        replace i4 := i4.kp hk19
        replace i5 := i5.kp hk19
        replace i6 := i6.kp hk19
        replace i7 := i7.kp hk19
        rw [Hlv.out, Hlk.out]
        cases pr
        · go_wp2_with fail
          go_ret
          exact ⟨rfl, K0⟩
        · have hd := HP.out.d rfl
          have p2 : (lv == fv) = true := by rw [hd]; simp
          go_wp2_with fail
          go_ret
          exact ⟨rfl, K0⟩
      · obtain ⟨hc, rfl, hpr⟩ := HP.out.c rfl rfl
        have h3 := HP.out.b rfl rfl
        have p3 : decide (fv < yv) = false := decide_eq_false (by omega)
        have p4 : decide (lv < yv) = false := decide_eq_false (by omega)
        cases pr
        · have p5 : (yv == fv) = false := hpr.symm
          clear hpr
          have q_x1 := KF.get x1
          have q_y1 := KF.get y1
          go_wp2_with fail
          have CC := Lib.hid (implLf_any _ F A2 R L2 c2 A3 N L3 c3 A4 S L4 c4 w13 hf i2 H2.out i3 H3.out i4 H4.out)
          with_reducible refine Calls.mono CC.out ?_
          rintro e w20 ⟨rfl, hk20⟩
          clear CC q_x1 q_y1
          replace K0 := K0.trans hk20
          replace KF := KF.trans hk20
          replace hf := hf.kp hk20
          replace i2 := i2.kp hk20
          replace i3 := i3.kp hk20
          replace i4 := i4.kp hk20
          replace i5 := i5.kp hk20
          replace i6 := i6.kp hk20
          replace i7 := i7.kp hk20
          rw [Hlv.out, Hlk.out]
          have q_x1 := KF.get x1
          have q_y1 := KF.get y1
          go_wp2_with fail
          have CC := Lib.hid (specLf_any _ F A2 R L2 c2 A3 N L3 c3 A4 S L4 c4 w20 hf i2 H2.out i3 H3.out i4 H4.out)
          with_reducible refine Calls.mono CC.out ?_
          rintro e w21 ⟨rfl, hk21⟩
          clear CC q_x1 q_y1
          replace K0 := K0.trans hk21
          replace KF := KF.trans hk21
          replace hf := hf.kp hk21
          replace i2 := i2.kp hk21
          replace i3 := i3.kp hk21
          replace i4 := i4.kp hk21
          replace i5 := i5.kp hk21
          replace i6 := i6.kp hk21
          replace i7 := i7.kp hk21
          rw [Hlv.out, Hlk.out]
          go_wp2_with fail
          go_ret
          exact ⟨rfl, K0⟩
        · have p5 : (yv == fv) = true := hpr.symm
          have hd := HP.out.d rfl
          have p2 : (lv == fv) = true := by rw [hd]; simp
          clear hpr
          have q_x1 := KF.get x1
          have q_y1 := KF.get y1
          go_wp2_with fail
          have CC := Lib.hid (implLf_any _ F A2 R L2 c2 A3 N L3 c3 A4 S L4 c4 w13 hf i2 H2.out i3 H3.out i4 H4.out)
          with_reducible refine Calls.mono CC.out ?_
          rintro e w22 ⟨rfl, hk22⟩
          clear CC q_x1 q_y1
          replace K0 := K0.trans hk22
          replace KF := KF.trans hk22
          replace hf := hf.kp hk22
          replace i2 := i2.kp hk22
          replace i3 := i3.kp hk22
          replace i4 := i4.kp hk22
          replace i5 := i5.kp hk22
          replace i6 := i6.kp hk22
          replace i7 := i7.kp hk22
          rw [Hlv.out, Hlk.out]
          have q_x1 := KF.get x1
          have q_y1 := KF.get y1
          go_wp2_with fail
          have CC := Lib.hid (specLf_any _ F A2 R L2 c2 A3 N L3 c3 A4 S L4 c4 w22 hf i2 H2.out i3 H3.out i4 H4.out)
          with_reducible refine Calls.mono CC.out ?_
          rintro e w23 ⟨rfl, hk23⟩
          clear CC q_x1 q_y1
          replace K0 := K0.trans hk23
          replace KF := KF.trans hk23
          replace hf := hf.kp hk23
          replace i2 := i2.kp hk23
          replace i3 := i3.kp hk23
          replace i4 := i4.kp hk23
          replace i5 := i5.kp hk23
          replace i6 := i6.kp hk23
          replace i7 := i7.kp hk23
          rw [Hlv.out, Hlk.out]
          go_wp2_with fail
          go_ret
          exact ⟨rfl, K0⟩
end Go.Proofs.Ytcnceocgdghciaa
