/- FnGreedyGains: the walk of the law. No condition. -/
import Derived.Test.YtgfbjgdofhcmaaaGreatQAc
import Derived.Test.YtgfbjgdofhcmaaaGreatQAl
import Derived.Test.YtgfbjgdofhcmaaaGreatQAv
import Derived.Test.YtgfbjgdofhcmaaaGreatQAw
import Derived.Test.YtgfbjgdofhcmaaaGreatQAb
namespace Go.Proofs.YtgfbjgdofhcmaaaGreat
open Go.ChangeShapes Go.WideShapes Go.ChangeAt Go.RowKit Go.Sort

theorem DFld.open {w : World} {b : Nat} {v : Value} (h : DFld w b v) : ∃ F A c B d, v = .agg #[.slice A F.op.length c, .slice B F.di.length d] ∧ FldAt w v F := by
  obtain ⟨F, hf⟩ := h
  have hfa := hf.fld
  obtain ⟨A, c, B, d, e, _⟩ := hf
  exact ⟨F, A, c, B, d, e, hfa⟩
theorem DInts.listC {w : World} {b : Nat} {v : Value} (h : DInts w b v) : ∃ A c xs L, v = .slice A L c ∧ IntsAt w A xs ∧ Hid (xs.length = L) ∧ L ≤ 200 ∧ L ≤ c := by
  obtain ⟨A, c, xs, e, hi, hl, hc⟩ := h.ints
  exact ⟨A, c, xs, _, e, hi, Lib.hid rfl, hl, hc⟩
theorem Own.openL {w : World} {base : Nat} {v : Value} {xs : List Int} (h : Own w base v xs) {L : Nat} (hl : Hid (xs.length = L)) (h2 : L ≤ 1048576) : ∃ A c, v = .slice A L c ∧ IntsAt w A xs := by
  have := hl.out
  obtain ⟨A, c, e, hi⟩ := h.ints (by omega)
  exact ⟨A, c, by rw [← this]; exact e, hi⟩
theorem gg_nums {n K : Nat} (hn : (n : Int) ≤ 7) (hK : K ≤ 7) : wrap64 ((n : Int) * (K : Int)) = (n : Int) * (K : Int) ∧ wrap64 ((n : Int) + (n : Int) * (K : Int)) = (n : Int) + (n : Int) * (K : Int) := by
  have h777 : (n : Int) * (K : Int) ≤ 7 * 7 := Int.mul_le_mul (by omega) (by omega) (by omega) (by omega)
  have h778 : 0 ≤ (n : Int) * (K : Int) := Int.mul_nonneg (by omega) (by omega)
  exact ⟨IntWalk.wrap64_in _ (by omega), IntWalk.wrap64_in _ (by omega)⟩
set_option maxRecDepth 100000 in
set_option maxHeartbeats 8000000 in
theorem gg_law (A : Option Addr) (n c : Nat) (w : World) (hb : BytesAt w A n) (hnc : n ≤ c) :
    Calls Tryz.prog 3 #[.slice A n c] w fun e w' => e = .returned (.bool true) ∧ Kp w w' := by
  have CB := Lib.hid (rBig_any A n c w)
  by_cases hbig : 65536 < n
  · have hd : decide (65536 < (n : Int)) = true := decide_eq_true (by omega)
    rw [hd] at CB
    go_enter Tryz.func3, Tryz.ntmps3
    go_wp2_with fail
    with_reducible refine Calls.mono CB.out ?_
    rintro e w1 ⟨rfl, rfl⟩
    go_wp2_with fail
    go_ret
    exact ⟨rfl, Kp.refl _⟩
  have hn6 : n ≤ 65536 := by omega
  have hd : decide (65536 < (n : Int)) = false := decide_eq_false (by omega)
  rw [hd] at CB
  go_enter Tryz.func3, Tryz.ntmps3
  go_wp2_with fail
  with_reducible refine Calls.mono CB.out ?_
  rintro e w1 ⟨rfl, rfl⟩
  clear CB hd hbig
  have K0 : Kp w w := Kp.refl _
  have H0 := Lib.hid hb
  clear hb
  go_wp2_with fail
  have CC := Lib.hid (drawLazyGain_any A n c w H0.out)
  with_reducible refine Calls.mono CC.out ?_
  rintro e w1 ⟨v, worth, k, rfl, hv, hk1⟩
  clear CC
  replace K0 := K0.trans hk1
  obtain ⟨F, A1, c1, B1, d1, rfl, hf⟩ := hv.open
  have kv : Kp w1 (World.alloc w1 (.cells #[.slice A1 F.op.length c1, .slice B1 F.di.length d1] 27)) := (Kp.refl _).alloc _
  obtain ⟨x1, y1⟩ := box2 w1 (.slice A1 F.op.length c1) (.slice B1 F.di.length d1) 27
  replace K0 := K0.trans kv
  replace hf := hf.kp kv
  clear hv
  go_wp2_with fail
  generalize w1.alloc (.cells #[.slice A1 F.op.length c1, .slice B1 F.di.length d1] 27) = wf at *
  generalize w1.heap.size = b1 at *
  clear kv
  have KF : Kp wf wf := Kp.refl _
  obtain ⟨ok, Hok⟩ : ∃ b, Hid (grdOk F worth k = b) := ⟨_, Lib.hid rfl⟩
  obtain ⟨ma, Hma⟩ : ∃ b, Hid (lzM F worth k = b) := ⟨_, Lib.hid rfl⟩
  obtain ⟨up, Hup⟩ : ∃ b, Hid (luR F worth k = b) := ⟨_, Lib.hid rfl⟩
  obtain ⟨L6, HL6⟩ : ∃ b, Hid ((grdL F worth k).length = b) := ⟨_, Lib.hid rfl⟩
  obtain ⟨L10, HL10⟩ : ∃ b, Hid ((lzL F worth k).length = b) := ⟨_, Lib.hid rfl⟩
  obtain ⟨L16, HL16⟩ : ∃ b, Hid ((bgL F worth k).length = b) := ⟨_, Lib.hid rfl⟩
  have hL6 : L6 ≤ 1048576 := by rw [← HL6.out]; exact grdL_len F worth k
  have hL10 : L10 ≤ 1048576 := by rw [← HL10.out]; exact lzL_len F worth k
  have hL16 : L16 ≤ 1048576 := by rw [← HL16.out]; exact bgL_len F worth k
  have Hlz : Hid (lzOk F worth k = ok) := Hok
  have Hbg : Hid (bgOk F worth k = ok) := Hok
  have n1 : (ok != ok) = false := by simp
  have n2 : (ma != ma) = false := by simp
  have n3 : (up != up) = false := by simp
  have CC := Lib.hid (implGreedy_any _ F worth k wf hf)
  with_reducible refine Calls.mono CC.out ?_
  rintro e w2 ⟨gv, rfl, ho, hk2⟩
  clear CC
  replace K0 := K0.trans hk2
  replace KF := KF.trans hk2
  replace hf := hf.kp hk2
  rw [Hok.out]
  obtain ⟨A6, c6, rfl, i6⟩ := ho.openL HL6 hL6
  clear ho
  have q_x1 := KF.get x1
  have q_y1 := KF.get y1
  go_wp2_with fail
  have CC := Lib.hid (specGreedy_any _ F worth k w2 hf)
  with_reducible refine Calls.mono CC.out ?_
  rintro e w3 ⟨gv, rfl, ho, hk3⟩
  clear CC q_x1 q_y1
  replace K0 := K0.trans hk3
  replace KF := KF.trans hk3
  replace hf := hf.kp hk3
  replace i6 := i6.kp hk3
  rw [Hok.out]
  obtain ⟨A8, c8, rfl, i8⟩ := ho.openL HL6 hL6
  clear ho
  have q_x1 := KF.get x1
  have q_y1 := KF.get y1
  go_wp2_with fail
  have CC := Lib.hid (rInts_same A6 A8 (grdL F worth k) L6 c6 c8 w3 i6 i8 HL6.out)
  with_reducible refine Calls.mono CC.out ?_
  rintro e w4 ⟨rfl, hk4⟩
  clear CC q_x1 q_y1
  replace K0 := K0.trans hk4
  replace KF := KF.trans hk4
  replace hf := hf.kp hk4
  replace i6 := i6.kp hk4
  replace i8 := i8.kp hk4
  clear i8
  have q_x1 := KF.get x1
  have q_y1 := KF.get y1
  go_wp2_with fail
  have CC := Lib.hid (implLazy_any _ F worth k w4 hf)
  with_reducible refine Calls.mono CC.out ?_
  rintro e w5 ⟨gv, rfl, ho, hk5⟩
  clear CC q_x1 q_y1
  replace K0 := K0.trans hk5
  replace KF := KF.trans hk5
  replace hf := hf.kp hk5
  replace i6 := i6.kp hk5
  rw [Hlz.out, Hma.out]
  obtain ⟨A10, c10, rfl, i10⟩ := ho.openL HL10 hL10
  clear ho
  have q_x1 := KF.get x1
  have q_y1 := KF.get y1
  go_wp2_with fail
  have CC := Lib.hid (specLazy_any _ F worth k w5 hf)
  with_reducible refine Calls.mono CC.out ?_
  rintro e w6 ⟨gv, rfl, ho, hk6⟩
  clear CC q_x1 q_y1
  replace K0 := K0.trans hk6
  replace KF := KF.trans hk6
  replace hf := hf.kp hk6
  replace i6 := i6.kp hk6
  replace i10 := i10.kp hk6
  rw [Hlz.out, Hma.out]
  obtain ⟨A13, c13, rfl, i13⟩ := ho.openL HL10 hL10
  clear ho
  have q_x1 := KF.get x1
  have q_y1 := KF.get y1
  go_wp2_with fail
  have CC := Lib.hid (rInts_same A10 A13 (lzL F worth k) L10 c10 c13 w6 i10 i13 HL10.out)
  with_reducible refine Calls.mono CC.out ?_
  rintro e w7 ⟨rfl, hk7⟩
  clear CC q_x1 q_y1
  replace K0 := K0.trans hk7
  replace KF := KF.trans hk7
  replace hf := hf.kp hk7
  replace i6 := i6.kp hk7
  replace i10 := i10.kp hk7
  replace i13 := i13.kp hk7
  clear i13
  have q_x1 := KF.get x1
  have q_y1 := KF.get y1
  go_wp2_with fail
  have CC := Lib.hid (implBg_any _ F worth k w7 hf)
  with_reducible refine Calls.mono CC.out ?_
  rintro e w8 ⟨gv, rfl, ho, hk8⟩
  clear CC q_x1 q_y1
  replace K0 := K0.trans hk8
  replace KF := KF.trans hk8
  replace hf := hf.kp hk8
  replace i6 := i6.kp hk8
  replace i10 := i10.kp hk8
  rw [Hbg.out]
  obtain ⟨A16, c16, rfl, i16⟩ := ho.openL HL16 hL16
  clear ho
  have q_x1 := KF.get x1
  have q_y1 := KF.get y1
  go_wp2_with fail
  have CC := Lib.hid (specBg_any _ F worth k w8 hf)
  with_reducible refine Calls.mono CC.out ?_
  rintro e w9 ⟨gv, rfl, ho, hk9⟩
  clear CC q_x1 q_y1
  replace K0 := K0.trans hk9
  replace KF := KF.trans hk9
  replace hf := hf.kp hk9
  replace i6 := i6.kp hk9
  replace i10 := i10.kp hk9
  replace i16 := i16.kp hk9
  rw [Hbg.out]
  obtain ⟨A18, c18, rfl, i18⟩ := ho.openL HL16 hL16
  clear ho
  have q_x1 := KF.get x1
  have q_y1 := KF.get y1
  go_wp2_with fail
  have CC := Lib.hid (rInts_same A16 A18 (bgL F worth k) L16 c16 c18 w9 i16 i18 HL16.out)
  with_reducible refine Calls.mono CC.out ?_
  rintro e w10 ⟨rfl, hk10⟩
  clear CC q_x1 q_y1
  replace K0 := K0.trans hk10
  replace KF := KF.trans hk10
  replace hf := hf.kp hk10
  replace i6 := i6.kp hk10
  replace i10 := i10.kp hk10
  replace i16 := i16.kp hk10
  replace i18 := i18.kp hk10
  clear i18
  have q_x1 := KF.get x1
  have q_y1 := KF.get y1
  go_wp2_with fail
  have CC := Lib.hid (implLu_any _ F worth k w10 hf)
  with_reducible refine Calls.mono CC.out ?_
  rintro e w11 ⟨rfl, hk11⟩
  clear CC q_x1 q_y1
  replace K0 := K0.trans hk11
  replace KF := KF.trans hk11
  replace hf := hf.kp hk11
  replace i6 := i6.kp hk11
  replace i10 := i10.kp hk11
  replace i16 := i16.kp hk11
  rw [Hup.out, Hok.out]
  have q_x1 := KF.get x1
  have q_y1 := KF.get y1
  go_wp2_with fail
  have CC := Lib.hid (specLu_any _ F worth k w11 hf)
  with_reducible refine Calls.mono CC.out ?_
  rintro e w12 ⟨rfl, hk12⟩
  clear CC q_x1 q_y1
  replace K0 := K0.trans hk12
  replace KF := KF.trans hk12
  replace hf := hf.kp hk12
  replace i6 := i6.kp hk12
  replace i10 := i10.kp hk12
  replace i16 := i16.kp hk12
  rw [Hup.out, Hok.out]
  have q_x1 := KF.get x1
  have q_y1 := KF.get y1
  go_wp2_with fail
  have CC := Lib.hid (drawUpperGain_any A n c w12 (H0.out.kp K0))
  with_reducible refine Calls.mono CC.out ?_
  rintro e w13 ⟨v, w2, l2, m2, rfl, hv, h2, hk13⟩
  clear CC q_x1 q_y1
  replace K0 := K0.trans hk13
  replace KF := KF.trans hk13
  replace hf := hf.kp hk13
  replace i6 := i6.kp hk13
  replace i10 := i10.kp hk13
  replace i16 := i16.kp hk13
  obtain ⟨G, A24, c24, B24, d24, rfl, hg⟩ := hv.open
  obtain ⟨A26, c26, S, L26, rfl, i26, H26, b26, hc26⟩ := h2.listC
  have kv : Kp w13 (World.alloc w13 (.cells #[.slice A24 G.op.length c24, .slice B24 G.di.length d24] 27)) := (Kp.refl _).alloc _
  obtain ⟨x24, y24⟩ := box2 w13 (.slice A24 G.op.length c24) (.slice B24 G.di.length d24) 27
  replace K0 := K0.trans kv
  replace KF := KF.trans kv
  replace hf := hf.kp kv
  replace i6 := i6.kp kv
  replace i10 := i10.kp kv
  replace i16 := i16.kp kv
  replace hg := hg.kp kv
  replace i26 := i26.kp kv
  clear hv h2 H0
  go_wp2_with fail
  generalize w13.alloc (.cells #[.slice A24 G.op.length c24, .slice B24 G.di.length d24] 27) = wg at *
  generalize w13.heap.size = b24 at *
  clear kv
  have KG : Kp wg wg := Kp.refl _
  obtain ⟨ug, Hug⟩ : ∃ b, Hid (ugOk G w2 S m2 = b) := ⟨_, Lib.hid rfl⟩
  obtain ⟨ab, Hab⟩ : ∃ b, Hid (ugR G w2 S m2 = b) := ⟨_, Lib.hid rfl⟩
  obtain ⟨L32, HL32⟩ : ∃ b, Hid ((bgL G w2 m2).length = b) := ⟨_, Lib.hid rfl⟩
  have hL32 : L32 ≤ 1048576 := by rw [← HL32.out]; exact bgL_len G w2 m2
  have n4 : (ug != ug) = false := by simp
  have n5 : (ab != ab) = false := by simp
  have CC := Lib.hid (implUg_any _ G w2 A26 S L26 c26 m2 wg hg i26 H26.out)
  with_reducible refine Calls.mono CC.out ?_
  rintro e w14 ⟨rfl, hk14⟩
  clear CC
  replace K0 := K0.trans hk14
  replace KF := KF.trans hk14
  replace KG := KG.trans hk14
  replace hf := hf.kp hk14
  replace i6 := i6.kp hk14
  replace i10 := i10.kp hk14
  replace i16 := i16.kp hk14
  replace hg := hg.kp hk14
  replace i26 := i26.kp hk14
  rw [Hab.out, Hug.out]
  have q_x1 := KF.get x1
  have q_y1 := KF.get y1
  have q_x24 := KG.get x24
  have q_y24 := KG.get y24
  go_wp2_with fail
  have CC := Lib.hid (specUgC_any _ G w2 A26 S L26 c26 m2 w14 hg i26 H26.out hc26)
  with_reducible refine Calls.mono CC.out ?_
  rintro e w15 ⟨rfl, hk15⟩
  clear CC q_x1 q_y1 q_x24 q_y24
  replace K0 := K0.trans hk15
  replace KF := KF.trans hk15
  replace KG := KG.trans hk15
  replace hf := hf.kp hk15
  replace i6 := i6.kp hk15
  replace i10 := i10.kp hk15
  replace i16 := i16.kp hk15
  replace hg := hg.kp hk15
  replace i26 := i26.kp hk15
  rw [Hab.out, Hug.out]
  cases ug
  · go_upto_region 30 with fail
    clear n1 n2 n3 n4 n5
    obtain ⟨wt, rfl⟩ : ∃ q : World, q = w15 := ⟨_, rfl⟩
    cases ok
    · go_wp2_with fail
      go_ret
      exact ⟨rfl, K0⟩
    · have HGA := Lib.hid (gg_parts Hok.out)
      obtain ⟨sl, Hsl⟩ : ∃ b, Hid (srtTo (grdL F worth k) 1002 = b) := ⟨_, Lib.hid rfl⟩
      obtain ⟨lo, Hlo⟩ : ∃ b, Hid (gainR F worth (srtTo (grdL F worth k) 1002) = b) := ⟨_, Lib.hid rfl⟩
      obtain ⟨hi, Hhi⟩ : ∃ b, Hid (gainR F worth (bgL F worth k) = b) := ⟨_, Lib.hid rfl⟩
      obtain ⟨o1, Ho1⟩ : ∃ b, Hid (gainOk F worth (srtTo (grdL F worth k) 1002) = b) := ⟨_, Lib.hid rfl⟩
      obtain ⟨o2, Ho2⟩ : ∃ b, Hid (gainOk F worth (bgL F worth k) = b) := ⟨_, Lib.hid rfl⟩
      obtain ⟨KN, hKN⟩ : ∃ KN : Nat, k.toNat = KN := ⟨_, rfl⟩
      have HKN := Lib.hid hKN
      clear hKN
      rw [Hlo.out, Hhi.out, Ho1.out, Ho2.out, Hup.out, Hma.out, HKN.out] at HGA
      obtain rfl := HGA.out.ok1
      obtain rfl := HGA.out.ok2
      obtain ⟨hk1, hk2, hn1, hn2⟩ := HGA.out.kk
      have hle := HGA.out.le
      have hup := HGA.out.up
      have hbd := HGA.out.bd
      have hm1 := HGA.out.many1
      have hm2 := HGA.out.many2
      have Hsame := Lib.hid HGA.out.same
      have Hsh := Lib.hid (decide_eq_true HGA.out.share)
      subst hk1
      obtain ⟨s1, s2⟩ := gg_nums (n := F.op.length) (K := KN) hn2 hk2
      have p1 : decide (lo ≤ hi) = true := decide_eq_true hle
      have p2 : decide (hi ≤ up) = true := decide_eq_true hup
      have p3 : decide ((F.op.length : Int) ≤ ma) = true := decide_eq_true hm1
      have p4 : decide (ma ≤ (F.op.length : Int) + (F.op.length : Int) * (KN : Int)) = true := decide_eq_true hm2
      have kd := (Kp.refl wt).drew
      have s0 := (KF.trans kd).get x1
      have s3 := (KF.trans kd).get y1
      have CS := Lib.hid (rSorted_any A6 (grdL F worth KN) L6 c6 wt.drew (i6.kp kd) HL6.out)
      go_wp2_with fail
      refine wp_region_held_drew (S := fun w' => w'.cell? ⟨b1, 0, none⟩ = some (.slice A1 F.op.length c1) ∧ w'.cell? ⟨b1, 1, none⟩ = some (.slice B1 F.di.length d1)) (by kernel_rfl) ⟨s0, s3⟩ (fun hHeld => ?_)
      refine wpAnyH_take (i := 0) (v := ?_) rfl (by kernel_rfl) (by kernel_rfl) (by kernel_rfl) (fun _ _ _ h => h) (Or.inl ⟨by rfl, ?_⟩) (by assumption) ?_
      rotate_left
      · intro w hSw; (try dsimp only at hSw); go_simp <;> with_reducible rfl
      (try simp only [Act.put, List.setIfInBounds_toArray, List.set_cons_zero, List.set_cons_succ])
      refine wpAnyH_take (i := 1) (v := ?_) rfl (by kernel_rfl) (by kernel_rfl) (by kernel_rfl) (fun _ _ _ h => h) (Or.inl ⟨by rfl, ?_⟩) (by assumption) ?_
      rotate_left
      · intro w hSw; (try dsimp only at hSw); go_simp <;> with_reducible rfl
      (try simp only [Act.put, List.setIfInBounds_toArray, List.set_cons_zero, List.set_cons_succ])
      refine wpAnyH_take (i := 2) (v := ?_) rfl (by kernel_rfl) (by kernel_rfl) (by kernel_rfl) (fun _ _ _ h => h) (Or.inl ⟨by rfl, ?_⟩) (by assumption) ?_
      rotate_left
      · intro w hSw; (try dsimp only at hSw); go_simp <;> with_reducible rfl
      (try simp only [Act.put, List.setIfInBounds_toArray, List.set_cons_zero, List.set_cons_succ])
      refine wpAnyH_ready (rs := [3]) (by kernel_rfl) (by simp) ?_
      refine AllReadyH.cons rfl (fun K hK => ?_) AllReadyH.nil
      go_simp
      with_reducible refine Calls.mono CS.out ?_
      rintro e wu ⟨sv, rfl, hso, hku⟩
      clear CS
      (try go_wp2_with fail)
      obtain ⟨LS, HLS⟩ : ∃ l, Hid ((srtTo (grdL F worth KN) 1002).length = l) := ⟨_, Lib.hid rfl⟩
      have hLS : LS ≤ 1048576 := by have := srtTo_len (grdL F worth KN) 1002; have := HLS.out; omega
      obtain ⟨As, cs, hse, his⟩ := hso.openL HLS hLS
      subst hse
      clear hso
      have s0b := hku.get s0
      have s3b := hku.get s3
      have ku := kd.trans hku
      refine hK.out _ _ ?_ (fun hHeld => ?_)
      · (try dsimp only); exact ⟨s0b, s3b⟩
      clear hK K
      (try simp only [Act.put, List.setIfInBounds_toArray, List.set_cons_zero, List.set_cons_succ])
      have CG := Lib.hid (implGainOf_any _ F worth As (srtTo (grdL F worth KN) 1002) LS cs wu (hf.kp ku) his HLS.out)
      rw [Hlo.out, Ho1.out] at CG
      refine wpAnyH_ready (rs := [4]) (by kernel_rfl) (by simp) ?_
      refine AllReadyH.cons rfl (fun K hK => ?_) AllReadyH.nil
      go_simp
      with_reducible refine Calls.mono CG.out ?_
      rintro e wv ⟨rfl, hkv⟩
      clear CG
      (try go_wp2_with fail)
      have s0c := hkv.get s0b
      have s3c := hkv.get s3b
      have kv := ku.trans hkv
      refine hK.out _ _ ?_ (fun hHeld => ?_)
      · (try dsimp only); exact ⟨s0c, s3c⟩
      clear hK K
      (try simp only [Act.put, List.setIfInBounds_toArray, List.set_cons_zero, List.set_cons_succ])
      refine wpAnyH_take (i := 5) (v := ?_) rfl (by kernel_rfl) (by kernel_rfl) (by kernel_rfl) (fun _ _ _ h => h) (Or.inl ⟨by rfl, ?_⟩) (by assumption) ?_
      rotate_left
      · intro w hSw; (try dsimp only at hSw); go_simp <;> with_reducible rfl
      (try simp only [Act.put, List.setIfInBounds_toArray, List.set_cons_zero, List.set_cons_succ])
      refine wpAnyH_take (i := 6) (v := ?_) rfl (by kernel_rfl) (by kernel_rfl) (by kernel_rfl) (fun _ _ _ h => h) (Or.inl ⟨by rfl, ?_⟩) (by assumption) ?_
      rotate_left
      · intro w hSw; (try dsimp only at hSw); go_simp <;> with_reducible rfl
      (try simp only [Act.put, List.setIfInBounds_toArray, List.set_cons_zero, List.set_cons_succ])
      refine wpAnyH_take (i := 7) (v := ?_) rfl (by kernel_rfl) (by kernel_rfl) (by kernel_rfl) (fun _ _ _ h => h) (Or.inl ⟨by rfl, ?_⟩) (by assumption) ?_
      rotate_left
      · intro w hSw; (try dsimp only at hSw); go_simp <;> with_reducible rfl
      (try simp only [Act.put, List.setIfInBounds_toArray, List.set_cons_zero, List.set_cons_succ])
      refine wpAnyH_take (i := 8) (v := ?_) rfl (by kernel_rfl) (by kernel_rfl) (by kernel_rfl) (fun _ _ _ h => h) (Or.inl ⟨by rfl, ?_⟩) (by assumption) ?_
      rotate_left
      · intro w hSw; (try dsimp only at hSw); go_simp <;> with_reducible rfl
      (try simp only [Act.put, List.setIfInBounds_toArray, List.set_cons_zero, List.set_cons_succ])
      refine wpAnyH_take (i := 9) (v := ?_) rfl (by kernel_rfl) (by kernel_rfl) (by kernel_rfl) (fun _ _ _ h => h) (Or.inl ⟨by rfl, ?_⟩) (by assumption) ?_
      rotate_left
      · intro w hSw; (try dsimp only at hSw); go_simp <;> with_reducible rfl
      (try simp only [Act.put, List.setIfInBounds_toArray, List.set_cons_zero, List.set_cons_succ])
      refine wpAnyH_done (by kernel_rfl) ?_ _
      have CH := Lib.hid (implGainOf_any _ F worth A16 (bgL F worth KN) L16 c16 wv (hf.kp kv) (i16.kp kv) HL16.out)
      rw [Hhi.out, Ho2.out] at CH
      clear s0 s3 s0b s3b
      go_wp2_with fail
      with_reducible refine Calls.mono CH.out ?_
      rintro e wx ⟨rfl, hkx⟩
      clear CH
      have s0d := hkx.get s0c
      have s3d := hkx.get s3c
      have kx := kv.trans hkx
      have i6b : IntsAt wx A10 (grdL F worth KN) := by rw [← Hsame.out]; exact i10.kp kx
      have CI := Lib.hid (rInts_same A10 A6 (grdL F worth KN) L6 c10 c6 wx i6b (i6.kp kx) HL6.out)
      have HL10b : L10 = L6 := by rw [← HL10.out, ← HL6.out, Hsame.out]
      subst HL10b
      clear s0c s3c
      go_wp2_with fail
      with_reducible refine Calls.mono CI.out ?_
      rintro e wy ⟨rfl, hky⟩
      clear CI
      have CR := Lib.hid (rShare_any lo hi KN wy hk2 ⟨hbd.1, Int.le_trans hle hbd.2⟩ ⟨Int.le_trans hbd.1 hle, hbd.2⟩)
      rw [Hsh.out] at CR
      go_wp2_with fail
      with_reducible refine Calls.mono CR.out ?_
      rintro e wz ⟨rfl, rfl⟩
      clear CR
      go_wp2_with fail
      go_ret
      exact ⟨by simp, K0.trans (kx.trans hky)⟩
  · have HU := Lib.hid (ug_parts Hug.out)
    obtain ⟨h3, Hh3⟩ : ∃ b, Hid (gainR G w2 (bgL G w2 m2) = b) := ⟨_, Lib.hid rfl⟩
    rw [Hh3.out, Hab.out] at HU
    have HU1 := Lib.hid HU.out.ok1
    have HU2 := Lib.hid HU.out.ok2
    have hul := HU.out.le
    have p9 : decide (ab < h3) = false := decide_eq_false (by omega)
    clear HU
    have q_x1 := KF.get x1
    have q_y1 := KF.get y1
    have q_x24 := KG.get x24
    have q_y24 := KG.get y24
    go_wp2_with fail
    have CC := Lib.hid (implBg_any _ G w2 m2 w15 hg)
    with_reducible refine Calls.mono CC.out ?_
    rintro e w16 ⟨gv, rfl, ho, hk16⟩
    clear CC q_x1 q_y1 q_x24 q_y24
    replace K0 := K0.trans hk16
    replace KF := KF.trans hk16
    replace KG := KG.trans hk16
    replace hf := hf.kp hk16
    replace i6 := i6.kp hk16
    replace i10 := i10.kp hk16
    replace i16 := i16.kp hk16
    replace hg := hg.kp hk16
    replace i26 := i26.kp hk16
    rw [HU1.out]
    obtain ⟨A32, c32, rfl, i32⟩ := ho.openL HL32 hL32
    clear ho
    have q_x1 := KF.get x1
    have q_y1 := KF.get y1
    have q_x24 := KG.get x24
    have q_y24 := KG.get y24
    go_wp2_with fail
    have CC := Lib.hid (implGainOf_any _ G w2 A32 (bgL G w2 m2) L32 c32 w16 hg i32 HL32.out)
    with_reducible refine Calls.mono CC.out ?_
    rintro e w17 ⟨rfl, hk17⟩
    clear CC q_x1 q_y1 q_x24 q_y24
    replace K0 := K0.trans hk17
    replace KF := KF.trans hk17
    replace KG := KG.trans hk17
    replace hf := hf.kp hk17
    replace i6 := i6.kp hk17
    replace i10 := i10.kp hk17
    replace i16 := i16.kp hk17
    replace hg := hg.kp hk17
    replace i26 := i26.kp hk17
    rw [Hh3.out, HU2.out]
    go_upto_region 30 with fail
    clear n1 n2 n3 n4 n5 hul p9
    obtain ⟨wt, rfl⟩ : ∃ q : World, q = w17 := ⟨_, rfl⟩
    cases ok
    · go_wp2_with fail
      go_ret
      exact ⟨rfl, K0⟩
    · have HGA := Lib.hid (gg_parts Hok.out)
      obtain ⟨sl, Hsl⟩ : ∃ b, Hid (srtTo (grdL F worth k) 1002 = b) := ⟨_, Lib.hid rfl⟩
      obtain ⟨lo, Hlo⟩ : ∃ b, Hid (gainR F worth (srtTo (grdL F worth k) 1002) = b) := ⟨_, Lib.hid rfl⟩
      obtain ⟨hi, Hhi⟩ : ∃ b, Hid (gainR F worth (bgL F worth k) = b) := ⟨_, Lib.hid rfl⟩
      obtain ⟨o1, Ho1⟩ : ∃ b, Hid (gainOk F worth (srtTo (grdL F worth k) 1002) = b) := ⟨_, Lib.hid rfl⟩
      obtain ⟨o2, Ho2⟩ : ∃ b, Hid (gainOk F worth (bgL F worth k) = b) := ⟨_, Lib.hid rfl⟩
      obtain ⟨KN, hKN⟩ : ∃ KN : Nat, k.toNat = KN := ⟨_, rfl⟩
      have HKN := Lib.hid hKN
      clear hKN
      rw [Hlo.out, Hhi.out, Ho1.out, Ho2.out, Hup.out, Hma.out, HKN.out] at HGA
      obtain rfl := HGA.out.ok1
      obtain rfl := HGA.out.ok2
      obtain ⟨hk1, hk2, hn1, hn2⟩ := HGA.out.kk
      have hle := HGA.out.le
      have hup := HGA.out.up
      have hbd := HGA.out.bd
      have hm1 := HGA.out.many1
      have hm2 := HGA.out.many2
      have Hsame := Lib.hid HGA.out.same
      have Hsh := Lib.hid (decide_eq_true HGA.out.share)
      subst hk1
      obtain ⟨s1, s2⟩ := gg_nums (n := F.op.length) (K := KN) hn2 hk2
      have p1 : decide (lo ≤ hi) = true := decide_eq_true hle
      have p2 : decide (hi ≤ up) = true := decide_eq_true hup
      have p3 : decide ((F.op.length : Int) ≤ ma) = true := decide_eq_true hm1
      have p4 : decide (ma ≤ (F.op.length : Int) + (F.op.length : Int) * (KN : Int)) = true := decide_eq_true hm2
      have kd := (Kp.refl wt).drew
      have s0 := (KF.trans kd).get x1
      have s3 := (KF.trans kd).get y1
      have CS := Lib.hid (rSorted_any A6 (grdL F worth KN) L6 c6 wt.drew (i6.kp kd) HL6.out)
      go_wp2_with fail
      refine wp_region_held_drew (S := fun w' => w'.cell? ⟨b1, 0, none⟩ = some (.slice A1 F.op.length c1) ∧ w'.cell? ⟨b1, 1, none⟩ = some (.slice B1 F.di.length d1)) (by kernel_rfl) ⟨s0, s3⟩ (fun hHeld => ?_)
      refine wpAnyH_take (i := 0) (v := ?_) rfl (by kernel_rfl) (by kernel_rfl) (by kernel_rfl) (fun _ _ _ h => h) (Or.inl ⟨by rfl, ?_⟩) (by assumption) ?_
      rotate_left
      · intro w hSw; (try dsimp only at hSw); go_simp <;> with_reducible rfl
      (try simp only [Act.put, List.setIfInBounds_toArray, List.set_cons_zero, List.set_cons_succ])
      refine wpAnyH_take (i := 1) (v := ?_) rfl (by kernel_rfl) (by kernel_rfl) (by kernel_rfl) (fun _ _ _ h => h) (Or.inl ⟨by rfl, ?_⟩) (by assumption) ?_
      rotate_left
      · intro w hSw; (try dsimp only at hSw); go_simp <;> with_reducible rfl
      (try simp only [Act.put, List.setIfInBounds_toArray, List.set_cons_zero, List.set_cons_succ])
      refine wpAnyH_take (i := 2) (v := ?_) rfl (by kernel_rfl) (by kernel_rfl) (by kernel_rfl) (fun _ _ _ h => h) (Or.inl ⟨by rfl, ?_⟩) (by assumption) ?_
      rotate_left
      · intro w hSw; (try dsimp only at hSw); go_simp <;> with_reducible rfl
      (try simp only [Act.put, List.setIfInBounds_toArray, List.set_cons_zero, List.set_cons_succ])
      refine wpAnyH_ready (rs := [3]) (by kernel_rfl) (by simp) ?_
      refine AllReadyH.cons rfl (fun K hK => ?_) AllReadyH.nil
      go_simp
      with_reducible refine Calls.mono CS.out ?_
      rintro e wu ⟨sv, rfl, hso, hku⟩
      clear CS
      (try go_wp2_with fail)
      obtain ⟨LS, HLS⟩ : ∃ l, Hid ((srtTo (grdL F worth KN) 1002).length = l) := ⟨_, Lib.hid rfl⟩
      have hLS : LS ≤ 1048576 := by have := srtTo_len (grdL F worth KN) 1002; have := HLS.out; omega
      obtain ⟨As, cs, hse, his⟩ := hso.openL HLS hLS
      subst hse
      clear hso
      have s0b := hku.get s0
      have s3b := hku.get s3
      have ku := kd.trans hku
      refine hK.out _ _ ?_ (fun hHeld => ?_)
      · (try dsimp only); exact ⟨s0b, s3b⟩
      clear hK K
      (try simp only [Act.put, List.setIfInBounds_toArray, List.set_cons_zero, List.set_cons_succ])
      have CG := Lib.hid (implGainOf_any _ F worth As (srtTo (grdL F worth KN) 1002) LS cs wu (hf.kp ku) his HLS.out)
      rw [Hlo.out, Ho1.out] at CG
      refine wpAnyH_ready (rs := [4]) (by kernel_rfl) (by simp) ?_
      refine AllReadyH.cons rfl (fun K hK => ?_) AllReadyH.nil
      go_simp
      with_reducible refine Calls.mono CG.out ?_
      rintro e wv ⟨rfl, hkv⟩
      clear CG
      (try go_wp2_with fail)
      have s0c := hkv.get s0b
      have s3c := hkv.get s3b
      have kv := ku.trans hkv
      refine hK.out _ _ ?_ (fun hHeld => ?_)
      · (try dsimp only); exact ⟨s0c, s3c⟩
      clear hK K
      (try simp only [Act.put, List.setIfInBounds_toArray, List.set_cons_zero, List.set_cons_succ])
      refine wpAnyH_take (i := 5) (v := ?_) rfl (by kernel_rfl) (by kernel_rfl) (by kernel_rfl) (fun _ _ _ h => h) (Or.inl ⟨by rfl, ?_⟩) (by assumption) ?_
      rotate_left
      · intro w hSw; (try dsimp only at hSw); go_simp <;> with_reducible rfl
      (try simp only [Act.put, List.setIfInBounds_toArray, List.set_cons_zero, List.set_cons_succ])
      refine wpAnyH_take (i := 6) (v := ?_) rfl (by kernel_rfl) (by kernel_rfl) (by kernel_rfl) (fun _ _ _ h => h) (Or.inl ⟨by rfl, ?_⟩) (by assumption) ?_
      rotate_left
      · intro w hSw; (try dsimp only at hSw); go_simp <;> with_reducible rfl
      (try simp only [Act.put, List.setIfInBounds_toArray, List.set_cons_zero, List.set_cons_succ])
      refine wpAnyH_take (i := 7) (v := ?_) rfl (by kernel_rfl) (by kernel_rfl) (by kernel_rfl) (fun _ _ _ h => h) (Or.inl ⟨by rfl, ?_⟩) (by assumption) ?_
      rotate_left
      · intro w hSw; (try dsimp only at hSw); go_simp <;> with_reducible rfl
      (try simp only [Act.put, List.setIfInBounds_toArray, List.set_cons_zero, List.set_cons_succ])
      refine wpAnyH_take (i := 8) (v := ?_) rfl (by kernel_rfl) (by kernel_rfl) (by kernel_rfl) (fun _ _ _ h => h) (Or.inl ⟨by rfl, ?_⟩) (by assumption) ?_
      rotate_left
      · intro w hSw; (try dsimp only at hSw); go_simp <;> with_reducible rfl
      (try simp only [Act.put, List.setIfInBounds_toArray, List.set_cons_zero, List.set_cons_succ])
      refine wpAnyH_take (i := 9) (v := ?_) rfl (by kernel_rfl) (by kernel_rfl) (by kernel_rfl) (fun _ _ _ h => h) (Or.inl ⟨by rfl, ?_⟩) (by assumption) ?_
      rotate_left
      · intro w hSw; (try dsimp only at hSw); go_simp <;> with_reducible rfl
      (try simp only [Act.put, List.setIfInBounds_toArray, List.set_cons_zero, List.set_cons_succ])
      refine wpAnyH_done (by kernel_rfl) ?_ _
      have CH := Lib.hid (implGainOf_any _ F worth A16 (bgL F worth KN) L16 c16 wv (hf.kp kv) (i16.kp kv) HL16.out)
      rw [Hhi.out, Ho2.out] at CH
      clear s0 s3 s0b s3b
      go_wp2_with fail
      with_reducible refine Calls.mono CH.out ?_
      rintro e wx ⟨rfl, hkx⟩
      clear CH
      have s0d := hkx.get s0c
      have s3d := hkx.get s3c
      have kx := kv.trans hkx
      have i6b : IntsAt wx A10 (grdL F worth KN) := by rw [← Hsame.out]; exact i10.kp kx
      have CI := Lib.hid (rInts_same A10 A6 (grdL F worth KN) L6 c10 c6 wx i6b (i6.kp kx) HL6.out)
      have HL10b : L10 = L6 := by rw [← HL10.out, ← HL6.out, Hsame.out]
      subst HL10b
      clear s0c s3c
      go_wp2_with fail
      with_reducible refine Calls.mono CI.out ?_
      rintro e wy ⟨rfl, hky⟩
      clear CI
      have CR := Lib.hid (rShare_any lo hi KN wy hk2 ⟨hbd.1, Int.le_trans hle hbd.2⟩ ⟨Int.le_trans hbd.1 hle, hbd.2⟩)
      rw [Hsh.out] at CR
      go_wp2_with fail
      with_reducible refine Calls.mono CR.out ?_
      rintro e wz ⟨rfl, rfl⟩
      clear CR
      go_wp2_with fail
      go_ret
      exact ⟨by simp, K0.trans (kx.trans hky)⟩
end Go.Proofs.YtgfbjgdofhcmaaaGreat
