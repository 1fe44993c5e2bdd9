/- The drawing of arguments: a field is made metric. No condition. -/
import Derived.Test.YtpiijhfjliolfaaGreatQBe
namespace Go.Proofs.YtpiijhfjliolfaaGreat
open Go.RowKit Go.Sort

set_option maxRecDepth 100000 in
set_option maxHeartbeats 2000000 in
theorem l2Close_any (a d : Value) (base : Nat) (xs : List Int) (J : Nat) (B0 Cp0 : Nat → Nat) (f00 : Nat → Nat → Int) (w : World) (hr : RF w base a d xs J B0 Cp0 f00) (hb : RB xs J f00) :
    Calls Tryz.prog 105 #[.agg #[a, d]] w fun e w' => ∃ a' d', e = .returned (.agg #[a', d']) ∧ DF w' w.heap.size a' d' ∧ Kp w w' := by
  obtain ⟨go, co, rfl, _, _⟩ := hr.op.someP hb.pos
  obtain ⟨Ad, cd, hvd⟩ := hr.di.shape
  subst hvd
  obtain ⟨M, hM⟩ : ∃ M, xs.length = M := ⟨_, rfl⟩
  have hM8 : M ≤ 8 := by have := hb.xl; omega
  have hM0 : 0 < M := by have := hb.pos; omega
  have hJ8 := hb.jl
  have HX := Lib.hid hb.xb
  have HF : Hid (∀ j b, j < J → b < M → 0 ≤ f00 j b ∧ f00 j b < 20) := by show ∀ j b, _ → _; intro j b h1 h2; exact hb.fb j b h1 (by omega)
  rw [hM]
  obtain ⟨d0, d1⟩ := box2 w (.slice (some ⟨go, 0, none⟩) M co) (.slice Ad J cd) 27
  have k1 : Kp w (w.alloc (.cells #[.slice (some ⟨go, 0, none⟩) M co, .slice Ad J cd] 27)) := (Kp.refl w).alloc _
  have k2 : Kp _ ((w.alloc (.cells #[.slice (some ⟨go, 0, none⟩) M co, .slice Ad J cd] 27)).alloc (.cells #[.slice none 0 0, .slice none 0 0] 27)) := (Kp.refl _).alloc _
  have k0 := k1.trans k2
  have e0 := k2.get d0
  have e1 := k2.get d1
  have t0 := there_newD (w.alloc (.cells #[.slice (some ⟨go, 0, none⟩) M co, .slice Ad J cd] 27)) [.slice none 0 0, .slice none 0 0] 27
  have hsz : Hid (((w.alloc (.cells #[.slice (some ⟨go, 0, none⟩) M co, .slice Ad J cd] 27)).alloc (.cells #[.slice none 0 0, .slice none 0 0] 27)).heap.size = w.heap.size + 2) := by show _ = _; simp
  simp only [List.length_cons, List.length_nil, Nat.zero_add, Nat.reduceAdd, World.size_alloc] at t0
  rw [hM] at hr
  have HRB := Lib.hid hb
  clear d0 d1 k1 k2 hb
  have CC := Lib.hid (l2Own_any _ _ base xs J B0 Cp0 f00 _ (hr.kp k0) HRB.out)
  clear hr
  go_enter Tryz.func105, Tryz.ntmps105
  go_wp2_with fail
  generalize (w.alloc (.cells #[.slice (some ⟨go, 0, none⟩) M co, .slice Ad J cd] 27)).alloc (.cells #[.slice none 0 0, .slice none 0 0] 27) = wb at *
  with_reducible refine Calls.mono CC.out ?_
  rintro e w1 ⟨ov, dv, B, Cp, rfl, hrf, hk1⟩
  clear CC
  rw [hsz.out] at hrf
  obtain ⟨gv, cv, hov, _, _⟩ := hrf.op.someP (by omega)
  obtain ⟨Av, cv2, hdv⟩ := hrf.di.shape
  rw [hM] at hov
  subst hov
  subst hdv
  have hst : CS w (w1.alloc (.cells #[.slice (some ⟨gv, 0, none⟩) M cv, .slice Av J cv2] 27)) w1.heap.size (.slice (some ⟨gv, 0, none⟩) M cv) (.slice Av J cv2) xs J B Cp f00 := by
    have hk : Kp w1 (w1.alloc (.cells #[.slice (some ⟨gv, 0, none⟩) M cv, .slice Av J cv2] 27)) := (Kp.refl w1).alloc _
    obtain ⟨x0, x1⟩ := box2 w1 (.slice (some ⟨gv, 0, none⟩) M cv) (.slice Av J cv2) 27
    exact ⟨x0, x1, turn_thereD (Turn.of_kp (S := fun _ => False) (hk1.trans hk)) t0 (fun h => h), hrf.kp hk, fun j hj => Nat.ne_of_lt (hrf.di.lt hj).2, (k0.trans hk1).trans hk⟩
  clear hrf hk1 t0 e0 e1 hsz k0
  go_wp2_with fail
  generalize w1.alloc (.cells #[.slice (some ⟨gv, 0, none⟩) M cv, .slice Av J cv2] 27) = wc at *
  generalize w1.heap.size = bf at *
  go_loopw [4] (fun _ wr => ∃ f0 : Nat → Nat → Int, Hid (∀ j b, j < J → b < M → 0 ≤ f0 j b ∧ f0 j b < 20) ∧ CS w wr bf (.slice (some ⟨gv, 0, none⟩) M cv) (.slice Av J cv2) xs J B Cp f0) (fun _ wr => (totW wr B J M).toNat)
  case atStart => exact ⟨f00, HF, hst⟩
  case round =>
    clear hst HF
    obtain ⟨f0, HF, hcs⟩ := hrel
    have q0 := hcs.c0
    have q1 := hcs.c1
    have htot := Lib.hid (hcs.tot hM)
    obtain ⟨ms, Hms⟩ : ∃ ms, Hid (totW wr B J M = ms) := ⟨_, Lib.hid rfl⟩
    have CC := Lib.hid (l2Metric_any _ _ _ xs J B Cp f0 wr hcs.rf ⟨by omega, by omega, by omega, HX.out, fun j b h1 h2 => HF.out j b h1 (by omega)⟩)
    go_wp2_with fail
    with_reducible refine Calls.mono CC.out ?_
    rintro e w2 ⟨r, rfl, hbent, hk2⟩
    clear CC
    have hcs2 := hcs.go hk2
    cases r with
    | true =>
      have q0 := hcs2.c0
      have q1 := hcs2.c1
      have HS := Lib.hid hcs2
      have hrb : RB xs J f0 := ⟨by omega, by omega, by omega, HX.out, fun j b h1 h2 => HF.out j b h1 (by omega)⟩
      clear hcs2 hcs hbent
      go_wp2_with (first | (refine wpList_store_mid rfl 27 (.tmp 2) (.tmp 83) rfl (w.heap.size + 1) 0 #[.slice (some ⟨gv, 0, none⟩) M cv, .slice Av J cv2] rfl rfl HS.out.rt (by kernel_rfl) (by simp [Value.oneCell']) ?_) | fail)
      have ts := turn_setCellsD (w.heap.size + 1) [.slice (some ⟨gv, 0, none⟩) M cv, .slice Av J cv2] 0 w2
      have hrg := World.rangeAt_setCells_same w2 (w.heap.size + 1) 0 [.slice (some ⟨gv, 0, none⟩) M cv, .slice Av J cv2] HS.out.rt
      have z0 := hrg 0 _ rfl
      have z1 := hrg 1 _ rfl
      exact bodyPost_ret (v := .agg #[.slice (some ⟨gv, 0, none⟩) M cv, .slice Av J cv2]) (by simp [results, Tryz.results105, go_sem, z0, z1]) rfl ⟨_, _, rfl, ⟨xs, J, B, Cp, f0, (HS.out.rf.low ts (fun i hi => by omega)).mono (by omega), hrb⟩, HS.out.kp.turn ts (fun i hi => by omega)⟩
    | false =>
      obtain ⟨i0, j0, a0, b0, hi0, hj0, ha0, hb0, hbe⟩ := hbent rfl
      rw [hM] at ha0 hb0
      have HB := Lib.hid hbe
      have HM := Lib.hid hM
      clear hbent hbe hcs q0 q1 hM
      go_wp2_with fail
      go_loopw [4] (fun iv wr => ∃ (i : Nat) (f1 : Nat → Nat → Int), iv = .int .i64 i ∧ i ≤ J ∧ Hid (∀ j b, j < J → b < M → 0 ≤ f1 j b ∧ f1 j b < 20) ∧ Hid (∀ j b, j < J → b < M → f1 j b ≤ f0 j b) ∧ Hid (Far J M f0 f1 (i ≤ i0)) ∧ CS w wr bf (.slice (some ⟨gv, 0, none⟩) M cv) (.slice Av J cv2) xs J B Cp f1) (fun iv _ => J - (intOf iv).toNat)
      case atStart => exact ⟨0, f0, rfl, by omega, HF, Lib.hid (fun _ _ _ _ => Int.le_refl _), Lib.hid (.inr ⟨fun _ _ _ _ => rfl, by omega⟩), hcs2⟩
      case round =>
        clear hcs2
        obtain ⟨i, f1, rfl, hi, HF1, HLe, HFar, hcs⟩ := hrel
        have x0 := hcs.c0
        have x1 := hcs.c1
        by_cases hli : i < J
        · go_wp2_with fail
          go_loopw [5] (fun jv wr => ∃ (j : Nat) (f1 : Nat → Nat → Int), jv = .int .i64 j ∧ j ≤ J ∧ Hid (∀ j b, j < J → b < M → 0 ≤ f1 j b ∧ f1 j b < 20) ∧ Hid (∀ j b, j < J → b < M → f1 j b ≤ f0 j b) ∧ Hid (Far J M f0 f1 (i < i0 ∨ (i = i0 ∧ j ≤ j0))) ∧ CS w wr bf (.slice (some ⟨gv, 0, none⟩) M cv) (.slice Av J cv2) xs J B Cp f1) (fun jv _ => J - (intOf jv).toNat)
          case atStart => exact ⟨0, f1, rfl, by omega, HF1, HLe, Lib.hid (HFar.out.imp (by omega)), hcs⟩
          case round =>
            clear hcs HF1 HLe HFar f1 x0 x1
            obtain ⟨j, f1, rfl, hj, HF1, HLe, HFar, hcs⟩ := hrel
            have x0 := hcs.c0
            have x1 := hcs.c1
            by_cases hlj : j < J
            · go_wp2_with fail
              go_loopw [6] (fun av wr => ∃ (a : Nat) (f1 : Nat → Nat → Int), av = .int .i64 a ∧ a ≤ M ∧ Hid (∀ j b, j < J → b < M → 0 ≤ f1 j b ∧ f1 j b < 20) ∧ Hid (∀ j b, j < J → b < M → f1 j b ≤ f0 j b) ∧ Hid (Far J M f0 f1 (i < i0 ∨ (i = i0 ∧ (j < j0 ∨ (j = j0 ∧ a ≤ a0))))) ∧ CS w wr bf (.slice (some ⟨gv, 0, none⟩) M cv) (.slice Av J cv2) xs J B Cp f1) (fun av _ => M - (intOf av).toNat)
              case atStart => exact ⟨0, f1, rfl, by omega, HF1, HLe, Lib.hid (HFar.out.imp (by omega)), hcs⟩
              case round =>
                clear hcs HF1 HLe HFar f1 x0 x1
                obtain ⟨a, f1, rfl, ha, HF1, HLe, HFar, hcs⟩ := hrel
                have x0 := hcs.c0
                have x1 := hcs.c1
                by_cases hla : a < M
                · go_wp2_with fail
                  go_loopw [7] (fun bv wr => ∃ (b : Nat) (f1 : Nat → Nat → Int), bv = .int .i64 b ∧ b ≤ M ∧ Hid (∀ j b, j < J → b < M → 0 ≤ f1 j b ∧ f1 j b < 20) ∧ Hid (∀ j b, j < J → b < M → f1 j b ≤ f0 j b) ∧ Hid (Far J M f0 f1 (i < i0 ∨ (i = i0 ∧ (j < j0 ∨ (j = j0 ∧ (a < a0 ∨ (a = a0 ∧ b ≤ b0))))))) ∧ CS w wr bf (.slice (some ⟨gv, 0, none⟩) M cv) (.slice Av J cv2) xs J B Cp f1) (fun bv _ => M - (intOf bv).toNat)
                  case atStart => exact ⟨0, f1, rfl, by omega, HF1, HLe, Lib.hid (HFar.out.imp (by omega)), hcs⟩
                  case round =>
                    clear hcs HF1 HLe HFar f1 x0 x1
                    obtain ⟨b, f1, rfl, hb, HF1, HLe, HFar, hcs⟩ := hrel
                    have x0 := hcs.c0
                    have x1 := hcs.c1
                    by_cases hlb : b < M
                    · obtain ⟨g, cap, hdv, ⟨c1, c2, c3, c4, c5, c6⟩, y3, hset⟩ := hcs.cell HM.out hli hlj hla hlb
                      simp only [Value.slice.injEq] at hdv
                      obtain ⟨rfl, -, rfl⟩ := hdv
                      have b3 := HF1.out i a hli hla
                      have b4 := HF1.out i b hli hlb
                      have b5 := HF1.out j b hlj hlb
                      have b6 := HF1.out j a hlj hla
                      have hfs := far_step (Q := i < i0 ∨ (i = i0 ∧ (j < j0 ∨ (j = j0 ∧ (a < a0 ∨ (a = a0 ∧ b + 1 ≤ b0)))))) HLe.out HFar.out hli hlj hla hlb HB.out (by omega)
                      have hst := hset (min (f1 i a) (f1 i b + f1 j b + f1 j a))
                      have hnn : ∀ j' b', j' < J → b' < M → 0 ≤ upd2 f1 i a (min (f1 i a) (f1 i b + f1 j b + f1 j a)) j' b' ∧ upd2 f1 i a (min (f1 i a) (f1 i b + f1 j b + f1 j a)) j' b' < 20 := fun j' b' h1 h2 => by
                        by_cases e : j' = i ∧ b' = a
                        · obtain ⟨rfl, rfl⟩ := e; rw [upd2_at]; omega
                        · rw [upd2_ne (by omega)]; exact HF1.out j' b' h1 h2
                      obtain ⟨f2, Hf2⟩ : ∃ f2, Hid (upd2 f1 i a (min (f1 i a) (f1 i b + f1 j b + f1 j a)) = f2) := ⟨_, Lib.hid rfl⟩
                      rw [Hf2.out] at hfs hst hnn
                      obtain ⟨u3, h3⟩ : ∃ z, f1 i a = z := ⟨_, rfl⟩
                      obtain ⟨u4, h4⟩ : ∃ z, f1 i b = z := ⟨_, rfl⟩
                      obtain ⟨u5, h5⟩ : ∃ z, f1 j b = z := ⟨_, rfl⟩
                      obtain ⟨u6, h6⟩ : ∃ z, f1 j a = z := ⟨_, rfl⟩
                      rw [h3, h4, h5, h6] at hst
                      rw [h3] at c3 b3
                      rw [h4] at c4 b4
                      rw [h5] at c5 b5
                      rw [h6] at c6 b6
                      have HFS := Lib.hid hfs
                      have HST := Lib.hid hst
                      have HNN := Lib.hid hnn
                      clear h3 h4 h5 h6 hfs hst hnn hset hcs
                      have hw1 : IntKind.i64.wrap (u4 + u5) = u4 + u5 := IntWalk.i64_in _ (by omega)
                      have hw2 : IntKind.i64.wrap (u4 + u5 + u6) = u4 + u5 + u6 := IntWalk.i64_in _ (by omega)
                      have hw3 : wrap64 (u4 + u5) = u4 + u5 := IntWalk.wrap64_in _ (by omega)
                      have hw4 : wrap64 (u4 + u5 + u6) = u4 + u5 + u6 := IntWalk.wrap64_in _ (by omega)
                      have a1 : (⟨g, 0, none⟩ : Addr).add i = ⟨g, i, none⟩ := add0 _ _
                      have a2 : (⟨g, 0, none⟩ : Addr).add j = ⟨g, j, none⟩ := add0 _ _
                      have a3 : (⟨B i, 0, none⟩ : Addr).add a = ⟨B i, a, none⟩ := add0 _ _
                      have a4 : (⟨B i, 0, none⟩ : Addr).add b = ⟨B i, b, none⟩ := add0 _ _
                      have a5 : (⟨B j, 0, none⟩ : Addr).add b = ⟨B j, b, none⟩ := add0 _ _
                      have a6 : (⟨B j, 0, none⟩ : Addr).add a = ⟨B j, a, none⟩ := add0 _ _
                      have i1 : (i : Int) < (J : Int) := by omega
                      have i2 : (j : Int) < (J : Int) := by omega
                      have i3 : (a : Int) < (M : Int) := by omega
                      have i4 : (b : Int) < (M : Int) := by omega
                      have n1 : ((i : Int)).toNat = i := Int.toNat_natCast i
                      have n2 : ((j : Int)).toNat = j := Int.toNat_natCast j
                      have n3 : ((a : Int)).toNat = a := Int.toNat_natCast a
                      have n4 : ((b : Int)).toNat = b := Int.toNat_natCast b
                      have C1 := Lib.hid ((l1Least_any u3 (u4 + u5 + u6) wr.drew).mono (fun e w' h => (⟨h.1, h.2.symm⟩ : e = .returned (.int .i64 (min u3 (u4 + u5 + u6))) ∧ w' = wr.drew)))
                      go_wp2_with fail
                      refine wp_region_still_tail 42 (by kernel_rfl) (by kernel_rfl) ?_
                      simp only [List.take_succ_cons, List.take_zero, List.drop_succ_cons, List.drop_zero]
                      repeat still_step
                      still_call C1.out
                      repeat still_step
                      try refine wpStill_nil ?_
                      change wpList _ _ _ _ _ _
                      go_wp2_with fail
                      go_roundw
                      case rel => exact ⟨b + 1, f2, by go_num, by omega, HNN, Lib.hid HFS.out.1, Lib.hid HFS.out.2, HST.out.go (Kp.refl _).drew⟩
                      case measure => simp [intOf]; omega
                    · obtain rfl : b = M := by omega
                      go_wp2_with fail
                      go_roundw
                      case rel => exact ⟨a + 1, f1, by go_num, by omega, HF1, HLe, Lib.hid (HFar.out.imp (by omega)), hcs⟩
                      case measure => simp [intOf]; omega
                · obtain rfl : a = M := by omega
                  go_wp2_with fail
                  go_roundw
                  case rel => exact ⟨j + 1, f1, by go_num, by omega, HF1, HLe, Lib.hid (HFar.out.imp (by omega)), hcs⟩
                  case measure => simp [intOf]; omega
            · obtain rfl : j = J := by omega
              go_wp2_with fail
              go_roundw
              case rel => exact ⟨i + 1, f1, by go_num, by omega, HF1, HLe, Lib.hid (HFar.out.imp (by omega)), hcs⟩
              case measure => simp [intOf]; omega
        · obtain rfl : i = J := by omega
          have hdone := HFar.out.done (by omega) HLe.out
          have ht2 := hcs.tot HM.out
          have hge := tblF_ge (fun j b h1 h2 => (HF1.out j b h1 h2).1)
          have ht1 := htot.out
          go_wp2_with fail
          go_roundw
          case rel => exact ⟨f1, HF1, hcs⟩
          case measure => omega
end Go.Proofs.YtpiijhfjliolfaaGreat
