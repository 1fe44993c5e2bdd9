/- The drawing of arguments: whether a field is metric (all that is wanted of it). No condition. -/
import Derived.Test.YtpiijhfjliolfaaGreatQBc
namespace Go.Proofs.YtpiijhfjliolfaaGreat
open Go.RowKit Go.Sort

/-- Somewhere the way round is shorter. -/
def Bent (J M : Nat) (f : Nat → Nat → Int) : Prop := ∃ i j a b, i < J ∧ j < J ∧ a < M ∧ b < M ∧ f i b + f j b + f j a < f i a
/-- The four cells at work. -/
theorem Mat.four {w : World} {base g cap J M : Nat} {B Cp : Nat → Nat} {f : Nat → Nat → Int} (h : Mat w base g cap J M B Cp f) {i j a b : Nat} (hi : i < J) (hj : j < J) (ha : a < M) (hb : b < M) :
    w.cell? ⟨g, i, none⟩ = some (.slice (some ⟨B i, 0, none⟩) M (Cp i)) ∧ w.cell? ⟨g, j, none⟩ = some (.slice (some ⟨B j, 0, none⟩) M (Cp j)) ∧ w.cell? ⟨B i, a, none⟩ = some (.int .i64 (f i a)) ∧ w.cell? ⟨B i, b, none⟩ = some (.int .i64 (f i b)) ∧ w.cell? ⟨B j, b, none⟩ = some (.int .i64 (f j b)) ∧ w.cell? ⟨B j, a, none⟩ = some (.int .i64 (f j a)) :=
  ⟨h.hcell hi, h.hcell hj, (h.cell hi ha).1, (h.cell hi hb).1, (h.cell hj hb).1, (h.cell hj ha).1⟩
set_option maxRecDepth 100000 in
set_option maxHeartbeats 2000000 in
theorem l2Metric_any (a d : Value) (base : Nat) (xs : List Int) (J : Nat) (B Cp : Nat → Nat) (f : Nat → Nat → Int) (w : World) (hr : RF w base a d xs J B Cp f) (hb : RB xs J f) :
    Calls Tryz.prog 122 #[.agg #[a, d]] w fun e w' => ∃ r : Bool, e = .returned (.bool r) ∧ (r = false → Bent J xs.length f) ∧ Kp w w' := by
  obtain ⟨go, co, rfl, _, _⟩ := hr.op.someP hb.pos
  obtain ⟨Ad, cd, hvd⟩ := hr.di.shape
  subst hvd
  obtain ⟨M, hM⟩ : ∃ M, xs.length = M := ⟨_, rfl⟩
  have hM8 : M ≤ 8 := by have := hb.xl; omega
  have hJ8 := hb.jl
  have HF : Hid (∀ j b, j < J → b < M → 0 ≤ f j b ∧ f j b < 20) := by show ∀ j b, _ → _; intro j b h1 h2; exact hb.fb j b h1 (by omega)
  have HD := Lib.hid hr.di
  rw [hM]
  obtain ⟨d0, d1⟩ := box2 w (.slice (some ⟨go, 0, none⟩) M co) (.slice Ad J cd) 27
  have k1 : Kp w (w.alloc (.cells #[.slice (some ⟨go, 0, none⟩) M co, .slice Ad J cd] 27)) := (Kp.refl w).alloc _
  clear hr hb
  go_enter Tryz.func122, Tryz.ntmps122
  go_wp2_with fail
  generalize w.alloc (.cells #[.slice (some ⟨go, 0, none⟩) M co, .slice Ad J cd] 27) = wb at *
  go_loopw [3] (fun iv wr => ∃ i : Nat, iv = .int .i64 i ∧ i ≤ J ∧ Kp wb wr) (fun iv _ => J - (intOf iv).toNat)
  case atStart => exact ⟨0, rfl, by omega, Kp.refl _⟩
  case round =>
    obtain ⟨i, rfl, hi, hkr⟩ := hrel
    obtain ⟨wo, rfl⟩ : ∃ wo : World, wo = wr := ⟨_, rfl⟩
    have x0 := hkr.get d0
    have x1 := hkr.get d1
    by_cases hli : i < J
    · go_wp2_with fail
      go_loopw [4] (fun jv wr => ∃ j : Nat, jv = .int .i64 j ∧ j ≤ J ∧ Kp wo wr) (fun jv _ => J - (intOf jv).toNat)
      case atStart => exact ⟨0, rfl, by omega, Kp.refl _⟩
      case round =>
        obtain ⟨j, rfl, hj, hkr2⟩ := hrel
        obtain ⟨wp, rfl⟩ : ∃ wp : World, wp = wr := ⟨_, rfl⟩
        have y0 := hkr2.get x0
        have y1 := hkr2.get x1
        by_cases hlj : j < J
        · go_wp2_with fail
          go_loopw [5] (fun av wr => ∃ a : Nat, av = .int .i64 a ∧ a ≤ M ∧ Kp wp wr) (fun av _ => M - (intOf av).toNat)
          case atStart => exact ⟨0, rfl, by omega, Kp.refl _⟩
          case round =>
            obtain ⟨a, rfl, ha, hkr3⟩ := hrel
            obtain ⟨wq, rfl⟩ : ∃ wq : World, wq = wr := ⟨_, rfl⟩
            have z0 := hkr3.get y0
            have z1 := hkr3.get y1
            by_cases hla : a < M
            · go_wp2_with fail
              go_loopw [6] (fun bv wr => ∃ b : Nat, bv = .int .i64 b ∧ b ≤ M ∧ Kp wq wr) (fun bv _ => M - (intOf bv).toNat)
              case atStart => exact ⟨0, rfl, by omega, Kp.refl _⟩
              case round =>
                obtain ⟨b, rfl, hb, hkr4⟩ := hrel
                have v0 := hkr4.get z0
                have v1 := hkr4.get z1
                by_cases hlb : b < M
                · have hkall := (((k1.trans hkr).trans hkr2).trans hkr3).trans hkr4
                  obtain ⟨g, cap, hdv, hm0⟩ := (HD.out.kp hkall).mat (by omega)
                  simp only [Value.slice.injEq] at hdv
                  obtain ⟨rfl, -, rfl⟩ := hdv
                  rw [hM] at hm0
                  obtain ⟨c1, c2, c3, c4, c5, c6⟩ := hm0.four hli hlj hla hlb
                  have b3 := HF.out i a hli hla
                  have b4 := HF.out i b hli hlb
                  have b5 := HF.out j b hlj hlb
                  have b6 := HF.out j a hlj hla
                  obtain ⟨u3, h3⟩ : ∃ z, f i a = z := ⟨_, rfl⟩
                  obtain ⟨u4, h4⟩ : ∃ z, f i b = z := ⟨_, rfl⟩
                  obtain ⟨u5, h5⟩ : ∃ z, f j b = z := ⟨_, rfl⟩
                  obtain ⟨u6, h6⟩ : ∃ z, f j a = z := ⟨_, rfl⟩
                  rw [h3] at c3 b3
                  rw [h4] at c4 b4
                  rw [h5] at c5 b5
                  rw [h6] at c6 b6
                  have H3 := Lib.hid h3; have H4 := Lib.hid h4; have H5 := Lib.hid h5; have H6 := Lib.hid h6
                  clear h3 h4 h5 h6 hm0 hkall
                  have hw1 : IntKind.i64.wrap (u4 + u5) = u4 + u5 := IntWalk.i64_in _ (by omega)
                  have hw2 : IntKind.i64.wrap (u4 + u5 + u6) = u4 + u5 + u6 := IntWalk.i64_in _ (by omega)
                  have hw3 : wrap64 (u4 + u5) = u4 + u5 := IntWalk.wrap64_in _ (by omega)
                  have hw4 : wrap64 (u4 + u5 + u6) = u4 + u5 + u6 := IntWalk.wrap64_in _ (by omega)
                  have a1 : (⟨g, 0, none⟩ : Addr).add i = ⟨g, i, none⟩ := add0 _ _
                  have a2 : (⟨g, 0, none⟩ : Addr).add j = ⟨g, j, none⟩ := add0 _ _
                  have a3 : (⟨B i, 0, none⟩ : Addr).add a = ⟨B i, a, none⟩ := add0 _ _
                  have a4 : (⟨B i, 0, none⟩ : Addr).add b = ⟨B i, b, none⟩ := add0 _ _
                  have a5 : (⟨B j, 0, none⟩ : Addr).add b = ⟨B j, b, none⟩ := add0 _ _
                  have a6 : (⟨B j, 0, none⟩ : Addr).add a = ⟨B j, a, none⟩ := add0 _ _
                  have i1 : (i : Int) < (J : Int) := by omega
                  have i2 : (j : Int) < (J : Int) := by omega
                  have i3 : (a : Int) < (M : Int) := by omega
                  have i4 : (b : Int) < (M : Int) := by omega
                  have n1 : ((i : Int)).toNat = i := Int.toNat_natCast i
                  have n2 : ((j : Int)).toNat = j := Int.toNat_natCast j
                  have n3 : ((a : Int)).toNat = a := Int.toNat_natCast a
                  have n4 : ((b : Int)).toNat = b := Int.toNat_natCast b
                  have hkd : Kp wq wr.drew := hkr4.trans (Kp.refl wr).drew
                  cases hc : decide (u4 + u5 + u6 < u3)
                  · go_wp2_with fail
                    go_still (by kernel_rfl)
                    change Exit.then _ _ _ _ wr.drew
                    generalize wr.drew = wd at *
                    go_wp2_with fail
                    go_roundw
                    case rel => exact ⟨b + 1, by go_num, by omega, hkd⟩
                    case measure => simp [intOf]; omega
                  · have hbent := Lib.hid (show Bent J M f from ⟨i, j, a, b, hli, hlj, hla, hlb, by rw [H3.out, H4.out, H5.out, H6.out]; exact of_decide_eq_true hc⟩)
                    have hkz := Lib.hid ((((k1.trans hkr).trans hkr2).trans hkr3).trans hkd)
                    go_wp2_with fail
                    go_still (by kernel_rfl)
                    change Exit.then _ _ _ _ wr.drew
                    generalize wr.drew = wd at *
                    go_wp2_with fail
                    go_ret
                    exact ⟨_, rfl, fun _ => hbent.out, hkz.out⟩
                · obtain rfl : b = M := by omega
                  go_wp2_with fail
                  go_roundw
                  case rel => exact ⟨a + 1, by go_num, by omega, hkr3.trans hkr4⟩
                  case measure => simp [intOf]; omega
            · obtain rfl : a = M := by omega
              go_wp2_with fail
              go_roundw
              case rel => exact ⟨j + 1, by go_num, by omega, hkr2.trans hkr3⟩
              case measure => simp [intOf]; omega
        · obtain rfl : j = J := by omega
          go_wp2_with fail
          go_roundw
          case rel => exact ⟨i + 1, by go_num, by omega, hkr.trans hkr2⟩
          case measure => simp [intOf]; omega
    · obtain rfl : i = J := by omega
      go_wp2_with fail
      go_ret
      exact ⟨true, rfl, (fun h => by cases h), k1.trans hkr⟩
end Go.Proofs.YtpiijhfjliolfaaGreat
