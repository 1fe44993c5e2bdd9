/- The least worth with which a set's gain reaches a part: the program's answer and the reference's. No condition. -/
import Derived.Test.YtlmlmmomfkgdcaaOpened
import Derived.Test.YtlmlmmomfkgdcaaMono
namespace Go.Proofs.Ytlmlmmomfkgdcaa
open Go.RowKit Go.Sort

def reachB (F : Fld) (S : List Int) (part : Int) (j : Nat) : Bool := decide (part ≤ gainF F (j : Int) S)
def worthAt (F : Fld) (S : List Int) (part : Int) : Option Nat := (List.range 1000).find? (reachB F S part)
def worthOk0 (F : Fld) (S : List Int) (part : Int) : Bool := openedB F S && inB part 0 1000
def worthV (F : Fld) (S : List Int) (part : Int) : Int := if worthOk0 F S part = true then ((worthAt F S part).getD 0 : Nat) else 0
def worthOk (F : Fld) (S : List Int) (part : Int) : Bool := worthOk0 F S part && (worthAt F S part).isSome
theorem worth_bad {F : Fld} {S : List Int} {part : Int} (h : worthOk0 F S part = false) : Ending.returned (.tuple #[.int .i64 (worthV F S part), .bool (worthOk F S part)]) = .returned (.tuple #[.int .i64 0, .bool false]) := by simp [worthV, worthOk, h]
theorem worth_hit {F : Fld} {S : List Int} {part : Int} {k : Nat} (h : worthOk0 F S part = true) (hk : k < 1000) (ha : Hid ((List.range k).all (fun j => !reachB F S part j) = true)) (hr : reachB F S part k = true) :
    Ending.returned (.tuple #[.int .i64 (worthV F S part), .bool (worthOk F S part)]) = .returned (.tuple #[.int .i64 k, .bool true]) := by
  have e : worthAt F S part = some k := by
    unfold worthAt
    rw [List.find?_range_eq_some]
    refine ⟨hr, by simpa using hk, fun j hj => ?_⟩
    have := List.all_eq_true.1 ha j (by simpa using hj)
    simpa using this
  simp [worthV, worthOk, h, e]
theorem worth_none {F : Fld} {S : List Int} {part : Int} {k : Nat} (h : worthOk0 F S part = true) (hk : k ≤ 1000) (hge : ¬ k < 1000) (ha : Hid ((List.range k).all (fun j => !reachB F S part j) = true)) :
    Ending.returned (.tuple #[.int .i64 (worthV F S part), .bool (worthOk F S part)]) = .returned (.tuple #[.int .i64 0, .bool false]) := by
  have hk' : k = 1000 := by omega
  subst hk'
  have e : worthAt F S part = none := by
    unfold worthAt
    rw [List.find?_eq_none]
    intro j hj
    have := List.all_eq_true.1 ha j hj
    simpa using this
  simp [worthV, worthOk, e]

set_option maxRecDepth 100000 in
set_option maxHeartbeats 1000000 in
theorem specWorth_any (f : Value) (F : Fld) (A0 : Option Addr) (S : List Int) (n c0 : Nat) (part : Int) (w : World) (hf : FldAt w f F) (hS : IntsAt w A0 S) (hn : S.length = n) :
    Calls Try.prog 11 #[f, .slice A0 n c0, .int .i64 part] w fun e w' => e = .returned (.tuple #[.int .i64 (worthV F S part), .bool (worthOk F S part)]) ∧ Kp w w' := by
  obtain ⟨A, c, B, d, rfl, hA, hB⟩ := hf
  have hk0 : Kp w (w.alloc (.cells #[.slice A F.op.length c, .slice B F.di.length d] 29)) := (Kp.refl w).alloc _
  obtain ⟨d0, d1⟩ := box2 w (.slice A F.op.length c) (.slice B F.di.length d) 29
  have hFA := FldAt.kp (show FldAt w (.agg #[.slice A F.op.length c, .slice B F.di.length d]) F from ⟨A, c, B, d, rfl, hA, hB⟩) hk0
  have Hn := Lib.hid hn; clear hn
  go_enter Try.func11, Try.ntmps11
  go_wp2_with fail
  generalize w.alloc (.cells #[.slice A F.op.length c, .slice B F.di.length d] 29) = wb at *
  have CC := Lib.hid (l2Two_any _ F A0 S n c0 _ hFA (hS.kp hk0) Hn.out)
  with_reducible refine Calls.mono CC.out ?_
  rintro e w1 ⟨rfl, hk1⟩
  clear CC
  have e0 := hk1.get d0; have e1 := hk1.get d1
  have K := hk0.trans hk1
  cases hg : openedB F S
  · have Hg := Lib.hid hg; clear hg
    go_wp2_with fail
    go_ret2
    exact ⟨(worth_bad (by simp [worthOk0, Hg.out])).symm, K⟩
  have Hg := Lib.hid hg; clear hg
  go_wp2_with fail
  refine (l1In_any _ _ _ _).mono ?_
  rintro e w' ⟨rfl, rfl⟩
  cases h2 : inB part 0 1000
  · have H2 := Lib.hid h2; clear h2
    go_wp2_with fail
    go_ret2
    exact ⟨(worth_bad (by simp [worthOk0, H2.out])).symm, K⟩
  have H2 := Lib.hid h2; clear h2
  have HO : Hid (worthOk0 F S part = true) := by show worthOk0 F S part = true; rw [worthOk0, Hg.out, H2.out]; rfl
  have HP := Lib.hid (openedB_parts Hg.out)
  go_wp2_with fail
  go_loopw [8] (fun iv wr => ∃ k : Nat, k ≤ 1000 ∧ iv = .int .i64 k ∧ Hid ((List.range k).all (fun j => !reachB F S part j) = true) ∧ Kp w1 wr) (fun iv _ => 1000 - (intOf iv).toNat)
  case atStart => exact ⟨0, by omega, rfl, rfl, Kp.refl _⟩
  case round =>
    obtain ⟨k, hk, rfl, Ha, hkp⟩ := hrel
    have f0 := hkp.get e0; have f1 := hkp.get e1
    by_cases hlt : k < 1000
    · go_wp2_with fail
      have CC := Lib.hid (l8Gain_any _ F (k : Int) A0 S n c0 _ ((hFA.kp hk1).kp hkp) (hS.kp (K.trans hkp)) Hn.out HP.out.1 HP.out.2.1 (by omega) (by omega))
      with_reducible refine Calls.mono CC.out ?_
      rintro e w2 ⟨rfl, hk2⟩
      clear CC
      go_wp2_with fail
      · have h1 : part ≤ gainF F (k : Int) S := by assumption
        go_ret2
        exact ⟨(worth_hit HO.out hlt Ha (by simpa [reachB] using h1)).symm, (K.trans hkp).trans hk2⟩
      · have h1 : gainF F (k : Int) S < part := by assumption
        go_roundw
        case rel => exact ⟨k + 1, by omega, by go_num, all_next Ha (by simp [reachB]; omega), hkp.trans hk2⟩
        case measure => simp [intOf]; omega
    · go_wp2_with fail
      go_ret2
      exact ⟨(worth_none HO.out hk hlt Ha).symm, K.trans hkp⟩

set_option maxRecDepth 100000 in
set_option maxHeartbeats 1000000 in
theorem implWorth_any (f : Value) (F : Fld) (A0 : Option Addr) (S : List Int) (n c0 : Nat) (part : Int) (w : World) (hf : FldAt w f F) (hS : IntsAt w A0 S) (hn : S.length = n) :
    Calls Try.prog 14 #[f, .slice A0 n c0, .int .i64 part] w fun e w' => e = .returned (.tuple #[.int .i64 (worthV F S part), .bool (worthOk F S part)]) ∧ Kp w w' := by
  obtain ⟨A, c, B, d, rfl, hA, hB⟩ := hf
  have hk0 : Kp w (w.alloc (.cells #[.slice A F.op.length c, .slice B F.di.length d] 29)) := (Kp.refl w).alloc _
  obtain ⟨d0, d1⟩ := box2 w (.slice A F.op.length c) (.slice B F.di.length d) 29
  have hFA := FldAt.kp (show FldAt w (.agg #[.slice A F.op.length c, .slice B F.di.length d]) F from ⟨A, c, B, d, rfl, hA, hB⟩) hk0
  have Hn := Lib.hid hn; clear hn
  go_enter Try.func14, Try.ntmps14
  go_wp2_with fail
  generalize w.alloc (.cells #[.slice A F.op.length c, .slice B F.di.length d] 29) = wb at *
  have CC := Lib.hid (isOpened_any _ F A0 S n c0 _ hFA (hS.kp hk0) Hn.out)
  with_reducible refine Calls.mono CC.out ?_
  rintro e w1 ⟨rfl, hk1⟩
  clear CC
  have e0 := hk1.get d0; have e1 := hk1.get d1
  have K := hk0.trans hk1
  cases hg : openedB F S
  · have Hg := Lib.hid hg; clear hg
    go_wp2_with fail
    go_ret2
    exact ⟨(worth_bad (by simp [worthOk0, Hg.out])).symm, K⟩
  have Hg := Lib.hid hg; clear hg
  go_wp2_with fail
  refine (between_any _ _ _ _).mono ?_
  rintro e w' ⟨rfl, rfl⟩
  cases h2 : inB part 0 1000
  · have H2 := Lib.hid h2; clear h2
    go_wp2_with fail
    go_ret2
    exact ⟨(worth_bad (by simp [worthOk0, H2.out])).symm, K⟩
  have H2 := Lib.hid h2; clear h2
  have HO : Hid (worthOk0 F S part = true) := by show worthOk0 F S part = true; rw [worthOk0, Hg.out, H2.out]; rfl
  have HP := Lib.hid (openedB_parts Hg.out)
  go_wp2_with fail
  go_loopw [18] (fun iv wr => ∃ k : Nat, k ≤ 1000 ∧ iv = .int .i64 k ∧ Hid ((List.range k).all (fun j => !reachB F S part j) = true) ∧ Kp w1 wr) (fun iv _ => 1000 - (intOf iv).toNat)
  case atStart => exact ⟨0, by omega, rfl, rfl, Kp.refl _⟩
  case round =>
    obtain ⟨k, hk, rfl, Ha, hkp⟩ := hrel
    have f0 := hkp.get e0; have f1 := hkp.get e1
    by_cases hlt : k < 1000
    · go_wp2_with fail
      have CC := Lib.hid (gain_any _ F (k : Int) A0 S n c0 _ ((hFA.kp hk1).kp hkp) (hS.kp (K.trans hkp)) Hn.out HP.out.1 HP.out.2.1 (by omega) (by omega))
      with_reducible refine Calls.mono CC.out ?_
      rintro e w2 ⟨rfl, hk2⟩
      clear CC
      go_wp2_with fail
      · have h1 : part ≤ gainF F (k : Int) S := by assumption
        go_ret2
        exact ⟨(worth_hit HO.out hlt Ha (by simpa [reachB] using h1)).symm, (K.trans hkp).trans hk2⟩
      · have h1 : gainF F (k : Int) S < part := by assumption
        go_roundw
        case rel => exact ⟨k + 1, by omega, by go_num, all_next Ha (by simp [reachB]; omega), hkp.trans hk2⟩
        case measure => simp [intOf]; omega
    · go_wp2_with fail
      go_ret2
      exact ⟨(worth_none HO.out hk hlt Ha).symm, K.trans hkp⟩
end Go.Proofs.Ytlmlmmomfkgdcaa
