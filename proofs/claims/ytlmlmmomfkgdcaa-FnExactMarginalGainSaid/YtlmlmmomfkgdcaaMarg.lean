/- MarginalGain: reference and program. No condition. -/
import Derived.Test.YtlmlmmomfkgdcaaMore
namespace Go.Proofs.Ytlmlmmomfkgdcaa
open Go.RowKit Go.Sort

def margOk (F : Fld) (worth : Int) (S : List Int) (a : Int) : Bool := gainOk F worth S && (!(S.any fun x => x == a) && inB a 0 ((F.op.length : Int) - 1))
def margR (F : Fld) (worth : Int) (S : List Int) (a : Int) : Int := if margOk F worth S a = true then moreF F worth S a else 0
theorem marg_no {F : Fld} {worth : Int} {S : List Int} {a : Int} (h : margOk F worth S a = false) : Ending.returned (.tuple #[.int .i64 0, .bool false]) = .returned (.tuple #[.int .i64 (margR F worth S a), .bool (margOk F worth S a)]) := by
  simp [margR, h]
theorem marg_yes {F : Fld} {worth : Int} {S : List Int} {a : Int} (h : margOk F worth S a = true) : Ending.returned (.tuple #[.int .i64 (moreF F worth S a), .bool true]) = .returned (.tuple #[.int .i64 (margR F worth S a), .bool (margOk F worth S a)]) := by
  simp [margR, h]
theorem margOk_parts {F : Fld} {worth : Int} {S : List Int} {a : Int} (h : margOk F worth S a = true) : (goodF F = true ∧ setB F S = true ∧ 0 ≤ worth ∧ worth ≤ 999) ∧ 0 ≤ a ∧ a < F.op.length := by
  simp only [margOk, Bool.and_eq_true, inB_iff] at h
  exact ⟨gainOk_parts h.1, h.2.2.1, by omega⟩
set_option maxRecDepth 100000 in
set_option maxHeartbeats 400000 in
theorem specMarg_any (f : Value) (F : Fld) (worth : Int) (A0 : Option Addr) (S : List Int) (n c0 : Nat) (a : Int) (w : World) (hf : FldAt w f F) (hS : IntsAt w A0 S) (hn : S.length = n) :
    Calls Try.prog 24 #[f, .int .i64 worth, .slice A0 n n, .int .i64 a] w fun e w' => e = .returned (.tuple #[.int .i64 (margR F worth S a), .bool (margOk F worth S a)]) ∧ Kp w w' := by
  have hop : F.op.length ≤ 9223372036854775807 := by obtain ⟨_, _, _, _, _, h, _⟩ := id hf; exact h.1
  obtain ⟨A, c, B, d, rfl, hA, hB⟩ := hf
  have hk0 : Kp w (w.alloc (.cells #[.slice A F.op.length c, .slice B F.di.length d] 29)) := (Kp.refl w).alloc _
  obtain ⟨d0, d1⟩ := box2 w (.slice A F.op.length c) (.slice B F.di.length d) 29
  have hFA := FldAt.kp (show FldAt w (.agg #[.slice A F.op.length c, .slice B F.di.length d]) F from ⟨A, c, B, d, rfl, hA, hB⟩) hk0
  have hS0 := hS.kp hk0
  have Hn := Lib.hid hn; clear hn hS hA hB
  go_enter Try.func24, Try.ntmps24
  go_wp2_with fail
  generalize w.alloc (.cells #[.slice A F.op.length c, .slice B F.di.length d] 29) = wb at *
  have hkb : Kp wb wb := Kp.refl _
  have hkw := hk0
  have CC := Lib.hid (l8Good_any _ F worth _ (hFA.kp hkb))
  with_reducible refine Calls.mono CC.out ?_
  rintro e w1 ⟨rfl, hk1⟩
  clear CC
  replace hk0 := hk0.trans hk1
  replace hkb := hkb.trans hk1
  cases hg_ : (goodF F && worthB worth)
  · have Hg := Lib.hid hg_; clear hg_
    have q_d0 := hkb.get d0
    have q_d1 := hkb.get d1
    go_wp2_with fail
    go_ret2
    exact ⟨marg_no (by simp only [margOk, gainOk, Hg.out]; rfl), hk0⟩
  have Hg := Lib.hid hg_; clear hg_
  have q_d0 := hkb.get d0
  have q_d1 := hkb.get d1
  go_wp2_with fail
  have CC := Lib.hid (l2Set_any _ F A0 S n n _ (hFA.kp hkb) (hS0.kp hkb) Hn.out)
  with_reducible refine Calls.mono CC.out ?_
  rintro e w2 ⟨rfl, hk2⟩
  clear CC q_d0 q_d1
  replace hk0 := hk0.trans hk2
  replace hkb := hkb.trans hk2
  cases hg_ : (setB F S)
  · have Hs := Lib.hid hg_; clear hg_
    have q_d0 := hkb.get d0
    have q_d1 := hkb.get d1
    go_wp2_with fail
    go_ret2
    exact ⟨marg_no (by simp only [margOk, gainOk, Hg.out, Hs.out]; rfl), hk0⟩
  have Hs := Lib.hid hg_; clear hg_
  have q_d0 := hkb.get d0
  have q_d1 := hkb.get d1
  go_wp2_with fail
  have CC := Lib.hid (l1Has_any A0 S n n a _ (hS0.kp hkb) Hn.out)
  with_reducible refine Calls.mono CC.out ?_
  rintro e w3 ⟨rfl, hw⟩
  obtain rfl := hw
  clear CC q_d0 q_d1
  cases hh : (S.any fun x => x == a)
  · have Hh := Lib.hid hh; clear hh
    have q_d0 := hkb.get d0
    have q_d1 := hkb.get d1
    go_wp2_with fail
    with_reducible refine Calls.mono (l1In_any _ _ _ _) ?_
    rintro e w4 ⟨rfl, hw⟩
    obtain rfl := hw
    clear q_d0 q_d1
    cases hg_ : (inB a 0 ((F.op.length : Int) - 1))
    · have Hi := Lib.hid hg_; clear hg_
      have q_d0 := hkb.get d0
      have q_d1 := hkb.get d1
      go_wp2_with fail
      go_ret2
      exact ⟨marg_no (by simp only [margOk, gainOk, Hi.out, Hs.out, Hh.out]; simp), hk0⟩
    have Hi := Lib.hid hg_; clear hg_
    have Hok : Hid (margOk F worth S a = true) := by
      show margOk F worth S a = true
      simp only [margOk, gainOk, Hg.out, Hi.out, Hs.out, Hh.out]; rfl
    have HP := Lib.hid (margOk_parts Hok.out)
    have q_d0 := hkb.get d0
    have q_d1 := hkb.get d1
    go_wp2_with fail
    have CC := Lib.hid (l8More_any _ F worth A0 S n n a _ (hFA.kp hkb) (hS0.kp hkb) Hn.out (Nat.le_refl _) HP.out.1.1 HP.out.1.2.1 HP.out.1.2.2.1 HP.out.1.2.2.2 HP.out.2.1 HP.out.2.2)
    with_reducible refine Calls.mono CC.out ?_
    rintro e w5 ⟨rfl, hk5⟩
    clear CC q_d0 q_d1
    replace hk0 := hk0.trans hk5
    replace hkb := hkb.trans hk5
    have q_d0 := hkb.get d0
    have q_d1 := hkb.get d1
    go_wp2_with fail
    go_ret2
    exact ⟨marg_yes Hok.out, hk0⟩
  · have Hh := Lib.hid hh; clear hh
    have q_d0 := hkb.get d0
    have q_d1 := hkb.get d1
    go_wp2_with fail
    go_ret2
    exact ⟨marg_no (by simp only [margOk, Hh.out]; simp), hk0⟩
set_option maxRecDepth 100000 in
set_option maxHeartbeats 400000 in
theorem implMarg_any (f : Value) (F : Fld) (worth : Int) (A0 : Option Addr) (S : List Int) (n c0 : Nat) (a : Int) (w : World) (hf : FldAt w f F) (hS : IntsAt w A0 S) (hn : S.length = n) :
    Calls Try.prog 25 #[f, .int .i64 worth, .slice A0 n c0, .int .i64 a] w fun e w' => e = .returned (.tuple #[.int .i64 (margR F worth S a), .bool (margOk F worth S a)]) ∧ Kp w w' := by
  have hop : F.op.length ≤ 9223372036854775807 := by obtain ⟨_, _, _, _, _, h, _⟩ := id hf; exact h.1
  obtain ⟨A, c, B, d, rfl, hA, hB⟩ := hf
  have hk0 : Kp w (w.alloc (.cells #[.slice A F.op.length c, .slice B F.di.length d] 29)) := (Kp.refl w).alloc _
  obtain ⟨d0, d1⟩ := box2 w (.slice A F.op.length c) (.slice B F.di.length d) 29
  have hFA := FldAt.kp (show FldAt w (.agg #[.slice A F.op.length c, .slice B F.di.length d]) F from ⟨A, c, B, d, rfl, hA, hB⟩) hk0
  have hS0 := hS.kp hk0
  have Hn := Lib.hid hn; clear hn hS hA hB
  go_enter Try.func25, Try.ntmps25
  go_wp2_with fail
  generalize w.alloc (.cells #[.slice A F.op.length c, .slice B F.di.length d] 29) = wb at *
  have hkb : Kp wb wb := Kp.refl _
  have hkw := hk0
  have CC := Lib.hid (isWorth_any _ F worth A0 S n c0 _ (hFA.kp hkb) (hS0.kp hkb) Hn.out)
  with_reducible refine Calls.mono CC.out ?_
  rintro e w1 ⟨rfl, hk1⟩
  clear CC
  replace hk0 := hk0.trans hk1
  replace hkb := hkb.trans hk1
  cases hg_ : (gainOk F worth S)
  · have Hg := Lib.hid hg_; clear hg_
    have q_d0 := hkb.get d0
    have q_d1 := hkb.get d1
    go_wp2_with fail
    go_ret2
    exact ⟨marg_no (by simp only [margOk, Hg.out]; rfl), hk0⟩
  have Hg := Lib.hid hg_; clear hg_
  have q_d0 := hkb.get d0
  have q_d1 := hkb.get d1
  go_wp2_with fail
  with_reducible refine Calls.mono (between_any _ _ _ _) ?_
  rintro e w2 ⟨rfl, hw⟩
  obtain rfl := hw
  clear q_d0 q_d1
  cases hg_ : (inB a 0 ((F.op.length : Int) - 1))
  · have Hi := Lib.hid hg_; clear hg_
    have q_d0 := hkb.get d0
    have q_d1 := hkb.get d1
    go_wp2_with fail
    go_ret2
    exact ⟨marg_no (by simp only [margOk, Hi.out]; simp), hk0⟩
  have Hi := Lib.hid hg_; clear hg_
  have q_d0 := hkb.get d0
  have q_d1 := hkb.get d1
  go_wp2_with fail
  have CC := Lib.hid (contains_any A0 S n c0 a _ (hS0.kp hkb) Hn.out)
  with_reducible refine Calls.mono CC.out ?_
  rintro e w3 ⟨rfl, hw⟩
  obtain rfl := hw
  clear CC q_d0 q_d1
  cases hh : (S.any fun x => x == a)
  · have Hh := Lib.hid hh; clear hh
    have Hok : Hid (margOk F worth S a = true) := by
      show margOk F worth S a = true
      simp only [margOk, Hg.out, Hi.out, Hh.out]; rfl
    have HP := Lib.hid (margOk_parts Hok.out)
    have HS := Lib.hid (set_mem HP.out.1.2.1)
    have h7 := (goodF_iff.1 HP.out.1.1).1.2
    have ha0 := HP.out.2.1
    have ha1 := HP.out.2.2
    have hbl := bagN_lt (S := S) (n := F.op.length) (fun y hy => HS.out y hy)
    have hsb := Lib.hid (set_bits HP.out.1.2.1)
    have C1 := Lib.hid (fun (wx : World) (hx : Kp _ wx) => bagOf_any A0 S n c0 wx (hS0.kp hx) Hn.out (fun x hx => by have := HS.out x hx; omega))
    obtain ⟨a', rfl⟩ := Int.eq_ofNat_of_zero_le ha0
    have C2 := Lib.hid (fun (wx : World) (hx : Kp _ wx) => marginal_any _ F worth (bagN S) a' wx (hFA.kp hx) HP.out.1.1 hbl HP.out.1.2.2.1 HP.out.1.2.2.2 (by omega))
    clear hbl
    have q_d0 := hkb.get d0
    have q_d1 := hkb.get d1
    have tok1 : True := trivial
    go_wp2_with fail
    go_region_held3 (fun w' => w'.cell? ⟨w.heap.size, 0, none⟩ = some (.slice A F.op.length c) ∧ w'.cell? ⟨w.heap.size, 1, none⟩ = some (.slice B F.di.length d) ∧ Kp wb w')
      (first | (refine keepc2 d0 d1 ?_; exact (by repeat (first | with_reducible assumption | with_reducible exact Kp.refl _ | with_reducible refine Kp.drew ?_ | with_reducible refine Kp.alloc ?_ _ | with_reducible refine Kp.drewN ?_ _))) | fail)
      (first
        | (have _t := tok1; go_at_call 46; with_reducible refine Calls.mono (C1.out _ (by repeat (first | with_reducible assumption | with_reducible exact Kp.refl _ | with_reducible refine Kp.drew ?_ | with_reducible refine Kp.alloc ?_ _ | with_reducible refine Kp.drewN ?_ _))) ?_; rintro e wr1 ⟨rfl, hw⟩; obtain rfl := hw; have tok2 : True := trivial; clear tok1 _t)
        | (have _t := tok2; go_at_call 55; with_reducible refine Calls.mono (C2.out _ (by repeat (first | with_reducible assumption | with_reducible exact Kp.refl _ | with_reducible refine Kp.drew ?_ | with_reducible refine Kp.alloc ?_ _ | with_reducible refine Kp.drewN ?_ _))) ?_; rintro e wr2 ⟨rfl, hka⟩; have hr2 : Kp wb wr2 := Kp.trans (by repeat (first | with_reducible assumption | with_reducible exact Kp.refl _ | with_reducible refine Kp.drew ?_ | with_reducible refine Kp.alloc ?_ _ | with_reducible refine Kp.drewN ?_ _)) hka; have tok3 : True := trivial; clear tok2 _t)
        | fail)
    go_wp2_with fail
    go_ret2
    exact ⟨by rw [hsb.out]; exact marg_yes Hok.out, hkw.trans hr2⟩
  · have Hh := Lib.hid hh; clear hh
    have q_d0 := hkb.get d0
    have q_d1 := hkb.get d1
    go_wp2_with fail
    go_ret2
    exact ⟨marg_no (by simp only [margOk, Hh.out]; simp), hk0⟩
end Go.Proofs.Ytlmlmmomfkgdcaa
