/- BestFollower: reference and program. No condition. -/
import Derived.Test.YtcekddpllpbkmaaFoll2
namespace Go.Proofs.Ytcekddpllpbkmaa
open Go.RowKit Go.Sort

set_option maxRecDepth 100000 in
set_option maxHeartbeats 1000000 in
theorem specBf_any (f : Value) (F : Fld) (A0 : Option Addr) (L : List Int) (n0 c0 : Nat) (k : Int) (w : World) (hf : FldAt w f F) (hL : IntsAt w A0 L) (hn0 : L.length = n0) :
    Calls Try.prog 11 #[f, .slice A0 n0 c0, .int .i64 k] w fun e w' => ∃ v, e = .returned (.tuple #[v, .bool (folOk F L k)]) ∧ Own w' w.heap.size v (folL F L k) ∧ Kp w w' := by
  obtain ⟨A, c, B, d, rfl, hA, hB⟩ := hf
  have hk0 : Kp w (w.alloc (.cells #[.slice A F.op.length c, .slice B F.di.length d] 29)) := (Kp.refl w).alloc _
  obtain ⟨d0, d1⟩ := box2 w (.slice A F.op.length c) (.slice B F.di.length d) 29
  have hFA := FldAt.kp (show FldAt w (.agg #[.slice A F.op.length c, .slice B F.di.length d]) F from ⟨A, c, B, d, rfl, hA, hB⟩) hk0
  have hLA := hL.kp hk0
  have Hn0 := Lib.hid hn0
  clear hA hB hL hn0
  go_enter Try.func11, Try.ntmps11
  go_wp2_with fail
  have hsz : Hid ((w.alloc (.cells #[.slice A F.op.length c, .slice B F.di.length d] 29)).heap.size = w.heap.size + 1) := by show _ = _; simp
  generalize w.alloc (.cells #[.slice A F.op.length c, .slice B F.di.length d] 29) = wb at *
  have hkb : Kp wb wb := Kp.refl _
  have hkw := hk0
  have CC := Lib.hid (l2Two_any _ F A0 L n0 c0 _ (hFA.kp hkb) (hLA.kp hkb) Hn0.out)
  with_reducible refine Calls.mono CC.out ?_
  rintro e w1 ⟨rfl, hk1⟩
  clear CC
  replace hkb := hkb.trans hk1
  have hwl := Lib.hid (hkw.trans hkb).le
  cases hg_ : openedB F L
  · have Hno : Hid (folOk F L k = false) := by show _ = _; rw [folOk, hg_]; rfl
    clear hg_
    have q_d0 := hkb.get d0
    have q_d1 := hkb.get d1
    go_wp2_with fail
    go_ret2
    exact ⟨_, by rw [Hno.out]; rfl, by rw [folL_no Hno.out]; exact own_new0 _ _ hwl.out, (hkw.trans hkb).alloc _⟩
  have Ho := Lib.hid hg_; clear hg_
  have HO := Lib.hid (openedB_parts Ho.out)
  have hg7 := (goodF_iff.1 HO.out.1).1.2
  have HL7 := risB_len HO.out.2.1
  rw [Hn0.out] at HL7
  have hwr : IntKind.i64.wrap ((F.op.length : Int) - (n0 : Int)) = (F.op.length : Int) - (n0 : Int) := IntWalk.i64_in _ (by omega)
  have q_d0 := hkb.get d0
  have q_d1 := hkb.get d1
  go_wp2_with fail
  with_reducible refine Calls.mono (l1In_any _ _ _ _) ?_
  rintro e w2 ⟨rfl, hw⟩
  obtain rfl := hw
  clear q_d0 q_d1
  cases hk_ : inB k 1 ((F.op.length : Int) - (n0 : Int))
  · have Hno : Hid (folOk F L k = false) := by show _ = _; rw [folOk, Ho.out, Hn0.out, hk_]; rfl
    clear hk_
    have q_d0 := hkb.get d0
    have q_d1 := hkb.get d1
    go_wp2_with fail
    go_ret2
    exact ⟨_, by rw [Hno.out]; rfl, by rw [folL_no Hno.out]; exact own_new0 _ _ hwl.out, (hkw.trans hkb).alloc _⟩
  have Hok : Hid (folOk F L k = true) := by show _ = _; rw [folOk, Ho.out, Hn0.out, hk_]; rfl
  clear hk_ hwr
  have HP := Lib.hid (folOk_parts Hok.out)
  have HS := Lib.hid (fol_set (F := F) HP.out.2.1 HP.out.2.2)
  have HS7 := Lib.hid (risB_len HS.out.2)
  have q_d0 := hkb.get d0
  have q_d1 := hkb.get d1
  go_wp2_with fail
  have CC := Lib.hid (l9Follow_any _ F A0 L n0 c0 k _ (hFA.kp hkb) (hLA.kp hkb) Hn0.out HO.out.1 HO.out.2.1 HO.out.2.2)
  with_reducible refine Calls.mono CC.out ?_
  rintro e w3 ⟨u, rfl, hu, hk3⟩
  clear CC q_d0 q_d1
  replace hkb := hkb.trans hk3
  obtain ⟨Au, cu, hve, hcu, hui⟩ := hu.read
  subst hve
  obtain ⟨adu, rfl, _, _⟩ := hu.some_addr HS.out.1
  clear hu
  have hwl2 := Lib.hid (hkw.trans hkb).le
  have q_d0 := hkb.get d0
  have q_d1 := hkb.get d1
  go_wp2_with fail
  have CC := Lib.hid (l1Own_any adu (folF F L k) _ cu _ hui rfl (by have := HS7.out; omega))
  with_reducible refine Calls.mono CC.out ?_
  rintro e w4 ⟨v, rfl, hov, hk4⟩
  clear CC q_d0 q_d1
  replace hkb := hkb.trans hk4
  have q_d0 := hkb.get d0
  have q_d1 := hkb.get d1
  go_wp2_with fail
  go_ret2
  exact ⟨_, by rw [Hok.out]; rfl, by rw [folL_yes Hok.out]; exact hov.mono hwl2.out, hkw.trans hkb⟩
set_option maxRecDepth 100000 in
set_option maxHeartbeats 1000000 in
theorem implBf_any (f : Value) (F : Fld) (A0 : Option Addr) (L : List Int) (n0 c0 : Nat) (k : Int) (w : World) (hf : FldAt w f F) (hL : IntsAt w A0 L) (hn0 : L.length = n0) :
    Calls Try.prog 14 #[f, .slice A0 n0 c0, .int .i64 k] w fun e w' => ∃ v, e = .returned (.tuple #[v, .bool (folOk F L k)]) ∧ Own w' w.heap.size v (folL F L k) ∧ Kp w w' := by
  obtain ⟨A, c, B, d, rfl, hA, hB⟩ := hf
  have hk0 : Kp w (w.alloc (.cells #[.slice A F.op.length c, .slice B F.di.length d] 29)) := (Kp.refl w).alloc _
  obtain ⟨d0, d1⟩ := box2 w (.slice A F.op.length c) (.slice B F.di.length d) 29
  have hFA := FldAt.kp (show FldAt w (.agg #[.slice A F.op.length c, .slice B F.di.length d]) F from ⟨A, c, B, d, rfl, hA, hB⟩) hk0
  have hLA := hL.kp hk0
  have Hn0 := Lib.hid hn0
  clear hA hB hL hn0
  go_enter Try.func14, Try.ntmps14
  go_wp2_with fail
  have hsz : Hid ((w.alloc (.cells #[.slice A F.op.length c, .slice B F.di.length d] 29)).heap.size = w.heap.size + 1) := by show _ = _; simp
  generalize w.alloc (.cells #[.slice A F.op.length c, .slice B F.di.length d] 29) = wb at *
  have hkb : Kp wb wb := Kp.refl _
  have hkw := hk0
  have CC := Lib.hid (isOpened_any _ F A0 L n0 c0 _ (hFA.kp hkb) (hLA.kp hkb) Hn0.out)
  with_reducible refine Calls.mono CC.out ?_
  rintro e w1 ⟨rfl, hk1⟩
  clear CC
  replace hkb := hkb.trans hk1
  have hwl := Lib.hid (hkw.trans hkb).le
  cases hg_ : openedB F L
  · have Hno : Hid (folOk F L k = false) := by show _ = _; rw [folOk, hg_]; rfl
    clear hg_
    have q_d0 := hkb.get d0
    have q_d1 := hkb.get d1
    go_wp2_with fail
    go_ret2
    exact ⟨_, by rw [Hno.out]; rfl, by rw [folL_no Hno.out]; exact Own.nil _ _, hkw.trans hkb⟩
  have Ho := Lib.hid hg_; clear hg_
  have HO := Lib.hid (openedB_parts Ho.out)
  have hg7 := (goodF_iff.1 HO.out.1).1.2
  have HL7 := risB_len HO.out.2.1
  rw [Hn0.out] at HL7
  have hwr : IntKind.i64.wrap ((F.op.length : Int) - (n0 : Int)) = (F.op.length : Int) - (n0 : Int) := IntWalk.i64_in _ (by omega)
  have q_d0 := hkb.get d0
  have q_d1 := hkb.get d1
  go_wp2_with fail
  with_reducible refine Calls.mono (between_any _ _ _ _) ?_
  rintro e w2 ⟨rfl, hw⟩
  obtain rfl := hw
  clear q_d0 q_d1
  cases hk_ : inB k 1 ((F.op.length : Int) - (n0 : Int))
  · have Hno : Hid (folOk F L k = false) := by show _ = _; rw [folOk, Ho.out, Hn0.out, hk_]; rfl
    clear hk_
    have q_d0 := hkb.get d0
    have q_d1 := hkb.get d1
    go_wp2_with fail
    go_ret2
    exact ⟨_, by rw [Hno.out]; rfl, by rw [folL_no Hno.out]; exact Own.nil _ _, hkw.trans hkb⟩
  have Hok : Hid (folOk F L k = true) := by show _ = _; rw [folOk, Ho.out, Hn0.out, hk_]; rfl
  clear hk_ hwr
  have HP := Lib.hid (folOk_parts Hok.out)
  have q_d0 := hkb.get d0
  have q_d1 := hkb.get d1
  go_wp2_with fail
  have CC := Lib.hid (follower_any _ F A0 L n0 c0 k _ (hFA.kp hkb) (hLA.kp hkb) Hn0.out HO.out.1 HO.out.2.1 HO.out.2.2 HP.out.2.1 HP.out.2.2)
  with_reducible refine Calls.mono CC.out ?_
  rintro e w3 ⟨u, rfl, hu, hk3⟩
  clear CC q_d0 q_d1
  replace hkb := hkb.trans hk3
  have q_d0 := hkb.get d0
  have q_d1 := hkb.get d1
  go_wp2_with fail
  go_ret2
  exact ⟨_, by rw [Hok.out]; rfl, by rw [folL_yes Hok.out]; exact (hu.2 _ rfl).mono hwl.out, hkw.trans hkb⟩
end Go.Proofs.Ytcekddpllpbkmaa
