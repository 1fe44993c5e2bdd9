/- FirmValue: reference and program. No condition. -/
import Derived.Test.YtbniecepngeooaaFpAg
import Derived.Test.YtbniecepngeooaaFpAh
namespace Go.Proofs.Ytbniecepngeooaa
open Go.RowKit Go.Sort

def fvV (F : Fld) (k : Int) : Int := if duelB F k = true then (playN F (2 * k.toNat) []).1 else 0
theorem fvV_yes {F : Fld} {k : Int} (h : duelB F k = true) : fvV F k = (playN F (2 * k.toNat) []).1 := if_pos h
theorem fvV_no {F : Fld} {k : Int} (h : duelB F k = false) : fvV F k = 0 := if_neg (by simp [h])
theorem duel_parts {F : Fld} {k : Int} (h : duelB F k = true) : goodF F = true ∧ ∃ n : Nat, k = (n : Int) ∧ 1 ≤ n ∧ 2 * n ≤ F.op.length := by
  simp only [duelB, inB, Bool.and_eq_true, decide_eq_true_eq] at h
  obtain ⟨h0, h1, h2⟩ := h
  exact ⟨h0, k.toNat, by omega, by omega, by omega⟩
set_option maxHeartbeats 1000000 in
theorem implFv_any (f : Value) (F : Fld) (k : Int) (w : World) (hf : FldAt w f F) :
    Calls Try.prog 9 #[f, .int .i64 k] w fun e w' => e = .returned (.tuple #[.int .i64 (fvV F k), .bool (duelB F k)]) ∧ Kp w w' := by
  obtain ⟨A, c, B, d, rfl, hA, hB⟩ := hf
  have hk0 : Kp w (w.alloc (.cells #[.slice A F.op.length c, .slice B F.di.length d] 29)) := (Kp.refl w).alloc _
  obtain ⟨d0, d1⟩ := box2 w (.slice A F.op.length c) (.slice B F.di.length d) 29
  have hFA := FldAt.kp (show FldAt w (.agg #[.slice A F.op.length c, .slice B F.di.length d]) F from ⟨A, c, B, d, rfl, hA, hB⟩) hk0
  clear hA hB
  have CC := Lib.hid (fun (wx : World) (hx : Kp (w.alloc (.cells #[.slice A F.op.length c, .slice B F.di.length d] 29)) wx) => isDuel_any _ F k wx (hFA.kp hx))
  go_enter Try.func9, Try.ntmps9
  go_wp2_with fail
  have hsz : Hid ((w.alloc (.cells #[.slice A F.op.length c, .slice B F.di.length d] 29)).heap.size = w.heap.size + 1) := by show _ = _; simp
  generalize w.alloc (.cells #[.slice A F.op.length c, .slice B F.di.length d] 29) = wb at *
  have hkb : Kp wb wb := Kp.refl _
  have hkw := hk0
  have CD := Lib.hid (CC.out wb hkb)
  with_reducible refine Calls.mono CD.out ?_
  rintro e w1 ⟨rfl, hk1⟩
  clear CC CD
  replace hkb := hkb.trans hk1
  cases hg_ : duelB F k
  · have Hno := Lib.hid (fvV_no hg_)
    have HB := Lib.hid hg_
    clear hg_
    have q_d0 := hkb.get d0
    have q_d1 := hkb.get d1
    go_wp2_with fail
    go_ret2
    exact ⟨by rw [Hno.out, HB.out]; rfl, hkw.trans hkb⟩
  have Hy := Lib.hid (fvV_yes hg_)
  have Hd := Lib.hid (duel_parts hg_)
  have HB := Lib.hid hg_
  clear hg_
  obtain ⟨n, hkn, hn1, hn2⟩ := Hd.out.2
  have CC := Lib.hid (play_any F n Hd.out.1 hn1 hn2 (2 * n) _ none [] 0 0 w1 (hFA.kp hkb) (IntsAt.nil _ _) rfl (by omega) ⟨[], [], Duel.nil _⟩)
  have Hkn := Lib.hid hkn
  rw [← Hkn.out] at CC
  clear hkn
  have q_d0 := hkb.get d0
  have q_d1 := hkb.get d1
  go_wp2_with fail
  with_reducible refine Calls.mono CC.out ?_
  rintro e w2 ⟨rfl, hk2⟩
  clear CC
  replace hkb := hkb.trans hk2
  clear q_d0 q_d1
  have q_d0 := hkb.get d0
  have q_d1 := hkb.get d1
  go_wp2_with fail
  go_ret2
  exact ⟨by rw [HB.out, Hy.out, show 2 * k.toNat = 2 * n by rw [Hkn.out]; omega]; rfl, hkw.trans hkb⟩
set_option maxHeartbeats 1000000 in
theorem specFv_any (f : Value) (F : Fld) (k : Int) (w : World) (hf : FldAt w f F) :
    Calls Try.prog 7 #[f, .int .i64 k] w fun e w' => e = .returned (.tuple #[.int .i64 (fvV F k), .bool (duelB F k)]) ∧ Kp w w' := by
  obtain ⟨A, c, B, d, rfl, hA, hB⟩ := hf
  have hk0 : Kp w (w.alloc (.cells #[.slice A F.op.length c, .slice B F.di.length d] 29)) := (Kp.refl w).alloc _
  obtain ⟨d0, d1⟩ := box2 w (.slice A F.op.length c) (.slice B F.di.length d) 29
  have hFA := FldAt.kp (show FldAt w (.agg #[.slice A F.op.length c, .slice B F.di.length d]) F from ⟨A, c, B, d, rfl, hA, hB⟩) hk0
  clear hA hB
  have CC := Lib.hid (fun (wx : World) (hx : Kp (w.alloc (.cells #[.slice A F.op.length c, .slice B F.di.length d] 29)) wx) => l9Firms_any _ F k wx (hFA.kp hx))
  go_enter Try.func7, Try.ntmps7
  go_wp2_with fail
  have hsz : Hid ((w.alloc (.cells #[.slice A F.op.length c, .slice B F.di.length d] 29)).heap.size = w.heap.size + 1) := by show _ = _; simp
  generalize w.alloc (.cells #[.slice A F.op.length c, .slice B F.di.length d] 29) = wb at *
  have hkb : Kp wb wb := Kp.refl _
  have hkw := hk0
  have CD := Lib.hid (CC.out wb hkb)
  with_reducible refine Calls.mono CD.out ?_
  rintro e w1 ⟨rfl, hk1⟩
  clear CC CD
  replace hkb := hkb.trans hk1
  cases hg_ : duelB F k
  · have Hno := Lib.hid (fvV_no hg_)
    have HB := Lib.hid hg_
    clear hg_
    have q_d0 := hkb.get d0
    have q_d1 := hkb.get d1
    go_wp2_with fail
    go_ret2
    exact ⟨by rw [Hno.out, HB.out]; rfl, hkw.trans hkb⟩
  have Hy := Lib.hid (fvV_yes hg_)
  have Hd := Lib.hid (duel_parts hg_)
  have HB := Lib.hid hg_
  clear hg_
  obtain ⟨n, hkn, hn1, hn2⟩ := Hd.out.2
  have Hkn := Lib.hid hkn
  have C0 := Lib.hid (fun (wx : World) (hx : Kp w1 wx) (A1 A2 : Option Addr) => l9Value_any F n Hd.out.1 hn1 hn2 (2 * n) (.agg #[.slice A F.op.length c, .slice B F.di.length d]) A1 A2 [] [] [] 0 0 0 0 wx (hFA.kp (hkb.trans hx)) (IntsAt.nil _ _) rfl (Nat.le_refl _) (IntsAt.nil _ _) rfl (Nat.le_refl _) (by rw [List.length_nil]; omega) (Duel.nil _))
  rw [← Hkn.out] at C0
  clear hkn
  have q_d0 := hkb.get d0
  have q_d1 := hkb.get d1
  go_wp2_with fail
  with_reducible refine Calls.mono (C0.out _ (((Kp.refl _).alloc _).alloc _) _ _) ?_
  rintro e w2 ⟨rfl, hk2⟩
  clear q_d0 q_d1
  clear C0
  go_wp2_with fail
  go_ret2
  exact ⟨by rw [HB.out, Hy.out, show 2 * k.toNat = 2 * n by rw [Hkn.out]; omega]; rfl, (hkw.trans hkb).trans ((((Kp.refl _).alloc _).alloc _).trans hk2)⟩
end Go.Proofs.Ytbniecepngeooaa
