/- ClientsTaken: the reference's walk. No condition. -/
import Derived.Test.YtcekddpllpbkmaaTaken
namespace Go.Proofs.Ytcekddpllpbkmaa
open Go.RowKit Go.Sort

set_option maxRecDepth 100000 in
set_option maxHeartbeats 1000000 in
theorem l9Taken_any (f : Value) (F : Fld) (A0 : Option Addr) (L : List Int) (n0 c0 : Nat) (A1 : Option Addr) (S : List Int) (n1 c1 : Nat) (w : World) (hf : FldAt w f F) (hL : IntsAt w A0 L) (hn0 : L.length = n0) (hS : IntsAt w A1 S) (hn1 : S.length = n1) (hg : goodF F = true) (hl : setB F L = true) (hne : L ≠ []) (hs : setB F S = true) :
    Calls Try.prog 46 #[f, .slice A0 n0 c0, .slice A1 n1 c1] w fun e w' => ∃ v, e = .returned v ∧ Own w' w.heap.size v (takenTo F L S F.di.length) ∧ Kp w w' := by
  obtain ⟨A, c, B, d, rfl, hA, hB⟩ := hf
  have hk0 : Kp w (w.alloc (.cells #[.slice A F.op.length c, .slice B F.di.length d] 29)) := (Kp.refl w).alloc _
  obtain ⟨d0, d1⟩ := box2 w (.slice A F.op.length c) (.slice B F.di.length d) 29
  have hFA := FldAt.kp (show FldAt w (.agg #[.slice A F.op.length c, .slice B F.di.length d]) F from ⟨A, c, B, d, rfl, hA, hB⟩) hk0
  have hL0 := hL.kp hk0
  have hS0 := hS.kp hk0
  have Hn0 := Lib.hid hn0; clear hn0
  have Hn1 := Lib.hid hn1; clear hn1
  have hn1b : n1 ≤ 9223372036854775807 := Hn1.out ▸ hS.1
  have hd7 := (goodF_iff.1 hg).2.2.1
  have Hg := Lib.hid hg; have Hl := Lib.hid hl; have Hne := Lib.hid hne; have Hs := Lib.hid hs
  clear hg hl hs hne hA hB hS hL
  have hs1 : w.heap.size + 1 ≤ (w.alloc (.cells #[.slice A F.op.length c, .slice B F.di.length d] 29)).heap.size := by simp
  have hs2 : (w.alloc (.cells #[.slice A F.op.length c, .slice B F.di.length d] 29)).heap.size ≤ w.heap.size + 1 := by simp
  go_enter Try.func46, Try.ntmps46
  go_wp2_with fail
  generalize w.alloc (.cells #[.slice A F.op.length c, .slice B F.di.length d] 29) = wb at *
  have ho0 := own_new0 wb (w.heap.size + 1) hs1
  rw [Nat.le_antisymm hs2 hs1] at ho0
  have hkn := (Kp.refl wb).alloc (.cells #[] 3)
  go_loopw [7, 8] (fun ov ix wr => ∃ a : Nat, a ≤ F.di.length ∧ ix = .int .i64 a ∧ Own wr (w.heap.size + 1) ov (takenTo F L S a) ∧ Kp wb wr) (fun _ ix _ => F.di.length - (intOf ix).toNat)
  case atStart => exact ⟨0, by omega, rfl, ho0, hkn⟩
  case round =>
    obtain ⟨a, ha, rfl, hown, hkp⟩ := hrel
    have q0 := hkp.get d0; have q1 := hkp.get d1
    have hbl : w.heap.size + 1 ≤ wr.heap.size := Nat.le_trans hs1 hkp.le
    by_cases hlt : a < F.di.length
    · by_cases hp : 0 < n1
      · have HneS : Hid (S ≠ []) := by show S ≠ []; exact List.length_pos_iff.1 (by rw [Hn1.out]; exact hp)
        have hpi : (0 : Int) < n1 := by omega
        have r0 := cell_regrown q0; have r1 := cell_regrown q1
        have C1 := Lib.hid (fun (dd : Nat) (os : Array Obj) => Calls.regrown_of (l2Nearest_any _ F a A1 S n1 c1 _ ((hFA.kp hkp).kp (kp_rg wr dd os)) ((hS0.kp hkp).kp (kp_rg wr dd os)) Hn1.out Hg.out Hs.out HneS.out hlt))
        have C2 := Lib.hid (fun (dd : Nat) (os : Array Obj) => Calls.regrown_of (l2Nearest_any _ F a A0 L n0 c0 _ ((hFA.kp hkp).kp (kp_rg wr dd os)) ((hL0.kp hkp).kp (kp_rg wr dd os)) Hn0.out Hg.out Hl.out Hne.out hlt))
        go_wp2_with fail
        refine wp_region_quiet_below (by kernel_rfl) (by kernel_rfl) ?_
        repeat (quiet_step (first | with_reducible exact C1.out _ _ | with_reducible exact C2.out _ _))
        refine wpQuiet_nil ?_
        intro wq hw'
        have hkz := kp_of_rg hw'
        clear hw' r0 r1 C1 C2
        have ho2 := hown.kp hkz
        have hk3 := hkp.trans hkz
        have hlen := takenTo_len F L S a
        have hbq : w.heap.size + 1 ≤ wq.heap.size := Nat.le_trans hs1 hk3.le
        by_cases hq : nearF F a S < nearF F a L
        · have hu : Hid (takenB F L S a = true) := by show takenB F L S a = true; simp [takenB, hq, HneS.out]
          go_wp2_with (at_builtin; go_loud (refine wpl_app rfl (.tmp 31) (.tmp 33) rfl (w.heap.size + 1) _ (takenTo F L S a) a rfl rfl ho2 hbq (by omega) ?_); intro v' w' ho' ht' _; have hk4 := ho2.kp_turn hk3 hs2 ht')
          go_roundw
          case rel => exact ⟨a + 1, by omega, by go_num, by rw [takenTo_yes hu.out]; exact ho', hk4⟩
          case measure => simp [intOf]; omega
        · have hu : Hid (takenB F L S a = false) := by show takenB F L S a = false; simp [takenB]; intro; omega
          go_wp2_with fail
          go_roundw
          case rel => exact ⟨a + 1, by omega, by go_num, by rw [takenTo_no hu.out]; exact ho2, hk3⟩
          case measure => simp [intOf]; omega
      · have hS : Hid (S = []) := by show S = []; exact List.length_eq_zero_iff.1 (by rw [Hn1.out]; omega)
        have hpi : ¬ (0 : Int) < n1 := by omega
        go_wp2_with fail
        go_ret
        refine ⟨_, rfl, ?_, hk0.trans hkp⟩
        have := hown.mono (Nat.le_succ w.heap.size)
        rw [hS.out, takenTo_nil] at this ⊢
        exact this
    · obtain rfl : a = F.di.length := by omega
      go_wp2_with fail
      go_ret
      exact ⟨_, rfl, hown.mono (Nat.le_succ _), hk0.trans hkp⟩

theorem takenOk_no1 {F : Fld} {L S : List Int} (h : openedB F L = false) : takenOk F L S = false := by simp [takenOk, h]
theorem takenOk_no2 {F : Fld} {L S : List Int} (h : setB F S = false) : takenOk F L S = false := by simp [takenOk, h]
theorem takenOk_no3 {F : Fld} {L S : List Int} (h : (S.any fun x => L.any fun y => y == x) = true) : takenOk F L S = false := by simp [takenOk, h]

end Go.Proofs.Ytcekddpllpbkmaa
