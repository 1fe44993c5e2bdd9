/- GreedyGain: reference and program. No condition. -/
import Derived.Test.YtbefnhagmejpcaaGreedy
namespace Go.Proofs.Ytbefnhagmejpcaa
open Go.RowKit Go.Sort

def grdOk (F : Fld) (worth k : Int) : Bool := goodF F && worthB worth && inB k 0 7
def grdL (F : Fld) (worth k : Int) : List Int := if grdOk F worth k = true then grd F worth anyS k.toNat [] [] else []
theorem grdL_yes {F : Fld} {worth k : Int} (h : grdOk F worth k = true) : grdL F worth k = grd F worth anyS k.toNat [] [] := if_pos h
theorem grdL_no {F : Fld} {worth k : Int} (h : grdOk F worth k = false) : grdL F worth k = [] := if_neg (by simp [h])
theorem grdOk_parts {F : Fld} {worth k : Int} (h : grdOk F worth k = true) : goodF F = true ∧ (0 ≤ worth ∧ worth ≤ 999) ∧ 0 ≤ k ∧ k ≤ 7 := by
  simp only [grdOk, Bool.and_eq_true, worthB, inB_iff] at h
  exact ⟨h.1.1, h.1.2, h.2⟩
theorem grdL_len (F : Fld) (worth k : Int) : (grdL F worth k).length ≤ 1048576 := by
  by_cases h : grdOk F worth k = true
  · rw [grdL_yes h]
    have h1 := grd_len (F := F) (worth := worth) (may := anyS) k.toNat [] []
    have h2 := (grdOk_parts h).2.2
    simp at h1; omega
  · rw [grdL_no (by simpa using h)]; simp
theorem any_may (F : Fld) (w : World) : May F 94 #[] anyS w := by
  refine ⟨callFunc_of Try.func94 (by kernel_rfl) (by kernel_rfl), fun S Av cv w' _ _ _ => ?_⟩
  go_enter Try.func94, Try.ntmps94
  go_wp2_with fail
  go_ret
  exact ⟨rfl, Kp.refl _⟩
set_option maxRecDepth 100000 in
set_option maxHeartbeats 400000 in
theorem implGreedy_any (f : Value) (F : Fld) (worth k : Int) (w : World) (hf : FldAt w f F) :
    Calls Try.prog 63 #[f, .int .i64 worth, .int .i64 k] w fun e w' => ∃ v, e = .returned (.tuple #[v, .bool (grdOk F worth k)]) ∧ Own w' w.heap.size v (grdL F worth k) ∧ Kp w w' := by
  obtain ⟨A, c, B, d, rfl, hA, hB⟩ := hf
  have hk0 : Kp w (w.alloc (.cells #[.slice A F.op.length c, .slice B F.di.length d] 29)) := (Kp.refl w).alloc _
  obtain ⟨d0, d1⟩ := box2 w (.slice A F.op.length c) (.slice B F.di.length d) 29
  have hFA := FldAt.kp (show FldAt w (.agg #[.slice A F.op.length c, .slice B F.di.length d]) F from ⟨A, c, B, d, rfl, hA, hB⟩) hk0
  clear hA hB
  go_enter Try.func63, Try.ntmps63
  go_wp2_with fail
  have hsz : Hid ((w.alloc (.cells #[.slice A F.op.length c, .slice B F.di.length d] 29)).heap.size = w.heap.size + 1) := by show _ = _; simp
  generalize w.alloc (.cells #[.slice A F.op.length c, .slice B F.di.length d] 29) = wb at *
  have hkb : Kp wb wb := Kp.refl _
  have hkw := hk0
  have CC := Lib.hid (isWorth_any _ F worth none [] 0 0 _ (hFA.kp hkb) (IntsAt.nil _ none) rfl)
  with_reducible refine Calls.mono CC.out ?_
  rintro e w1 ⟨rfl, hk1⟩
  clear CC
  replace hkb := hkb.trans hk1
  have hgo : gainOk F worth [] = (goodF F && worthB worth) := by simp [gainOk, setB, risB]
  rw [hgo]
  clear hgo
  cases hg_ : (goodF F && worthB worth)
  · have Hno : Hid (grdOk F worth k = false) := by show grdOk F worth k = false; rw [grdOk, hg_]; rfl
    clear hg_
    have q_d0 := hkb.get d0
    have q_d1 := hkb.get d1
    go_wp2_with fail
    go_ret2
    exact ⟨_, by rw [Hno.out]; rfl, by rw [grdL_no Hno.out]; exact Own.nil _ _, hkw.trans hkb⟩
  have Hg := Lib.hid hg_; clear hg_
  have q_d0 := hkb.get d0
  have q_d1 := hkb.get d1
  go_wp2_with fail
  with_reducible refine Calls.mono (between_any k 0 7 _) ?_
  rintro e w2 ⟨rfl, hw⟩
  obtain rfl := hw
  clear q_d0 q_d1
  cases hg_ : inB k 0 7
  · have Hno : Hid (grdOk F worth k = false) := by show grdOk F worth k = false; rw [grdOk, Hg.out, hg_]; rfl
    clear hg_
    have q_d0 := hkb.get d0
    have q_d1 := hkb.get d1
    go_wp2_with fail
    go_ret2
    exact ⟨_, by rw [Hno.out]; rfl, by rw [grdL_no Hno.out]; exact Own.nil _ _, hkw.trans hkb⟩
  have Hok : Hid (grdOk F worth k = true) := by show grdOk F worth k = true; rw [grdOk, Hg.out, hg_]; rfl
  clear hg_
  have HP := Lib.hid (grdOk_parts Hok.out)
  have hk0' := HP.out.2.2.1
  have hk7 := HP.out.2.2.2
  obtain ⟨K, rfl⟩ := Int.eq_ofNat_of_zero_le hk0'
  have q_d0 := hkb.get d0
  have q_d1 := hkb.get d1
  go_wp2_with fail
  have CC := Lib.hid (greedyGain_any 94 #[] anyS _ F worth K _ (hFA.kp hkb) (any_may F _) HP.out.1 (by omega) HP.out.2.1.1 HP.out.2.1.2)
  with_reducible refine Calls.mono CC.out ?_
  rintro e w3 ⟨v, rfl, ho, hk3⟩
  clear CC q_d0 q_d1
  replace hkb := hkb.trans hk3
  have q_d0 := hkb.get d0
  have q_d1 := hkb.get d1
  go_wp2_with fail
  go_ret2
  exact ⟨_, by rw [Hok.out]; rfl, by rw [grdL_yes Hok.out]; exact ho.mono (Nat.le_trans hkw.le hk1.le), hkw.trans hkb⟩
end Go.Proofs.Ytbefnhagmejpcaa
