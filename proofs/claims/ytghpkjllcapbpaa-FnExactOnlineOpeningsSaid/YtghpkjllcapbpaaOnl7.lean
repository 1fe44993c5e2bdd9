/- OnlineOpenings: reference and program. No condition. -/
import Derived.Test.YtghpkjllcapbpaaOnl6
import Derived.Test.YtghpkjllcapbpaaGridRes
namespace Go.Proofs.Ytghpkjllcapbpaa
open Go.RowKit Go.Sort

def ooL (F : Fld) : List (List Int) := if goodF F = true then (onS F F.di.length).1 else []
theorem ooL_sm (F : Fld) : GSm (ooL F) := by
  unfold ooL
  by_cases h : goodF F = true
  · rw [if_pos h]
    have g := goodF_iff.1 h
    refine ⟨by rw [onS_len]; omega, fun j => ?_⟩
    by_cases hj : j < (onS F F.di.length).1.length
    · have e : (onS F F.di.length).1.getD j [] = (onS F F.di.length).1[j] := by simp [List.getD, hj]
      rw [e]
      have := (onS_rows h F.di.length _ (List.getElem_mem hj)).2
      omega
    · have e : (onS F F.di.length).1.getD j [] = [] := by simp [List.getD, List.getElem?_eq_none (Nat.le_of_not_lt hj)]
      rw [e]; simp
  · rw [if_neg h]
    exact ⟨by simp, fun j => by simp⟩
theorem ooL_yes {F : Fld} (h : goodF F = true) : ooL F = (onS F F.di.length).1 := if_pos h
theorem ooL_no {F : Fld} (h : goodF F = false) : ooL F = [] := if_neg (by simp [h])
theorem own_grid_nil (w : World) (base : Nat) : OwnGrid w base (.slice none 0 0) ([] : List (List Int)).length (rowAt []) :=
  ⟨fun _ => .slice none 0 0, World.ownsRow_nil _ _ _ _, fun j hj => absurd hj (by simp), fun i j g _ hj => absurd hj (by simp)⟩
set_option maxRecDepth 100000 in
set_option maxHeartbeats 400000 in
theorem specOo_any (f : Value) (F : Fld) (w : World) (hf : FldAt w f F) :
    Calls Try.prog 33 #[f] w fun e w' => ∃ v, e = .returned (.tuple #[v, .bool (goodF F)]) ∧ GridV w' v (ooL F) ∧ Kp w w' := by
  obtain ⟨A, c, B, d, rfl, hA, hB⟩ := hf
  have hk0 : Kp w (w.alloc (.cells #[.slice A F.op.length c, .slice B F.di.length d] 54)) := (Kp.refl w).alloc _
  obtain ⟨d0, d1⟩ := box2 w (.slice A F.op.length c) (.slice B F.di.length d) 54
  have hFA := FldAt.kp (show FldAt w (.agg #[.slice A F.op.length c, .slice B F.di.length d]) F from ⟨A, c, B, d, rfl, hA, hB⟩) hk0
  clear hA hB
  go_enter Try.func33, Try.ntmps33
  go_wp2_with fail
  have hsz : Hid ((w.alloc (.cells #[.slice A F.op.length c, .slice B F.di.length d] 54)).heap.size = w.heap.size + 1) := by show _ = _; simp
  generalize w.alloc (.cells #[.slice A F.op.length c, .slice B F.di.length d] 54) = wb at *
  have hkb : Kp wb wb := Kp.refl _
  have hkw := hk0
  have q_d0 := hkb.get d0
  have q_d1 := hkb.get d1
  go_wp2_with fail
  have CC := Lib.hid (l2Good_any _ F _ (hFA.kp hkb))
  with_reducible refine Calls.mono CC.out ?_
  rintro e w1 ⟨rfl, hk1⟩
  clear CC q_d0 q_d1
  replace hkb := hkb.trans hk1
  cases hg_ : goodF F
  · have Hno := Lib.hid hg_
    clear hg_
    have q_d0 := hkb.get d0
    have q_d1 := hkb.get d1
    go_wp2_with fail
    go_ret2
    exact ⟨.slice (some ⟨w1.heap.size, 0, none⟩) 0 0, by rw [Hno.out]; rfl, by rw [ooL_no Hno.out]; exact ⟨some ⟨w1.heap.size, 0, none⟩, 0, rfl, by simp, fun k hk => absurd hk (by simp)⟩, (hkw.trans hkb).alloc _⟩
  have Hg := Lib.hid hg_
  clear hg_
  have q_d0 := hkb.get d0
  have q_d1 := hkb.get d1
  go_wp2_with fail
  have CC := Lib.hid (l10Online_any _ F _ (hFA.kp hkb) Hg.out)
  with_reducible refine Calls.mono CC.out ?_
  rintro e w2 ⟨v, rfl, hov, hk2⟩
  clear CC q_d0 q_d1
  replace hkb := hkb.trans hk2
  have q_d0 := hkb.get d0
  have q_d1 := hkb.get d1
  go_wp2_with fail
  go_ret2
  exact ⟨v, by rw [Hg.out]; rfl, by rw [ooL_yes Hg.out]; exact hov.gridv (by rw [← ooL_yes Hg.out]; exact ooL_sm F), hkw.trans hkb⟩
set_option maxRecDepth 100000 in
set_option maxHeartbeats 400000 in
theorem implOo_any (f : Value) (F : Fld) (w : World) (hf : FldAt w f F) :
    Calls Try.prog 35 #[f] w fun e w' => ∃ v, e = .returned (.tuple #[v, .bool (goodF F)]) ∧ OwnGrid w' w.heap.size v (ooL F).length (rowAt (ooL F)) ∧ Kp w w' := by
  obtain ⟨A, c, B, d, rfl, hA, hB⟩ := hf
  have hk0 : Kp w (w.alloc (.cells #[.slice A F.op.length c, .slice B F.di.length d] 54)) := (Kp.refl w).alloc _
  obtain ⟨d0, d1⟩ := box2 w (.slice A F.op.length c) (.slice B F.di.length d) 54
  have hFA := FldAt.kp (show FldAt w (.agg #[.slice A F.op.length c, .slice B F.di.length d]) F from ⟨A, c, B, d, rfl, hA, hB⟩) hk0
  clear hA hB
  go_enter Try.func35, Try.ntmps35
  go_wp2_with fail
  have hsz : Hid ((w.alloc (.cells #[.slice A F.op.length c, .slice B F.di.length d] 54)).heap.size = w.heap.size + 1) := by show _ = _; simp
  generalize w.alloc (.cells #[.slice A F.op.length c, .slice B F.di.length d] 54) = wb at *
  have hkb : Kp wb wb := Kp.refl _
  have hkw := hk0
  have q_d0 := hkb.get d0
  have q_d1 := hkb.get d1
  go_wp2_with fail
  have CC := Lib.hid (isField_any _ F _ (hFA.kp hkb))
  with_reducible refine Calls.mono CC.out ?_
  rintro e w1 ⟨rfl, hk1⟩
  clear CC q_d0 q_d1
  replace hkb := hkb.trans hk1
  cases hg_ : goodF F
  · have Hno := Lib.hid hg_
    clear hg_
    have q_d0 := hkb.get d0
    have q_d1 := hkb.get d1
    go_wp2_with fail
    go_ret2
    exact ⟨.slice none 0 0, by rw [Hno.out]; rfl, by rw [ooL_no Hno.out]; exact own_grid_nil _ _, hkw.trans hkb⟩
  have Hg := Lib.hid hg_
  clear hg_
  have q_d0 := hkb.get d0
  have q_d1 := hkb.get d1
  go_wp2_with fail
  have CC := Lib.hid (online_any _ F _ (hFA.kp hkb) Hg.out)
  with_reducible refine Calls.mono CC.out ?_
  rintro e w2 ⟨v, u, rfl, hgo, hlo, hk2⟩
  clear CC q_d0 q_d1
  replace hkb := hkb.trans hk2
  have hbs := (hkw.trans hkb).le
  have q_d0 := hkb.get d0
  have q_d1 := hkb.get d1
  go_wp2_with fail
  go_ret2
  exact ⟨v, by rw [Hg.out]; rfl, by rw [ooL_yes Hg.out]; exact (hgo.mono (Nat.le_trans hkw.le hk1.le)).grid, hkw.trans hkb⟩
end Go.Proofs.Ytghpkjllcapbpaa
