/- Sites that no other site beats: the program's answer and the reference's. No condition. -/
import Derived.Test.YtiihkekicfpnoaaVotes
import Derived.Test.YtiihkekicfpnoaaApp
namespace Go.Proofs.Ytiihkekicfpnoaa
open Go.RowKit Go.Sort

/-- b has more votes against a. -/
def beatsB (F : Fld) (a b : Nat) : Bool := decide (votesN F a b < votesN F b a)
def unbB (F : Fld) (a : Nat) : Bool := !(List.range F.op.length).any (beatsB F a)
/-- The first a sites that nobody beats. -/
def unbTo (F : Fld) (a : Nat) : List Int := ((List.range a).filter (unbB F)).map fun (i : Nat) => (i : Int)
def unbL (F : Fld) : List Int := if goodF F = true then unbTo F F.op.length else []
theorem unbTo_len (F : Fld) (a : Nat) : (unbTo F a).length ≤ a := by
  unfold unbTo; rw [List.length_map]; exact Nat.le_trans (List.length_filter_le _ _) (by simp)
theorem unbTo_yes {F : Fld} {a : Nat} (h : unbB F a = true) : unbTo F (a + 1) = unbTo F a ++ [(a : Int)] := by simp [unbTo, List.range_succ, h]
theorem unbTo_no {F : Fld} {a : Nat} (h : unbB F a = false) : unbTo F (a + 1) = unbTo F a := by simp [unbTo, List.range_succ, h]
theorem any_range_succ {p : Nat → Bool} {k : Nat} : (List.range (k + 1)).any p = ((List.range k).any p || p k) := by
  rw [List.range_succ, List.any_append]; simp
theorem votesN_le (F : Fld) (a b : Nat) : votesN F a b ≤ F.di.length := List.countP_le_length
theorem unbL_len (F : Fld) : (unbL F).length ≤ 1048576 := by
  unfold unbL
  split
  · rename_i h
    have := unbTo_len F F.op.length
    have := (goodF_iff.1 h).1.2
    omega
  · simp
theorem unbL_no {F : Fld} (h : goodF F = false) : unbL F = [] := by simp [unbL, h]
theorem unbL_yes {F : Fld} (h : goodF F = true) : unbL F = unbTo F F.op.length := by simp [unbL, h]

set_option maxRecDepth 100000 in
set_option maxHeartbeats 1000000 in
theorem specUnb_any (f : Value) (F : Fld) (w : World) (hf : FldAt w f F) :
    Calls Try.prog 21 #[f] w fun e w' => ∃ v, e = .returned (.tuple #[v, .bool (goodF F)]) ∧ Own w' w.heap.size v (unbL F) ∧ Kp w w' := by
  obtain ⟨A, c, B, d, rfl, hA, hB⟩ := hf
  have hk0 : Kp w (w.alloc (.cells #[.slice A F.op.length c, .slice B F.di.length d] 34)) := (Kp.refl w).alloc _
  obtain ⟨d0, d1⟩ := box2 w (.slice A F.op.length c) (.slice B F.di.length d) 34
  have hFA := FldAt.kp (show FldAt w (.agg #[.slice A F.op.length c, .slice B F.di.length d]) F from ⟨A, c, B, d, rfl, hA, hB⟩) hk0
  have hAl := hA.1
  have hs1 : w.heap.size + 1 ≤ (w.alloc (.cells #[.slice A F.op.length c, .slice B F.di.length d] 34)).heap.size := by simp
  have hs2 : (w.alloc (.cells #[.slice A F.op.length c, .slice B F.di.length d] 34)).heap.size ≤ w.heap.size + 1 := by simp
  go_enter Try.func21, Try.ntmps21
  go_wp2_with fail
  have CC := Lib.hid (l2Good_any _ F _ (hFA.kp ((Kp.refl _).alloc (.cells #[] 3))))
  with_reducible refine Calls.mono CC.out ?_
  rintro e w1 ⟨rfl, hk1⟩
  clear CC
  generalize (w.alloc (.cells #[.slice A F.op.length c, .slice B F.di.length d] 34)) = wb at *
  have hkn := (Kp.refl wb).alloc (.cells #[] 3)
  have hkb := hkn.trans hk1
  have ho0 := (own_new0 wb (w.heap.size + 1) hs1).kp hk1
  rw [Nat.le_antisymm hs2 hs1] at ho0
  have e0 := hkb.get d0; have e1 := hkb.get d1
  cases hg : goodF F
  · have Hg := Lib.hid hg; clear hg
    go_wp2_with fail
    go_ret2
    exact ⟨_, by rw [Hg.out]; rfl, by rw [unbL_no Hg.out]; exact ho0.mono (Nat.le_succ _), hk0.trans hkb⟩
  have Hg := Lib.hid hg; clear hg
  have hG := goodF_iff.1 Hg.out
  have hn1 := hG.1.1
  have hn7 := hG.1.2
  have hd7 := hG.2.2.1
  clear hG
  go_wp2_with fail
  go_loopw [4, 5] (fun ov i wr => ∃ a : Nat, a ≤ F.op.length ∧ i = .int .i64 a ∧ Own wr (w.heap.size + 1) ov (unbTo F a) ∧ Kp wb wr) (fun _ i _ => F.op.length - (intOf i).toNat)
  case atStart => exact ⟨0, by omega, rfl, ho0, hkb⟩
  case round =>
    obtain ⟨a, ha, rfl, hown, hkp⟩ := hrel
    obtain ⟨wo, rfl⟩ : ∃ wo : World, wo = wr := ⟨_, rfl⟩
    have q0 := hkp.get d0; have q1 := hkp.get d1
    by_cases hlt : a < F.op.length
    · go_wp2_with fail
      go_loopw [6, 7] (fun bt j wi => ∃ (b : Nat) (t : Bool), b ≤ F.op.length ∧ j = .int .i64 b ∧ bt = .bool t ∧ Hid (t = (List.range b).any (beatsB F a)) ∧ Kp wo wi) (fun _ j _ => F.op.length - (intOf j).toNat)
      case atStart => exact ⟨0, false, by omega, rfl, rfl, rfl, Kp.refl _⟩
      case round =>
        obtain ⟨b, t, hb, rfl, rfl, Ht, hkq⟩ := hrel
        have f0 := hkq.get q0; have f1 := hkq.get q1
        by_cases hlb : b < F.op.length
        · cases t
          · have r0 := cell_regrown f0; have r1 := cell_regrown f1
            have Cv := Lib.hid (fun (x y : Nat) (hx : x < F.op.length) (hy : y < F.op.length) (dd : Nat) (os : Array Obj) => Calls.regrown_of (l9Votes_any _ F x y _ (((hFA.kp hkp).kp hkq).kp (kp_rg wr dd os)) Hg.out hx hy))
            go_wp2_with fail
            refine wp_region_quiet_below (by kernel_rfl) (by kernel_rfl) ?_
            repeat (quiet_step (with_reducible exact Cv.out _ _ (by assumption) (by assumption) _ _))
            refine wpQuiet_nil ?_
            intro wq hw'
            have hkz := kp_of_rg hw'
            clear hw' r0 r1 Cv
            go_wp2_with fail
            go_roundw
            case rel =>
              refine ⟨b + 1, beatsB F a b, by omega, by go_num, ?_, ?_, hkq.trans hkz⟩
              · simp [beatsB]
              · show beatsB F a b = _
                rw [any_range_succ, ← Ht.out, Bool.false_or]
            case measure => simp [intOf]; omega
          · go_wp2_with fail
            go_quiet (fail)
            go_wp2_with fail
            go_roundw
            case rel =>
              refine ⟨b + 1, true, by omega, by go_num, rfl, ?_, hkq.drewN _⟩
              show true = _
              rw [any_range_succ, ← Ht.out, Bool.true_or]
            case measure => simp [intOf]; omega
        · obtain rfl : b = F.op.length := by omega
          have ho2 := hown.kp hkq
          have hk3 := hkp.trans hkq
          have hlen := unbTo_len F a
          have hbl : w.heap.size + 1 ≤ wr.heap.size := Nat.le_trans hs1 hk3.le
          cases t
          · have hu : Hid (unbB F a = true) := by show unbB F a = true; rw [unbB, ← Ht.out]; rfl
            go_wp2_with (at_builtin; go_loud (refine wpl_app rfl (.tmp 41) (.tmp 43) rfl (w.heap.size + 1) _ (unbTo F a) a rfl rfl ho2 hbl (by omega) ?_); intro v' w' ho' ht'; have hk4 := ho2.kp_turn hk3 hs2 ht')
            go_roundw
            case rel => exact ⟨a + 1, by omega, by go_num, by rw [unbTo_yes hu.out]; exact ho', hk4⟩
            case measure => simp [intOf]; omega
          · have hu : Hid (unbB F a = false) := by show unbB F a = false; rw [unbB, ← Ht.out]; rfl
            go_wp2_with fail
            go_roundw
            case rel => exact ⟨a + 1, by omega, by go_num, by rw [unbTo_no hu.out]; exact ho2, hk3⟩
            case measure => simp [intOf]; omega
    · obtain rfl : a = F.op.length := by omega
      go_wp2_with fail
      go_ret2
      exact ⟨_, by rw [Hg.out]; rfl, by rw [unbL_yes Hg.out]; exact hown.mono (Nat.le_succ _), hk0.trans hkp⟩

set_option maxRecDepth 100000 in
set_option maxHeartbeats 1000000 in
theorem implUnb_any (f : Value) (F : Fld) (w : World) (hf : FldAt w f F) :
    Calls Try.prog 22 #[f] w fun e w' => ∃ v, e = .returned (.tuple #[v, .bool (goodF F)]) ∧ Own w' w.heap.size v (unbL F) ∧ Kp w w' := by
  obtain ⟨A, c, B, d, rfl, hA, hB⟩ := hf
  have hk0 : Kp w (w.alloc (.cells #[.slice A F.op.length c, .slice B F.di.length d] 34)) := (Kp.refl w).alloc _
  obtain ⟨d0, d1⟩ := box2 w (.slice A F.op.length c) (.slice B F.di.length d) 34
  have hFA := FldAt.kp (show FldAt w (.agg #[.slice A F.op.length c, .slice B F.di.length d]) F from ⟨A, c, B, d, rfl, hA, hB⟩) hk0
  have hAl := hA.1
  have hs1 : w.heap.size + 1 ≤ (w.alloc (.cells #[.slice A F.op.length c, .slice B F.di.length d] 34)).heap.size := by simp
  have hs2 : (w.alloc (.cells #[.slice A F.op.length c, .slice B F.di.length d] 34)).heap.size ≤ w.heap.size + 1 := by simp
  go_enter Try.func22, Try.ntmps22
  go_wp2_with fail
  have CC := Lib.hid (isField_any _ F _ hFA)
  with_reducible refine Calls.mono CC.out ?_
  rintro e w1 ⟨rfl, hk1⟩
  clear CC
  generalize (w.alloc (.cells #[.slice A F.op.length c, .slice B F.di.length d] 34)) = wb at *
  have hkb := hk1
  have e0 := hkb.get d0; have e1 := hkb.get d1
  cases hg : goodF F
  · have Hg := Lib.hid hg; clear hg
    go_wp2_with fail
    go_ret2
    exact ⟨_, by rw [Hg.out]; rfl, by rw [unbL_no Hg.out]; exact Own.nil _ _, hk0.trans hkb⟩
  have Hg := Lib.hid hg; clear hg
  have hG := goodF_iff.1 Hg.out
  have hn1 := hG.1.1
  have hn7 := hG.1.2
  have hd7 := hG.2.2.1
  clear hG
  have ho0 := own_new0 w1 (w.heap.size + 1) (Nat.le_trans hs1 hk1.le)
  have hkn := hk1.alloc (.cells #[] 3)
  replace e0 := hkn.get d0
  replace e1 := hkn.get d1
  go_wp2_with fail
  go_loopw [4, 15] (fun ov ix wr => ∃ a : Nat, a ≤ F.op.length ∧ ix = .int .i64 a ∧ Own wr (w.heap.size + 1) ov (unbTo F a) ∧ Kp wb wr) (fun _ ix _ => F.op.length - (intOf ix).toNat)
  case atStart => exact ⟨0, by omega, rfl, ho0, hkn⟩
  case round =>
    obtain ⟨a, ha, rfl, hown, hkp⟩ := hrel
    obtain ⟨wo, rfl⟩ : ∃ wo : World, wo = wr := ⟨_, rfl⟩
    have q0 := hkp.get d0; have q1 := hkp.get d1
    by_cases hlt : a < F.op.length
    · go_wp2_with fail
      go_loopw [6, 21] (fun bt jx wi => ∃ (b : Nat) (t : Bool), b ≤ F.op.length ∧ jx = .int .i64 b ∧ bt = .bool t ∧ Hid (t = (List.range b).any (beatsB F a)) ∧ Kp wo wi) (fun _ jx _ => F.op.length - (intOf jx).toNat)
      case atStart => exact ⟨0, false, by omega, rfl, rfl, rfl, Kp.refl _⟩
      case round =>
        obtain ⟨b, t, hb, rfl, rfl, Ht, hkq⟩ := hrel
        have f0 := hkq.get q0; have f1 := hkq.get q1
        by_cases hlb : b < F.op.length
        · cases t
          · have r0 := cell_regrown f0; have r1 := cell_regrown f1
            have Cv := Lib.hid (fun (x y : Nat) (hx : x < F.op.length) (hy : y < F.op.length) (dd : Nat) (os : Array Obj) => Calls.regrown_of (votes_any _ F x y _ (((hFA.kp hkp).kp hkq).kp (kp_rg wr dd os)) Hg.out hx hy))
            go_wp2_with fail
            refine wp_region_quiet_below (by kernel_rfl) (by kernel_rfl) ?_
            repeat (quiet_step (with_reducible exact Cv.out _ _ (by assumption) (by assumption) _ _))
            refine wpQuiet_nil ?_
            intro wq hw'
            have hkz := kp_of_rg hw'
            clear hw' r0 r1 Cv
            go_wp2_with fail
            go_roundw
            case rel =>
              refine ⟨b + 1, beatsB F a b, by omega, by go_num, ?_, ?_, hkq.trans hkz⟩
              · simp [beatsB]
              · show beatsB F a b = _
                rw [any_range_succ, ← Ht.out, Bool.false_or]
            case measure => simp [intOf]; omega
          · go_wp2_with fail
            go_quiet (fail)
            go_wp2_with fail
            go_roundw
            case rel =>
              refine ⟨b + 1, true, by omega, by go_num, rfl, ?_, hkq.drewN _⟩
              show true = _
              rw [any_range_succ, ← Ht.out, Bool.true_or]
            case measure => simp [intOf]; omega
        · obtain rfl : b = F.op.length := by omega
          have ho2 := hown.kp hkq
          have hk3 := hkp.trans hkq
          have hlen := unbTo_len F a
          have hbl : w.heap.size + 1 ≤ wr.heap.size := Nat.le_trans hs1 hk3.le
          cases t
          · have hu : Hid (unbB F a = true) := by show unbB F a = true; rw [unbB, ← Ht.out]; rfl
            go_wp2_with (at_builtin; go_loud (refine wpl_app rfl (.tmp 39) (.tmp 41) rfl (w.heap.size + 1) _ (unbTo F a) a rfl rfl ho2 hbl (by omega) ?_); intro v' w' ho' ht'; have hk4 := ho2.kp_turn hk3 hs2 ht')
            go_roundw
            case rel => exact ⟨a + 1, by omega, by go_num, by rw [unbTo_yes hu.out]; exact ho', hk4⟩
            case measure => simp [intOf]; omega
          · have hu : Hid (unbB F a = false) := by show unbB F a = false; rw [unbB, ← Ht.out]; rfl
            go_wp2_with fail
            go_roundw
            case rel => exact ⟨a + 1, by omega, by go_num, by rw [unbTo_no hu.out]; exact ho2, hk3⟩
            case measure => simp [intOf]; omega
    · obtain rfl : a = F.op.length := by omega
      go_wp2_with fail
      go_ret2
      exact ⟨_, by rw [Hg.out]; rfl, by rw [unbL_yes Hg.out]; exact hown.mono (Nat.le_succ _), hk0.trans hkp⟩
end Go.Proofs.Ytiihkekicfpnoaa
