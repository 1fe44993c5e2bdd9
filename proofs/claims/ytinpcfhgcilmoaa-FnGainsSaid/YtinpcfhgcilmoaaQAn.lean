/- GainTable: reference and program. No condition. -/
import Derived.Test.YtinpcfhgcilmoaaQAl
import Derived.Test.YtinpcfhgcilmoaaQAc
import Derived.Test.YtinpcfhgcilmoaaQAa
namespace Go.Proofs.Ytinpcfhgcilmoaa
open Go.RowKit Go.Sort

def tabF (F : Fld) (worth : Int) (b : Nat) : Int := gainF F worth (bitsL F.op.length b)
def tabOk (F : Fld) (worth : Int) : Bool := goodF F && worthB worth
def tabL (F : Fld) (worth : Int) : List Int := if tabOk F worth = true then mapTo (tabF F worth) (2 ^ F.op.length) else []
theorem tabL_yes {F : Fld} {worth : Int} (h : tabOk F worth = true) : tabL F worth = mapTo (tabF F worth) (2 ^ F.op.length) := if_pos h
theorem tabL_no {F : Fld} {worth : Int} (h : tabOk F worth = false) : tabL F worth = [] := if_neg (by simp [h])
theorem tabOk_parts {F : Fld} {worth : Int} (h : tabOk F worth = true) : goodF F = true ∧ 0 ≤ worth ∧ worth ≤ 999 := by
  simp only [tabOk, worthB, inB, Bool.and_eq_true, decide_eq_true_eq] at h
  exact ⟨h.1, h.2.1, h.2.2⟩
theorem pow7 {n : Nat} (h : n ≤ 7) : 2 ^ n ≤ 128 := Nat.pow_le_pow_right (by omega) h
theorem tabL_len (F : Fld) (worth : Int) : (tabL F worth).length ≤ 1048576 := by
  by_cases h : tabOk F worth = true
  · rw [tabL_yes h, mapTo_len]
    have := pow7 (goodF_iff.1 (tabOk_parts h).1).1.2
    omega
  · rw [tabL_no (by simpa using h)]; simp

set_option maxRecDepth 100000 in
set_option maxHeartbeats 2000000 in
theorem specTab_any (f : Value) (F : Fld) (worth : Int) (w : World) (hf : FldAt w f F) :
    Calls Try.prog 7 #[f, .int .i64 worth] w fun e w' => ∃ v, e = .returned (.tuple #[v, .bool (tabOk F worth)]) ∧ Own w' w.heap.size v (tabL F worth) ∧ Kp w w' := by
  obtain ⟨A, c, B, d, rfl, hA, hB⟩ := hf
  have hk0 : Kp w (w.alloc (.cells #[.slice A F.op.length c, .slice B F.di.length d] 27)) := (Kp.refl w).alloc _
  obtain ⟨d0, d1⟩ := box2 w (.slice A F.op.length c) (.slice B F.di.length d) 27
  have hFA := FldAt.kp (show FldAt w (.agg #[.slice A F.op.length c, .slice B F.di.length d]) F from ⟨A, c, B, d, rfl, hA, hB⟩) hk0
  clear hA hB
  have hs1 : w.heap.size + 1 ≤ (w.alloc (.cells #[.slice A F.op.length c, .slice B F.di.length d] 27)).heap.size := by simp
  have hs2 : (w.alloc (.cells #[.slice A F.op.length c, .slice B F.di.length d] 27)).heap.size ≤ w.heap.size + 1 := by simp
  go_enter Try.func7, Try.ntmps7
  go_wp2_with fail
  have CC := Lib.hid (l8Good_any _ F worth _ (hFA.kp ((Kp.refl _).alloc (.cells #[] 3))))
  with_reducible refine Calls.mono CC.out ?_
  rintro e w1 ⟨rfl, hk1⟩
  clear CC
  generalize (w.alloc (.cells #[.slice A F.op.length c, .slice B F.di.length d] 27)) = wb at *
  have hkn := (Kp.refl wb).alloc (.cells #[] 3)
  have hkb := hkn.trans hk1
  have ho0 := (own_new0 wb (w.heap.size + 1) hs1).kp hk1
  rw [Nat.le_antisymm hs2 hs1] at ho0
  have e0 := hkb.get d0; have e1 := hkb.get d1
  cases hg : (goodF F && worthB worth)
  · have Hg : Hid (tabOk F worth = false) := hg
    clear hg
    go_wp2_with fail
    go_ret2
    exact ⟨_, by rw [Hg.out]; rfl, by rw [tabL_no Hg.out]; exact ho0.mono (Nat.le_succ _), hk0.trans hkb⟩
  have Hg : Hid (tabOk F worth = true) := hg
  clear hg
  have hp := tabOk_parts Hg.out
  have HG := Lib.hid hp.1
  have hw0 := hp.2.1; have hw9 := hp.2.2
  have hn7 := (goodF_iff.1 HG.out).1.2
  clear hp
  obtain ⟨P, HP, hpw, hP⟩ := pow_wrap (F.op.length : Int) (by omega) (by omega)
  rw [Int.toNat_natCast] at hpw
  have HP' : Hid (P = 2 ^ F.op.length) := by show P = _; simpa using HP.out
  go_wp2_with fail
  go_loopw [6, 7] (fun ov ix wr => ∃ a : Nat, a ≤ P ∧ ix = .int .i64 a ∧ Own wr (w.heap.size + 1) ov (mapTo (tabF F worth) a) ∧ Kp wb wr) (fun _ ix _ => P - (intOf ix).toNat)
  case atStart => exact ⟨0, by omega, rfl, ho0, hkb⟩
  case round =>
    obtain ⟨a, ha, rfl, hown, hkp⟩ := hrel
    have q0 := hkp.get d0; have q1 := hkp.get d1
    have hbl : w.heap.size + 1 ≤ wr.heap.size := Nat.le_trans hs1 hkp.le
    by_cases hlt : a < P
    · have hlen := Lib.hid (mapTo_len (tabF F worth) a)
      have hlen2 : (mapTo (tabF F worth) a).length < 1048576 := by rw [hlen.out]; omega
      have hkd := hkp.drew
      have hod := hown.kp (Kp.refl wr).drew
      have C1 := Lib.hid (l2Bits_any F.op.length a wr.drew (by omega) (by omega))
      have HS := Lib.hid (bitsL_set (F := F) a)
      have C2 := Lib.hid (fun (wx : World) (h : Kp wb wx) (Av : Option Addr) (cv : Nat) (hv : IntsAt wx Av (bitsL F.op.length a)) => l8Gain_any _ F worth Av (bitsL F.op.length a) (bitsL F.op.length a).length cv wx (hFA.kp h) hv rfl HG.out HS.out hw0 hw9)
      have hbl2 := bitsL_len F.op.length a
      go_wp2_with fail
      go_region_held3 (fun w' => w'.cell? ⟨w.heap.size, 0, none⟩ = some (.slice A F.op.length c) ∧ w'.cell? ⟨w.heap.size, 1, none⟩ = some (.slice B F.di.length d) ∧ Kp wb w')
        (first | exact keep2 d0 d1 hk4 | exact keep2 d0 d1 (hkB.alloc _) | exact keep2 d0 d1 hkB | exact keep2 d0 d1 hkA | exact keep2 d0 d1 hkd)
        (first
          | (go_at_call 30; with_reducible refine Calls.mono C1.out ?_; rintro e wa ⟨v, rfl, hov, hka⟩; obtain ⟨Av, cv, hve, hiv⟩ := hov.ints (by omega); subst hve; have hkA := hkd.trans hka; have hoA := hod.kp hka)
          | (go_at_call 29; with_reducible refine Calls.mono (C2.out _ hkA _ _ hiv) ?_; rintro e wc ⟨rfl, hkc⟩; have hkB := hkA.trans hkc; have hoB := hoA.kp hkc)
          | (refine step_app (by rfl) (.tmp 22) (.tmp 31) (by rfl) (w.heap.size + 1) _ (mapTo (tabF F worth) a) (tabF F worth a) _ (by rfl) (by rfl) (by rfl) hoB (Nat.le_trans hs1 hkB.le) hlen2 ?_; intro v' w' ho' ht' _; have hk4 := hoB.kp_turn hkB hs2 ht'))
      go_wp2_with fail
      go_roundw
      case rel => exact ⟨a + 1, by omega, by go_num, by rw [mapTo_succ]; exact ho', hk4⟩
      case measure => simp [intOf]; omega
    · obtain rfl : a = P := by omega
      go_wp2_with fail
      go_ret2
      exact ⟨_, by rw [Hg.out]; rfl, by rw [tabL_yes Hg.out, ← HP'.out]; exact hown.mono (Nat.le_succ _), hk0.trans hkp⟩
set_option maxRecDepth 100000 in
set_option maxHeartbeats 2000000 in
theorem implTab_any (f : Value) (F : Fld) (worth : Int) (w : World) (hf : FldAt w f F) :
    Calls Try.prog 6 #[f, .int .i64 worth] w fun e w' => ∃ v, e = .returned (.tuple #[v, .bool (tabOk F worth)]) ∧ Own w' w.heap.size v (tabL F worth) ∧ Kp w w' := by
  obtain ⟨A, c, B, d, rfl, hA, hB⟩ := hf
  have hk0 : Kp w (w.alloc (.cells #[.slice A F.op.length c, .slice B F.di.length d] 27)) := (Kp.refl w).alloc _
  obtain ⟨d0, d1⟩ := box2 w (.slice A F.op.length c) (.slice B F.di.length d) 27
  have hFA := FldAt.kp (show FldAt w (.agg #[.slice A F.op.length c, .slice B F.di.length d]) F from ⟨A, c, B, d, rfl, hA, hB⟩) hk0
  clear hA hB
  have hs1 : w.heap.size + 1 ≤ (w.alloc (.cells #[.slice A F.op.length c, .slice B F.di.length d] 27)).heap.size := by simp
  have hs2 : (w.alloc (.cells #[.slice A F.op.length c, .slice B F.di.length d] 27)).heap.size ≤ w.heap.size + 1 := by simp
  go_enter Try.func6, Try.ntmps6
  go_wp2_with fail
  have CC := Lib.hid (isWorth_any _ F worth none [] 0 0 _ hFA (IntsAt.nil _ none) rfl)
  with_reducible refine Calls.mono CC.out ?_
  rintro e w1 ⟨rfl, hk1⟩
  clear CC
  generalize (w.alloc (.cells #[.slice A F.op.length c, .slice B F.di.length d] 27)) = wb at *
  have e0 := hk1.get d0; have e1 := hk1.get d1
  have hgo : gainOk F worth [] = tabOk F worth := by simp [gainOk, tabOk, setB, risB]
  rw [hgo]
  clear hgo
  cases hg : tabOk F worth
  · have Hg := Lib.hid hg; clear hg
    go_wp2_with fail
    go_ret2
    exact ⟨_, by rw [Hg.out]; rfl, by rw [tabL_no Hg.out]; exact Own.nil _ _, hk0.trans hk1⟩
  have Hg := Lib.hid hg; clear hg
  have ho0 := own_new0 w1 (w.heap.size + 1) (Nat.le_trans hs1 hk1.le)
  have hkb := hk1.alloc (.cells #[] 3)
  replace e0 := hkb.get d0
  replace e1 := hkb.get d1
  have hp := tabOk_parts Hg.out
  have HG := Lib.hid hp.1
  have hw0 := hp.2.1; have hw9 := hp.2.2
  have hn7 := (goodF_iff.1 HG.out).1.2
  clear hp
  obtain ⟨P, HP, hpw, hP⟩ := pow_wrap (F.op.length : Int) (by omega) (by omega)
  rw [Int.toNat_natCast] at hpw
  have HP' : Hid (P = 2 ^ F.op.length) := by show P = _; simpa using HP.out
  have hpu := u64_one_shl (F.op.length : Int) (by omega) (by omega)
  rw [Int.toNat_natCast, ← HP'.out] at hpu
  go_wp2_with fail
  go_loopw [6, 7] (fun ov ix wr => ∃ a : Nat, a ≤ P ∧ ix = .int .u64 a ∧ Own wr (w.heap.size + 1) ov (mapTo (tabF F worth) a) ∧ Kp wb wr) (fun _ ix _ => P - (intOf ix).toNat)
  case atStart => exact ⟨0, by omega, rfl, ho0, hkb⟩
  case round =>
    obtain ⟨a, ha, rfl, hown, hkp⟩ := hrel
    have q0 := hkp.get d0; have q1 := hkp.get d1
    have hbl : w.heap.size + 1 ≤ wr.heap.size := Nat.le_trans hs1 hkp.le
    by_cases hlt : a < P
    · have hlen := Lib.hid (mapTo_len (tabF F worth) a)
      have hlen2 : (mapTo (tabF F worth) a).length < 1048576 := by rw [hlen.out]; omega
      have hkd := hkp.drew
      have hod := hown.kp (Kp.refl wr).drew
      have haP : a < 2 ^ F.op.length := by rw [← HP'.out]; exact hlt
      have C1 := Lib.hid (list_any a F.op.length wr.drew haP (by omega))
      clear haP
      have HS := Lib.hid (bitsL_set (F := F) a)
      have C2 := Lib.hid (fun (wx : World) (h : Kp wb wx) (Av : Option Addr) (cv : Nat) (hv : IntsAt wx Av (bitsL F.op.length a)) => gain_any _ F worth Av (bitsL F.op.length a) (bitsL F.op.length a).length cv wx (hFA.kp h) hv rfl HG.out HS.out hw0 hw9)
      have hbl2 := bitsL_len F.op.length a
      go_wp2_with fail
      go_region_held3 (fun w' => w'.cell? ⟨w.heap.size, 0, none⟩ = some (.slice A F.op.length c) ∧ w'.cell? ⟨w.heap.size, 1, none⟩ = some (.slice B F.di.length d) ∧ Kp wb w')
        (first | exact keep2 d0 d1 hk4 | exact keep2 d0 d1 (hkB.alloc _) | exact keep2 d0 d1 hkB | exact keep2 d0 d1 hkA | exact keep2 d0 d1 hkd)
        (first
          | (go_at_call 27; with_reducible refine Calls.mono C1.out ?_; rintro e wa ⟨v, rfl, hov, hka⟩; obtain ⟨Av, cv, hve, hiv⟩ := hov.ints (by omega); subst hve; have hkA := hkd.trans hka; have hoA := hod.kp hka)
          | (go_at_call 26; with_reducible refine Calls.mono (C2.out _ hkA _ _ hiv) ?_; rintro e wc ⟨rfl, hkc⟩; have hkB := hkA.trans hkc; have hoB := hoA.kp hkc)
          | (refine step_app (by rfl) (.tmp 21) (.tmp 27) (by rfl) (w.heap.size + 1) _ (mapTo (tabF F worth) a) (tabF F worth a) _ (by rfl) (by rfl) (by rfl) hoB (Nat.le_trans hs1 hkB.le) hlen2 ?_; intro v' w' ho' ht' _; have hk4 := hoB.kp_turn hkB hs2 ht'))
      go_wp2_with fail
      go_roundw
      case rel => exact ⟨a + 1, by omega, by go_num, by rw [mapTo_succ]; exact ho', hk4⟩
      case measure => simp [intOf]; omega
    · obtain rfl : a = P := by omega
      go_wp2_with fail
      go_ret2
      exact ⟨_, by rw [Hg.out]; rfl, by rw [tabL_yes Hg.out, ← HP'.out]; exact hown.mono (Nat.le_succ _), hk0.trans hkp⟩
end Go.Proofs.Ytinpcfhgcilmoaa
