/- LeastUpper: both walks. No condition. -/
import Derived.Test.YtbefnhagmejpcaaUp3
namespace Go.Proofs.Ytbefnhagmejpcaa
open Go.RowKit Go.Sort

theorem grd_in {F : Fld} {worth : Int} {may : List Int → Bool} : ∀ (j : Nat) (out S : List Int), (∀ x ∈ out, 0 ≤ x ∧ x < (F.op.length : Int)) → ∀ x ∈ grd F worth may j out S, 0 ≤ x ∧ x < (F.op.length : Int)
  | 0, out, S, h => h
  | j + 1, out, S, h => by
    by_cases hn : (nextF F worth may S).1 < 0
    · rw [grd_stop hn]; exact h
    · rw [grd_go hn]
      refine grd_in j _ _ (fun x hx => ?_)
      rcases List.mem_append.1 hx with hx | hx
      · exact h x hx
      · have e : x = (nextF F worth may S).1 := by simpa using hx
        have := (next_new hn).2
        omega
def preS (F : Fld) (L : List Int) (k : Nat) : List Int := bitsL F.op.length (bagN (L.take k))
theorem preS_zero (F : Fld) (L : List Int) : preS F L 0 = [] := by rw [preS, List.take_zero]; exact bits_zero _
theorem preS_succ {F : Fld} {L : List Int} (h : ∀ x ∈ L, 0 ≤ x ∧ x < (F.op.length : Int)) {k : Nat} (hk : k < L.length) : preS F L (k + 1) = putL (preS F L k) L[k] := by
  have h1 := h _ (List.getElem_mem hk)
  rw [preS, bag_next hk, bits_put (by omega), preS, show ((L[k].toNat : Nat) : Int) = L[k] from by omega]
def luTo (F : Fld) (worth : Int) (K : Nat) (L : List Int) : Nat → Int
  | 0 => upF F worth [] K
  | k + 1 => min (luTo F worth K L k) (upF F worth (preS F L (k + 1)) K)
def luR (F : Fld) (worth k : Int) : Int := if grdOk F worth k = true then luTo F worth k.toNat (grdL F worth k) (grdL F worth k).length else 0
theorem lu_no {F : Fld} {worth k : Int} (h : grdOk F worth k = false) : Ending.returned (.tuple #[.int .i64 0, .bool false]) = .returned (.tuple #[.int .i64 (luR F worth k), .bool (grdOk F worth k)]) := by
  simp [luR, h]
theorem lu_yes {F : Fld} {worth : Int} {K : Nat} (h : grdOk F worth K = true) : Ending.returned (.tuple #[.int .i64 (luTo F worth K (grdL F worth K) (grdL F worth K).length), .bool true]) = .returned (.tuple #[.int .i64 (luR F worth K), .bool (grdOk F worth K)]) := by
  simp [luR, h]
set_option maxRecDepth 100000 in
set_option maxHeartbeats 1000000 in
theorem specLu_any (f : Value) (F : Fld) (worth k : Int) (w : World) (hf : FldAt w f F) :
    Calls Try.prog 27 #[f, .int .i64 worth, .int .i64 k] w fun e w' => e = .returned (.tuple #[.int .i64 (luR F worth k), .bool (grdOk F worth k)]) ∧ Kp w w' := by
  obtain ⟨A, c, B, d, rfl, hA, hB⟩ := hf
  have hk0 : Kp w (w.alloc (.cells #[.slice A F.op.length c, .slice B F.di.length d] 29)) := (Kp.refl w).alloc _
  obtain ⟨d0, d1⟩ := box2 w (.slice A F.op.length c) (.slice B F.di.length d) 29
  have hFA := FldAt.kp (show FldAt w (.agg #[.slice A F.op.length c, .slice B F.di.length d]) F from ⟨A, c, B, d, rfl, hA, hB⟩) hk0
  clear hA hB
  go_enter Try.func27, Try.ntmps27
  go_wp2_with fail
  have hsz : Hid ((w.alloc (.cells #[.slice A F.op.length c, .slice B F.di.length d] 29)).heap.size = w.heap.size + 1) := by show _ = _; simp
  generalize w.alloc (.cells #[.slice A F.op.length c, .slice B F.di.length d] 29) = wb at *
  have hkb : Kp wb wb := Kp.refl _
  have hkw := hk0
  have CC := Lib.hid (l8Good_any _ F worth _ (hFA.kp hkb))
  with_reducible refine Calls.mono CC.out ?_
  rintro e w1 ⟨rfl, hk1⟩
  clear CC
  replace hkb := hkb.trans hk1
  cases hg_ : (goodF F && worthB worth)
  · have Hno : Hid (grdOk F worth k = false) := by show grdOk F worth k = false; rw [grdOk, hg_]; rfl
    clear hg_
    have q_d0 := hkb.get d0
    have q_d1 := hkb.get d1
    go_wp2_with fail
    go_ret2
    exact ⟨lu_no Hno.out, hkw.trans hkb⟩
  have Hg := Lib.hid hg_; clear hg_
  have q_d0 := hkb.get d0
  have q_d1 := hkb.get d1
  go_wp2_with fail
  with_reducible refine Calls.mono (l8K_any k _) ?_
  rintro e w2 ⟨rfl, hw⟩
  obtain rfl := hw
  clear q_d0 q_d1
  cases hg_ : inB k 0 7
  · have Hno : Hid (grdOk F worth k = false) := by show grdOk F worth k = false; rw [grdOk, Hg.out, hg_]; rfl
    clear hg_
    have q_d0 := hkb.get d0
    have q_d1 := hkb.get d1
    go_wp2_with fail
    go_ret2
    exact ⟨lu_no Hno.out, hkw.trans hkb⟩
  have Hok : Hid (grdOk F worth k = true) := by show grdOk F worth k = true; rw [grdOk, Hg.out, hg_]; rfl
  clear hg_
  have HP := Lib.hid (grdOk_parts Hok.out)
  have hk0' := HP.out.2.2.1
  have hk7 := HP.out.2.2.2
  have h7 := (goodF_iff.1 HP.out.1).1.2
  obtain ⟨K, rfl⟩ := Int.eq_ofNat_of_zero_le hk0'
  have q_d0 := hkb.get d0
  have q_d1 := hkb.get d1
  go_wp2_with fail
  have CC := Lib.hid (l8Greedy_any _ F worth K _ (hFA.kp hkb) HP.out.1 (by omega) HP.out.2.1.1 HP.out.2.1.2)
  with_reducible refine Calls.mono CC.out ?_
  rintro e w3 ⟨v, rfl, ho, hk3⟩
  clear CC q_d0 q_d1
  replace hkb := hkb.trans hk3
  obtain ⟨L, HL⟩ : ∃ L, Hid (L = grd F worth anyS K [] []) := ⟨_, rfl⟩
  rw [← HL.out] at ho
  have hmem : Hid (∀ x ∈ L, 0 ≤ x ∧ x < (F.op.length : Int)) := by show ∀ x ∈ L, _; rw [HL.out]; exact grd_in K [] [] (by simp)
  have hll : L.length ≤ 7 := by
    rw [HL.out]
    have := grd_len (F := F) (worth := worth) (may := anyS) K [] []
    simp only [List.length_nil] at this
    omega
  have hfin : Hid (luTo F worth K L L.length = luTo F worth K (grdL F worth K) (grdL F worth K).length) := by show _ = _; rw [grdL_yes Hok.out, HL.out]; rfl
  obtain ⟨Av, cv, hve, hiv⟩ := ho.ints (by omega)
  subst hve
  clear ho
  obtain ⟨wc, rfl⟩ : ∃ wc : World, wc = w3 := ⟨_, rfl⟩
  have hn0 := own_new0 wc wc.heap.size (Nat.le_refl _)
  have hka : Kp wc (wc.alloc (.cells #[] 3)) := (Kp.refl _).alloc _
  have hin := hn0.intsOf (by simp)
  replace hkb := hkb.trans hka
  replace hiv := hiv.kp hka
  have q_d0 := hkb.get d0
  have q_d1 := hkb.get d1
  go_wp2_with fail
  have CC := Lib.hid (l8Upper_any _ F worth (some ⟨wc.heap.size, 0, none⟩) [] 0 0 K _ (hFA.kp hkb) hin rfl (Nat.le_refl _) HP.out.1 (bitsL_set (F := F) 0 |> fun h => by rwa [bits_zero] at h) HP.out.2.1.1 HP.out.2.1.2 (by omega))
  with_reducible refine Calls.mono CC.out ?_
  rintro e w4 ⟨rfl, hk4⟩
  clear CC q_d0 q_d1
  replace hkb := hkb.trans hk4
  replace hiv := hiv.kp hk4
  replace hin := hin.kp hk4
  have q_d0 := hkb.get d0
  have q_d1 := hkb.get d1
  go_wp2_with fail
  go_loopw [9, 10, 11] (fun sv lv iv wr => ∃ (k : Nat) (A : Option Addr) (n9 c9 : Nat), k ≤ L.length ∧ iv = .int .i64 k ∧ sv = .slice A n9 c9 ∧ Hid ((preS F L k).length = n9) ∧ n9 ≤ c9 ∧ IntsAt wr A (preS F L k) ∧ lv = .int .i64 (luTo F worth K L k) ∧ IntsAt wr Av L ∧ Kp wb wr) (fun _ _ iv _ => L.length - (intOf iv).toNat)
  case atStart => exact ⟨0, _, 0, 0, by omega, rfl, rfl, by show _ = _; rw [preS_zero]; rfl, by omega, by rw [preS_zero]; exact hin, rfl, hiv, hkb⟩
  case round =>
    obtain ⟨k, A9, n9, c9, hk, rfl, rfl, Hn9, hc9, hS9, rfl, hiv, hkb⟩ := hrel
    by_cases hlt : k < L.length
    · obtain ⟨ad, rfl, hc⟩ := hiv.at_ hlt
      have hset := Lib.hid (bitsL_set (F := F) (bagN (L.take k)))
      have hset2 := Lib.hid (bitsL_set (F := F) (bagN (L.take (k + 1))))
      have hsu := Lib.hid (preS_succ hmem.out hlt)
      have hl9 := bitsL_len F.op.length (bagN (L.take k))
      have hl10 := bitsL_len F.op.length (bagN (L.take (k + 1)))
      have hn97 : n9 ≤ 7 := by rw [← Hn9.out]; exact Nat.le_trans hl9 h7
      clear q_d0 q_d1
      have q_d0 := hkb.get d0
      have q_d1 := hkb.get d1
      go_wp2_with fail
      have CC := Lib.hid (l1Put_any A9 (preS F L k) n9 c9 L[k] _ hS9 Hn9.out (ris_iff.1 hset.out).1 hc9 (by omega))
      with_reducible refine Calls.mono CC.out ?_
      rintro e w5 ⟨A', c', rfl, hc', hi', hk5⟩
      clear CC q_d0 q_d1
      replace hkb := hkb.trans hk5
      replace hiv := hiv.kp hk5
      rw [← hsu.out] at hc' hi' ⊢
      obtain ⟨m9, Hm9⟩ : ∃ m, Hid ((preS F L (k + 1)).length = m) := ⟨_, rfl⟩
      rw [Hm9.out] at hc' ⊢
      have q_d0 := hkb.get d0
      have q_d1 := hkb.get d1
      go_wp2_with fail
      have CC := Lib.hid (l8Upper_any _ F worth A' (preS F L (k + 1)) m9 c' K _ (hFA.kp hkb) hi' Hm9.out hc' HP.out.1 hset2.out HP.out.2.1.1 HP.out.2.1.2 (by omega))
      with_reducible refine Calls.mono CC.out ?_
      rintro e w6 ⟨rfl, hk6⟩
      clear CC q_d0 q_d1
      replace hkb := hkb.trans hk6
      replace hiv := hiv.kp hk6
      replace hi' := hi'.kp hk6
      have q_d0 := hkb.get d0
      have q_d1 := hkb.get d1
      go_wp2_with fail
      with_reducible refine Calls.mono (l1Least_any _ _ _) ?_
      rintro e w7 ⟨rfl, hw⟩
      obtain rfl := hw
      clear q_d0 q_d1
      have q_d0 := hkb.get d0
      have q_d1 := hkb.get d1
      go_wp2_with fail
      go_roundw
      case rel => exact ⟨k + 1, A', m9, c', by omega, by go_num, rfl, Hm9, hc', hi', rfl, hiv, hkb⟩
      case measure => simp [intOf]; omega
    · obtain rfl : k = L.length := by omega
      rw [hfin.out]
      clear q_d0 q_d1
      have q_d0 := hkb.get d0
      have q_d1 := hkb.get d1
      go_wp2_with fail
      go_ret2
      exact ⟨lu_yes Hok.out, hkw.trans hkb⟩
set_option maxRecDepth 100000 in
set_option maxHeartbeats 1000000 in
theorem implLu_any (f : Value) (F : Fld) (worth k : Int) (w : World) (hf : FldAt w f F) :
    Calls Try.prog 28 #[f, .int .i64 worth, .int .i64 k] w fun e w' => e = .returned (.tuple #[.int .i64 (luR F worth k), .bool (grdOk F worth k)]) ∧ Kp w w' := by
  obtain ⟨A, c, B, d, rfl, hA, hB⟩ := hf
  have hk0 : Kp w (w.alloc (.cells #[.slice A F.op.length c, .slice B F.di.length d] 29)) := (Kp.refl w).alloc _
  obtain ⟨d0, d1⟩ := box2 w (.slice A F.op.length c) (.slice B F.di.length d) 29
  have hFA := FldAt.kp (show FldAt w (.agg #[.slice A F.op.length c, .slice B F.di.length d]) F from ⟨A, c, B, d, rfl, hA, hB⟩) hk0
  clear hA hB
  go_enter Try.func28, Try.ntmps28
  go_wp2_with fail
  have hsz : Hid ((w.alloc (.cells #[.slice A F.op.length c, .slice B F.di.length d] 29)).heap.size = w.heap.size + 1) := by show _ = _; simp
  generalize w.alloc (.cells #[.slice A F.op.length c, .slice B F.di.length d] 29) = wb at *
  have hkb : Kp wb wb := Kp.refl _
  have hkw := hk0
  have CC := Lib.hid (implGreedy_any _ F worth k _ (hFA.kp hkb))
  with_reducible refine Calls.mono CC.out ?_
  rintro e w1 ⟨v, rfl, ho, hk1⟩
  clear CC
  replace hkb := hkb.trans hk1
  cases hg_ : grdOk F worth k
  · have Hno := Lib.hid hg_; clear hg_
    obtain ⟨Av, cv, hve, hiv⟩ := ho.ints (by have := grdL_len F worth k; omega)
    subst hve
    have q_d0 := hkb.get d0
    have q_d1 := hkb.get d1
    go_wp2_with fail
    go_ret2
    exact ⟨lu_no Hno.out, hkw.trans hkb⟩
  have Hok := Lib.hid hg_; clear hg_
  have HP := Lib.hid (grdOk_parts Hok.out)
  have hk0' := HP.out.2.2.1
  have hk7 := HP.out.2.2.2
  have h7 := (goodF_iff.1 HP.out.1).1.2
  obtain ⟨K, rfl⟩ := Int.eq_ofNat_of_zero_le hk0'
  obtain ⟨L, HL⟩ : ∃ L, Hid (L = grdL F worth K) := ⟨_, rfl⟩
  rw [← HL.out] at ho
  have hmem : Hid (∀ x ∈ L, 0 ≤ x ∧ x < (F.op.length : Int)) := by show ∀ x ∈ L, _; rw [HL.out, grdL_yes Hok.out]; exact grd_in K [] [] (by simp)
  have hll : L.length ≤ 7 := by
    rw [HL.out, grdL_yes Hok.out]
    have := grd_len (F := F) (worth := worth) (may := anyS) (K : Int).toNat [] []
    simp only [List.length_nil, Int.toNat_natCast] at this ⊢
    omega
  have hfin : Hid (luTo F worth K L L.length = luTo F worth K (grdL F worth K) (grdL F worth K).length) := by show _ = _; rw [HL.out]
  obtain ⟨Av, cv, hve, hiv⟩ := ho.ints (by omega)
  have hcv := ho.cap hve
  subst hve
  clear ho
  have q_d0 := hkb.get d0
  have q_d1 := hkb.get d1
  go_wp2_with fail
  have CC := Lib.hid (upperM_any _ F worth none [] 0 0 K _ (hFA.kp hkb) (IntsAt.nil _ none) rfl HP.out.1 (by simp) HP.out.2.1.1 HP.out.2.1.2 (by omega))
  with_reducible refine Calls.mono CC.out ?_
  rintro e w2 ⟨rfl, hk2⟩
  clear CC q_d0 q_d1
  replace hkb := hkb.trans hk2
  replace hiv := hiv.kp hk2
  have hz : bitsL F.op.length (bagN []) = [] := bits_zero _
  rw [hz]
  clear hz
  have q_d0 := hkb.get d0
  have q_d1 := hkb.get d1
  go_wp2_with fail
  go_loopw [10, 27] (fun lv iv wr => ∃ (k : Nat), k ≤ L.length ∧ iv = .int .i64 k ∧ lv = .int .i64 (luTo F worth K L k) ∧ IntsAt wr Av L ∧ Kp wb wr) (fun _ iv _ => L.length - (intOf iv).toNat)
  case atStart => exact ⟨0, by omega, rfl, rfl, hiv, hkb⟩
  case round =>
    obtain ⟨k, hk, rfl, rfl, hiv, hkb⟩ := hrel
    by_cases hlt : k < L.length
    · obtain ⟨ad, rfl, hc⟩ := hiv.at_ hlt
      obtain ⟨m, Hm⟩ : ∃ m : Nat, Hid (m = k + 1) := ⟨_, rfl⟩
      have hwk : IntKind.i64.wrap ((k : Int) + 1) = (m : Int) := by rw [IntWalk.i64_in _ (by omega), Hm.out]; omega
      have hm1 : (0 : Int) ≤ (m : Int) := by omega
      have hm2 : (m : Int) ≤ (cv : Int) := by rw [Hm.out]; omega
      have hm3 : m ≤ cv := by omega
      have hlk : (L.take (k + 1)).length = m := by rw [List.length_take, Hm.out]; omega
      have Hlk := Lib.hid hlk; clear hlk
      have d6 := hkb.get d0
      have d7 := hkb.get d1
      have hk6 : Kp wr wr := Kp.refl _
      have C1 := Lib.hid (fun (wx : World) (hx : Kp wr wx) => upperM_any _ F worth (some ad) (L.take (k + 1)) m cv K wx (hFA.kp (hkb.trans hx)) ((hiv.take (k + 1)).kp hx) Hlk.out HP.out.1 (fun x hx => hmem.out x (List.mem_of_mem_take hx)) HP.out.2.1.1 HP.out.2.1.2 (by omega))
      clear q_d0 q_d1
      have q_d6 := hk6.get d6
      have q_d7 := hk6.get d7
      have tok1 : True := trivial
      go_wp2_with fail
      go_region_held3 (fun w' => w'.cell? ⟨w.heap.size, 0, none⟩ = some (.slice A F.op.length c) ∧ w'.cell? ⟨w.heap.size, 1, none⟩ = some (.slice B F.di.length d) ∧ Kp wr w')
        (first | (refine keepc2 d6 d7 ?_; exact (by repeat (first | with_reducible assumption | with_reducible exact Kp.refl _ | with_reducible refine Kp.drew ?_ | with_reducible refine Kp.alloc ?_ _ | with_reducible refine Kp.drewN ?_ _))) | fail)
        (first
          | (have _t := tok1; go_at_call 59; with_reducible refine Calls.mono (C1.out _ (by repeat (first | with_reducible assumption | with_reducible exact Kp.refl _ | with_reducible refine Kp.drew ?_ | with_reducible refine Kp.alloc ?_ _ | with_reducible refine Kp.drewN ?_ _))) ?_; rintro e wr1 ⟨rfl, hka⟩; have hr1 : Kp wr wr1 := Kp.trans (by repeat (first | with_reducible assumption | with_reducible exact Kp.refl _ | with_reducible refine Kp.drew ?_ | with_reducible refine Kp.alloc ?_ _ | with_reducible refine Kp.drewN ?_ _)) hka; have tok2 : True := trivial; clear tok1 _t)
          | fail)
      all_goals (try go_wp2_with fail)
      all_goals
        go_roundw
        case rel => exact ⟨k + 1, by omega, by rw [Hm.out], by rw [luTo, preS, ← Hm.out], hiv.kp hr1, hkb.trans hr1⟩
        case measure => have := Hm.out; simp [intOf]; omega
    · obtain rfl : k = L.length := by omega
      rw [hfin.out]
      clear q_d0 q_d1
      have q_d0 := hkb.get d0
      have q_d1 := hkb.get d1
      go_wp2_with fail
      go_ret2
      exact ⟨lu_yes Hok.out, hkw.trans hkb⟩
end Go.Proofs.Ytbefnhagmejpcaa
