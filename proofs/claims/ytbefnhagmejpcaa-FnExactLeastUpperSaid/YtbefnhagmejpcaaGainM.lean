/- The program's gain of a list of sites in any order. No condition. -/
import Derived.Test.YtbefnhagmejpcaaGain
import Derived.Test.YtbefnhagmejpcaaGainN
namespace Go.Proofs.Ytbefnhagmejpcaa
open Go.RowKit Go.Sort

set_option maxRecDepth 100000 in
set_option maxHeartbeats 1000000 in
theorem serverM_any (f : Value) (F : Fld) (i : Nat) (A0 : Option Addr) (S : List Int) (n c0 : Nat) (w : World) (hf : FldAt w f F) (hS : IntsAt w A0 S) (hn : S.length = n) (hg : goodF F = true) (hs : ∀ x ∈ S, 0 ≤ x ∧ x < (F.op.length : Int)) (hne : S ≠ []) (hi : i < F.di.length) :
    Calls Try.prog 112 #[f, .int .i64 i, .slice A0 n c0] w fun e w' => e = .returned (.int .i64 (siteF F i S)) ∧ Kp w w' := by
  obtain ⟨A, c, B, d, rfl, hA, hB⟩ := hf
  have hk0 : Kp w (w.alloc (.cells #[.slice A F.op.length c, .slice B F.di.length d] 29)) := (Kp.refl w).alloc _
  obtain ⟨d0, d1⟩ := box2 w (.slice A F.op.length c) (.slice B F.di.length d) 29
  have hB0 := hB.kp hk0
  have hS0 := hS.kp hk0
  have hpos : 0 < n := by rw [← hn]; exact List.length_pos_iff.2 hne
  have hnb := hS.1
  rw [hn] at hnb
  have Hn := Lib.hid hn; clear hn
  have Hm := Lib.hid hs
  have Hne := Lib.hid hne
  have hrl := Lib.hid (goodRow hg hi)
  have hd7 := (goodF_iff.1 hg).2.2.1
  clear hs hg hne
  have lx0 : 0 < S.length := by rw [Hn.out]; exact hpos
  obtain ⟨sd, rfl, hc0⟩ := hS0.at_ lx0
  have hz := Lib.hid (siteTo_zero (F := F) (i := i) lx0)
  rw [show sd.add 0 = sd from rfl] at hc0
  have hp1 : (0 : Int) < n := by omega
  obtain ⟨bd, A', c', rfl, hcr, hr⟩ := hB0.at_ hi
  go_enter Try.func112, Try.ntmps112
  go_wp2_with fail
  generalize w.alloc (.cells #[.slice A F.op.length c, .slice (some bd) F.di.length d] 29) = wb at *
  go_loopw [7, 15] (fun bv ix wr => ∃ k : Nat, k ≤ n ∧ ix = .int .i64 k ∧ bv = .int .i64 (siteTo F i S k) ∧ Dr wb wr) (fun _ ix _ => n - (intOf ix).toNat)
  case atStart => exact ⟨0, by omega, rfl, by rw [hz.out], Dr.refl _⟩
  case round =>
    obtain ⟨k, hk, rfl, rfl, hdr⟩ := hrel
    have e1 := hdr.kp.get d1
    by_cases hlt : k < n
    · have lx : k < S.length := by rw [Hn.out]; exact hlt
      have hck := (hS0.kp hdr.kp).some_ lx
      obtain ⟨ha0, ha1⟩ := Hm.out _ (List.getElem_mem lx)
      obtain ⟨hb0, hb1⟩ := Hm.out _ (siteTo_mem (F := F) (i := i) Hne.out k)
      rw [← hrl.out] at ha1 hb1
      have hrow := (hB0.kp hdr.kp).some_ hi
      obtain ⟨A2, c2, hcr2, hr2⟩ := hrow
      have hpl : 0 < F.di[i].length := by omega
      obtain ⟨rd, rfl, _⟩ := hr2.at_ hpl
      have hda := dCell hi hr2 ha0 ha1
      have hdb := dCell hi hr2 hb0 hb1
      have hsucc := Lib.hid (siteTo_succ (F := F) (i := i) lx)
      go_wp2_with fail
      go_quiet (fail)
      go_wp2_with fail
      · have h2 : dAt F i S[k] < dAt F i (siteTo F i S k) := by assumption
        go_roundw
        case rel => exact ⟨k + 1, by omega, by go_num, by rw [hsucc.out, stepS_lt h2], hdr.drewN nq⟩
        case measure => simp [intOf]; omega
      · have h2 : dAt F i (siteTo F i S k) ≤ dAt F i S[k] := by assumption
        go_roundw
        case rel => exact ⟨k + 1, by omega, by go_num, by rw [hsucc.out, stepS_ge h2], hdr.drewN nq⟩
        case measure => simp [intOf]; omega
    · go_wp2_with fail
      go_ret
      exact ⟨ret_int (by rw [siteTo_all (by rw [Hn.out]; omega)]), hk0.trans hdr.kp⟩

set_option maxHeartbeats 1000000 in
theorem servedM_any (f : Value) (F : Fld) (A0 : Option Addr) (S : List Int) (n c0 : Nat) (w : World) (hf : FldAt w f F) (hS : IntsAt w A0 S) (hn : S.length = n) (hg : goodF F = true) (hs : ∀ x ∈ S, 0 ≤ x ∧ x < (F.op.length : Int)) (hne : S ≠ []) :
    Calls Try.prog 103 #[f, .slice A0 n c0] w fun e w' => ∃ v, e = .returned v ∧ Own w' w.heap.size v (mapTo (fun i => siteF F i S) F.di.length) ∧ Kp w w' := by
  obtain ⟨A, c, B, d, rfl, hA, hB⟩ := hf
  have hk0 : Kp w (w.alloc (.cells #[.slice A F.op.length c, .slice B F.di.length d] 29)) := (Kp.refl w).alloc _
  obtain ⟨d0, d1⟩ := box2 w (.slice A F.op.length c) (.slice B F.di.length d) 29
  have hFA := FldAt.kp (show FldAt w (.agg #[.slice A F.op.length c, .slice B F.di.length d]) F from ⟨A, c, B, d, rfl, hA, hB⟩) hk0
  have hS0 := hS.kp hk0
  have Hn := Lib.hid hn; clear hn
  have hd7 := (goodF_iff.1 hg).2.2.1
  have Hg := Lib.hid hg; have Hs := Lib.hid hs; have Hne := Lib.hid hne
  clear hg hs hne hA hB hS
  have hs1 : w.heap.size + 1 ≤ (w.alloc (.cells #[.slice A F.op.length c, .slice B F.di.length d] 29)).heap.size := by simp
  have hs2 : (w.alloc (.cells #[.slice A F.op.length c, .slice B F.di.length d] 29)).heap.size ≤ w.heap.size + 1 := by simp
  go_enter Try.func103, Try.ntmps103
  go_wp2_with fail
  generalize w.alloc (.cells #[.slice A F.op.length c, .slice B F.di.length d] 29) = wb at *
  have ho0 := own_new0 wb (w.heap.size + 1) hs1
  rw [Nat.le_antisymm hs2 hs1] at ho0
  go_loopw [5, 11] (fun ov ix wr => ∃ k : Nat, k ≤ F.di.length ∧ ix = .int .i64 k ∧ Own wr (w.heap.size + 1) ov (mapTo (fun i => siteF F i S) k) ∧ Kp wb wr) (fun _ ix _ => F.di.length - (intOf ix).toNat)
  case atStart => exact ⟨0, by omega, rfl, ho0, (Kp.refl wb).alloc _⟩
  case round =>
    obtain ⟨k, hk, rfl, hown, hkp⟩ := hrel
    have e0 := hkp.get d0; have e1 := hkp.get d1
    by_cases hlt : k < F.di.length
    · go_wp2_with fail
      have CC := Lib.hid (serverM_any _ F k A0 S n c0 wr (hFA.kp hkp) (hS0.kp hkp) Hn.out Hg.out Hs.out Hne.out hlt)
      with_reducible refine Calls.mono CC.out ?_
      rintro e w1 ⟨rfl, hk1⟩
      clear CC
      have ho2 := hown.kp hk1
      have hk3 := hkp.trans hk1
      have hbl : w.heap.size + 1 ≤ w1.heap.size := Nat.le_trans hs1 hk3.le
      have hlen := Lib.hid (mapTo_len (fun i => siteF F i S) k)
      have hlen2 : (mapTo (fun i => siteF F i S) k).length < 1048576 := by rw [hlen.out]; omega
      go_wp2_with (at_builtin; refine wpl_app rfl (.tmp 14) (.tmp 19) rfl (w.heap.size + 1) _ (mapTo (fun i => siteF F i S) k) (siteF F k S) rfl rfl ho2 hbl hlen2 ?_; intro v' w' ho' ht' _; have hk4 := ho2.kp_turn hk3 hs2 ht')
      go_roundw
      case rel => exact ⟨k + 1, by omega, by go_num, by rw [mapTo_succ]; exact ho', hk4⟩
      case measure => simp [intOf]; omega
    · obtain rfl : k = F.di.length := by omega
      go_wp2_with fail
      go_ret
      exact ⟨_, rfl, hown.mono (Nat.le_succ _), hk0.trans hkp⟩

set_option maxHeartbeats 1000000 in
theorem lengthsM_any (f : Value) (F : Fld) (A0 : Option Addr) (S : List Int) (n c0 : Nat) (w : World) (hf : FldAt w f F) (hS : IntsAt w A0 S) (hn : S.length = n) (hg : goodF F = true) (hs : ∀ x ∈ S, 0 ≤ x ∧ x < (F.op.length : Int)) (hne : S ≠ []) :
    Calls Try.prog 85 #[f, .slice A0 n c0] w fun e w' => ∃ v, e = .returned v ∧ Own w' w.heap.size v (mapTo (fun i => nearF F i S) F.di.length) ∧ Kp w w' := by
  obtain ⟨A, c, B, d, rfl, hA, hB⟩ := hf
  have hk0 : Kp w (w.alloc (.cells #[.slice A F.op.length c, .slice B F.di.length d] 29)) := (Kp.refl w).alloc _
  obtain ⟨d0, d1⟩ := box2 w (.slice A F.op.length c) (.slice B F.di.length d) 29
  have hFA := FldAt.kp (show FldAt w (.agg #[.slice A F.op.length c, .slice B F.di.length d]) F from ⟨A, c, B, d, rfl, hA, hB⟩) hk0
  have hS0 := hS.kp hk0
  have hB0 := hB.kp hk0
  have Hn := Lib.hid hn; clear hn
  have hd7 := (goodF_iff.1 hg).2.2.1
  have Hg := Lib.hid hg; have Hs := Lib.hid hs; have Hne := Lib.hid hne
  clear hg hs hne hA hB hS
  have hs1 : w.heap.size + 1 ≤ (w.alloc (.cells #[.slice A F.op.length c, .slice B F.di.length d] 29)).heap.size := by simp
  have hs2 : (w.alloc (.cells #[.slice A F.op.length c, .slice B F.di.length d] 29)).heap.size ≤ w.heap.size + 1 := by simp
  go_enter Try.func85, Try.ntmps85
  go_wp2_with fail
  generalize w.alloc (.cells #[.slice A F.op.length c, .slice B F.di.length d] 29) = wb at *
  have ho0 := own_new0 wb (w.heap.size + 1) hs1
  rw [Nat.le_antisymm hs2 hs1] at ho0
  have hkn := (Kp.refl wb).alloc (.cells #[] 3)
  have CC := Lib.hid (servedM_any _ F A0 S n c0 _ (hFA.kp hkn) (hS0.kp hkn) Hn.out Hg.out Hs.out Hne.out)
  with_reducible refine Calls.mono CC.out ?_
  rintro e w1 ⟨v, rfl, hov, hk1⟩
  clear CC
  obtain ⟨Av, cv, rfl, hiv⟩ := hov.ints (by rw [mapTo_len]; omega)
  have hk2 := hkn.trans hk1
  have ho1 := ho0.kp hk1
  have hap : Apart (.slice (some ⟨w.heap.size + 1, 0, none⟩) 0 0) (.slice Av (mapTo (fun i => siteF F i S) F.di.length).length cv) := by
    intro g hg e
    have := (hov.lt g e).1
    simp [Value.ownBlock] at hg this
    omega
  have Hl := Lib.hid (mapTo_len (fun i => siteF F i S) F.di.length)
  obtain ⟨N, hN⟩ : ∃ N, N = (mapTo (fun i => siteF F i S) F.di.length).length := ⟨_, rfl⟩
  have HN : Hid (N = F.di.length) := by show N = _; rw [hN]; exact Hl.out
  rw [← hN] at hov hap ⊢
  have hNl : N ≤ F.di.length := by rw [HN.out]; exact Nat.le_refl _
  have hNg : F.di.length ≤ N := by rw [HN.out]; exact Nat.le_refl _
  clear hN hiv
  go_wp2_with fail
  go_loopw [5, 13] (fun ov ix wr => ∃ k : Nat, k ≤ N ∧ ix = .int .i64 k ∧ Own wr (w.heap.size + 1) ov (mapTo (fun i => nearF F i S) k) ∧ Kp wb wr ∧ Own wr (wb.alloc (.cells #[] 3)).heap.size (.slice Av N cv) (mapTo (fun i => siteF F i S) F.di.length) ∧ Apart ov (.slice Av N cv)) (fun _ ix _ => N - (intOf ix).toNat)
  case atStart => exact ⟨0, by omega, rfl, ho1, hk2, hov, hap⟩
  case round =>
    obtain ⟨k, hk, rfl, hown, hkp, hiw, hap⟩ := hrel
    have e0 := hkp.get d0; have e1 := hkp.get d1
    by_cases hlt : k < N
    · have hltd : k < F.di.length := by omega
      have lx : k < (mapTo (fun i => siteF F i S) F.di.length).length := by rw [mapTo_len]; exact hltd
      obtain ⟨ad, rfl, hc⟩ := (hiw.intsOf (by rw [mapTo_len]; omega)).at_ lx
      rw [mapTo_get hltd] at hc
      obtain ⟨bd, A2, c2, rfl, hcr, hr⟩ := (hB0.kp hkp).at_ hltd
      obtain ⟨s0, s1⟩ := Hs.out (siteF F k S) (siteF_mem Hne.out)
      have hrl := goodRow Hg.out hltd
      rw [← hrl] at s1
      clear hrl
      have hpl : 0 < F.di[k].length := by omega
      obtain ⟨rd, rfl, _⟩ := hr.at_ hpl
      have hdc := dCell hltd hr s0 s1
      have hbl : w.heap.size + 1 ≤ wr.heap.size := Nat.le_trans hs1 hkp.le
      have hlen := Lib.hid (mapTo_len (fun i => nearF F i S) k)
      have hlen2 : (mapTo (fun i => nearF F i S) k).length < 1048576 := by rw [hlen.out]; omega
      go_wp2_with (at_builtin; refine wpl_app rfl (.tmp 18) (.tmp 27) rfl (w.heap.size + 1) _ (mapTo (fun i => nearF F i S) k) (dAt F k (siteF F k S)) rfl rfl hown hbl hlen2 ?_; intro v' w' ho' ht' h4'; have hk4 := hown.kp_turn hkp hs2 ht'; have hi4 := hiw.apart_turn hap ht'; have ha4 := hap.grow hiw h4')
      go_roundw
      case rel => exact ⟨k + 1, by omega, by go_num, by rw [mapTo_succ]; exact ho', hk4, hi4, ha4⟩
      case measure => simp [intOf]; omega
    · obtain rfl : k = N := by omega
      go_wp2_with fail
      go_ret
      exact ⟨_, rfl, by rw [← HN.out]; exact hown.mono (Nat.le_succ _), hk0.trans hkp⟩

set_option maxHeartbeats 1000000 in
theorem gainM_any (f : Value) (F : Fld) (worth : Int) (A0 : Option Addr) (S : List Int) (n c0 : Nat) (w : World) (hf : FldAt w f F) (hS : IntsAt w A0 S) (hn : S.length = n) (hg : goodF F = true) (hs : ∀ x ∈ S, 0 ≤ x ∧ x < (F.op.length : Int)) (hw0 : 0 ≤ worth) (hw1 : worth ≤ 999) :
    Calls Try.prog 56 #[f, .int .i64 worth, .slice A0 n c0] w fun e w' => e = .returned (.int .i64 (gainF F worth S)) ∧ Kp w w' := by
  obtain ⟨A, c, B, d, rfl, hA, hB⟩ := hf
  have hk0 : Kp w (w.alloc (.cells #[.slice A F.op.length c, .slice B F.di.length d] 29)) := (Kp.refl w).alloc _
  obtain ⟨d0, d1⟩ := box2 w (.slice A F.op.length c) (.slice B F.di.length d) 29
  have hFA := FldAt.kp (show FldAt w (.agg #[.slice A F.op.length c, .slice B F.di.length d]) F from ⟨A, c, B, d, rfl, hA, hB⟩) hk0
  have hS0 := hS.kp hk0
  have hnb := hS.1
  have hd7 := (goodF_iff.1 hg).2.2.1
  by_cases hz : n = 0
  · have h1 : ((n : Int) == 0) = true := by simp [hz]
    have hSn : S = [] := List.eq_nil_of_length_eq_zero (by omega)
    have HS := Lib.hid hSn
    clear hz hn hSn
    go_enter Try.func56, Try.ntmps56
    go_wp2_with fail
    go_ret
    exact ⟨ret_int (by rw [HS.out, gainF_nil]), hk0⟩
  · have h1 : ((n : Int) == 0) = false := by simp; omega
    have hne : S ≠ [] := by rintro rfl; simp at hn; omega
    have Hn := Lib.hid hn
    have Hbd := Lib.hid (sumTo_bd (gainAt_bd (F := F) (S := S) hw0 hw1 (fun i => (nearF_bd hg S i).1)))
    have Hnb := Lib.hid (nearF_bd hg S)
    have Hg := Lib.hid hg; have Hs := Lib.hid hs; have Hne := Lib.hid hne
    clear hn hz hg hs hne hA hB hS
    go_enter Try.func56, Try.ntmps56
    go_wp2_with fail
    generalize w.alloc (.cells #[.slice A F.op.length c, .slice B F.di.length d] 29) = wb at *
    have CC := Lib.hid (lengthsM_any _ F A0 S n c0 _ hFA hS0 Hn.out Hg.out Hs.out Hne.out)
    with_reducible refine Calls.mono CC.out ?_
    rintro e w1 ⟨v, rfl, hov, hk1⟩
    clear CC
    obtain ⟨Av, cv, rfl, hiv⟩ := hov.ints (by rw [mapTo_len]; omega)
    rw [mapTo_len]
    go_wp2_with fail
    go_loop [7, 17] (fun sv ix => ∃ k : Nat, k ≤ F.di.length ∧ ix = .int .i64 k ∧ sv = .int .i64 (sumTo (gainAt F worth S) k)) (fun _ ix => F.di.length - (intOf ix).toNat)
    case atStart => exact ⟨0, by omega, rfl, rfl⟩
    case round =>
      obtain ⟨k, hk, rfl, rfl⟩ := hrel
      by_cases hlt : k < F.di.length
      · have lx : k < (mapTo (fun i => nearF F i S) F.di.length).length := by rw [mapTo_len]; exact hlt
        obtain ⟨ad, rfl, hc⟩ := hiv.at_ lx
        rw [mapTo_get hlt] at hc
        obtain ⟨b0, b1⟩ := Hbd.out k
        obtain ⟨t0, t1⟩ := Hnb.out k
        have hsucc := Lib.hid (sumTo_succ (gainAt F worth S) k)
        go_wp2_with fail
        go_round
        case rel => exact ⟨k + 1, by omega, by go_num, by rw [hsucc.out, gainAt_if]⟩
        case measure => simp [intOf]; omega
      · obtain rfl : k = F.di.length := by omega
        go_wp2_with fail
        go_ret
        exact ⟨ret_int (by rw [gainF_cons Hne.out]), hk0.trans hk1⟩

end Go.Proofs.Ytbefnhagmejpcaa
