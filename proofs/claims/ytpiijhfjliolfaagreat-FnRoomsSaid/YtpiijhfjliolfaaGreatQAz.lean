/- FnRooms: the program's reach of a set and the least one. No condition. -/
import Derived.Test.YtpiijhfjliolfaaGreatQAy
import Derived.Test.YtpiijhfjliolfaaGreatQAx
namespace Go.Proofs.YtpiijhfjliolfaaGreat
open Go.RowKit Go.Sort

/-- The greatest of the first numbers. -/
def mxT (xs : List Int) : Nat → Int
  | 0 => lget xs 0
  | k + 1 => max (mxT xs k) (lget xs k)
theorem mxT_one (xs : List Int) : mxT xs 1 = lget xs 0 := by
  show max (lget xs 0) (lget xs 0) = _
  omega
theorem mxT_reach {F : Fld} {S : List Int} (hg : goodF F = true) {xs : List Int} (hx : ∀ k, k < F.di.length → lget xs k = nearF F k S) : ∀ k, k < F.di.length → mxT xs (k + 1) = reachTo F S (k + 1)
  | 0, h => by
    rw [mxT_one, hx 0 h]
    have := (nearF_bd hg S 0).1
    show _ = max 0 (nearF F 0 S)
    omega
  | k + 1, h => by
    show max (mxT xs (k + 1)) (lget xs (k + 1)) = max (reachTo F S (k + 1)) _
    rw [mxT_reach hg hx k (by omega), hx _ h]
theorem mxT_all {F : Fld} {S : List Int} (hg : goodF F = true) : mxT (mapTo (fun i => nearF F i S) F.di.length ++ [0]) (F.di.length + 1) = reachF F S := by
  have hl : (mapTo (fun i => nearF F i S) F.di.length ++ [(0 : Int)]).length = F.di.length + 1 := by rw [List.length_append, mapTo_len]; rfl
  have h0 : lget (mapTo (fun i => nearF F i S) F.di.length ++ [0]) F.di.length = 0 := by
    rw [lget_at (by omega)]
    rw [List.getElem_append_right (by rw [mapTo_len]; exact Nat.le_refl _)]
    simp
  have hx : ∀ k, k < F.di.length → lget (mapTo (fun i => nearF F i S) F.di.length ++ [0]) k = nearF F k S := fun k hk => by
    rw [lget_at (by omega), List.getElem_append_left (by rw [mapTo_len]; exact hk)]
    exact mapTo_get hk _
  show max (mxT _ F.di.length) (lget _ F.di.length) = _
  rw [h0]
  unfold reachF
  cases hd : F.di.length with
  | zero =>
    rw [hd] at h0
    show max (lget _ 0) 0 = 0
    rw [h0]; rfl
  | succ k =>
    rw [hd] at hx
    have h2 := mxT_reach (F := F) (S := S) hg (xs := mapTo (fun i => nearF F i S) (k + 1) ++ [0]) (fun i hi => hx i (by omega)) k (by omega)
    rw [h2]
    have := (reachTo_bd hg S (k + 1)).1
    omega
set_option maxRecDepth 100000 in
set_option maxHeartbeats 1000000 in
theorem maxI_any (A : Option Addr) (xs : List Int) (L c : Nat) (w : World) (hx : IntsAt w A xs) (hn : xs.length = L) (h0 : 0 < L) (hL : L ≤ 1048576) :
    Calls Tryz.prog 100 #[.slice A L c] w fun e w' => e = .returned (.int .i64 (mxT xs L)) ∧ w = w' := by
  have Hn := Lib.hid hn
  clear hn
  obtain ⟨ad, rfl, y0⟩ := hx.at_ (show 0 < xs.length by rw [Hn.out]; exact h0)
  rw [show ad.add 0 = ad from by unfold Addr.add; simp] at y0
  have e0 : xs[0]'(by rw [Hn.out]; exact h0) = mxT xs 1 := by rw [mxT_one, lget_at (by rw [Hn.out]; exact h0)]
  rw [e0] at y0
  clear e0
  have hI : (0 : Int) < (L : Int) := by omega
  have p1 : decide ((L : Int) < 1) = false := decide_eq_false (by omega)
  go_enter Tryz.func100, Tryz.ntmps100
  go_wp2_with fail
  go_loopw [3, 4] (fun mv iv wr => ∃ k : Nat, mv = .int .i64 (mxT xs k) ∧ iv = .int .i64 k ∧ 1 ≤ k ∧ k ≤ L ∧ w = wr) (fun _ iv _ => L - (intOf iv).toNat)
  case atStart => exact ⟨1, rfl, rfl, by omega, by omega, rfl⟩
  case round =>
    clear y0
    obtain ⟨k, rfl, rfl, hk1, hk, rfl⟩ := hrel
    obtain ⟨mv, hmv⟩ : ∃ z, mxT xs k = z := ⟨_, rfl⟩
    by_cases hlt : k < L
    · have lx : k < xs.length := by rw [Hn.out]; exact hlt
      have hltI : (k : Int) < (L : Int) := by omega
      have y1 := hx.some_ lx
      obtain ⟨z, hz⟩ : ∃ z, xs[k] = z := ⟨_, rfl⟩
      rw [hz] at y1
      have hs : mxT xs (k + 1) = max mv z := by
        show max (mxT xs k) (lget xs k) = _
        rw [hmv, lget_at lx, hz]
      have e8 : ((k : Int)).toNat = k := Int.toNat_natCast k
      rw [hmv]
      clear hz hmv
      have HS := Lib.hid hs
      clear hs
      go_wp2_with fail
      go_roundw
      case rel => exact ⟨k + 1, by first | (rw [HS.out]; done) | (rw [HS.out]; congr 1; split <;> omega), by go_num, by omega, by omega, trivial⟩
      case measure => simp [intOf]; omega
    · obtain rfl : k = L := by omega
      go_wp2_with fail
      go_ret
      exact ⟨rfl, rfl⟩
set_option maxRecDepth 100000 in
set_option maxHeartbeats 1000000 in
theorem reach_any (f : Value) (F : Fld) (A0 : Option Addr) (S : List Int) (n c0 : Nat) (w : World) (hf : FldAt w f F) (hS : IntsAt w A0 S) (hn : S.length = n) (hg : goodF F = true) (hs : setB F S = true) (hne : S ≠ []) :
    Calls Tryz.prog 61 #[f, .slice A0 n c0] w fun e w' => e = .returned (.int .i64 (reachF F S)) ∧ Kp w w' := by
  have h7 := (goodF_iff.1 hg).2.2.1
  obtain ⟨A, c, B, d, rfl, hA, hB⟩ := hf
  have hk0 : Kp w (w.alloc (.cells #[.slice A F.op.length c, .slice B F.di.length d] 27)) := (Kp.refl w).alloc _
  obtain ⟨d0, d1⟩ := box2 w (.slice A F.op.length c) (.slice B F.di.length d) 27
  have hFA := FldAt.kp (show FldAt w (.agg #[.slice A F.op.length c, .slice B F.di.length d]) F from ⟨A, c, B, d, rfl, hA, hB⟩) hk0
  replace hS := hS.kp hk0
  have Hr := Lib.hid (mxT_all (F := F) (S := S) hg)
  have CC := Lib.hid (fun (wx : World) (hx : Kp (w.alloc (.cells #[.slice A F.op.length c, .slice B F.di.length d] 27)) wx) => lengths_any _ F A0 S n c0 wx (hFA.kp hx) (hS.kp hx) hn hg hs hne)
  clear hA hB
  go_enter Tryz.func61, Tryz.ntmps61
  go_wp2_with fail
  have hsz : Hid ((w.alloc (.cells #[.slice A F.op.length c, .slice B F.di.length d] 27)).heap.size = w.heap.size + 1) := by show _ = _; simp
  generalize w.alloc (.cells #[.slice A F.op.length c, .slice B F.di.length d] 27) = wb at *
  have hkb : Kp wb wb := Kp.refl _
  have hkw := hk0
  with_reducible refine Calls.mono (CC.out wb (Kp.refl _)) ?_
  rintro e w1 ⟨v, rfl, ho, hk1⟩
  clear CC
  obtain ⟨xs, Hxs⟩ : ∃ xs, Hid (mapTo (fun i => nearF F i S) F.di.length = xs) := ⟨_, Lib.hid rfl⟩
  have hl : xs.length = F.di.length := by rw [← Hxs.out]; exact mapTo_len _ _
  rw [Hxs.out] at ho Hr
  have hb1 : wb.heap.size ≤ w1.heap.size := hk1.le
  have hl2 : xs.length < 1048576 := by omega
  go_wp2_with (first | (at_builtin; go_loud (refine wpl_app rfl (.tmp 7) (.tmp 8) rfl wb.heap.size _ xs 0 rfl rfl ho hb1 hl2 ?_); intro v2 w2 ho2 ht2 h42) | fail)
  have hk2 : Kp wb w2 := hk1.turn ht2 (fun i hi => (ho.lt i hi).1)
  obtain ⟨A2, c2, e2, i2⟩ := ho2.ints (by rw [List.length_append]; simp; omega)
  have hl3 : (xs ++ [(0 : Int)]).length = F.di.length + 1 := by rw [List.length_append, hl]; rfl
  rw [hl3] at e2
  subst e2
  have CM := Lib.hid (maxI_any A2 (xs ++ [0]) (F.di.length + 1) c2 w2 i2 hl3 (by omega) (by omega))
  rw [Hr.out] at CM
  with_reducible refine Calls.mono CM.out ?_
  rintro e w3 ⟨rfl, rfl⟩
  clear CM
  go_wp2_with fail
  go_ret
  exact ⟨rfl, hkw.trans hk2⟩
theorem reach_val {f : Value} {F : Fld} {w : World} (hf : FldAt w f F) (hg : goodF F = true) : Val 61 #[f] #[] (reachF F) (isSet F) w :=
  ⟨callFunc_of Tryz.func61 (by kernel_rfl) (by kernel_rfl), fun S Av cv w' hk hq hi _ => reach_any f F Av S S.length cv w' (hf.kp hk) hi rfl hg hq.1 hq.2⟩
theorem mcB_parts {F : Fld} {k : Int} (h : mcB F k = true) : goodF F = true ∧ 1 ≤ k ∧ k ≤ F.op.length := by
  unfold mcB at h
  rw [Bool.and_eq_true] at h
  have := inB_iff.1 h.2
  exact ⟨h.1, by omega, by omega⟩
theorem cen_pos {F : Fld} {k : Int} (h : mcB F k = true) : 0 < (atMost F k).length := by
  have h1 := mcB_parts h
  have h2 := (goodF_iff.1 h1.1).1.1
  refine List.length_pos_of_mem (a := [0]) ?_
  unfold atMost
  rw [List.mem_filter]
  refine ⟨mem_setsL.2 ⟨by simp, ris_iff.2 ⟨by simp, fun x hx => ?_⟩⟩, by simp; omega⟩
  have : x = 0 := by simpa using hx
  omega
theorem cen_set {F : Fld} {k : Int} (h : mcB F k = true) : isSet F (cenL F k) := by
  have h1 := bestL_mem (v := reachF F) (cen_pos h)
  exact sets_set _ (List.mem_filter.1 h1).1
set_option maxRecDepth 100000 in
set_option maxHeartbeats 1000000 in
theorem bestCentres_any (f : Value) (F : Fld) (k : Int) (w : World) (hf : FldAt w f F) (hm : mcB F k = true) :
    Calls Tryz.prog 60 #[f, .int .i64 k] w fun e w' => ∃ u, e = .returned (.tuple #[u, .bool true]) ∧ RowP w' (some w.heap.size) u (cenL F k) ∧ Kp w w' := by
  have hg := (mcB_parts hm).1
  obtain ⟨A, c, B, d, rfl, hA, hB⟩ := hf
  have hk0 : Kp w (w.alloc (.cells #[.slice A F.op.length c, .slice B F.di.length d] 27)) := (Kp.refl w).alloc _
  obtain ⟨d0, d1⟩ := box2 w (.slice A F.op.length c) (.slice B F.di.length d) 27
  have hFA := FldAt.kp (show FldAt w (.agg #[.slice A F.op.length c, .slice B F.di.length d]) F from ⟨A, c, B, d, rfl, hA, hB⟩) hk0
  have HG := Lib.hid hg
  have HM := Lib.hid hm
  have HL0 := Lib.hid (cen_pos hm)
  clear hA hB hg hm
  go_enter Tryz.func60, Tryz.ntmps60
  go_wp2_with fail
  have hsz : Hid ((w.alloc (.cells #[.slice A F.op.length c, .slice B F.di.length d] 27)).heap.size = w.heap.size + 1) := by show _ = _; simp
  generalize w.alloc (.cells #[.slice A F.op.length c, .slice B F.di.length d] 27) = wb at *
  have hkb : Kp wb wb := Kp.refl _
  have hkw := hk0
  have CC := Lib.hid (isMedianCase_any _ F k _ (hFA.kp hkb))
  with_reducible refine Calls.mono CC.out ?_
  rintro e w1 ⟨rfl, hk1⟩
  clear CC
  replace hkb := hkb.trans hk1
  rw [HM.out]
  obtain ⟨w5, rfl⟩ : ∃ w5 : World, w5 = w1 := ⟨_, rfl⟩
  have hkw5 := hkw.trans hkb
  have C1 := Lib.hid (fun (wx : World) (hx : Kp w5 wx) => upTo_any _ F k wx (hFA.kp (hkb.trans hx)) HG.out)
  have C2 := Lib.hid (fun (wx : World) (hx : Kp w5 wx) (Ax : Option Addr) (cx m lo : Nat) (hm : (atMost F k).length = m) (hr : RowsAt wx (some lo) Ax (atMost F k)) => least_any 61 #[.agg #[.slice A F.op.length c, .slice B F.di.length d]] #[] (reachF F) (isSet F) (some lo) Ax (atMost F k) m cx wx hr hm (by have := HL0.out; omega) (reach_val (hFA.kp (hkb.trans hx)) HG.out) (fun S hS => sets_set S (List.mem_filter.1 hS).1))
  have hk5 : Kp w5 w5 := Kp.refl _
  have g0 := hkb.get d0
  have g1 := hkb.get d1
  clear hkb
  have q_g0 := hk5.get g0
  have q_g1 := hk5.get g1
  have tok1 : True := trivial
  go_wp2_with fail
  go_region_held3 (fun w' => w'.cell? ⟨w.heap.size, 0, none⟩ = some (.slice A F.op.length c) ∧ w'.cell? ⟨w.heap.size, 1, none⟩ = some (.slice B F.di.length d) ∧ Kp w5 w')
    (first | (refine keepc2 g0 g1 ?_; exact (by repeat (first | with_reducible assumption | with_reducible exact Kp.refl _ | with_reducible refine Kp.drew ?_ | with_reducible refine Kp.alloc ?_ _ | with_reducible refine Kp.drewN ?_ _ | refine Kp.setCell ?_ (by dsimp only; omega) _))) | fail)
    (first
      | (have _t := tok1; go_at_call 50; with_reducible refine Calls.mono (C1.out _ (by repeat (first | with_reducible assumption | with_reducible exact Kp.refl _ | with_reducible refine Kp.drew ?_ | with_reducible refine Kp.alloc ?_ _ | with_reducible refine Kp.drewN ?_ _ | refine Kp.setCell ?_ (by dsimp only; omega) _))) ?_; rintro e wr1 ⟨ad, cx, rfl, hrows, hka⟩; have hr1 : Kp w5 wr1 := Kp.trans (by repeat (first | with_reducible assumption | with_reducible exact Kp.refl _ | with_reducible refine Kp.drew ?_ | with_reducible refine Kp.alloc ?_ _ | with_reducible refine Kp.drewN ?_ _ | refine Kp.setCell ?_ (by dsimp only; omega) _)) hka; have tok2 : True := trivial; clear tok1 _t)
      | (have _t := tok2; go_at_call 99; with_reducible refine Calls.mono (C2.out _ (by repeat (first | with_reducible assumption | with_reducible exact Kp.refl _ | with_reducible refine Kp.drew ?_ | with_reducible refine Kp.alloc ?_ _ | with_reducible refine Kp.drewN ?_ _ | refine Kp.setCell ?_ (by dsimp only; omega) _)) (some ad) cx _ _ rfl (hrows.kp (by repeat (first | with_reducible assumption | with_reducible exact Kp.refl _ | with_reducible refine Kp.drew ?_ | with_reducible refine Kp.alloc ?_ _ | with_reducible refine Kp.drewN ?_ _ | refine Kp.setCell ?_ (by dsimp only; omega) _)))) ?_; rintro e wr2 ⟨u, rfl, hu, hka⟩; have hr2 : Kp w5 wr2 := Kp.trans (by repeat (first | with_reducible assumption | with_reducible exact Kp.refl _ | with_reducible refine Kp.drew ?_ | with_reducible refine Kp.alloc ?_ _ | with_reducible refine Kp.drewN ?_ _ | refine Kp.setCell ?_ (by dsimp only; omega) _)) hka; have tok3 : True := trivial; clear tok2 _t)
      | fail)
  all_goals
    go_wp2_with fail
    go_ret2
    exact ⟨u, rfl, hu.mono (by have h1 := hkw5.le; simpa using h1), hkw5.trans hr2⟩
set_option maxRecDepth 100000 in
set_option maxHeartbeats 1000000 in
theorem centreReach_any (f : Value) (F : Fld) (k : Int) (w : World) (hf : FldAt w f F) (hm : mcB F k = true) :
    Calls Tryz.prog 21 #[f, .int .i64 k] w fun e w' => e = .returned (.tuple #[.int .i64 (reachF F (cenL F k)), .bool true]) ∧ Kp w w' := by
  have hg := (mcB_parts hm).1
  obtain ⟨A, c, B, d, rfl, hA, hB⟩ := hf
  have hk0 : Kp w (w.alloc (.cells #[.slice A F.op.length c, .slice B F.di.length d] 27)) := (Kp.refl w).alloc _
  obtain ⟨d0, d1⟩ := box2 w (.slice A F.op.length c) (.slice B F.di.length d) 27
  have hFA := FldAt.kp (show FldAt w (.agg #[.slice A F.op.length c, .slice B F.di.length d]) F from ⟨A, c, B, d, rfl, hA, hB⟩) hk0
  have HG := Lib.hid hg
  have HM := Lib.hid hm
  have HS := Lib.hid (cen_set hm)
  clear hA hB hg hm
  go_enter Tryz.func21, Tryz.ntmps21
  go_wp2_with fail
  have hsz : Hid ((w.alloc (.cells #[.slice A F.op.length c, .slice B F.di.length d] 27)).heap.size = w.heap.size + 1) := by show _ = _; simp
  generalize w.alloc (.cells #[.slice A F.op.length c, .slice B F.di.length d] 27) = wb at *
  have hkb : Kp wb wb := Kp.refl _
  have hkw := hk0
  have CC := Lib.hid (bestCentres_any _ F k _ (hFA.kp hkb) HM.out)
  with_reducible refine Calls.mono CC.out ?_
  rintro e w1 ⟨u, rfl, hu, hk1⟩
  clear CC
  replace hkb := hkb.trans hk1
  obtain ⟨Av, cv, rfl, hcv, hiv⟩ := hu.read
  have q_d0 := hkb.get d0
  have q_d1 := hkb.get d1
  go_wp2_with fail
  have CC := Lib.hid (reach_any _ F Av (cenL F k) _ cv _ (hFA.kp hkb) hiv rfl HG.out HS.out.1 HS.out.2)
  with_reducible refine Calls.mono CC.out ?_
  rintro e w2 ⟨rfl, hk2⟩
  clear CC q_d0 q_d1
  replace hkb := hkb.trans hk2
  have q_d0 := hkb.get d0
  have q_d1 := hkb.get d1
  go_wp2_with fail
  go_ret2
  exact ⟨rfl, hkw.trans hkb⟩
end Go.Proofs.YtpiijhfjliolfaaGreat
