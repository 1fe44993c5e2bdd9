/- RoomReach: the reference. No condition. -/
import Derived.Test.YtpiijhfjliolfaaGreatQAx
import Derived.Test.YtpiijhfjliolfaaGreatQBi
import Derived.Test.YtpiijhfjliolfaaGreatQAe
import Derived.Test.YtpiijhfjliolfaaGreatQAh
namespace Go.Proofs.YtpiijhfjliolfaaGreat
open Go.RowKit Go.Sort

def mcB' (F : Fld) (k : Int) : Bool := goodF F && inB k 1 F.op.length
set_option maxRecDepth 100000 in
set_option maxHeartbeats 1000000 in
theorem l5Ask_any (f : Value) (F : Fld) (k : Int) (w : World) (hf : FldAt w f F) :
    Calls Tryz.prog 52 #[f, .int .i64 k] w fun e w' => e = .returned (.bool (mcB' F k)) ∧ Kp w w' := by
  obtain ⟨A, c, B, d, rfl, hA, hB⟩ := hf
  have hk0 : Kp w (w.alloc (.cells #[.slice A F.op.length c, .slice B F.di.length d] 27)) := (Kp.refl w).alloc _
  obtain ⟨d0, d1⟩ := box2 w (.slice A F.op.length c) (.slice B F.di.length d) 27
  have hFA := FldAt.kp (show FldAt w (.agg #[.slice A F.op.length c, .slice B F.di.length d]) F from ⟨A, c, B, d, rfl, hA, hB⟩) hk0
  clear hA hB
  have CC := Lib.hid (l2Good_any _ F _ hFA)
  go_enter Tryz.func52, Tryz.ntmps52
  go_wp2_with fail
  have hsz : Hid ((w.alloc (.cells #[.slice A F.op.length c, .slice B F.di.length d] 27)).heap.size = w.heap.size + 1) := by show _ = _; simp
  generalize w.alloc (.cells #[.slice A F.op.length c, .slice B F.di.length d] 27) = wb at *
  have hkb : Kp wb wb := Kp.refl _
  have hkw := hk0
  with_reducible refine Calls.mono CC.out ?_
  rintro e w1 ⟨rfl, hk1⟩
  clear CC
  replace hkb := hkb.trans hk1
  cases hg_ : goodF F
  · have Hno : Hid (mcB' F k = false) := by show _ = _; rw [mcB', hg_]; rfl
    clear hg_
    have q_d0 := hkb.get d0
    have q_d1 := hkb.get d1
    go_wp2_with fail
    go_ret
    exact ⟨by rw [Hno.out]; rfl, hkw.trans hkb⟩
  have Hg := Lib.hid hg_; clear hg_
  have q_d0 := hkb.get d0
  have q_d1 := hkb.get d1
  go_wp2_with fail
  have CC := Lib.hid (l1In_any k 1 (F.op.length : Int) w1)
  with_reducible refine Calls.mono CC.out ?_
  rintro e w2 ⟨rfl, rfl⟩
  clear CC
  have He : Hid (mcB' F k = inB k 1 (F.op.length : Int)) := by show _ = _; rw [mcB', Hg.out, Bool.true_and]
  clear q_d0 q_d1
  have q_d0 := hkb.get d0
  have q_d1 := hkb.get d1
  go_wp2_with fail
  go_ret
  exact ⟨by rw [He.out]; rfl, hkw.trans hkb⟩
/-- The lengths put in so far: whole rows, then j of the next one. -/
def putTo (rows : List (List Int)) (j a : Nat) : List Int := (((rows.take j).flatten) ++ (rows.getD j []).take a).foldl putL []
theorem putTo_sorted (rows : List (List Int)) (j a : Nat) : (putTo rows j a).Pairwise (· < ·) := putFold_sorted _ _ List.Pairwise.nil
theorem putTo_step {rows : List (List Int)} {j a : Nat} (ha : a < (rows.getD j []).length) : putTo rows j (a + 1) = putL (putTo rows j a) (rows.getD j [])[a] := by
  unfold putTo
  rw [List.take_succ_eq_append_getElem ha, ← List.append_assoc, List.foldl_append]; rfl
theorem putTo_row {rows : List (List Int)} {j : Nat} (hj : j < rows.length) : putTo rows (j + 1) 0 = putTo rows j (rows.getD j []).length := by
  unfold putTo
  have e : rows.getD j [] = rows[j] := by simp [List.getD, hj]
  rw [List.take_succ_eq_append_getElem hj, List.flatten_append, e]; simp
theorem putTo_all (rows : List (List Int)) : putTo rows rows.length 0 = putAllL rows.flatten := by
  unfold putTo putAllL; simp
theorem putTo_len {F : Fld} (hg : goodF F = true) (j a : Nat) : (putTo F.di j a).length ≤ 98 := by
  have h1 := putFold_len (((F.di.take j).flatten) ++ (F.di.getD j []).take a) []
  have h2 := flat_len49 hg
  have h3 : ((F.di.take j).flatten).length ≤ F.di.flatten.length := by
    conv => rhs; rw [← List.take_append_drop j F.di, List.flatten_append, List.length_append]
    omega
  have h4 : (F.di.getD j []).length ≤ 7 := by
    by_cases hj : j < F.di.length
    · have e : F.di.getD j [] = F.di[j] := by simp [List.getD, hj]
      have := ((goodF_iff.1 hg).2.2.2 F.di[j] (List.getElem_mem hj)).2
      have := (goodF_iff.1 hg).1.2
      rw [e]; omega
    · rw [List.getD_eq_getElem?_getD, List.getElem?_eq_none (by omega)]; simp
  unfold putTo
  simp only [List.length_append, List.length_nil, List.length_take] at h1 ⊢
  omega
set_option maxRecDepth 100000 in
set_option maxHeartbeats 1000000 in
theorem l5Lengths_any (f : Value) (F : Fld) (w : World) (hf : FldAt w f F) (hg : goodF F = true) :
    Calls Tryz.prog 55 #[f] w fun e w' => ∃ A c, e = .returned (.slice A (putAllL F.di.flatten).length c) ∧ (putAllL F.di.flatten).length ≤ c ∧ IntsAt w' A (putAllL F.di.flatten) ∧ Kp w w' := by
  have HG := Lib.hid hg
  have h7 := (goodF_iff.1 hg).2.2.1
  have HPL := Lib.hid (putTo_len hg)
  obtain ⟨A, c, B, d, rfl, hA, hB⟩ := hf
  have hk0 : Kp w (w.alloc (.cells #[.slice A F.op.length c, .slice B F.di.length d] 27)) := (Kp.refl w).alloc _
  obtain ⟨d0, d1⟩ := box2 w (.slice A F.op.length c) (.slice B F.di.length d) 27
  have hFA := FldAt.kp (show FldAt w (.agg #[.slice A F.op.length c, .slice B F.di.length d]) F from ⟨A, c, B, d, rfl, hA, hB⟩) hk0
  replace hB := hB.kp hk0
  clear hA hg
  go_enter Tryz.func55, Tryz.ntmps55
  go_wp2_with fail
  have hsz : Hid ((w.alloc (.cells #[.slice A F.op.length c, .slice B F.di.length d] 27)).heap.size = w.heap.size + 1) := by show _ = _; simp
  generalize w.alloc (.cells #[.slice A F.op.length c, .slice B F.di.length d] 27) = wb at *
  have hkb : Kp wb wb := Kp.refl _
  have hkw := hk0
  have hkx : Kp wb (wb.alloc (.cells #[] 3)) := (Kp.refl wb).alloc _
  have q_d0 := hkb.get d0
  have q_d1 := hkb.get d1
  go_wp2_with fail
  go_loopw [3, 4] (fun ov iv wr => ∃ (j : Nat) (A' : Option Addr) (n' c' : Nat), j ≤ F.di.length ∧ iv = .int .i64 j ∧ ov = .slice A' n' c' ∧ n' ≤ c' ∧ Hid ((putTo F.di j 0).length = n') ∧ IntsAt wr A' (putTo F.di j 0) ∧ Kp wb wr) (fun _ iv _ => F.di.length - (intOf iv).toNat)
  case atStart => exact ⟨0, _, 0, 0, by omega, rfl, rfl, by omega, rfl, IntsAt.nil _ _, hkx⟩
  case round =>
    obtain ⟨j, A1, n1, c1, hj, rfl, rfl, hnc, HN, hi, hkr⟩ := hrel
    obtain ⟨wo, rfl⟩ : ∃ wo : World, wo = wr := ⟨_, rfl⟩
    have e0 := hkr.get d0
    have e1 := hkr.get d1
    by_cases hlt : j < F.di.length
    · obtain ⟨bd, Ar, cr, rfl, hcell, hrow⟩ := (hB.kp (hkb.trans hkr)).at_ hlt
      have hrd : F.di.getD j [] = F.di[j] := by simp [List.getD, hlt]
      obtain ⟨M, HM⟩ : ∃ M, Hid (M = F.di[j].length) := ⟨_, Lib.hid rfl⟩
      have hM7 : M ≤ 7 := by
        have := ((goodF_iff.1 HG.out).2.2.2 F.di[j] (List.getElem_mem hlt)).2
        have := (goodF_iff.1 HG.out).1.2
        rw [HM.out]; omega
      rw [← HM.out] at hcell
      clear hkx
      go_wp2_with fail
      go_loopw [3, 5] (fun ov iv wi => ∃ (a : Nat) (A2 : Option Addr) (n2 c2 : Nat), a ≤ M ∧ iv = .int .i64 a ∧ ov = .slice A2 n2 c2 ∧ n2 ≤ c2 ∧ Hid ((putTo F.di j a).length = n2) ∧ IntsAt wi A2 (putTo F.di j a) ∧ Kp wo wi) (fun _ iv _ => M - (intOf iv).toNat)
      case atStart => exact ⟨0, A1, n1, c1, by omega, rfl, rfl, hnc, HN, hi, Kp.refl _⟩
      case round =>
        obtain ⟨a, A2, n2, c2, ha, rfl, rfl, hnc2, HN2, hi2, hkr2⟩ := hrel
        have y0 := hkr2.get e0
        have y1 := hkr2.get e1
        have y2 := hkr2.get hcell
        by_cases hla : a < M
        · have la : a < F.di[j].length := by rw [← HM.out]; exact hla
          obtain ⟨ar, rfl, hcl⟩ := (hrow.kp hkr2).at_ la
          have HS := Lib.hid (putTo_step (rows := F.di) (j := j) (a := a) (by rw [hrd]; exact la))
          have hz : (F.di.getD j [])[a]'(by rw [hrd]; exact la) = F.di[j][a] := List.getElem_of_eq hrd _
          have HPs := Lib.hid (HPL.out j a)
          have CC := Lib.hid (fun (wx : World) (hx : Kp wr wx) => l1Put_any A2 (putTo F.di j a) n2 c2 F.di[j][a] wx (hi2.kp hx) HN2.out (putTo_sorted _ _ _) hnc2 (by have := HPs.out; have := HN2.out; omega))
          go_wp2_with fail
          with_reducible refine Calls.mono (CC.out _ (by repeat (first | with_reducible assumption | with_reducible exact Kp.refl _ | with_reducible refine Kp.drew ?_ | with_reducible refine Kp.alloc ?_ _ | with_reducible refine Kp.drewN ?_ _ | refine Kp.setCell ?_ (by dsimp only; omega) _))) ?_
          rintro e wy ⟨A3, c3, rfl, hc3, hi3, hk3⟩
          clear CC
          rw [← hz, ← HS.out] at hi3 hc3
          rw [← hz, ← HS.out]
          go_wp2_with fail
          go_roundw
          case rel => exact ⟨a + 1, A3, _, c3, by omega, by go_num, rfl, hc3, rfl, hi3, hkr2.trans hk3⟩
          case measure => simp [intOf]; omega
        · obtain rfl : a = M := by omega
          have HR := Lib.hid (putTo_row hlt)
          rw [hrd, ← HM.out] at HR
          go_wp2_with fail
          go_roundw
          case rel => exact ⟨j + 1, A2, n2, c2, by omega, by go_num, rfl, hnc2, by show _ = _; rw [HR.out]; exact HN2.out, by rw [HR.out]; exact hi2, hkr.trans hkr2⟩
          case measure => simp [intOf]; omega
    · obtain rfl : j = F.di.length := by omega
      have HE := Lib.hid (putTo_all F.di)
      go_wp2_with fail
      go_ret
      rw [HE.out] at hi HN
      rw [HN.out]
      exact ⟨A1, c1, rfl, hnc, hi, (hkw.trans hkb).trans hkr⟩
/-- The sets of at most k sites. -/
def atMostS (F : Fld) (k : Int) : List (List Int) := (setsL F.op.length).filter fun S => decide ((S.length : Int) ≤ k)
theorem atMostS_len (F : Fld) (k : Int) (hg : goodF F = true) : (atMostS F k).length ≤ 127 := by
  have h1 := List.length_filter_le (fun S : List Int => decide ((S.length : Int) ≤ k)) (setsL F.op.length)
  have h2 := setsL_len F.op.length
  have h3 : 2 ^ F.op.length ≤ 2 ^ 7 := Nat.pow_le_pow_right (by omega) (goodF_iff.1 hg).1.2
  unfold atMostS
  omega
theorem GOwn.shapeR {w : World} {lo : Option Nat} {base : Nat} {v : Value} {rows : List (List Int)} (h : GOwn w lo base v rows) (hl : rows.length ≤ 9223372036854775807) : ∃ A c, v = .slice A rows.length c ∧ RowsAt w lo A rows := by
  by_cases hv : v = .slice none 0 0
  · subst hv
    obtain ⟨hs, h1, _⟩ := h
    rcases h1.2 with ⟨_, e⟩ | ⟨g, cap, cur, e, _⟩
    · obtain rfl : rows = [] := List.eq_nil_of_length_eq_zero e
      exact ⟨none, 0, rfl, RowsAt.nil _ _ _⟩
    · cases e
  · obtain ⟨ad, c, e, _, hr⟩ := h.rows_some hl hv
    exact ⟨some ad, c, e, hr⟩
set_option maxRecDepth 100000 in
set_option maxHeartbeats 2000000 in
theorem l5Sets_any (f : Value) (F : Fld) (k : Int) (w : World) (hf : FldAt w f F) (hg : goodF F = true) :
    Calls Tryz.prog 53 #[f, .int .i64 k] w fun e w' => ∃ A c, e = .returned (.slice A (atMostS F k).length c) ∧ RowsAt w' (some w.heap.size) A (atMostS F k) ∧ Kp w w' := by
  have hg7 := (goodF_iff.1 hg).1.2
  have HLs : Hid ((setsL F.op.length).length ≤ 127) := by
    show _ ≤ _
    rw [setsL_len]
    have : 2 ^ F.op.length ≤ 2 ^ 7 := Nat.pow_le_pow_right (by omega) hg7
    omega
  obtain ⟨A, c, B, d, rfl, hA, hB⟩ := hf
  have hk0 : Kp w (w.alloc (.cells #[.slice A F.op.length c, .slice B F.di.length d] 27)) := (Kp.refl w).alloc _
  obtain ⟨d0, d1⟩ := box2 w (.slice A F.op.length c) (.slice B F.di.length d) 27
  have hFA := FldAt.kp (show FldAt w (.agg #[.slice A F.op.length c, .slice B F.di.length d]) F from ⟨A, c, B, d, rfl, hA, hB⟩) hk0
  clear hA hB hg
  go_enter Tryz.func53, Tryz.ntmps53
  go_wp2_with fail
  have hsz : Hid ((w.alloc (.cells #[.slice A F.op.length c, .slice B F.di.length d] 27)).heap.size = w.heap.size + 1) := by show _ = _; simp
  generalize w.alloc (.cells #[.slice A F.op.length c, .slice B F.di.length d] 27) = wb at *
  have hkb : Kp wb wb := Kp.refl _
  have hkw := hk0
  have o0 := gown_new wb (some (w.heap.size + 1 + 1)) (w.heap.size + 1) (by rw [hsz.out]; exact Nat.le_refl _)
  have hkc : Kp wb (wb.alloc (.cells #[] 24)) := (Kp.refl wb).alloc _
  have hzc : Hid ((wb.alloc (.cells #[] 24)).heap.size = w.heap.size + 1 + 1) := by show _ = _; simp; rw [hsz.out]
  rw [hsz.out] at o0
  have CC := Lib.hid (l2Sets_any F.op.length (wb.alloc (.cells #[] 24)) hg7)
  have q_d0 := hkb.get d0
  have q_d1 := hkb.get d1
  go_wp2_with fail
  with_reducible refine Calls.mono CC.out ?_
  rintro e ws ⟨v2, rfl, hvn, hgo, hk1⟩
  clear CC
  obtain ⟨m, HM⟩ : ∃ m, Hid (m = (setsL F.op.length).length) := ⟨_, Lib.hid rfl⟩
  obtain ⟨ad2, c2, hve, _, hrows⟩ := hgo.rows_some (by have := HLs.out; omega) hvn
  subst hve
  have hkb1 : Kp wb ws := hkc.trans hk1
  have hrm := hrows.mono (b' := w.heap.size + 1 + 1) (by rw [hzc.out]; omega)
  have o1 := o0.kp hk1
  have hadb : w.heap.size + 1 + 1 ≤ ad2.block := by have := (hgo.lt ad2.block rfl).1; rw [hzc.out] at this; exact this
  have hws : w.heap.size + 1 + 1 ≤ ws.heap.size := by have := hk1.le; rw [hzc.out] at this; exact this
  rw [← HM.out]
  have hm127 : m ≤ 127 := by rw [HM.out]; exact HLs.out
  obtain ⟨rows, hre⟩ : ∃ rows, rows = setsL F.op.length := ⟨_, rfl⟩
  have HR : Hid (atMostS F k = rows.filter fun S => decide ((S.length : Int) ≤ k)) := by show _ = _; rw [hre]; rfl
  rw [← hre] at hrm HM
  obtain ⟨wl, rfl⟩ : ∃ wl : World, wl = ws := ⟨_, rfl⟩
  clear hre hgo hrows o0 hkc hk1 hvn HLs hzc
  go_wp2_with fail
  go_loopw [5, 7] (fun ox iv wr => ∃ (j : Nat) (ov : Value), ov = ox ∧ j ≤ m ∧ iv = .int .i64 j ∧ GOwn wr (some (w.heap.size + 1 + 1)) (w.heap.size + 1) ov (filTo (fun S => decide ((S.length : Int) ≤ k)) rows j) ∧ Hid (∀ g, ov.ownBlock = some g → g = w.heap.size + 1 ∨ wl.heap.size ≤ g) ∧ Turn (fun i => i = w.heap.size + 1) wl wr) (fun _ iv _ => m - (intOf iv).toNat)
  case atStart => exact ⟨0, _, rfl, by omega, rfl, o1, (by show ∀ g, _ → _; intro g hg; exact .inl (own_blk' hg).symm), Turn.refl _ _⟩
  case round =>
    clear o1
    obtain ⟨j, ov, rfl, hj, rfl, hown, Hap, ht⟩ := hrel
    have hkr : Kp wb wr := hkb1.turn ht (fun i hi => by rw [hi, hsz.out]; exact Nat.le_refl _)
    by_cases hlt : j < m
    · have lx : j < rows.length := by rw [← HM.out]; exact hlt
      have hlr := hrm.turn ht (by omega) (fun g hg e => by omega)
      obtain ⟨A3, c3, hcl, hc3, hri, hrp⟩ := hlr.some_ lx
      obtain ⟨_, u0, e0, e1, hp0⟩ := hrm.2 j lx
      have hfl := Lib.hid (filTo_len (fun S => decide ((S.length : Int) ≤ k)) rows j)
      have hapr := Lib.hid (fun (g : Nat) (hg : (Value.slice A3 rows[j].length c3).ownBlock = some g) => (show ov.ownBlock ≠ some g from by
        have h1 := ((hrp.2 _ rfl).lt g hg).1
        intro e
        rcases Hap.out g e with h2 | h2
        · omega
        · cases e0
          have hcc : (wl.cell? (ad2.add j)) = wr.cell? (ad2.add j) := by
            have hb : (ad2.add j).block < wl.heap.size := World.block_lt_of_cell? _ _ e1
            have hbk : wr.heap[(ad2.add j).block]? = wl.heap[(ad2.add j).block]? := ht.block _ hb (by rw [blk_add]; omega)
            rw [World.cell?_of_block hbk]
          rw [hcc, hcl] at e1
          cases e1
          have h3 := ((hp0.2 _ rfl).lt g hg).2
          omega))
      clear e0 e1 hp0
      obtain ⟨M, HMl⟩ : ∃ M, Hid (M = rows[j].length) := ⟨_, Lib.hid rfl⟩
      cases hpk : decide ((rows[j].length : Int) ≤ k)
      · have Hy := Lib.hid (filTo_no (p := fun S => decide ((S.length : Int) ≤ k)) lx hpk)
        rw [← HMl.out] at hpk hcl
        go_wp2_with fail
        go_roundw
        case rel => exact ⟨j + 1, _, rfl, by omega, by go_num, by rw [Hy.out]; exact hown, Hap, ht⟩
        case measure => simp [intOf]; omega
      · have Hy := Lib.hid (filTo_yes (p := fun S => decide ((S.length : Int) ≤ k)) lx hpk)
        have hbase : w.heap.size + 1 ≤ wr.heap.size := by have := hkr.le; rw [hsz.out] at this; exact this
        have hfl2 : (filTo (fun S => decide ((S.length : Int) ≤ k)) rows j).length < 1048576 := by have := hfl.out; have := HM.out; omega
        have hsl1 : wl.heap.size ≤ wr.heap.size := ht.size
        have HRP := Lib.hid hrp
        rw [← HMl.out] at hpk hcl HRP hapr
        go_wp2_with (at_builtin; go_loud (refine wpl_appg rfl (.tmp 26) (.tmp 31) rfl (w.heap.size + 1) ov (filTo (fun S => decide ((S.length : Int) ≤ k)) rows j) rows[j] (.slice A3 M c3) rfl rfl hown HRP.out (fun _ g hg => hapr.out g hg) hbase hfl2 ?_; intro v' w' ho' ht' h4'))
        go_roundw
        case rel =>
          refine ⟨j + 1, _, rfl, by omega, by go_num, by rw [Hy.out]; exact ho', ?_, ?_⟩
          · show ∀ g, _ → _
            intro g hg
            rcases h4' with e | e
            · exact Hap.out g (e ▸ hg)
            · exact .inr (by have := e g hg; omega)
          · refine ⟨ht'.os.trans ht.os, ht'.tape.trans ht.tape, ht'.output.trans ht.output, Nat.le_trans ht.size ht'.size, fun i hi hn => ?_⟩
            rw [ht'.block i (by omega) (fun e => by rcases Hap.out i e with h | h; exact hn h; omega), ht.block i hi hn]
        case measure => simp [intOf]; omega
    · obtain rfl : j = m := by omega
      have He : Hid (filTo (fun S => decide ((S.length : Int) ≤ k)) rows j = atMostS F k) := by show _ = _; rw [HR.out, HM.out]; unfold filTo; rw [List.take_length]
      go_wp2_with fail
      go_ret
      rw [He.out] at hown
      have hlen : (atMostS F k).length ≤ 9223372036854775807 := by have := filTo_len (fun S => decide ((S.length : Int) ≤ k)) rows j; rw [He.out] at this; have := HM.out; omega
      rcases hown.shapeR hlen with ⟨A', c', rfl, h⟩
      exact ⟨A', c', rfl, h.mono (by omega), hkw.trans hkr⟩
theorem rr_haul' {F : Fld} {rooms needs : List Int} (hg : goodF F = true) (hn : needsB F rooms needs = true) {S : List Int} (hs : S ∈ setsL F.op.length) : HaulP F rooms needs S := by
  obtain ⟨h1, h2⟩ := mem_setsL.1 hs
  refine haul_p ?_
  unfold haulB
  rw [hn, Bool.and_true]
  unfold openedB
  rw [hg, show setB F S = true from h2, decide_eq_true (List.length_pos_iff.2 h1)]; rfl
theorem someB_S {F : Fld} {rooms needs : List Int} {k r : Int} : someB F rooms needs k r = (atMostS F k).any fun S => csB F rooms needs S r := someB_iff
set_option maxRecDepth 100000 in
set_option maxHeartbeats 2000000 in
theorem specRr_any (f : Value) (F : Fld) (A1 : Option Addr) (rooms : List Int) (n1 c1 : Nat) (A2 : Option Addr) (needs : List Int) (n2 c2 : Nat) (k : Int) (w : World) (hf : FldAt w f F) (h1 : IntsAt w A1 rooms) (hn1 : rooms.length = n1) (h2 : IntsAt w A2 needs) (hn2 : needs.length = n2) :
    Calls Tryz.prog 16 #[f, .slice A1 n1 c1, .slice A2 n2 c2, .int .i64 k] w fun e w' => e = .returned (.tuple #[.int .i64 (rrV F rooms needs k), .bool (rrB F rooms needs k)]) ∧ Kp w w' := by
  obtain ⟨A, c, B, d, rfl, hA, hB⟩ := hf
  have hk0 : Kp w (w.alloc (.cells #[.slice A F.op.length c, .slice B F.di.length d] 27)) := (Kp.refl w).alloc _
  obtain ⟨d0, d1⟩ := box2 w (.slice A F.op.length c) (.slice B F.di.length d) 27
  have hFA := FldAt.kp (show FldAt w (.agg #[.slice A F.op.length c, .slice B F.di.length d]) F from ⟨A, c, B, d, rfl, hA, hB⟩) hk0
  replace h1 := h1.kp hk0
  replace h2 := h2.kp hk0
  have Hn1 := Lib.hid hn1; have Hn2 := Lib.hid hn2
  clear hA hB hn1 hn2
  go_enter Tryz.func16, Tryz.ntmps16
  go_wp2_with fail
  have hsz : Hid ((w.alloc (.cells #[.slice A F.op.length c, .slice B F.di.length d] 27)).heap.size = w.heap.size + 1) := by show _ = _; simp
  generalize w.alloc (.cells #[.slice A F.op.length c, .slice B F.di.length d] 27) = wb at *
  have hkb : Kp wb wb := Kp.refl _
  have hkw := hk0
  have CC := Lib.hid (l5Ask_any _ F k _ (hFA.kp hkb))
  with_reducible refine Calls.mono CC.out ?_
  rintro e w1 ⟨rfl, hk1⟩
  clear CC
  replace hkb := hkb.trans hk1
  cases hm_ : mcB' F k
  · have Hno : Hid (rrOk F rooms needs k = false) := by show _ = _; rw [show rrOk F rooms needs k = (mcB' F k && needsB F rooms needs) from rfl, hm_]; rfl
    clear hm_
    have q_d0 := hkb.get d0
    have q_d1 := hkb.get d1
    go_wp2_with fail
    go_ret2
    exact ⟨rr_no Hno.out, hkw.trans hkb⟩
  have HM := Lib.hid hm_; clear hm_
  have q_d0 := hkb.get d0
  have q_d1 := hkb.get d1
  go_wp2_with fail
  have CC := Lib.hid (l7Needs_any _ F A1 rooms n1 c1 A2 needs n2 c2 _ (hFA.kp hkb) (h1.kp hkb) Hn1.out (h2.kp hkb) Hn2.out)
  with_reducible refine Calls.mono CC.out ?_
  rintro e w2 ⟨rfl, hk2⟩
  clear CC q_d0 q_d1
  replace hkb := hkb.trans hk2
  cases hn_ : needsB F rooms needs
  · have Hno : Hid (rrOk F rooms needs k = false) := by show _ = _; rw [show rrOk F rooms needs k = (mcB' F k && needsB F rooms needs) from rfl, hn_, Bool.and_false]
    clear hn_
    have q_d0 := hkb.get d0
    have q_d1 := hkb.get d1
    go_wp2_with fail
    go_ret2
    exact ⟨rr_no Hno.out, hkw.trans hkb⟩
  have HN := Lib.hid hn_; clear hn_
  have HOk : Hid (rrOk F rooms needs k = true) := by show _ = _; rw [show rrOk F rooms needs k = (mcB' F k && needsB F rooms needs) from rfl, HM.out, HN.out]; rfl
  have HG : Hid (goodF F = true) := by
    show _ = _
    have := HM.out
    unfold mcB' at this
    exact (Bool.and_eq_true _ _ ▸ this).1
  have HL := Lib.hid (flat_len49 HG.out)
  have HL3 := Lib.hid (reachL_len F)
  have HRE := Lib.hid (reachL_eq HG.out)
  have HAM := Lib.hid (atMostS_len F k HG.out)
  have HPL := Lib.hid (putFold_len F.di.flatten [])
  have HPS := Lib.hid (putFold_sorted F.di.flatten [] List.Pairwise.nil)
  have q_d0 := hkb.get d0
  have q_d1 := hkb.get d1
  go_wp2_with fail
  have CC := Lib.hid (l5Sets_any _ F k w2 (hFA.kp hkb) HG.out)
  with_reducible refine Calls.mono CC.out ?_
  rintro e w3 ⟨Ar, cr, rfl, hrows, hk3⟩
  clear CC
  replace hkb := hkb.trans hk3
  obtain ⟨m, Hm⟩ : ∃ m, Hid (m = (atMostS F k).length) := ⟨_, Lib.hid rfl⟩
  rw [← Hm.out]
  clear q_d0 q_d1
  have q_d0 := hkb.get d0
  have q_d1 := hkb.get d1
  go_wp2_with fail
  have CC := Lib.hid (l5Lengths_any _ F w3 (hFA.kp hkb) HG.out)
  with_reducible refine Calls.mono CC.out ?_
  rintro e w4 ⟨Al, cl, rfl, hcl, hil, hk4⟩
  clear CC
  replace hkb := hkb.trans hk4
  replace hrows := hrows.kp hk4
  clear q_d0 q_d1
  have q_d0 := hkb.get d0
  have q_d1 := hkb.get d1
  go_wp2_with fail
  have CC := Lib.hid (l1Put_any Al (putAllL F.di.flatten) _ cl 0 w4 hil rfl HPS.out hcl (by have := HPL.out; have := HL.out; simp only [List.length_nil] at *; unfold putAllL; omega))
  with_reducible refine Calls.mono CC.out ?_
  rintro e w5 ⟨A5, c5, rfl, hc5, hi5, hk5⟩
  clear CC
  replace hkb := hkb.trans hk5
  replace hrows := hrows.kp hk5
  rw [← HRE.out] at hi5 hc5
  rw [← HRE.out]
  obtain ⟨R, HR⟩ : ∃ R, Hid (R = (reachL F).length) := ⟨_, Lib.hid rfl⟩
  rw [← HR.out]
  clear hil hcl hk3 hk4 hk5
  have hkb5 := hkb
  have z0 := hkb5.get d0
  have z1 := hkb5.get d1
  have hF5 := hFA.kp hkb5
  replace h1 := h1.kp hkb5
  replace h2 := h2.kp hkb5
  have hR : R ≤ 50 := by rw [HR.out]; have := HL3.out; have := HL.out; omega
  have hm : m ≤ 127 := by rw [Hm.out]; exact HAM.out
  go_wp2_with fail
  go_loopw [12] (fun iv wr => ∃ i : Nat, i ≤ R ∧ iv = .int .i64 i ∧ Hid (∀ j, j < i → ∀ h : j < (reachL F).length, someB F rooms needs k (reachL F)[j] = false) ∧ Kp w5 wr) (fun iv _ => R - (intOf iv).toNat)
  case atStart => exact ⟨0, by omega, rfl, (by show ∀ j, _ → _; intro j hj; omega), Kp.refl _⟩
  case round =>
    obtain ⟨i, hi, rfl, Hno, hkr⟩ := hrel
    obtain ⟨wo, rfl⟩ : ∃ wo : World, wo = wr := ⟨_, rfl⟩
    by_cases hlt : i < R
    · have lx : i < (reachL F).length := by rw [← HR.out]; exact hlt
      obtain ⟨a5, rfl, hcr⟩ := (hi5.kp hkr).at_ lx
      obtain ⟨rv, Hrv⟩ : ∃ rv, Hid (rv = (reachL F)[i]) := ⟨_, Lib.hid rfl⟩
      rw [← Hrv.out] at hcr
      go_wp2_with fail
      go_loopw [13] (fun sv wr => ∃ s : Nat, s ≤ m ∧ sv = .int .i64 s ∧ Hid (∀ j, j < s → ∀ h : j < (atMostS F k).length, csB F rooms needs (atMostS F k)[j] rv = false) ∧ Kp wo wr) (fun sv _ => m - (intOf sv).toNat)
      case atStart => exact ⟨0, by omega, rfl, (by show ∀ j, _ → _; intro j hj; omega), Kp.refl _⟩
      case round =>
        obtain ⟨s, hs, rfl, HnoS, hkr2⟩ := hrel
        have hk52 := hkr.trans hkr2
        by_cases hls : s < m
        · have lS : s < (atMostS F k).length := by rw [← Hm.out]; exact hls
          obtain ⟨ad, As, cs, rfl, hcs, hcs2, hiS, _⟩ := (hrows.kp hk52).at_ lS
          have hmem : (atMostS F k)[s] ∈ setsL F.op.length := (List.mem_filter.1 (List.getElem_mem lS)).1
          have HP := Lib.hid (rr_haul' HG.out HN.out hmem)
          obtain ⟨nS, HnS⟩ : ∃ nS, Hid ((atMostS F k)[s].length = nS) := ⟨_, Lib.hid rfl⟩
          rw [HnS.out] at hcs
          have y0 := hk52.get z0
          have y1 := hk52.get z1
          have y2 := hkr2.get hcr
          have CC := Lib.hid (fun (wx : World) (hx : Kp wr wx) => l7Serves_any _ F A1 rooms n1 c1 A2 needs n2 c2 As (atMostS F k)[s] nS cs rv wx (hF5.kp (hk52.trans hx)) (h1.kp (hk52.trans hx)) Hn1.out (h2.kp (hk52.trans hx)) Hn2.out (hiS.kp hx) HnS.out HP.out)
          go_wp2_with fail
          go_still_tail 11, (by kernel_rfl)
          change wpList _ _ _ _ _ wr.drew
          have hkd : Kp wr wr.drew := (Kp.refl wr).drew
          have CD := Lib.hid (CC.out _ hkd)
          have y3 := hkd.get y2
          clear CC
          generalize wr.drew = wd at *
          go_wp2_with fail
          with_reducible refine Calls.mono CD.out ?_
          rintro e w6 ⟨rfl, hk6⟩
          clear CD
          cases hb_ : csB F rooms needs (atMostS F k)[s] rv
          · have HnoS2 : Hid (∀ j, j < s + 1 → ∀ h : j < (atMostS F k).length, csB F rooms needs (atMostS F k)[j] rv = false) := by
              show ∀ j, _ → _
              intro j hj h
              by_cases e : j = s
              · subst e; exact hb_
              · exact HnoS.out j (by omega) h
            clear hb_
            go_wp2_with fail
            go_roundw
            case rel => exact ⟨s + 1, by omega, by go_num, HnoS2, (hkr2.trans hkd).trans hk6⟩
            case measure => simp [intOf]; omega
          · have Hyes : Hid (someB F rooms needs k rv = true) := by
              show _ = _
              rw [someB_S]
              exact List.any_eq_true.2 ⟨_, List.getElem_mem lS, hb_⟩
            clear hb_
            have y4 := hk6.get y3
            go_wp2_with fail
            go_ret2
            refine ⟨?_, (hkw.trans hkb5).trans (((hk52.trans hkd).trans hk6).trans (by repeat (first | with_reducible assumption | with_reducible exact Kp.refl _ | with_reducible refine Kp.drew ?_ | with_reducible refine Kp.alloc ?_ _ | with_reducible refine Kp.drewN ?_ _ | refine Kp.setCell ?_ (by dsimp only; omega) _)))⟩
            rw [Hrv.out] at Hyes ⊢
            exact rr_at HOk.out lx Hno.out Hyes.out
        · obtain rfl : s = m := by omega
          have Hno2 : Hid (∀ j, j < i + 1 → ∀ h : j < (reachL F).length, someB F rooms needs k (reachL F)[j] = false) := by
            show ∀ j, _ → _
            intro j hj h
            by_cases e : j = i
            · subst e
              rw [someB_S, ← Hrv.out]
              exact List.any_eq_false.2 (fun S hS => by
                obtain ⟨q, hq, rfl⟩ := List.getElem_of_mem hS
                rw [HnoS.out q (by rw [Hm.out]; exact hq) hq]; simp)
            · exact Hno.out j (by omega) h
          go_wp2_with fail
          go_roundw
          case rel => exact ⟨i + 1, by omega, by go_num, Hno2, hk52⟩
          case measure => simp [intOf]; omega
    · obtain rfl : i = R := by omega
      go_wp2_with fail
      go_ret2
      exact ⟨rr_end HOk.out (fun j hj h => Hno.out j (by rw [HR.out]; exact hj) h), (hkw.trans hkb5).trans hkr⟩
end Go.Proofs.YtpiijhfjliolfaaGreat
