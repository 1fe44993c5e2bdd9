/- BestBudget: reference and program. No condition. -/
import Derived.Test.YtbefnhagmejpcaaBestG2
import Derived.Deep.RegionWith
namespace Go.Proofs.Ytbefnhagmejpcaa
open Go.RowKit Go.Sort

def aP (F : Fld) (k : Int) (S : List Int) : Bool := decide (payF F S ≤ k)
def bbOk (F : Fld) (worth k : Int) : Bool := goodF F && worthB worth && inB k 0 9999
def bbL (F : Fld) (worth k : Int) : List Int := if bbOk F worth k = true then bgF F worth (aP F k) else []
theorem bbL_yes {F : Fld} {worth k : Int} (h : bbOk F worth k = true) : bbL F worth k = bgF F worth (aP F k) := if_pos h
theorem bbL_no {F : Fld} {worth k : Int} (h : bbOk F worth k = false) : bbL F worth k = [] := if_neg (by simp [h])
theorem bbOk_parts {F : Fld} {worth k : Int} (h : bbOk F worth k = true) : goodF F = true ∧ (0 ≤ worth ∧ worth ≤ 999) ∧ 0 ≤ k ∧ k ≤ 9999 := by
  simp only [bbOk, worthB, inB, Bool.and_eq_true, decide_eq_true_eq] at h
  exact ⟨h.1.1, h.1.2, h.2⟩
theorem aP_nil {F : Fld} {k : Int} (h : 0 ≤ k) : aP F k [] = true := by simp [aP, payF, h]
theorem bbL_len (F : Fld) (worth k : Int) : (bbL F worth k).length ≤ 1048576 := by
  by_cases h : bbOk F worth k = true
  · have hp := bbOk_parts h
    rw [bbL_yes h]
    have h1 := bg_len (F := F) (worth := worth) (aP_nil (F := F) hp.2.2.1)
    have h2 := (goodF_iff.1 hp.1).1.2
    omega
  · rw [bbL_no (by simpa using h)]; simp
theorem l8Budget_any (k : Int) (w : World) : Calls Try.prog 43 #[.int .i64 k] w fun e w' => e = .returned (.bool (inB k 0 9999)) ∧ w = w' := by
  go_enter Try.func43, Try.ntmps43
  go_wp2_with fail
  with_reducible refine Calls.mono (l1In_any _ _ _ _) ?_
  rintro e w1 ⟨rfl, hw⟩
  obtain rfl := hw
  go_wp2_with fail
  go_ret
  exact ⟨rfl, rfl⟩
set_option maxRecDepth 100000 in
set_option maxHeartbeats 2000000 in
theorem specBb_any (f : Value) (F : Fld) (worth k : Int) (w : World) (hf : FldAt w f F) :
    Calls Try.prog 18 #[f, .int .i64 worth, .int .i64 k] w fun e w' => ∃ v, e = .returned (.tuple #[v, .bool (bbOk F worth k)]) ∧ Own w' w.heap.size v (bbL F worth k) ∧ Kp w w' := by
  obtain ⟨A, c, B, d, rfl, hA, hB⟩ := hf
  have hk0 : Kp w (w.alloc (.cells #[.slice A F.op.length c, .slice B F.di.length d] 29)) := (Kp.refl w).alloc _
  obtain ⟨d0, d1⟩ := box2 w (.slice A F.op.length c) (.slice B F.di.length d) 29
  have hFA := FldAt.kp (show FldAt w (.agg #[.slice A F.op.length c, .slice B F.di.length d]) F from ⟨A, c, B, d, rfl, hA, hB⟩) hk0
  clear hA hB
  go_enter Try.func18, Try.ntmps18
  go_wp2_with fail
  have hsz : Hid ((w.alloc (.cells #[.slice A F.op.length c, .slice B F.di.length d] 29)).heap.size = w.heap.size + 1) := by show _ = _; simp
  generalize w.alloc (.cells #[.slice A F.op.length c, .slice B F.di.length d] 29) = wb at *
  have hkb : Kp wb wb := Kp.refl _
  have hkw := hk0
  have ho0 := own_new0 wb w.heap.size (by rw [hsz.out]; exact Nat.le_succ _)
  have hkn := (Kp.refl wb).alloc (.cells #[] 3)
  rw [hsz.out] at ho0
  have q_0 := hkn.get d0
  have q_1 := hkn.get d1
  have CC := Lib.hid (l8Good_any _ F worth _ (hFA.kp hkn))
  with_reducible refine Calls.mono CC.out ?_
  rintro e w1 ⟨rfl, hk1⟩
  clear CC q_0 q_1
  replace hkb := hkn.trans hk1
  have ho1 := ho0.kp hk1
  have hw1le := (hkw.trans hkb).le
  cases hg_ : (goodF F && worthB worth)
  · have Hno : Hid (bbOk F worth k = false) := by show _ = _; rw [bbOk, hg_]; rfl
    clear hg_
    have q_d0 := hkb.get d0
    have q_d1 := hkb.get d1
    go_wp2_with fail
    go_ret2
    exact ⟨_, by rw [Hno.out]; rfl, by rw [bbL_no Hno.out]; exact ho1, hkw.trans hkb⟩
  have Hg := Lib.hid hg_; clear hg_
  have q_d0 := hkb.get d0
  have q_d1 := hkb.get d1
  go_wp2_with fail
  with_reducible refine Calls.mono (l8Budget_any k _) ?_
  rintro e w1 ⟨rfl, hw⟩
  obtain rfl := hw
  clear q_d0 q_d1
  cases hk_ : inB k 0 9999
  · have Hno : Hid (bbOk F worth k = false) := by show _ = _; rw [bbOk, hk_]; simp
    clear hk_
    have q_d0 := hkb.get d0
    have q_d1 := hkb.get d1
    go_wp2_with fail
    go_ret2
    exact ⟨_, by rw [Hno.out]; rfl, by rw [bbL_no Hno.out]; exact ho1, hkw.trans hkb⟩
  have Hok : Hid (bbOk F worth k = true) := by show _ = _; rw [bbOk, Hg.out, hk_]; rfl
  clear hk_
  have HP := Lib.hid (bbOk_parts Hok.out)
  have HG := Lib.hid HP.out.1
  have hw0 := HP.out.2.1.1
  have hw9 := HP.out.2.1.2
  have PN : aP F k [] = true := aP_nil HP.out.2.2.1
  have q_d0 := hkb.get d0
  have q_d1 := hkb.get d1
  go_wp2_with fail
  have CC := Lib.hid (l8All_any _ F _ (hFA.kp hkb) HG.out)
  with_reducible refine Calls.mono CC.out ?_
  rintro e w2 ⟨v, rfl, hvn, hgo, hk2⟩
  clear CC q_d0 q_d1
  replace hkb := hkb.trans hk2
  have hg7 := (goodF_iff.1 HG.out).1.2
  obtain ⟨ad, cx, hve, hcx, hrows⟩ := hgo.rows_some (by have := allS_most HG.out; omega) hvn
  subst hve
  clear hgo hvn
  obtain ⟨rows, hre⟩ : ∃ rows, rows = allS F.op.length := ⟨_, rfl⟩
  rw [← hre] at hrows hcx ⊢
  have Hpk : Hid (pkTo (aP F k) (negG F worth) rows rows.length = bgF F worth (aP F k)) := by show _ = _; rw [hre]; exact pk_all PN
  have Hset : Hid (∀ S ∈ rows, setB F S = true) := by show ∀ S ∈ rows, _; rw [hre]; exact allS_ris
  have Hmem : Hid (∀ jj, jj ≤ rows.length → setB F (pkTo (aP F k) (negG F worth) rows jj) = true) := by show ∀ jj, _ → _; rw [hre]; exact fun jj hk => allS_ris _ (pk_mem jj hk)
  have l1 : rows.length ≤ 128 := by rw [hre]; exact allS_most HG.out
  obtain ⟨m, hml⟩ : ∃ m, m = rows.length := ⟨_, rfl⟩
  rw [← hml] at l1 ⊢
  replace hml := Lib.hid hml
  clear hre
  have g0 := hkb.get d0
  have g1 := hkb.get d1
  have hFl := hFA.kp hkb
  have hkl := hkw.trans hkb
  obtain ⟨wl, rfl⟩ : ∃ wl : World, wl = w2 := ⟨_, rfl⟩
  have ho2 := RowP.of_own (ho1.kp hk2) (by simp)
  clear ho0 ho1 hkn hk1 PN hkb d0 d1
  go_wp2_with fail
  go_loopw [8, 10] (fun bv iv wr => ∃ (k' : Nat) (Ab : Option Addr) (cb : Nat), k' ≤ m ∧ iv = .int .i64 k' ∧ bv = .slice Ab (pkTo (aP F k) (negG F worth) rows k').length cb ∧ RowP wr (some w.heap.size) (.slice Ab (pkTo (aP F k) (negG F worth) rows k').length cb) (pkTo (aP F k) (negG F worth) rows k') ∧ Kp wl wr) (fun _ iv _ => m - (intOf iv).toNat)
  case atStart => exact ⟨0, _, _, by omega, rfl, rfl, ho2, Kp.refl _⟩
  case round =>
    clear ho2
    obtain ⟨j, Ab, cb, hj, rfl, rfl, hb, hkr⟩ := hrel
    by_cases hlt : j < m
    · have lx : j < rows.length := by rw [← hml.out]; exact hlt
      obtain ⟨A3, c3, hcl, hc3, hri, hrq⟩ := (hrows.kp hkr).some_ lx
      obtain ⟨Ab', cb', eb, hcb, hbi⟩ := hb.read
      simp only [Value.slice.injEq] at eb
      obtain ⟨rfl, _, rfl⟩ := eb
      have q1 := Lib.hid (Hset.out _ (List.getElem_mem lx))
      have q2 := Lib.hid (Hmem.out j (Nat.le_of_lt lx))
      have hkz : Kp wr wr := Kp.refl _
      have z0 := hkr.get g0
      have z1 := hkr.get g1
      have C1 := Lib.hid (fun (wx : World) (hx : Kp wr wx) => l8Gain_any _ F worth A3 rows[j] _ c3 wx (hFl.kp (hkr.trans hx)) (hri.kp hx) rfl HG.out q1.out hw0 hw9)
      have C2 := Lib.hid (fun (wx : World) (hx : Kp wr wx) => l8Gain_any _ F worth Ab (pkTo (aP F k) (negG F worth) rows j) _ cb wx (hFl.kp (hkr.trans hx)) (hbi.kp hx) rfl HG.out q2.out hw0 hw9)
      have C0 := Lib.hid (fun (wx : World) (hx : Kp wr wx) => l2Pay_any _ F A3 rows[j] _ c3 wx (hFl.kp (hkr.trans hx)) (hri.kp hx) rfl HG.out q1.out)
      by_cases hle : payF F rows[j] ≤ k
      · by_cases hgt : gainF F worth (pkTo (aP F k) (negG F worth) rows j) < gainF F worth rows[j]
        · have Hy : Hid (pkTo (aP F k) (negG F worth) rows (j + 1) = rows[j]) := pk_yes lx (by simp [aP, hle]) (Int.neg_lt_neg hgt)
          have q_z0 := hkz.get z0
          have q_z1 := hkz.get z1
          have q_hcl := hkz.get hcl
          have tok1 : True := trivial
          go_wp2_with fail
          go_region_held3 (fun w' => w'.cell? ⟨w.heap.size, 0, none⟩ = some (.slice A F.op.length c) ∧ w'.cell? ⟨w.heap.size, 1, none⟩ = some (.slice B F.di.length d) ∧ w'.cell? (ad.add j) = some (.slice A3 rows[j].length c3) ∧ Kp wr w')
            (first | (refine keepc3 z0 z1 hcl ?_; exact (by repeat (first | with_reducible assumption | with_reducible exact Kp.refl _ | with_reducible refine Kp.drew ?_ | with_reducible refine Kp.alloc ?_ _ | with_reducible refine Kp.drewN ?_ _))) | fail)
            (first
              | (have _t := tok1; go_at_call 44; with_reducible refine Calls.mono (C0.out _ (by repeat (first | with_reducible assumption | with_reducible exact Kp.refl _ | with_reducible refine Kp.drew ?_ | with_reducible refine Kp.alloc ?_ _ | with_reducible refine Kp.drewN ?_ _))) ?_; rintro e wr1 ⟨rfl, hka⟩; have hr1 : Kp wr wr1 := Kp.trans (by repeat (first | with_reducible assumption | with_reducible exact Kp.refl _ | with_reducible refine Kp.drew ?_ | with_reducible refine Kp.alloc ?_ _ | with_reducible refine Kp.drewN ?_ _)) hka; have tok2 : True := trivial; clear tok1 _t)
              | (have _t := tok2; go_at_call 34; with_reducible refine Calls.mono (C1.out _ (by repeat (first | with_reducible assumption | with_reducible exact Kp.refl _ | with_reducible refine Kp.drew ?_ | with_reducible refine Kp.alloc ?_ _ | with_reducible refine Kp.drewN ?_ _))) ?_; rintro e wr2 ⟨rfl, hka⟩; have hr2 : Kp wr wr2 := Kp.trans (by repeat (first | with_reducible assumption | with_reducible exact Kp.refl _ | with_reducible refine Kp.drew ?_ | with_reducible refine Kp.alloc ?_ _ | with_reducible refine Kp.drewN ?_ _)) hka; have tok3 : True := trivial; clear tok2 _t)
              | (have _t := tok3; go_at_call 34; with_reducible refine Calls.mono (C2.out _ (by repeat (first | with_reducible assumption | with_reducible exact Kp.refl _ | with_reducible refine Kp.drew ?_ | with_reducible refine Kp.alloc ?_ _ | with_reducible refine Kp.drewN ?_ _))) ?_; rintro e wr3 ⟨rfl, hka⟩; have hr3 : Kp wr wr3 := Kp.trans (by repeat (first | with_reducible assumption | with_reducible exact Kp.refl _ | with_reducible refine Kp.drew ?_ | with_reducible refine Kp.alloc ?_ _ | with_reducible refine Kp.drewN ?_ _)) hka; have tok4 : True := trivial; clear tok3 _t)
              | fail)
          have hc4 := hr3.get hcl
          go_wp2_with fail
          go_roundw
          case rel => exact ⟨j + 1, A3, c3, by omega, by go_num, by rw [Hy.out], by rw [Hy.out]; exact (hrq.mono hw1le).kp hr3, hkr.trans hr3⟩
          case measure => simp [intOf]; omega
        · have Hy : Hid (pkTo (aP F k) (negG F worth) rows (j + 1) = pkTo (aP F k) (negG F worth) rows j) := pk_no lx (fun h => hgt (by have h3 : -gainF F worth rows[j] < -gainF F worth (pkTo (aP F k) (negG F worth) rows j) := h.2; omega))
          have q_z0 := hkz.get z0
          have q_z1 := hkz.get z1
          have q_hcl := hkz.get hcl
          have tok1 : True := trivial
          go_wp2_with fail
          go_region_held3 (fun w' => w'.cell? ⟨w.heap.size, 0, none⟩ = some (.slice A F.op.length c) ∧ w'.cell? ⟨w.heap.size, 1, none⟩ = some (.slice B F.di.length d) ∧ w'.cell? (ad.add j) = some (.slice A3 rows[j].length c3) ∧ Kp wr w')
            (first | (refine keepc3 z0 z1 hcl ?_; exact (by repeat (first | with_reducible assumption | with_reducible exact Kp.refl _ | with_reducible refine Kp.drew ?_ | with_reducible refine Kp.alloc ?_ _ | with_reducible refine Kp.drewN ?_ _))) | fail)
            (first
              | (have _t := tok1; go_at_call 44; with_reducible refine Calls.mono (C0.out _ (by repeat (first | with_reducible assumption | with_reducible exact Kp.refl _ | with_reducible refine Kp.drew ?_ | with_reducible refine Kp.alloc ?_ _ | with_reducible refine Kp.drewN ?_ _))) ?_; rintro e wr1 ⟨rfl, hka⟩; have hr1 : Kp wr wr1 := Kp.trans (by repeat (first | with_reducible assumption | with_reducible exact Kp.refl _ | with_reducible refine Kp.drew ?_ | with_reducible refine Kp.alloc ?_ _ | with_reducible refine Kp.drewN ?_ _)) hka; have tok2 : True := trivial; clear tok1 _t)
              | (have _t := tok2; go_at_call 34; with_reducible refine Calls.mono (C1.out _ (by repeat (first | with_reducible assumption | with_reducible exact Kp.refl _ | with_reducible refine Kp.drew ?_ | with_reducible refine Kp.alloc ?_ _ | with_reducible refine Kp.drewN ?_ _))) ?_; rintro e wr2 ⟨rfl, hka⟩; have hr2 : Kp wr wr2 := Kp.trans (by repeat (first | with_reducible assumption | with_reducible exact Kp.refl _ | with_reducible refine Kp.drew ?_ | with_reducible refine Kp.alloc ?_ _ | with_reducible refine Kp.drewN ?_ _)) hka; have tok3 : True := trivial; clear tok2 _t)
              | (have _t := tok3; go_at_call 34; with_reducible refine Calls.mono (C2.out _ (by repeat (first | with_reducible assumption | with_reducible exact Kp.refl _ | with_reducible refine Kp.drew ?_ | with_reducible refine Kp.alloc ?_ _ | with_reducible refine Kp.drewN ?_ _))) ?_; rintro e wr3 ⟨rfl, hka⟩; have hr3 : Kp wr wr3 := Kp.trans (by repeat (first | with_reducible assumption | with_reducible exact Kp.refl _ | with_reducible refine Kp.drew ?_ | with_reducible refine Kp.alloc ?_ _ | with_reducible refine Kp.drewN ?_ _)) hka; have tok4 : True := trivial; clear tok3 _t)
              | fail)
          go_wp2_with fail
          go_roundw
          case rel => exact ⟨j + 1, Ab, cb, by omega, by go_num, by rw [Hy.out], by rw [Hy.out]; exact hb.kp hr3, hkr.trans hr3⟩
          case measure => simp [intOf]; omega
      · have Hy : Hid (pkTo (aP F k) (negG F worth) rows (j + 1) = pkTo (aP F k) (negG F worth) rows j) := pk_no lx (fun h => hle (by simpa [aP] using h.1))
        clear C1 C2
        have hdec : decide (payF F rows[j] ≤ k) = false := by simpa using hle
        have r0 := cell_regrown z0; have r1 := cell_regrown z1; have r2 := cell_regrown hcl
        have Cv := Lib.hid (fun (dd : Nat) (os : Array Obj) => Calls.regrown_of (l2Pay_any _ F A3 rows[j] _ c3 _ ((hFl.kp hkr).kp (kp_rg wr dd os)) (hri.kp (kp_rg wr dd os)) rfl HG.out q1.out))
        clear C0 hkz hle
        generalize payF F rows[j] = pay at Cv hdec
        go_wp2_with fail
        refine wp_region_quiet_below (by kernel_rfl) (by kernel_rfl) ?_
        iterate 9 (quiet_step (with_reducible exact Cv.out _ _))
        clear Cv
        repeat go_big_quiet_skip
        quiet_step (fail)
        refine wpQuiet_nil ?_
        intro wq hw'
        have hkq := kp_of_rg hw'
        clear hw' r0 r1 r2
        go_wp2_with fail
        go_roundw
        case rel => exact ⟨j + 1, Ab, cb, by omega, by go_num, by rw [Hy.out], by rw [Hy.out]; exact hb.kp hkq, hkr.trans hkq⟩
        case measure => simp [intOf]; omega
    · obtain rfl : j = m := by omega
      have Hy : Hid (pkTo (aP F k) (negG F worth) rows j = bgF F worth (aP F k)) := by show _ = _; rw [hml.out]; exact Hpk.out
      go_wp2_with fail
      go_ret2
      exact ⟨_, by rw [Hok.out]; rfl, by rw [bbL_yes Hok.out, ← Hy.out]; exact hb.2 _ rfl, hkl.trans hkr⟩
set_option maxRecDepth 100000 in
set_option maxHeartbeats 1000000 in
theorem implBb_any (f : Value) (F : Fld) (worth k : Int) (w : World) (hf : FldAt w f F) :
    Calls Try.prog 19 #[f, .int .i64 worth, .int .i64 k] w fun e w' => ∃ v, e = .returned (.tuple #[v, .bool (bbOk F worth k)]) ∧ Own w' w.heap.size v (bbL F worth k) ∧ Kp w w' := by
  obtain ⟨A, c, B, d, rfl, hA, hB⟩ := hf
  have hk0 : Kp w (w.alloc (.cells #[.slice A F.op.length c, .slice B F.di.length d] 29)) := (Kp.refl w).alloc _
  obtain ⟨d0, d1⟩ := box2 w (.slice A F.op.length c) (.slice B F.di.length d) 29
  have hFA := FldAt.kp (show FldAt w (.agg #[.slice A F.op.length c, .slice B F.di.length d]) F from ⟨A, c, B, d, rfl, hA, hB⟩) hk0
  clear hA hB
  go_enter Try.func19, Try.ntmps19
  go_wp2_with fail
  have hsz : Hid ((w.alloc (.cells #[.slice A F.op.length c, .slice B F.di.length d] 29)).heap.size = w.heap.size + 1) := by show _ = _; simp
  generalize w.alloc (.cells #[.slice A F.op.length c, .slice B F.di.length d] 29) = wb at *
  have hkb : Kp wb wb := Kp.refl _
  have hkw := hk0
  have hkw0 := hkw
  have CC := Lib.hid (isWorth_any _ F worth none [] 0 0 _ (hFA.kp hkb) (IntsAt.nil _ none) rfl)
  with_reducible refine Calls.mono CC.out ?_
  rintro e w1 ⟨rfl, hk1⟩
  clear CC
  replace hkb := hkb.trans hk1
  have hgo : gainOk F worth [] = (goodF F && worthB worth) := by simp [gainOk, setB, risB]
  rw [hgo]
  clear hgo
  cases hg_ : (goodF F && worthB worth)
  · have Hno : Hid (bbOk F worth k = false) := by show _ = _; rw [bbOk, hg_]; rfl
    clear hg_
    have q_d0 := hkb.get d0
    have q_d1 := hkb.get d1
    go_wp2_with fail
    go_ret2
    exact ⟨_, by rw [Hno.out]; rfl, by rw [bbL_no Hno.out]; exact Own.nil _ _, hkw0.trans hkb⟩
  have Hg := Lib.hid hg_; clear hg_
  have q_d0 := hkb.get d0
  have q_d1 := hkb.get d1
  go_wp2_with fail
  with_reducible refine Calls.mono (between_any _ _ _ _) ?_
  rintro e w2 ⟨rfl, hw⟩
  obtain rfl := hw
  clear q_d0 q_d1
  cases hk_ : inB k 0 9999
  · have Hno : Hid (bbOk F worth k = false) := by show _ = _; rw [bbOk, hk_]; simp
    clear hk_
    have q_d0 := hkb.get d0
    have q_d1 := hkb.get d1
    go_wp2_with fail
    go_ret2
    exact ⟨_, by rw [Hno.out]; rfl, by rw [bbL_no Hno.out]; exact Own.nil _ _, hkw0.trans hkb⟩
  have Hok : Hid (bbOk F worth k = true) := by show _ = _; rw [bbOk, Hg.out, hk_]; rfl
  clear hk_
  have HP := Lib.hid (bbOk_parts Hok.out)
  have hg7 := (goodF_iff.1 HP.out.1).1.2
  have HPN := Lib.hid (aP_nil (F := F) HP.out.2.2.1)
  have C0 := Lib.hid (fun (wx : World) (hx : Kp wb wx) => (show Calls Try.prog 45 #[.agg #[.slice A F.op.length c, .slice B F.di.length d], .int .i64 k] wx fun e w' => ∃ caps, e = .returned (.func (.func 74) #[] caps) ∧ Tells 74 #[] caps (aP F k) (fun S => setB F S = true) w' ∧ Kp wx w' from affords_any _ F k wx (hFA.kp hx) HP.out.1))
  have C1 := Lib.hid (fun (wx : World) (_ : Kp wb wx) (caps : Array Value) (ht : Tells 74 #[] caps (aP F k) (fun S => setB F S = true) wx) => lists_any 74 #[] caps (aP F k) (fun S => setB F S = true) F.op.length wx hg7 ht allS_ris)
  have C2 := Lib.hid (fun (wx : World) (hx : Kp wb wx) (lo : Option Nat) (Ax : Option Addr) (m cx : Nat) (hr : RowsAt wx lo Ax ((allS F.op.length).filter (aP F k))) (hm : ((allS F.op.length).filter (aP F k)).length = m) => most_any _ F worth lo Ax ((allS F.op.length).filter (aP F k)) m cx wx (hFA.kp hx) hr hm (by have := fil_pos (n := F.op.length) HPN.out; omega) HP.out.1 HP.out.2.1.1 HP.out.2.1.2 (fun S hS => allS_ris _ (List.mem_filter.1 hS).1))
  have HF7 := Lib.hid (fil_most HP.out.1 (aP F k))
  have q_d0 := hkb.get d0
  have q_d1 := hkb.get d1
  have tok1 : True := trivial
  go_wp2_with fail
  go_region_held3 (fun w' => w'.cell? ⟨w.heap.size, 0, none⟩ = some (.slice A F.op.length c) ∧ w'.cell? ⟨w.heap.size, 1, none⟩ = some (.slice B F.di.length d) ∧ Kp wb w')
    (first | (refine keepc2 d0 d1 ?_; exact (by repeat (first | with_reducible assumption | with_reducible exact Kp.refl _ | with_reducible refine Kp.drew ?_ | with_reducible refine Kp.alloc ?_ _ | with_reducible refine Kp.drewN ?_ _))) | fail)
    (first
      | (have _t := tok1; go_at_call 45; with_reducible refine Calls.mono (C0.out _ (by repeat (first | with_reducible assumption | with_reducible exact Kp.refl _ | with_reducible refine Kp.drew ?_ | with_reducible refine Kp.alloc ?_ _ | with_reducible refine Kp.drewN ?_ _))) ?_; rintro e wr1 ⟨caps, rfl, htl, hka⟩; have hr1 : Kp wb wr1 := Kp.trans (by repeat (first | with_reducible assumption | with_reducible exact Kp.refl _ | with_reducible refine Kp.drew ?_ | with_reducible refine Kp.alloc ?_ _ | with_reducible refine Kp.drewN ?_ _)) hka; have tok2 : True := trivial; clear tok1 _t)
      | (have _t := tok2; go_at_call 39; with_reducible refine Calls.mono (C1.out _ hr1 caps htl) ?_; rintro e wr2 ⟨v, rfl, hvn, hgo, hka⟩; have hr2 : Kp wb wr2 := Kp.trans (by repeat (first | with_reducible assumption | with_reducible exact Kp.refl _ | with_reducible refine Kp.drew ?_ | with_reducible refine Kp.alloc ?_ _ | with_reducible refine Kp.drewN ?_ _)) hka; obtain ⟨Ax, cx, hve, hcx, hrows⟩ := hgo.rows (by have := HF7.out; omega); subst hve; have tok3 : True := trivial; clear tok2 _t)
      | (have _t := tok3; go_at_call 38; with_reducible refine Calls.mono (C2.out _ hr2 _ Ax _ cx hrows rfl) ?_; rintro e wr3 ⟨u, rfl, hu, hka⟩; have hr3 : Kp wb wr3 := Kp.trans (by repeat (first | with_reducible assumption | with_reducible exact Kp.refl _ | with_reducible refine Kp.drew ?_ | with_reducible refine Kp.alloc ?_ _ | with_reducible refine Kp.drewN ?_ _)) hka; have tok4 : True := trivial; clear tok3 _t)
      | fail)
  all_goals
    go_wp2_with fail
    go_ret2
    exact ⟨u, by rw [Hok.out]; rfl, by rw [bbL_yes Hok.out]; exact ((hu.2 _ rfl).mono (hkw0.trans hr1).le), hkw0.trans hr3⟩
end Go.Proofs.Ytbefnhagmejpcaa
