/- BestAllowed: reference and program. No condition. -/
import Derived.Test.YtbefnhagmejpcaaBestG2
namespace Go.Proofs.Ytbefnhagmejpcaa
open Go.RowKit Go.Sort

def baOk (F : Fld) (worth : Int) (cl li : List Int) : Bool := goodF F && worthB worth && clsB F cl li
def baL (F : Fld) (worth : Int) (cl li : List Int) : List Int := if baOk F worth cl li = true then bgF F worth (allowB cl li) else []
theorem baL_yes {F : Fld} {worth : Int} {cl li : List Int} (h : baOk F worth cl li = true) : baL F worth cl li = bgF F worth (allowB cl li) := if_pos h
theorem baL_no {F : Fld} {worth : Int} {cl li : List Int} (h : baOk F worth cl li = false) : baL F worth cl li = [] := if_neg (by simp [h])
theorem baOk_parts {F : Fld} {worth : Int} {cl li : List Int} (h : baOk F worth cl li = true) : goodF F = true ∧ (0 ≤ worth ∧ worth ≤ 999) ∧ clsB F cl li = true := by
  simp only [baOk, worthB, inB, Bool.and_eq_true, decide_eq_true_eq] at h
  exact ⟨h.1.1, h.1.2, h.2⟩
theorem allow_nil {F : Fld} {cl li : List Int} (h : clsB F cl li = true) : allowB cl li [] = true := by
  have hp := (clsB_iff.1 h).2.2.2
  simp only [allowB, List.all_eq_true, List.mem_range, decide_eq_true_eq]
  intro c hc
  have e : li.getD c 0 = li[c] := by simp [List.getD, hc]
  have h0 := hp _ (List.getElem_mem hc)
  have hz : cntC cl [] c = 0 := rfl
  rw [e, hz]; omega
theorem baL_len (F : Fld) (worth : Int) (cl li : List Int) : (baL F worth cl li).length ≤ 1048576 := by
  by_cases h : baOk F worth cl li = true
  · have hp := baOk_parts h
    rw [baL_yes h]
    have h1 := bg_len (F := F) (worth := worth) (allow_nil hp.2.2)
    have h2 := (goodF_iff.1 hp.1).1.2
    omega
  · rw [baL_no (by simpa using h)]; simp
set_option maxRecDepth 100000 in
set_option maxHeartbeats 2000000 in
theorem specBa_any (f : Value) (F : Fld) (worth : Int) (A1 : Option Addr) (cl : List Int) (n1 c1 : Nat) (A2 : Option Addr) (li : List Int) (n2 c2 : Nat) (w : World) (hf : FldAt w f F) (h1 : IntsAt w A1 cl) (hn1 : cl.length = n1) (h2 : IntsAt w A2 li) (hn2 : li.length = n2) :
    Calls Try.prog 20 #[f, .int .i64 worth, .slice A1 n1 c1, .slice A2 n2 c2] w fun e w' => ∃ v, e = .returned (.tuple #[v, .bool (baOk F worth cl li)]) ∧ Own w' w.heap.size v (baL F worth cl li) ∧ Kp w w' := by
  obtain ⟨A, c, B, d, rfl, hA, hB⟩ := hf
  have hk0 : Kp w (w.alloc (.cells #[.slice A F.op.length c, .slice B F.di.length d] 29)) := (Kp.refl w).alloc _
  obtain ⟨d0, d1⟩ := box2 w (.slice A F.op.length c) (.slice B F.di.length d) 29
  have hFA := FldAt.kp (show FldAt w (.agg #[.slice A F.op.length c, .slice B F.di.length d]) F from ⟨A, c, B, d, rfl, hA, hB⟩) hk0
  replace h1 := h1.kp hk0
  replace h2 := h2.kp hk0
  have Hn1 := Lib.hid hn1; have Hn2 := Lib.hid hn2
  clear hA hB hn1 hn2
  go_enter Try.func20, Try.ntmps20
  go_wp2_with fail
  have hsz : Hid ((w.alloc (.cells #[.slice A F.op.length c, .slice B F.di.length d] 29)).heap.size = w.heap.size + 1) := by show _ = _; simp
  generalize w.alloc (.cells #[.slice A F.op.length c, .slice B F.di.length d] 29) = wb at *
  have hkb : Kp wb wb := Kp.refl _
  have hkw := hk0
  have ho0 := own_new0 wb w.heap.size (by rw [hsz.out]; exact Nat.le_succ _)
  have hkn := (Kp.refl wb).alloc (.cells #[] 3)
  rw [hsz.out] at ho0
  have q_0 := hkn.get d0
  have q_1 := hkn.get d1
  have CC := Lib.hid (l8Good_any _ F worth _ (hFA.kp hkn))
  with_reducible refine Calls.mono CC.out ?_
  rintro e w0 ⟨rfl, hk0'⟩
  clear CC q_0 q_1
  replace hkb := hkn.trans hk0'
  have ho1 := ho0.kp hk0'
  cases hg_ : (goodF F && worthB worth)
  · have Hno : Hid (baOk F worth cl li = false) := by show _ = _; rw [baOk, hg_]; rfl
    clear hg_
    have q_d0 := hkb.get d0
    have q_d1 := hkb.get d1
    go_wp2_with fail
    go_ret2
    exact ⟨_, by rw [Hno.out]; rfl, by rw [baL_no Hno.out]; exact ho1, hkw.trans hkb⟩
  have Hg := Lib.hid hg_; clear hg_
  have q_d0 := hkb.get d0
  have q_d1 := hkb.get d1
  go_wp2_with fail
  have CC := Lib.hid (l8Classes_any _ F A1 cl n1 c1 A2 li n2 c2 _ (hFA.kp hkb) (h1.kp hkb) Hn1.out (h2.kp hkb) Hn2.out)
  with_reducible refine Calls.mono CC.out ?_
  rintro e w1 ⟨rfl, hk1⟩
  clear CC q_d0 q_d1
  replace hkb := hkb.trans hk1
  replace ho1 := ho1.kp hk1
  cases hk_ : clsB F cl li
  · have Hno : Hid (baOk F worth cl li = false) := by show _ = _; rw [baOk, hk_]; simp
    clear hk_
    have q_d0 := hkb.get d0
    have q_d1 := hkb.get d1
    go_wp2_with fail
    go_ret2
    exact ⟨_, by rw [Hno.out]; rfl, by rw [baL_no Hno.out]; exact ho1, hkw.trans hkb⟩
  have Hok : Hid (baOk F worth cl li = true) := by show _ = _; rw [baOk, Hg.out, hk_]; rfl
  clear hk_
  have HP := Lib.hid (baOk_parts Hok.out)
  have HG := Lib.hid HP.out.1
  have hw0 := HP.out.2.1.1
  have hw9 := HP.out.2.1.2
  have PN : allowB cl li [] = true := allow_nil HP.out.2.2
  have hw1le := (hkw.trans hkb).le
  have HCM := Lib.hid (fun S (hs : setB F S = true) => cls_mem HP.out.2.2 hs)
  have q_d0 := hkb.get d0
  have q_d1 := hkb.get d1
  go_wp2_with fail
  have CC := Lib.hid (l8All_any _ F _ (hFA.kp hkb) HG.out)
  with_reducible refine Calls.mono CC.out ?_
  rintro e w2 ⟨v, rfl, hvn, hgo, hk2⟩
  clear CC q_d0 q_d1
  replace hkb := hkb.trans hk2
  replace ho1 := ho1.kp hk2
  have hg7 := (goodF_iff.1 HG.out).1.2
  obtain ⟨ad, cx, hve, hcx, hrows⟩ := hgo.rows_some (by have := allS_most HG.out; omega) hvn
  subst hve
  clear hgo hvn
  obtain ⟨rows, hre⟩ : ∃ rows, rows = allS F.op.length := ⟨_, rfl⟩
  rw [← hre] at hrows hcx ⊢
  have Hpk : Hid (pkTo (allowB cl li) (negG F worth) rows rows.length = bgF F worth (allowB cl li)) := by show _ = _; rw [hre]; exact pk_all PN
  have Hset : Hid (∀ S ∈ rows, setB F S = true) := by show ∀ S ∈ rows, _; rw [hre]; exact allS_ris
  have Hmem : Hid (∀ jj, jj ≤ rows.length → setB F (pkTo (allowB cl li) (negG F worth) rows jj) = true) := by show ∀ jj, _ → _; rw [hre]; exact fun jj hk => allS_ris _ (pk_mem jj hk)
  have l1 : rows.length ≤ 128 := by rw [hre]; exact allS_most HG.out
  obtain ⟨m, hml⟩ : ∃ m, m = rows.length := ⟨_, rfl⟩
  rw [← hml] at l1 ⊢
  replace hml := Lib.hid hml
  clear hre
  have g0 := hkb.get d0
  have g1 := hkb.get d1
  have hFl := hFA.kp hkb
  have hkl := hkw.trans hkb
  obtain ⟨wl, rfl⟩ : ∃ wl : World, wl = w2 := ⟨_, rfl⟩
  have ho2 := RowP.of_own ho1 (by simp)
  have h1l := h1.kp hkb
  have h2l := h2.kp hkb
  clear ho0 ho1 hkn hk0' PN hkb d0 d1
  go_wp2_with fail
  go_loopw [10, 12] (fun bv iv wr => ∃ (k' : Nat) (Ab : Option Addr) (cb : Nat), k' ≤ m ∧ iv = .int .i64 k' ∧ bv = .slice Ab (pkTo (allowB cl li) (negG F worth) rows k').length cb ∧ RowP wr (some w.heap.size) (.slice Ab (pkTo (allowB cl li) (negG F worth) rows k').length cb) (pkTo (allowB cl li) (negG F worth) rows k') ∧ Kp wl wr) (fun _ iv _ => m - (intOf iv).toNat)
  case atStart => exact ⟨0, _, _, by omega, rfl, rfl, ho2, Kp.refl _⟩
  case round =>
    clear ho2
    obtain ⟨j, Ab, cb, hj, rfl, rfl, hb, hkr⟩ := hrel
    by_cases hlt : j < m
    · have lx : j < rows.length := by rw [← hml.out]; exact hlt
      obtain ⟨A3, c3, hcl, hc3, hri, hrq⟩ := (hrows.kp hkr).some_ lx
      obtain ⟨Ab', cb', eb, hcb, hbi⟩ := hb.read
      simp only [Value.slice.injEq] at eb
      obtain ⟨rfl, _, rfl⟩ := eb
      have q1 := Lib.hid (Hset.out _ (List.getElem_mem lx))
      have q2 := Lib.hid (Hmem.out j (Nat.le_of_lt lx))
      have hkz : Kp wr wr := Kp.refl _
      have z0 := hkr.get g0
      have z1 := hkr.get g1
      have C1 := Lib.hid (fun (wx : World) (hx : Kp wr wx) => l8Gain_any _ F worth A3 rows[j] _ c3 wx (hFl.kp (hkr.trans hx)) (hri.kp hx) rfl HG.out q1.out hw0 hw9)
      have C2 := Lib.hid (fun (wx : World) (hx : Kp wr wx) => l8Gain_any _ F worth Ab (pkTo (allowB cl li) (negG F worth) rows j) _ cb wx (hFl.kp (hkr.trans hx)) (hbi.kp hx) rfl HG.out q2.out hw0 hw9)
      have C0 := Lib.hid (fun (wx : World) (hx : Kp wr wx) => l8Allowed_any A1 cl n1 c1 A2 li n2 c2 A3 rows[j] _ c3 wx (h1l.kp (hkr.trans hx)) Hn1.out (h2l.kp (hkr.trans hx)) Hn2.out (hri.kp hx) rfl (HCM.out _ q1.out))
      cases hal : allowB cl li rows[j]
      rotate_left
      · rw [hal] at C0
        by_cases hgt : gainF F worth (pkTo (allowB cl li) (negG F worth) rows j) < gainF F worth rows[j]
        · have Hy : Hid (pkTo (allowB cl li) (negG F worth) rows (j + 1) = rows[j]) := pk_yes lx hal (Int.neg_lt_neg hgt)
          have q_z0 := hkz.get z0
          have q_z1 := hkz.get z1
          have q_hcl := hkz.get hcl
          have tok1 : True := trivial
          go_wp2_with fail
          go_region_held3 (fun w' => w'.cell? ⟨w.heap.size, 0, none⟩ = some (.slice A F.op.length c) ∧ w'.cell? ⟨w.heap.size, 1, none⟩ = some (.slice B F.di.length d) ∧ w'.cell? (ad.add j) = some (.slice A3 rows[j].length c3) ∧ Kp wr w')
            (first | (refine keepc3 z0 z1 hcl ?_; exact (by repeat (first | with_reducible assumption | with_reducible exact Kp.refl _ | with_reducible refine Kp.drew ?_ | with_reducible refine Kp.alloc ?_ _ | with_reducible refine Kp.drewN ?_ _))) | fail)
            (first
              | (have _t := tok1; go_at_call 47; with_reducible refine Calls.mono (C0.out _ (by repeat (first | with_reducible assumption | with_reducible exact Kp.refl _ | with_reducible refine Kp.drew ?_ | with_reducible refine Kp.alloc ?_ _ | with_reducible refine Kp.drewN ?_ _))) ?_; rintro e wr1 ⟨rfl, hw⟩; obtain rfl := hw; have tok2 : True := trivial; clear tok1 _t)
              | (have _t := tok2; go_at_call 34; with_reducible refine Calls.mono (C1.out _ (by repeat (first | with_reducible assumption | with_reducible exact Kp.refl _ | with_reducible refine Kp.drew ?_ | with_reducible refine Kp.alloc ?_ _ | with_reducible refine Kp.drewN ?_ _))) ?_; rintro e wr2 ⟨rfl, hka⟩; have hr2 : Kp wr wr2 := Kp.trans (by repeat (first | with_reducible assumption | with_reducible exact Kp.refl _ | with_reducible refine Kp.drew ?_ | with_reducible refine Kp.alloc ?_ _ | with_reducible refine Kp.drewN ?_ _)) hka; have tok3 : True := trivial; clear tok2 _t)
              | (have _t := tok3; go_at_call 34; with_reducible refine Calls.mono (C2.out _ (by repeat (first | with_reducible assumption | with_reducible exact Kp.refl _ | with_reducible refine Kp.drew ?_ | with_reducible refine Kp.alloc ?_ _ | with_reducible refine Kp.drewN ?_ _))) ?_; rintro e wr3 ⟨rfl, hka⟩; have hr3 : Kp wr wr3 := Kp.trans (by repeat (first | with_reducible assumption | with_reducible exact Kp.refl _ | with_reducible refine Kp.drew ?_ | with_reducible refine Kp.alloc ?_ _ | with_reducible refine Kp.drewN ?_ _)) hka; have tok4 : True := trivial; clear tok3 _t)
              | fail)
          have hc4 := hr3.get hcl
          go_wp2_with fail
          go_roundw
          case rel => exact ⟨j + 1, A3, c3, by omega, by go_num, by rw [Hy.out], by rw [Hy.out]; exact (hrq.mono hw1le).kp hr3, hkr.trans hr3⟩
          case measure => simp [intOf]; omega
        · have Hy : Hid (pkTo (allowB cl li) (negG F worth) rows (j + 1) = pkTo (allowB cl li) (negG F worth) rows j) := pk_no lx (fun h => hgt (by have h3 : -gainF F worth rows[j] < -gainF F worth (pkTo (allowB cl li) (negG F worth) rows j) := h.2; omega))
          have q_z0 := hkz.get z0
          have q_z1 := hkz.get z1
          have q_hcl := hkz.get hcl
          have tok1 : True := trivial
          go_wp2_with fail
          go_region_held3 (fun w' => w'.cell? ⟨w.heap.size, 0, none⟩ = some (.slice A F.op.length c) ∧ w'.cell? ⟨w.heap.size, 1, none⟩ = some (.slice B F.di.length d) ∧ w'.cell? (ad.add j) = some (.slice A3 rows[j].length c3) ∧ Kp wr w')
            (first | (refine keepc3 z0 z1 hcl ?_; exact (by repeat (first | with_reducible assumption | with_reducible exact Kp.refl _ | with_reducible refine Kp.drew ?_ | with_reducible refine Kp.alloc ?_ _ | with_reducible refine Kp.drewN ?_ _))) | fail)
            (first
              | (have _t := tok1; go_at_call 47; with_reducible refine Calls.mono (C0.out _ (by repeat (first | with_reducible assumption | with_reducible exact Kp.refl _ | with_reducible refine Kp.drew ?_ | with_reducible refine Kp.alloc ?_ _ | with_reducible refine Kp.drewN ?_ _))) ?_; rintro e wr1 ⟨rfl, hw⟩; obtain rfl := hw; have tok2 : True := trivial; clear tok1 _t)
              | (have _t := tok2; go_at_call 34; with_reducible refine Calls.mono (C1.out _ (by repeat (first | with_reducible assumption | with_reducible exact Kp.refl _ | with_reducible refine Kp.drew ?_ | with_reducible refine Kp.alloc ?_ _ | with_reducible refine Kp.drewN ?_ _))) ?_; rintro e wr2 ⟨rfl, hka⟩; have hr2 : Kp wr wr2 := Kp.trans (by repeat (first | with_reducible assumption | with_reducible exact Kp.refl _ | with_reducible refine Kp.drew ?_ | with_reducible refine Kp.alloc ?_ _ | with_reducible refine Kp.drewN ?_ _)) hka; have tok3 : True := trivial; clear tok2 _t)
              | (have _t := tok3; go_at_call 34; with_reducible refine Calls.mono (C2.out _ (by repeat (first | with_reducible assumption | with_reducible exact Kp.refl _ | with_reducible refine Kp.drew ?_ | with_reducible refine Kp.alloc ?_ _ | with_reducible refine Kp.drewN ?_ _))) ?_; rintro e wr3 ⟨rfl, hka⟩; have hr3 : Kp wr wr3 := Kp.trans (by repeat (first | with_reducible assumption | with_reducible exact Kp.refl _ | with_reducible refine Kp.drew ?_ | with_reducible refine Kp.alloc ?_ _ | with_reducible refine Kp.drewN ?_ _)) hka; have tok4 : True := trivial; clear tok3 _t)
              | fail)
          go_wp2_with fail
          go_roundw
          case rel => exact ⟨j + 1, Ab, cb, by omega, by go_num, by rw [Hy.out], by rw [Hy.out]; exact hb.kp hr3, hkr.trans hr3⟩
          case measure => simp [intOf]; omega
      · have Hy : Hid (pkTo (allowB cl li) (negG F worth) rows (j + 1) = pkTo (allowB cl li) (negG F worth) rows j) := pk_no lx (fun h => by rw [hal] at h; cases h.1)
        have Cq := Lib.hid (fun n => Calls.same_quiet (C0.out (wr.drewN n) ((Kp.refl wr).drewN n)))
        rw [hal] at Cq
        clear C1 C2 C0 hkz
        go_wp2_with fail
        go_quiet (exact Cq.out _)
        go_wp2_with fail
        go_roundw
        case rel => exact ⟨j + 1, Ab, cb, by omega, by go_num, by rw [Hy.out], by rw [Hy.out]; exact hb.kp ((Kp.refl _).drewN nq), hkr.drewN nq⟩
        case measure => simp [intOf]; omega
    · obtain rfl : j = m := by omega
      have Hy : Hid (pkTo (allowB cl li) (negG F worth) rows j = bgF F worth (allowB cl li)) := by show _ = _; rw [hml.out]; exact Hpk.out
      go_wp2_with fail
      go_ret2
      exact ⟨_, by rw [Hok.out]; rfl, by rw [baL_yes Hok.out, ← Hy.out]; exact hb.2 _ rfl, hkl.trans hkr⟩
set_option maxRecDepth 100000 in
set_option maxHeartbeats 1000000 in
theorem implBa_any (f : Value) (F : Fld) (worth : Int) (A1 : Option Addr) (cl : List Int) (n1 c1 : Nat) (A2 : Option Addr) (li : List Int) (n2 c2 : Nat) (w : World) (hf : FldAt w f F) (h1 : IntsAt w A1 cl) (hn1 : cl.length = n1) (h2 : IntsAt w A2 li) (hn2 : li.length = n2) :
    Calls Try.prog 22 #[f, .int .i64 worth, .slice A1 n1 c1, .slice A2 n2 c2] w fun e w' => ∃ v, e = .returned (.tuple #[v, .bool (baOk F worth cl li)]) ∧ Own w' w.heap.size v (baL F worth cl li) ∧ Kp w w' := by
  obtain ⟨A, c, B, d, rfl, hA, hB⟩ := hf
  have hk0 : Kp w (w.alloc (.cells #[.slice A F.op.length c, .slice B F.di.length d] 29)) := (Kp.refl w).alloc _
  obtain ⟨d0, d1⟩ := box2 w (.slice A F.op.length c) (.slice B F.di.length d) 29
  have hFA := FldAt.kp (show FldAt w (.agg #[.slice A F.op.length c, .slice B F.di.length d]) F from ⟨A, c, B, d, rfl, hA, hB⟩) hk0
  replace h1 := h1.kp hk0
  replace h2 := h2.kp hk0
  have Hn1 := Lib.hid hn1; have Hn2 := Lib.hid hn2
  clear hA hB hn1 hn2
  go_enter Try.func22, Try.ntmps22
  go_wp2_with fail
  have hsz : Hid ((w.alloc (.cells #[.slice A F.op.length c, .slice B F.di.length d] 29)).heap.size = w.heap.size + 1) := by show _ = _; simp
  generalize w.alloc (.cells #[.slice A F.op.length c, .slice B F.di.length d] 29) = wb at *
  have hkb : Kp wb wb := Kp.refl _
  have hkw := hk0
  have hkw0 := hkw
  have CC := Lib.hid (isWorth_any _ F worth none [] 0 0 _ (hFA.kp hkb) (IntsAt.nil _ none) rfl)
  with_reducible refine Calls.mono CC.out ?_
  rintro e w1 ⟨rfl, hk1⟩
  clear CC
  replace hkb := hkb.trans hk1
  have hgo : gainOk F worth [] = (goodF F && worthB worth) := by simp [gainOk, setB, risB]
  rw [hgo]
  clear hgo
  cases hg_ : (goodF F && worthB worth)
  · have Hno : Hid (baOk F worth cl li = false) := by show _ = _; rw [baOk, hg_]; rfl
    clear hg_
    have q_d0 := hkb.get d0
    have q_d1 := hkb.get d1
    go_wp2_with fail
    go_ret2
    exact ⟨_, by rw [Hno.out]; rfl, by rw [baL_no Hno.out]; exact Own.nil _ _, hkw0.trans hkb⟩
  have Hg := Lib.hid hg_; clear hg_
  have q_d0 := hkb.get d0
  have q_d1 := hkb.get d1
  go_wp2_with fail
  have CC := Lib.hid (areLimits_any _ F A1 cl n1 c1 A2 li n2 c2 _ (hFA.kp hkb) (h1.kp hkb) Hn1.out (h2.kp hkb) Hn2.out)
  with_reducible refine Calls.mono CC.out ?_
  rintro e w2 ⟨rfl, hk2⟩
  clear CC q_d0 q_d1
  replace hkb := hkb.trans hk2
  cases hk_ : clsB F cl li
  · have Hno : Hid (baOk F worth cl li = false) := by show _ = _; rw [baOk, hk_]; simp
    clear hk_
    have q_d0 := hkb.get d0
    have q_d1 := hkb.get d1
    go_wp2_with fail
    go_ret2
    exact ⟨_, by rw [Hno.out]; rfl, by rw [baL_no Hno.out]; exact Own.nil _ _, hkw0.trans hkb⟩
  have Hok : Hid (baOk F worth cl li = true) := by show _ = _; rw [baOk, Hg.out, hk_]; rfl
  clear hk_
  have HP := Lib.hid (baOk_parts Hok.out)
  have hg7 := (goodF_iff.1 HP.out.1).1.2
  have HPN := Lib.hid (allow_nil HP.out.2.2)
  have C0 := Lib.hid (fun (wx : World) (hx : Kp wb wx) => allows_may (F := F) (c1 := c1) (c2 := c2) wx (h1.kp hx) Hn1.out (h2.kp hx) Hn2.out HP.out.2.2)
  have C1 := Lib.hid (fun (wx : World) (_ : Kp wb wx) (caps : Array Value) (ht : May F 78 caps (allowB cl li) wx) => lists_any 78 #[] caps (allowB cl li) (fun S => setB F S = true) F.op.length wx hg7 ⟨ht.1, fun S Av cv w' hk' hq hi _ => ht.2 S Av cv w' hk' hq hi⟩ allS_ris)
  have C2 := Lib.hid (fun (wx : World) (hx : Kp wb wx) (lo : Option Nat) (Ax : Option Addr) (m cx : Nat) (hr : RowsAt wx lo Ax ((allS F.op.length).filter (allowB cl li))) (hm : ((allS F.op.length).filter (allowB cl li)).length = m) => most_any _ F worth lo Ax ((allS F.op.length).filter (allowB cl li)) m cx wx (hFA.kp hx) hr hm (by have := fil_pos (n := F.op.length) HPN.out; omega) HP.out.1 HP.out.2.1.1 HP.out.2.1.2 (fun S hS => allS_ris _ (List.mem_filter.1 hS).1))
  have HF7 := Lib.hid (fil_most HP.out.1 (allowB cl li))
  have q_d0 := hkb.get d0
  have q_d1 := hkb.get d1
  have tok1 : True := trivial
  go_wp2_with fail
  go_region_held3 (fun w' => w'.cell? ⟨w.heap.size, 0, none⟩ = some (.slice A F.op.length c) ∧ w'.cell? ⟨w.heap.size, 1, none⟩ = some (.slice B F.di.length d) ∧ Kp wb w')
    (first | (refine keepc2 d0 d1 ?_; exact (by repeat (first | with_reducible assumption | with_reducible exact Kp.refl _ | with_reducible refine Kp.drew ?_ | with_reducible refine Kp.alloc ?_ _ | with_reducible refine Kp.drewN ?_ _))) | fail)
    (first
      | (have _t := tok1; go_at_call 49; with_reducible refine Calls.mono (C0.out _ (by repeat (first | with_reducible assumption | with_reducible exact Kp.refl _ | with_reducible refine Kp.drew ?_ | with_reducible refine Kp.alloc ?_ _ | with_reducible refine Kp.drewN ?_ _))) ?_; rintro e wr1 ⟨caps, rfl, hmay, hka⟩; have hr1 : Kp wb wr1 := Kp.trans (by repeat (first | with_reducible assumption | with_reducible exact Kp.refl _ | with_reducible refine Kp.drew ?_ | with_reducible refine Kp.alloc ?_ _ | with_reducible refine Kp.drewN ?_ _)) hka; have tok2 : True := trivial; clear tok1 _t)
      | (have _t := tok2; go_at_call 39; with_reducible refine Calls.mono (C1.out _ hr1 caps hmay) ?_; rintro e wr2 ⟨v, rfl, hvn, hgo, hka⟩; have hr2 : Kp wb wr2 := Kp.trans (by repeat (first | with_reducible assumption | with_reducible exact Kp.refl _ | with_reducible refine Kp.drew ?_ | with_reducible refine Kp.alloc ?_ _ | with_reducible refine Kp.drewN ?_ _)) hka; obtain ⟨Ax, cx, hve, hcx, hrows⟩ := hgo.rows (by have := HF7.out; omega); subst hve; have tok3 : True := trivial; clear tok2 _t)
      | (have _t := tok3; go_at_call 38; with_reducible refine Calls.mono (C2.out _ hr2 _ Ax _ cx hrows rfl) ?_; rintro e wr3 ⟨u, rfl, hu, hka⟩; have hr3 : Kp wb wr3 := Kp.trans (by repeat (first | with_reducible assumption | with_reducible exact Kp.refl _ | with_reducible refine Kp.drew ?_ | with_reducible refine Kp.alloc ?_ _ | with_reducible refine Kp.drewN ?_ _)) hka; have tok4 : True := trivial; clear tok3 _t)
      | fail)
  all_goals
    go_wp2_with fail
    go_ret2
    exact ⟨u, by rw [Hok.out]; rfl, by rw [baL_yes Hok.out]; exact ((hu.2 _ rfl).mono (hkw0.trans hr1).le), hkw0.trans hr3⟩
end Go.Proofs.Ytbefnhagmejpcaa
