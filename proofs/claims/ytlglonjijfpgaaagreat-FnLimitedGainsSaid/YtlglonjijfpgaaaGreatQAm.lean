/- BestAllowed: reference and program; Small functions of the laws on gains: too many bytes, equal lists, a list put in order; PaymentOf: the program; The answers of the law on limited gains, as it compares them; A table of numbers of the call's own, read and written. No condition. -/
import Derived.Test.YtlglonjijfpgaaaGreatQAi
import Derived.Test.YtlglonjijfpgaaaGreatQAb
import Derived.Test.YtlglonjijfpgaaaGreatQAc
import Derived.Test.YtlglonjijfpgaaaGreatQAa
import Derived.Test.YtlglonjijfpgaaaGreatQAf
import Derived.Test.YtlglonjijfpgaaaGreatQAe
import Derived.Test.YtlglonjijfpgaaaGreatQAl
import Derived.Test.YtlglonjijfpgaaaGreatQAd
namespace Go.Proofs.YtlglonjijfpgaaaGreat
open Go.RowKit Go.Sort

def baOk (F : Fld) (worth : Int) (cl li : List Int) : Bool := goodF F && worthB worth && clsB F cl li
def baL (F : Fld) (worth : Int) (cl li : List Int) : List Int := if baOk F worth cl li = true then bgF F worth (allowB cl li) else []
theorem baL_yes {F : Fld} {worth : Int} {cl li : List Int} (h : baOk F worth cl li = true) : baL F worth cl li = bgF F worth (allowB cl li) := if_pos h
theorem baL_no {F : Fld} {worth : Int} {cl li : List Int} (h : baOk F worth cl li = false) : baL F worth cl li = [] := if_neg (by simp [h])
theorem baOk_parts {F : Fld} {worth : Int} {cl li : List Int} (h : baOk F worth cl li = true) : goodF F = true ∧ (0 ≤ worth ∧ worth ≤ 999) ∧ clsB F cl li = true := by
  simp only [baOk, worthB, inB, Bool.and_eq_true, decide_eq_true_eq] at h
  exact ⟨h.1.1, h.1.2, h.2⟩
theorem allow_nil {F : Fld} {cl li : List Int} (h : clsB F cl li = true) : allowB cl li [] = true := by
  have hp := (clsB_iff.1 h).2.2.2
  simp only [allowB, List.all_eq_true, List.mem_range, decide_eq_true_eq]
  intro c hc
  have e : li.getD c 0 = li[c] := by simp [List.getD, hc]
  have h0 := hp _ (List.getElem_mem hc)
  have hz : cntC cl [] c = 0 := rfl
  rw [e, hz]; omega
theorem baL_len (F : Fld) (worth : Int) (cl li : List Int) : (baL F worth cl li).length ≤ 1048576 := by
  by_cases h : baOk F worth cl li = true
  · have hp := baOk_parts h
    rw [baL_yes h]
    have h1 := bg_len (F := F) (worth := worth) (allow_nil hp.2.2)
    have h2 := (goodF_iff.1 hp.1).1.2
    omega
  · rw [baL_no (by simpa using h)]; simp
set_option maxRecDepth 100000 in
set_option maxHeartbeats 2000000 in
theorem specBa_any (f : Value) (F : Fld) (worth : Int) (A1 : Option Addr) (cl : List Int) (n1 c1 : Nat) (A2 : Option Addr) (li : List Int) (n2 c2 : Nat) (w : World) (hf : FldAt w f F) (h1 : IntsAt w A1 cl) (hn1 : cl.length = n1) (h2 : IntsAt w A2 li) (hn2 : li.length = n2) :
    Calls Tryz.prog 10 #[f, .int .i64 worth, .slice A1 n1 c1, .slice A2 n2 c2] w fun e w' => ∃ v, e = .returned (.tuple #[v, .bool (baOk F worth cl li)]) ∧ Own w' w.heap.size v (baL F worth cl li) ∧ Kp w w' := by
  obtain ⟨A, c, B, d, rfl, hA, hB⟩ := hf
  have hk0 : Kp w (w.alloc (.cells #[.slice A F.op.length c, .slice B F.di.length d] 27)) := (Kp.refl w).alloc _
  obtain ⟨d0, d1⟩ := box2 w (.slice A F.op.length c) (.slice B F.di.length d) 27
  have hFA := FldAt.kp (show FldAt w (.agg #[.slice A F.op.length c, .slice B F.di.length d]) F from ⟨A, c, B, d, rfl, hA, hB⟩) hk0
  replace h1 := h1.kp hk0
  replace h2 := h2.kp hk0
  have Hn1 := Lib.hid hn1; have Hn2 := Lib.hid hn2
  clear hA hB hn1 hn2
  go_enter Tryz.func10, Tryz.ntmps10
  go_wp2_with fail
  have hsz : Hid ((w.alloc (.cells #[.slice A F.op.length c, .slice B F.di.length d] 27)).heap.size = w.heap.size + 1) := by show _ = _; simp
  generalize w.alloc (.cells #[.slice A F.op.length c, .slice B F.di.length d] 27) = wb at *
  have hkb : Kp wb wb := Kp.refl _
  have hkw := hk0
  have ho0 := own_new0 wb w.heap.size (by rw [hsz.out]; exact Nat.le_succ _)
  have hkn := (Kp.refl wb).alloc (.cells #[] 3)
  rw [hsz.out] at ho0
  have q_0 := hkn.get d0
  have q_1 := hkn.get d1
  have CC := Lib.hid (l8Good_any _ F worth _ (hFA.kp hkn))
  with_reducible refine Calls.mono CC.out ?_
  rintro e w0 ⟨rfl, hk0'⟩
  clear CC q_0 q_1
  replace hkb := hkn.trans hk0'
  have ho1 := ho0.kp hk0'
  cases hg_ : (goodF F && worthB worth)
  · have Hno : Hid (baOk F worth cl li = false) := by show _ = _; rw [baOk, hg_]; rfl
    clear hg_
    have q_d0 := hkb.get d0
    have q_d1 := hkb.get d1
    go_wp2_with fail
    go_ret2
    exact ⟨_, by rw [Hno.out]; rfl, by rw [baL_no Hno.out]; exact ho1, hkw.trans hkb⟩
  have Hg := Lib.hid hg_; clear hg_
  have q_d0 := hkb.get d0
  have q_d1 := hkb.get d1
  go_wp2_with fail
  have CC := Lib.hid (l8Classes_any _ F A1 cl n1 c1 A2 li n2 c2 _ (hFA.kp hkb) (h1.kp hkb) Hn1.out (h2.kp hkb) Hn2.out)
  with_reducible refine Calls.mono CC.out ?_
  rintro e w1 ⟨rfl, hk1⟩
  clear CC q_d0 q_d1
  replace hkb := hkb.trans hk1
  replace ho1 := ho1.kp hk1
  cases hk_ : clsB F cl li
  · have Hno : Hid (baOk F worth cl li = false) := by show _ = _; rw [baOk, hk_]; simp
    clear hk_
    have q_d0 := hkb.get d0
    have q_d1 := hkb.get d1
    go_wp2_with fail
    go_ret2
    exact ⟨_, by rw [Hno.out]; rfl, by rw [baL_no Hno.out]; exact ho1, hkw.trans hkb⟩
  have Hok : Hid (baOk F worth cl li = true) := by show _ = _; rw [baOk, Hg.out, hk_]; rfl
  clear hk_
  have HP := Lib.hid (baOk_parts Hok.out)
  have HG := Lib.hid HP.out.1
  have hw0 := HP.out.2.1.1
  have hw9 := HP.out.2.1.2
  have PN : allowB cl li [] = true := allow_nil HP.out.2.2
  have hw1le := (hkw.trans hkb).le
  have HCM := Lib.hid (fun S (hs : setB F S = true) => cls_mem HP.out.2.2 hs)
  have q_d0 := hkb.get d0
  have q_d1 := hkb.get d1
  go_wp2_with fail
  have CC := Lib.hid (l8All_any _ F _ (hFA.kp hkb) HG.out)
  with_reducible refine Calls.mono CC.out ?_
  rintro e w2 ⟨v, rfl, hvn, hgo, hk2⟩
  clear CC q_d0 q_d1
  replace hkb := hkb.trans hk2
  replace ho1 := ho1.kp hk2
  have hg7 := (goodF_iff.1 HG.out).1.2
  obtain ⟨ad, cx, hve, hcx, hrows⟩ := hgo.rows_some (by have := allS_most HG.out; omega) hvn
  subst hve
  clear hgo hvn
  obtain ⟨rows, hre⟩ : ∃ rows, rows = allS F.op.length := ⟨_, rfl⟩
  rw [← hre] at hrows hcx ⊢
  have Hpk : Hid (pkTo (allowB cl li) (negG F worth) rows rows.length = bgF F worth (allowB cl li)) := by show _ = _; rw [hre]; exact pk_all PN
  have Hset : Hid (∀ S ∈ rows, setB F S = true) := by show ∀ S ∈ rows, _; rw [hre]; exact allS_ris
  have Hmem : Hid (∀ jj, jj ≤ rows.length → setB F (pkTo (allowB cl li) (negG F worth) rows jj) = true) := by show ∀ jj, _ → _; rw [hre]; exact fun jj hk => allS_ris _ (pk_mem jj hk)
  have l1 : rows.length ≤ 128 := by rw [hre]; exact allS_most HG.out
  obtain ⟨m, hml⟩ : ∃ m, m = rows.length := ⟨_, rfl⟩
  rw [← hml] at l1 ⊢
  replace hml := Lib.hid hml
  clear hre
  have g0 := hkb.get d0
  have g1 := hkb.get d1
  have hFl := hFA.kp hkb
  have hkl := hkw.trans hkb
  obtain ⟨wl, rfl⟩ : ∃ wl : World, wl = w2 := ⟨_, rfl⟩
  have ho2 := RowP.of_own ho1 (by simp)
  have h1l := h1.kp hkb
  have h2l := h2.kp hkb
  clear ho0 ho1 hkn hk0' PN hkb d0 d1
  go_wp2_with fail
  go_loopw [10, 12] (fun bv iv wr => ∃ (k' : Nat) (Ab : Option Addr) (cb : Nat), k' ≤ m ∧ iv = .int .i64 k' ∧ bv = .slice Ab (pkTo (allowB cl li) (negG F worth) rows k').length cb ∧ RowP wr (some w.heap.size) (.slice Ab (pkTo (allowB cl li) (negG F worth) rows k').length cb) (pkTo (allowB cl li) (negG F worth) rows k') ∧ Kp wl wr) (fun _ iv _ => m - (intOf iv).toNat)
  case atStart => exact ⟨0, _, _, by omega, rfl, rfl, ho2, Kp.refl _⟩
  case round =>
    clear ho2
    obtain ⟨j, Ab, cb, hj, rfl, rfl, hb, hkr⟩ := hrel
    by_cases hlt : j < m
    · have lx : j < rows.length := by rw [← hml.out]; exact hlt
      obtain ⟨A3, c3, hcl, hc3, hri, hrq⟩ := (hrows.kp hkr).some_ lx
      obtain ⟨Ab', cb', eb, hcb, hbi⟩ := hb.read
      simp only [Value.slice.injEq] at eb
      obtain ⟨rfl, _, rfl⟩ := eb
      have q1 := Lib.hid (Hset.out _ (List.getElem_mem lx))
      have q2 := Lib.hid (Hmem.out j (Nat.le_of_lt lx))
      have hkz : Kp wr wr := Kp.refl _
      have z0 := hkr.get g0
      have z1 := hkr.get g1
      have C1 := Lib.hid (fun (wx : World) (hx : Kp wr wx) => l8Gain_any _ F worth A3 rows[j] _ c3 wx (hFl.kp (hkr.trans hx)) (hri.kp hx) rfl HG.out q1.out hw0 hw9)
      have C2 := Lib.hid (fun (wx : World) (hx : Kp wr wx) => l8Gain_any _ F worth Ab (pkTo (allowB cl li) (negG F worth) rows j) _ cb wx (hFl.kp (hkr.trans hx)) (hbi.kp hx) rfl HG.out q2.out hw0 hw9)
      have C0 := Lib.hid (fun (wx : World) (hx : Kp wr wx) => l8Allowed_any A1 cl n1 c1 A2 li n2 c2 A3 rows[j] _ c3 wx (h1l.kp (hkr.trans hx)) Hn1.out (h2l.kp (hkr.trans hx)) Hn2.out (hri.kp hx) rfl (HCM.out _ q1.out))
      cases hal : allowB cl li rows[j]
      rotate_left
      · rw [hal] at C0
        by_cases hgt : gainF F worth (pkTo (allowB cl li) (negG F worth) rows j) < gainF F worth rows[j]
        · have Hy : Hid (pkTo (allowB cl li) (negG F worth) rows (j + 1) = rows[j]) := pk_yes lx hal (Int.neg_lt_neg hgt)
          have q_z0 := hkz.get z0
          have q_z1 := hkz.get z1
          have q_hcl := hkz.get hcl
          have tok1 : True := trivial
          go_wp2_with fail
          go_region_held3 (fun w' => w'.cell? ⟨w.heap.size, 0, none⟩ = some (.slice A F.op.length c) ∧ w'.cell? ⟨w.heap.size, 1, none⟩ = some (.slice B F.di.length d) ∧ w'.cell? (ad.add j) = some (.slice A3 rows[j].length c3) ∧ Kp wr w')
            (first | (refine keepc3 z0 z1 hcl ?_; exact (by repeat (first | with_reducible assumption | with_reducible exact Kp.refl _ | with_reducible refine Kp.drew ?_ | with_reducible refine Kp.alloc ?_ _ | with_reducible refine Kp.drewN ?_ _ | refine Kp.setCell ?_ (by dsimp only; omega) _))) | fail)
            (first
              | (have _t := tok1; go_at_call 30; with_reducible refine Calls.mono (C0.out _ (by repeat (first | with_reducible assumption | with_reducible exact Kp.refl _ | with_reducible refine Kp.drew ?_ | with_reducible refine Kp.alloc ?_ _ | with_reducible refine Kp.drewN ?_ _ | refine Kp.setCell ?_ (by dsimp only; omega) _))) ?_; rintro e wr1 ⟨rfl, hw⟩; obtain rfl := hw; have tok2 : True := trivial; clear tok1 _t)
              | (have _t := tok2; go_at_call 36; with_reducible refine Calls.mono (C1.out _ (by repeat (first | with_reducible assumption | with_reducible exact Kp.refl _ | with_reducible refine Kp.drew ?_ | with_reducible refine Kp.alloc ?_ _ | with_reducible refine Kp.drewN ?_ _ | refine Kp.setCell ?_ (by dsimp only; omega) _))) ?_; rintro e wr2 ⟨rfl, hka⟩; have hr2 : Kp wr wr2 := Kp.trans (by repeat (first | with_reducible assumption | with_reducible exact Kp.refl _ | with_reducible refine Kp.drew ?_ | with_reducible refine Kp.alloc ?_ _ | with_reducible refine Kp.drewN ?_ _ | refine Kp.setCell ?_ (by dsimp only; omega) _)) hka; have tok3 : True := trivial; clear tok2 _t)
              | (have _t := tok3; go_at_call 36; with_reducible refine Calls.mono (C2.out _ (by repeat (first | with_reducible assumption | with_reducible exact Kp.refl _ | with_reducible refine Kp.drew ?_ | with_reducible refine Kp.alloc ?_ _ | with_reducible refine Kp.drewN ?_ _ | refine Kp.setCell ?_ (by dsimp only; omega) _))) ?_; rintro e wr3 ⟨rfl, hka⟩; have hr3 : Kp wr wr3 := Kp.trans (by repeat (first | with_reducible assumption | with_reducible exact Kp.refl _ | with_reducible refine Kp.drew ?_ | with_reducible refine Kp.alloc ?_ _ | with_reducible refine Kp.drewN ?_ _ | refine Kp.setCell ?_ (by dsimp only; omega) _)) hka; have tok4 : True := trivial; clear tok3 _t)
              | fail)
          have hc4 := hr3.get hcl
          go_wp2_with fail
          go_roundw
          case rel => exact ⟨j + 1, A3, c3, by omega, by go_num, by rw [Hy.out], by rw [Hy.out]; exact (hrq.mono hw1le).kp hr3, hkr.trans hr3⟩
          case measure => simp [intOf]; omega
        · have Hy : Hid (pkTo (allowB cl li) (negG F worth) rows (j + 1) = pkTo (allowB cl li) (negG F worth) rows j) := pk_no lx (fun h => hgt (by have h3 : -gainF F worth rows[j] < -gainF F worth (pkTo (allowB cl li) (negG F worth) rows j) := h.2; omega))
          have q_z0 := hkz.get z0
          have q_z1 := hkz.get z1
          have q_hcl := hkz.get hcl
          have tok1 : True := trivial
          go_wp2_with fail
          go_region_held3 (fun w' => w'.cell? ⟨w.heap.size, 0, none⟩ = some (.slice A F.op.length c) ∧ w'.cell? ⟨w.heap.size, 1, none⟩ = some (.slice B F.di.length d) ∧ w'.cell? (ad.add j) = some (.slice A3 rows[j].length c3) ∧ Kp wr w')
            (first | (refine keepc3 z0 z1 hcl ?_; exact (by repeat (first | with_reducible assumption | with_reducible exact Kp.refl _ | with_reducible refine Kp.drew ?_ | with_reducible refine Kp.alloc ?_ _ | with_reducible refine Kp.drewN ?_ _ | refine Kp.setCell ?_ (by dsimp only; omega) _))) | fail)
            (first
              | (have _t := tok1; go_at_call 30; with_reducible refine Calls.mono (C0.out _ (by repeat (first | with_reducible assumption | with_reducible exact Kp.refl _ | with_reducible refine Kp.drew ?_ | with_reducible refine Kp.alloc ?_ _ | with_reducible refine Kp.drewN ?_ _ | refine Kp.setCell ?_ (by dsimp only; omega) _))) ?_; rintro e wr1 ⟨rfl, hw⟩; obtain rfl := hw; have tok2 : True := trivial; clear tok1 _t)
              | (have _t := tok2; go_at_call 36; with_reducible refine Calls.mono (C1.out _ (by repeat (first | with_reducible assumption | with_reducible exact Kp.refl _ | with_reducible refine Kp.drew ?_ | with_reducible refine Kp.alloc ?_ _ | with_reducible refine Kp.drewN ?_ _ | refine Kp.setCell ?_ (by dsimp only; omega) _))) ?_; rintro e wr2 ⟨rfl, hka⟩; have hr2 : Kp wr wr2 := Kp.trans (by repeat (first | with_reducible assumption | with_reducible exact Kp.refl _ | with_reducible refine Kp.drew ?_ | with_reducible refine Kp.alloc ?_ _ | with_reducible refine Kp.drewN ?_ _ | refine Kp.setCell ?_ (by dsimp only; omega) _)) hka; have tok3 : True := trivial; clear tok2 _t)
              | (have _t := tok3; go_at_call 36; with_reducible refine Calls.mono (C2.out _ (by repeat (first | with_reducible assumption | with_reducible exact Kp.refl _ | with_reducible refine Kp.drew ?_ | with_reducible refine Kp.alloc ?_ _ | with_reducible refine Kp.drewN ?_ _ | refine Kp.setCell ?_ (by dsimp only; omega) _))) ?_; rintro e wr3 ⟨rfl, hka⟩; have hr3 : Kp wr wr3 := Kp.trans (by repeat (first | with_reducible assumption | with_reducible exact Kp.refl _ | with_reducible refine Kp.drew ?_ | with_reducible refine Kp.alloc ?_ _ | with_reducible refine Kp.drewN ?_ _ | refine Kp.setCell ?_ (by dsimp only; omega) _)) hka; have tok4 : True := trivial; clear tok3 _t)
              | fail)
          go_wp2_with fail
          go_roundw
          case rel => exact ⟨j + 1, Ab, cb, by omega, by go_num, by rw [Hy.out], by rw [Hy.out]; exact hb.kp hr3, hkr.trans hr3⟩
          case measure => simp [intOf]; omega
      · have Hy : Hid (pkTo (allowB cl li) (negG F worth) rows (j + 1) = pkTo (allowB cl li) (negG F worth) rows j) := pk_no lx (fun h => by rw [hal] at h; cases h.1)
        have Cq := Lib.hid (fun n => Calls.same_quiet (C0.out (wr.drewN n) ((Kp.refl wr).drewN n)))
        rw [hal] at Cq
        clear C1 C2 C0 hkz
        go_wp2_with fail
        go_quiet (exact Cq.out _)
        go_wp2_with fail
        go_roundw
        case rel => exact ⟨j + 1, Ab, cb, by omega, by go_num, by rw [Hy.out], by rw [Hy.out]; exact hb.kp ((Kp.refl _).drewN nq), hkr.drewN nq⟩
        case measure => simp [intOf]; omega
    · obtain rfl : j = m := by omega
      have Hy : Hid (pkTo (allowB cl li) (negG F worth) rows j = bgF F worth (allowB cl li)) := by show _ = _; rw [hml.out]; exact Hpk.out
      go_wp2_with fail
      go_ret2
      exact ⟨_, by rw [Hok.out]; rfl, by rw [baL_yes Hok.out, ← Hy.out]; exact hb.2 _ rfl, hkl.trans hkr⟩
set_option maxRecDepth 100000 in
set_option maxHeartbeats 1000000 in
theorem implBa_any (f : Value) (F : Fld) (worth : Int) (A1 : Option Addr) (cl : List Int) (n1 c1 : Nat) (A2 : Option Addr) (li : List Int) (n2 c2 : Nat) (w : World) (hf : FldAt w f F) (h1 : IntsAt w A1 cl) (hn1 : cl.length = n1) (h2 : IntsAt w A2 li) (hn2 : li.length = n2) :
    Calls Tryz.prog 9 #[f, .int .i64 worth, .slice A1 n1 c1, .slice A2 n2 c2] w fun e w' => ∃ v, e = .returned (.tuple #[v, .bool (baOk F worth cl li)]) ∧ Own w' w.heap.size v (baL F worth cl li) ∧ Kp w w' := by
  obtain ⟨A, c, B, d, rfl, hA, hB⟩ := hf
  have hk0 : Kp w (w.alloc (.cells #[.slice A F.op.length c, .slice B F.di.length d] 27)) := (Kp.refl w).alloc _
  obtain ⟨d0, d1⟩ := box2 w (.slice A F.op.length c) (.slice B F.di.length d) 27
  have hFA := FldAt.kp (show FldAt w (.agg #[.slice A F.op.length c, .slice B F.di.length d]) F from ⟨A, c, B, d, rfl, hA, hB⟩) hk0
  replace h1 := h1.kp hk0
  replace h2 := h2.kp hk0
  have Hn1 := Lib.hid hn1; have Hn2 := Lib.hid hn2
  clear hA hB hn1 hn2
  go_enter Tryz.func9, Tryz.ntmps9
  go_wp2_with fail
  have hsz : Hid ((w.alloc (.cells #[.slice A F.op.length c, .slice B F.di.length d] 27)).heap.size = w.heap.size + 1) := by show _ = _; simp
  generalize w.alloc (.cells #[.slice A F.op.length c, .slice B F.di.length d] 27) = wb at *
  have hkb : Kp wb wb := Kp.refl _
  have hkw := hk0
  have hkw0 := hkw
  have CC := Lib.hid (isWorth_any _ F worth none [] 0 0 _ (hFA.kp hkb) (IntsAt.nil _ none) rfl)
  with_reducible refine Calls.mono CC.out ?_
  rintro e w1 ⟨rfl, hk1⟩
  clear CC
  replace hkb := hkb.trans hk1
  have hgo : gainOk F worth [] = (goodF F && worthB worth) := by simp [gainOk, setB, risB]
  rw [hgo]
  clear hgo
  cases hg_ : (goodF F && worthB worth)
  · have Hno : Hid (baOk F worth cl li = false) := by show _ = _; rw [baOk, hg_]; rfl
    clear hg_
    have q_d0 := hkb.get d0
    have q_d1 := hkb.get d1
    go_wp2_with fail
    go_ret2
    exact ⟨_, by rw [Hno.out]; rfl, by rw [baL_no Hno.out]; exact Own.nil _ _, hkw0.trans hkb⟩
  have Hg := Lib.hid hg_; clear hg_
  have q_d0 := hkb.get d0
  have q_d1 := hkb.get d1
  go_wp2_with fail
  have CC := Lib.hid (areLimits_any _ F A1 cl n1 c1 A2 li n2 c2 _ (hFA.kp hkb) (h1.kp hkb) Hn1.out (h2.kp hkb) Hn2.out)
  with_reducible refine Calls.mono CC.out ?_
  rintro e w2 ⟨rfl, hk2⟩
  clear CC q_d0 q_d1
  replace hkb := hkb.trans hk2
  cases hk_ : clsB F cl li
  · have Hno : Hid (baOk F worth cl li = false) := by show _ = _; rw [baOk, hk_]; simp
    clear hk_
    have q_d0 := hkb.get d0
    have q_d1 := hkb.get d1
    go_wp2_with fail
    go_ret2
    exact ⟨_, by rw [Hno.out]; rfl, by rw [baL_no Hno.out]; exact Own.nil _ _, hkw0.trans hkb⟩
  have Hok : Hid (baOk F worth cl li = true) := by show _ = _; rw [baOk, Hg.out, hk_]; rfl
  clear hk_
  have HP := Lib.hid (baOk_parts Hok.out)
  have hg7 := (goodF_iff.1 HP.out.1).1.2
  have HPN := Lib.hid (allow_nil HP.out.2.2)
  have C0 := Lib.hid (fun (wx : World) (hx : Kp wb wx) => allows_may (F := F) (c1 := c1) (c2 := c2) wx (h1.kp hx) Hn1.out (h2.kp hx) Hn2.out HP.out.2.2)
  have C1 := Lib.hid (fun (wx : World) (_ : Kp wb wx) (caps : Array Value) (ht : May F 60 caps (allowB cl li) wx) => lists_any 60 #[] caps (allowB cl li) (fun S => setB F S = true) F.op.length wx hg7 ⟨ht.1, fun S Av cv w' hk' hq hi _ => ht.2 S Av cv w' hk' hq hi⟩ allS_ris)
  have C2 := Lib.hid (fun (wx : World) (hx : Kp wb wx) (lo : Option Nat) (Ax : Option Addr) (m cx : Nat) (hr : RowsAt wx lo Ax ((allS F.op.length).filter (allowB cl li))) (hm : ((allS F.op.length).filter (allowB cl li)).length = m) => most_any _ F worth lo Ax ((allS F.op.length).filter (allowB cl li)) m cx wx (hFA.kp hx) hr hm (by have := fil_pos (n := F.op.length) HPN.out; omega) HP.out.1 HP.out.2.1.1 HP.out.2.1.2 (fun S hS => allS_ris _ (List.mem_filter.1 hS).1))
  have HF7 := Lib.hid (fil_most HP.out.1 (allowB cl li))
  have q_d0 := hkb.get d0
  have q_d1 := hkb.get d1
  have tok1 : True := trivial
  go_wp2_with fail
  go_region_held3 (fun w' => w'.cell? ⟨w.heap.size, 0, none⟩ = some (.slice A F.op.length c) ∧ w'.cell? ⟨w.heap.size, 1, none⟩ = some (.slice B F.di.length d) ∧ Kp wb w')
    (first | (refine keepc2 d0 d1 ?_; exact (by repeat (first | with_reducible assumption | with_reducible exact Kp.refl _ | with_reducible refine Kp.drew ?_ | with_reducible refine Kp.alloc ?_ _ | with_reducible refine Kp.drewN ?_ _ | refine Kp.setCell ?_ (by dsimp only; omega) _))) | fail)
    (first
      | (have _t := tok1; go_at_call 26; with_reducible refine Calls.mono (C0.out _ (by repeat (first | with_reducible assumption | with_reducible exact Kp.refl _ | with_reducible refine Kp.drew ?_ | with_reducible refine Kp.alloc ?_ _ | with_reducible refine Kp.drewN ?_ _ | refine Kp.setCell ?_ (by dsimp only; omega) _))) ?_; rintro e wr1 ⟨caps, rfl, hmay, hka⟩; have hr1 : Kp wb wr1 := Kp.trans (by repeat (first | with_reducible assumption | with_reducible exact Kp.refl _ | with_reducible refine Kp.drew ?_ | with_reducible refine Kp.alloc ?_ _ | with_reducible refine Kp.drewN ?_ _ | refine Kp.setCell ?_ (by dsimp only; omega) _)) hka; have tok2 : True := trivial; clear tok1 _t)
      | (have _t := tok2; go_at_call 34; with_reducible refine Calls.mono (C1.out _ hr1 caps hmay) ?_; rintro e wr2 ⟨v, rfl, hvn, hgo, hka⟩; have hr2 : Kp wb wr2 := Kp.trans (by repeat (first | with_reducible assumption | with_reducible exact Kp.refl _ | with_reducible refine Kp.drew ?_ | with_reducible refine Kp.alloc ?_ _ | with_reducible refine Kp.drewN ?_ _ | refine Kp.setCell ?_ (by dsimp only; omega) _)) hka; obtain ⟨Ax, cx, hve, hcx, hrows⟩ := hgo.rows (by have := HF7.out; omega); subst hve; have tok3 : True := trivial; clear tok2 _t)
      | (have _t := tok3; go_at_call 33; with_reducible refine Calls.mono (C2.out _ hr2 _ Ax _ cx hrows rfl) ?_; rintro e wr3 ⟨u, rfl, hu, hka⟩; have hr3 : Kp wb wr3 := Kp.trans (by repeat (first | with_reducible assumption | with_reducible exact Kp.refl _ | with_reducible refine Kp.drew ?_ | with_reducible refine Kp.alloc ?_ _ | with_reducible refine Kp.drewN ?_ _ | refine Kp.setCell ?_ (by dsimp only; omega) _)) hka; have tok4 : True := trivial; clear tok3 _t)
      | fail)
  all_goals
    go_wp2_with fail
    go_ret2
    exact ⟨u, by rw [Hok.out]; rfl, by rw [baL_yes Hok.out]; exact ((hu.2 _ rfl).mono (hkw0.trans hr1).le), hkw0.trans hr3⟩
end Go.Proofs.YtlglonjijfpgaaaGreat

namespace Go.Proofs.YtlglonjijfpgaaaGreat
open Go.RowKit Go.Sort

theorem rBig_any (A : Option Addr) (n c : Nat) (w : World) :
    Calls Tryz.prog 4 #[.slice A n c] w fun e w' => e = .returned (.bool (decide (65536 < (n : Int)))) ∧ w = w' := by
  go_enter Tryz.func4, Tryz.ntmps4
  go_wp2_with fail
  go_ret
  exact ⟨rfl, rfl⟩
set_option maxRecDepth 100000 in
set_option maxHeartbeats 1000000 in
/-- Two slices that read as the same list. -/
theorem rInts_same (A B : Option Addr) (xs : List Int) (n c d : Nat) (w : World) (hA : IntsAt w A xs) (hB : IntsAt w B xs) (hn : xs.length = n) :
    Calls Tryz.prog 8 #[.slice A n c, .slice B n d] w fun e w' => e = .returned (.bool true) ∧ Kp w w' := by
  have Hn := Lib.hid hn
  have hn63 : n ≤ 9223372036854775807 := hn ▸ hA.1
  clear hn
  have e0 : ((n : Int) != (n : Int)) = false := by simp
  go_enter Tryz.func8, Tryz.ntmps8
  go_wp2_with fail
  go_loopw [5] (fun iv wr => ∃ i : Nat, iv = .int .i64 i ∧ i ≤ n ∧ Kp w wr) (fun iv _ => n - (intOf iv).toNat)
  case atStart => exact ⟨0, rfl, by omega, Kp.refl _⟩
  case round =>
    obtain ⟨i, rfl, hi, hkr⟩ := hrel
    by_cases hlt : i < n
    · have lx : i < xs.length := by rw [Hn.out]; exact hlt
      obtain ⟨a, rfl, h1⟩ := (hA.kp hkr).at_ lx
      obtain ⟨b, rfl, h2⟩ := (hB.kp hkr).at_ lx
      obtain ⟨z, hz⟩ : ∃ z, xs[i] = z := ⟨_, rfl⟩
      rw [hz] at h1 h2
      have e1 : (z != z) = false := by simp
      have hkd : Kp w wr.drew := hkr.trans (Kp.refl wr).drew
      have iI : (i : Int) < (n : Int) := by omega
      go_wp2_with fail
      go_still (by kernel_rfl)
      change Exit.then _ _ _ _ wr.drew
      generalize wr.drew = wd at *
      go_wp2_with fail
      go_roundw
      case rel => exact ⟨i + 1, by go_num, by omega, hkd⟩
      case measure => simp [intOf]; omega
    · obtain rfl : i = n := by omega
      go_wp2_with fail
      go_ret
      exact ⟨rfl, hkr⟩
set_option maxRecDepth 100000 in
set_option maxHeartbeats 1000000 in
theorem rHas_any (A : Option Addr) (xs : List Int) (n c : Nat) (x : Int) (w : World) (hA : IntsAt w A xs) (hn : xs.length = n) :
    Calls Tryz.prog 37 #[.slice A n c, .int .i64 x] w fun e w' => e = .returned (.bool (xs.any fun y => y == x)) ∧ Kp w w' := by
  have Hn := Lib.hid hn
  have hn63 : n ≤ 9223372036854775807 := hn ▸ hA.1
  clear hn
  go_enter Tryz.func37, Tryz.ntmps37
  go_wp2_with fail
  go_loopw [5] (fun iv wr => ∃ i : Nat, iv = .int .i64 i ∧ i ≤ n ∧ Hid ((xs.take i).any (fun y => y == x) = false) ∧ Kp w wr) (fun iv _ => n - (intOf iv).toNat)
  case atStart => exact ⟨0, rfl, by omega, Lib.hid rfl, Kp.refl _⟩
  case round =>
    obtain ⟨i, rfl, hi, Hno, hkr⟩ := hrel
    by_cases hlt : i < n
    · have lx : i < xs.length := by rw [Hn.out]; exact hlt
      obtain ⟨a, rfl, h1⟩ := (hA.kp hkr).at_ lx
      obtain ⟨z, hz⟩ : ∃ z, xs[i] = z := ⟨_, rfl⟩
      rw [hz] at h1
      have iI : (i : Int) < (n : Int) := by omega
      have Hst : Hid ((xs.take (i + 1)).any (fun y => y == x) = (z == x)) := by
        show _ = _
        rw [List.take_succ_eq_append_getElem lx, List.any_append, Hno.out, hz]; simp
      cases hzx : (z == x)
      · rw [hzx] at Hst
        have hne : (z == x) = false := hzx
        go_wp2_with fail
        go_roundw
        case rel => exact ⟨i + 1, by go_num, by omega, Hst, hkr⟩
        case measure => simp [intOf]; omega
      · have hyes : Hid (xs.any (fun y => y == x) = true) := by
          show _ = _
          rw [List.any_eq_true]
          exact ⟨z, hz ▸ List.getElem_mem lx, hzx⟩
        go_wp2_with fail
        go_ret
        exact ⟨by rw [hyes.out]; rfl, hkr⟩
    · obtain rfl : i = n := by omega
      have hno : Hid (xs.any (fun y => y == x) = false) := by
        show _ = _
        have := Hno.out
        rwa [List.take_of_length_le (by rw [Hn.out]; omega)] at this
      go_wp2_with fail
      go_ret
      exact ⟨by rw [hno.out]; rfl, hkr⟩
/-- What is put in order so far: of -1 .. k - 2 what stands in the list. -/
def srtTo (xs : List Int) (k : Nat) : List Int := ((List.range k).map fun i : Nat => (i : Int) - 1).filter fun x => xs.any fun y => y == x
theorem srtTo_yes {xs : List Int} {k : Nat} (h : (xs.any fun y => y == (k : Int) - 1) = true) : srtTo xs (k + 1) = srtTo xs k ++ [(k : Int) - 1] := by
  unfold srtTo
  rw [List.range_succ, List.map_append, List.filter_append]
  simp [h]
theorem srtTo_no {xs : List Int} {k : Nat} (h : (xs.any fun y => y == (k : Int) - 1) = false) : srtTo xs (k + 1) = srtTo xs k := by
  unfold srtTo
  rw [List.range_succ, List.map_append, List.filter_append]
  simp [h]
theorem srtTo_len (xs : List Int) (k : Nat) : (srtTo xs k).length ≤ k := by
  unfold srtTo
  have := List.length_filter_le (fun x => xs.any fun y => y == x) ((List.range k).map fun i : Nat => (i : Int) - 1)
  simpa using this
theorem srtTo_sorted (xs : List Int) (k : Nat) : (srtTo xs k).Pairwise (· < ·) := by
  unfold srtTo
  refine List.Pairwise.filter _ ?_
  rw [List.pairwise_map]
  exact List.pairwise_lt_range.imp (fun h => by omega)
theorem mem_srtTo {xs : List Int} {k : Nat} {x : Int} : x ∈ srtTo xs k ↔ x ∈ xs ∧ -1 ≤ x ∧ x < (k : Int) - 1 := by
  unfold srtTo
  rw [List.mem_filter, List.mem_map, List.any_eq_true]
  constructor
  · rintro ⟨⟨i, hi, rfl⟩, y, hy, e⟩
    rw [List.mem_range] at hi
    have := eq_of_beq e
    exact ⟨this ▸ hy, by omega, by omega⟩
  · rintro ⟨h1, h2, h3⟩
    exact ⟨⟨(x + 1).toNat, List.mem_range.2 (by omega), by omega⟩, x, h1, by simp⟩
set_option maxRecDepth 100000 in
set_option maxHeartbeats 1000000 in
theorem rSorted_any (A : Option Addr) (xs : List Int) (n c : Nat) (w : World) (hA : IntsAt w A xs) (hn : xs.length = n) :
    Calls Tryz.prog 12 #[.slice A n c] w fun e w' => ∃ v, e = .returned v ∧ Own w' w.heap.size v (srtTo xs 1002) ∧ Kp w w' := by
  have Hn := Lib.hid hn
  clear hn
  have ho := own_new0 w w.heap.size (Nat.le_refl _)
  have hk : Kp w (w.alloc (.cells #[] 3)) := (Kp.refl w).alloc _
  go_enter Tryz.func12, Tryz.ntmps12
  go_wp2_with fail
  generalize w.alloc (.cells #[] 3) = wa at *
  go_loopw [3, 4] (fun ox iv wr => ∃ (k : Nat) (z : Int) (ov : Value), ov = ox ∧ iv = .int .i64 z ∧ Hid (z = (k : Int) - 1) ∧ k ≤ 1002 ∧ Own wr w.heap.size ov (srtTo xs k) ∧ Kp w wr) (fun _ iv _ => (1001 - intOf iv).toNat)
  case atStart => exact ⟨0, -1, _, rfl, rfl, Lib.hid rfl, by omega, ho, hk⟩
  case round =>
    clear ho hk
    obtain ⟨k, z, ov, rfl, rfl, hz, hk, ho, hkr⟩ := hrel
    by_cases hle : z ≤ 1000
    · have hz0 : -1 ≤ z := by have := hz.out; omega
      have hzw : wrap64 (z + 1) = z + 1 := IntWalk.wrap64_in _ (by omega)
      have hi := hA.kp hkr
      have CC := Lib.hid (rHas_any A xs n c z wr hi Hn.out)
      have Hl := Lib.hid (srtTo_len xs k)
      go_wp2_with fail
      with_reducible refine Calls.mono CC.out ?_
      rintro e w1 ⟨rfl, hk1⟩
      clear CC
      have ho1 := ho.kp hk1
      have hkb := hkr.trans hk1
      cases hb : xs.any fun y => y == z
      · have Hn2 := Lib.hid (srtTo_no (xs := xs) (k := k) (by rw [← hz.out]; exact hb))
        clear hb
        go_wp2_with fail
        go_roundw
        case rel => exact ⟨k + 1, z + 1, _, rfl, by go_num, Lib.hid (by have := hz.out; omega), by have := hz.out; omega, by rw [Hn2.out]; exact ho1, hkb⟩
        case measure => simp [intOf]; omega
      · have Hy := Lib.hid (srtTo_yes (xs := xs) (k := k) (by rw [← hz.out]; exact hb))
        have hbase := hkb.le
        have hl2 : (srtTo xs k).length < 1048576 := by have := Hl.out; omega
        clear hb
        go_wp2_with (at_builtin; go_loud (refine wpl_app rfl (.tmp 13) (.tmp 15) rfl w.heap.size ov (srtTo xs k) z rfl rfl ho1 hbase hl2 ?_); intro v2 w2 ho2 ht2 h42)
        go_roundw
        case rel => exact ⟨k + 1, z + 1, v2, rfl, by go_num, Lib.hid (by have := hz.out; omega), by have := hz.out; omega, by rw [Hy.out, ← hz.out]; exact ho2, ho1.kp_turn hkb (Nat.le_refl _) ht2⟩
        case measure => simp [intOf]; omega
    · obtain rfl : k = 1002 := by have := hz.out; omega
      go_wp2_with fail
      go_ret
      exact ⟨_, rfl, ho, hkr⟩
end Go.Proofs.YtlglonjijfpgaaaGreat

namespace Go.Proofs.YtlglonjijfpgaaaGreat
open Go.RowKit Go.Sort

def poOk (F : Fld) (S : List Int) : Bool := goodF F && setB F S
def poR (F : Fld) (S : List Int) : Int := if poOk F S = true then payF F S else 0
theorem po_no {F : Fld} {S : List Int} (h : poOk F S = false) : Ending.returned (.tuple #[.int .i64 0, .bool false]) = .returned (.tuple #[.int .i64 (poR F S), .bool (poOk F S)]) := by rw [poR, h]; rfl
theorem po_yes {F : Fld} {S : List Int} (h : poOk F S = true) : Ending.returned (.tuple #[.int .i64 (payF F S), .bool true]) = .returned (.tuple #[.int .i64 (poR F S), .bool (poOk F S)]) := by rw [poR, h, if_pos rfl]
set_option maxRecDepth 100000 in
set_option maxHeartbeats 400000 in
theorem implPo_any (f : Value) (F : Fld) (A0 : Option Addr) (S : List Int) (n c0 : Nat) (w : World) (hf : FldAt w f F) (hS : IntsAt w A0 S) (hn : S.length = n) :
    Calls Tryz.prog 21 #[f, .slice A0 n c0] w fun e w' => e = .returned (.tuple #[.int .i64 (poR F S), .bool (poOk F S)]) ∧ Kp w w' := by
  obtain ⟨A, c, B, d, rfl, hA, hB⟩ := hf
  have hk0 : Kp w (w.alloc (.cells #[.slice A F.op.length c, .slice B F.di.length d] 27)) := (Kp.refl w).alloc _
  obtain ⟨d0, d1⟩ := box2 w (.slice A F.op.length c) (.slice B F.di.length d) 27
  have hFA := FldAt.kp (show FldAt w (.agg #[.slice A F.op.length c, .slice B F.di.length d]) F from ⟨A, c, B, d, rfl, hA, hB⟩) hk0
  replace hS := hS.kp hk0
  have Hn := Lib.hid hn
  clear hA hB hn
  go_enter Tryz.func21, Tryz.ntmps21
  go_wp2_with fail
  have hsz : Hid ((w.alloc (.cells #[.slice A F.op.length c, .slice B F.di.length d] 27)).heap.size = w.heap.size + 1) := by show _ = _; simp
  generalize w.alloc (.cells #[.slice A F.op.length c, .slice B F.di.length d] 27) = wb at *
  have hkb : Kp wb wb := Kp.refl _
  have hkw := hk0
  have CC := Lib.hid (isField_any _ F _ (hFA.kp hkb))
  with_reducible refine Calls.mono CC.out ?_
  rintro e w1 ⟨rfl, hk1⟩
  clear CC
  replace hkb := hkb.trans hk1
  cases hg_ : goodF F
  · have Hg := Lib.hid (po_no (F := F) (S := S) (by simp [poOk, hg_]))
    clear hg_
    have q_d0 := hkb.get d0
    have q_d1 := hkb.get d1
    go_wp2_with fail
    go_ret2
    exact ⟨Hg.out, hkw.trans hkb⟩
  have Hg := Lib.hid hg_; clear hg_
  have h7 := (goodF_iff.1 Hg.out).1.2
  have q_d0 := hkb.get d0
  have q_d1 := hkb.get d1
  go_wp2_with fail
  have CC := Lib.hid (isRising_any A0 S n c0 (F.op.length : Int) _ (hS.kp hkb) Hn.out (by omega) (by omega))
  with_reducible refine Calls.mono CC.out ?_
  rintro e w2 ⟨rfl, hw⟩
  obtain rfl := hw
  clear CC q_d0 q_d1
  cases hs_ : setB F S
  · have Hs := Lib.hid (po_no (F := F) (S := S) (by simp [poOk, hs_]))
    have hs2 : risB S 0 ((F.op.length : Int) - 1) = false := hs_
    clear hs_
    rw [hs2]
    have q_d0 := hkb.get d0
    have q_d1 := hkb.get d1
    go_wp2_with fail
    go_ret2
    exact ⟨Hs.out, hkw.trans hkb⟩
  have Hs := Lib.hid hs_
  have hs2 : risB S 0 ((F.op.length : Int) - 1) = true := hs_
  clear hs_
  have Hy := Lib.hid (po_yes (F := F) (S := S) (by simp [poOk, Hg.out, Hs.out]))
  rw [hs2]
  have q_d0 := hkb.get d0
  have q_d1 := hkb.get d1
  go_wp2_with fail
  have CC := Lib.hid (payment_any _ F A0 S n c0 _ (hFA.kp hkb) (hS.kp hkb) Hn.out Hg.out Hs.out)
  with_reducible refine Calls.mono CC.out ?_
  rintro e w3 ⟨rfl, hk3⟩
  clear CC q_d0 q_d1
  replace hkb := hkb.trans hk3
  have q_d0 := hkb.get d0
  have q_d1 := hkb.get d1
  go_wp2_with fail
  go_ret2
  exact ⟨Hy.out, hkw.trans hkb⟩
end Go.Proofs.YtlglonjijfpgaaaGreat

namespace Go.Proofs.YtlglonjijfpgaaaGreat
open Go.RowKit Go.Sort

theorem bg_geL {F : Fld} {worth : Int} {p : List Int → Bool} {S : List Int} (hs : setB F S = true) (hp : p S = true) : gainF F worth S ≤ gainF F worth (bgF F worth p) := by
  have hm : S ∈ (allS F.op.length).filter p := List.mem_filter.2 ⟨by
    by_cases h : S = []
    · subst h; exact List.mem_cons_self
    · exact List.mem_cons_of_mem _ (mem_setsL.2 ⟨h, hs⟩), hp⟩
  have := bestL_le (v := negG F worth) S hm
  unfold negG at this
  unfold bgF negG
  omega
theorem bg_inL {F : Fld} {worth : Int} {p : List Int → Bool} (h : p [] = true) : p (bgF F worth p) = true := (List.mem_filter.1 (bg_mem (F := F) (worth := worth) h)).2
structure LimA (r1 k1 r2 k2 g1 g2 : Bool) (low high : Int) : Prop where
  a1 : r1 = true
  a2 : k1 = true
  a3 : r2 = true
  a4 : k2 = true
  a5 : g1 = true
  a6 : g2 = true
  le : low ≤ high
  half : high ≤ 2 * low
  bd : 0 ≤ low ∧ high ≤ 6993
theorem lim_parts {F : Fld} {worth : Int} {cl li : List Int} (h : galOk F worth cl li = true) : LimA (allowR F cl li (srtTo (galL F worth cl li) 1002)) (allowOk F cl li (srtTo (galL F worth cl li) 1002)) (allowR F cl li (baL F worth cl li)) (allowOk F cl li (baL F worth cl li)) (gainOk F worth (srtTo (galL F worth cl li) 1002)) (gainOk F worth (baL F worth cl li)) (gainR F worth (srtTo (galL F worth cl li) 1002)) (gainR F worth (baL F worth cl li)) := by
  obtain ⟨hg, hw, hc⟩ := galOk_parts h
  have h7 := (goodF_iff.1 hg).1.2
  have hb : baOk F worth cl li = true := h
  have hwB : worthB worth = true := by unfold worthB; exact inB_iff.2 hw
  obtain ⟨E, D, hE⟩ := gr_end (F := F) (worth := worth) hc F.op.length [] [] (setB_nil F) (allow_nil hc) (fun x => Iff.rfl) (by simp)
  have hgl := galL_yes h
  rw [← hgl] at hE
  have hse : srtTo (galL F worth cl li) 1002 = E := by
    refine rising_ext (srtTo_sorted _ _) (ris_iff.1 hE.set_).1 (fun x => ?_)
    rw [mem_srtTo, hE.mem_]
    constructor
    · exact fun h => h.1
    · intro hx
      have := set_mem hE.set_ x hx
      exact ⟨hx, by omega, by omega⟩
  rw [hse]
  have hbs : setB F (baL F worth cl li) = true := by rw [baL_yes hb]; exact bg_set (allow_nil hc)
  have hba : allowB cl li (baL F worth cl li) = true := by rw [baL_yes hb]; exact bg_inL (allow_nil hc)
  have k1 : allowOk F cl li E = true := by unfold allowOk; rw [hg, hE.set_, hc]; rfl
  have k2 : allowOk F cl li (baL F worth cl li) = true := by unfold allowOk; rw [hg, hbs, hc]; rfl
  have g1 : gainOk F worth E = true := by unfold gainOk; rw [hg, hwB, hE.set_]; rfl
  have g2 : gainOk F worth (baL F worth cl li) = true := by unfold gainOk; rw [hg, hwB, hbs]; rfl
  have r1 : gainR F worth E = gainF F worth E := by unfold gainR; rw [if_pos g1]
  have r2 : gainR F worth (baL F worth cl li) = gainF F worth (baL F worth cl li) := by unfold gainR; rw [if_pos g2]
  have b1 := gainF_bd hg hw.1 hw.2 E
  have b2 := gainF_bd hg hw.1 hw.2 (baL F worth cl li)
  refine ⟨by unfold allowR; rw [k1, hE.may_]; rfl, k1, by unfold allowR; rw [k2, hba]; rfl, k2, g1, g2, ?_, ?_, ?_⟩
  · rw [r1, r2, baL_yes hb]
    exact bg_geL hE.set_ hE.may_
  · rw [r1, r2]
    exact lim_half hc hE hbs hba
  · rw [r1, r2]; omega
structure RgA (p1 p2 g1 g2 : Bool) (a b low high k : Int) : Prop where
  a1 : p1 = true
  a2 : p2 = true
  a5 : g1 = true
  a6 : g2 = true
  pa : a ≤ k
  pb : b ≤ k
  le : low ≤ high
  share : 316 * high ≤ 1000 * low
  bd : 0 ≤ low ∧ high ≤ 6993
theorem rg_parts {F : Fld} {worth k : Int} (h : bbOk F worth k = true) : RgA (poOk F (rgL F worth k)) (poOk F (bbL F worth k)) (gainOk F worth (rgL F worth k)) (gainOk F worth (bbL F worth k)) (poR F (rgL F worth k)) (poR F (bbL F worth k)) (gainR F worth (rgL F worth k)) (gainR F worth (bbL F worth k)) k := by
  obtain ⟨hg, hw, hk⟩ := bbOk_parts h
  obtain ⟨B, rfl⟩ := Int.eq_ofNat_of_zero_le hk.1
  have hwB : worthB worth = true := by unfold worthB; exact inB_iff.2 hw
  have hbs : setB F (bbL F worth B) = true := by rw [bbL_yes h]; exact bg_set (aP_nil hk.1)
  have hbp : payF F (bbL F worth B) ≤ B := by
    have := bg_inL (F := F) (worth := worth) (p := aP F (B : Int)) (aP_nil hk.1)
    rw [← bbL_yes h] at this
    simpa [aP] using this
  have hos : setB F (oneR F worth B) = true := oneR_set
  have hop : payF F (oneR F worth B) ≤ B := rGo_pay _ _ _ (by simp [payF])
  have hss := (sg_set (F := F) (worth := worth) (budget := (B : Int)) F.op.length (Nat.le_refl _)).1
  have hsp := sg_pay (F := F) (worth := worth) hk.1 F.op.length (Nat.le_refl _)
  have hall : setB F (rgL F worth B) = true ∧ payF F (rgL F worth B) ≤ B ∧ gainF F worth (oneR F worth B) ≤ gainF F worth (rgL F worth B) ∧ gainF F worth (sgTo F worth B F.op.length) ≤ gainF F worth (rgL F worth B) := by
    by_cases h2 : gainF F worth (oneR F worth B) < gainF F worth (sgTo F worth B F.op.length)
    · rw [rgL_two h h2]; exact ⟨hss, hsp, by omega, Int.le_refl _⟩
    · rw [rgL_one h h2]; exact ⟨hos, hop, Int.le_refl _, by omega⟩
  obtain ⟨hrs, hrp, hro, hrg⟩ := hall
  have p1 : poOk F (rgL F worth B) = true := by unfold poOk; rw [hg, hrs]; rfl
  have p2 : poOk F (bbL F worth B) = true := by unfold poOk; rw [hg, hbs]; rfl
  have g1 : gainOk F worth (rgL F worth B) = true := by unfold gainOk; rw [hg, hwB, hrs]; rfl
  have g2 : gainOk F worth (bbL F worth B) = true := by unfold gainOk; rw [hg, hwB, hbs]; rfl
  have r1 : gainR F worth (rgL F worth B) = gainF F worth (rgL F worth B) := by unfold gainR; rw [if_pos g1]
  have r2 : gainR F worth (bbL F worth B) = gainF F worth (bbL F worth B) := by unfold gainR; rw [if_pos g2]
  have b1 := gainF_bd hg hw.1 hw.2 (rgL F worth B)
  have b2 := gainF_bd hg hw.1 hw.2 (bbL F worth B)
  have hI0 : RatI F worth B (bbL F worth B) [] 0 [] := by
    refine ⟨setB_nil F, fun x hx => (by cases hx), fun t ht => ?_, fun c hc => (by cases hc), by simp [payF], by rw [gainF_nil]; simp [prodL]⟩
    have := set_mem hbs t ht
    exact .inl (mem_left.2 ⟨t.toNat, by omega, by simp, by omega⟩)
  have hmain := rat_main (F := F) (worth := worth) (B := B) (T := bbL F worth B) hg hbp hbs b2.1 F.op.length 0 [] [] (left_full _) hI0
  refine ⟨p1, p2, g1, g2, by unfold poR; rw [if_pos p1]; exact hrp, by unfold poR; rw [if_pos p2]; exact hbp, ?_, ?_, ?_⟩
  · rw [r1, r2, bbL_yes h]
    exact bg_geL hrs (by simp [aP]; exact hrp)
  · rw [r1, r2]
    have hm2 : gainF F worth (bbL F worth B) ≤ gainF F worth (oneR F worth B) ∨ ∃ x ∈ bbL F worth B, 632 * gainF F worth (bbL F worth B) ≤ 1000 * (gainF F worth (oneR F worth B) + gainF F worth [x]) := hmain
    rcases hm2 with h1 | ⟨x, hx, h1⟩
    · omega
    · have hxs := set_mem hbs x hx
      have hxp : opAt F x ≤ B := by
        obtain ⟨T1, T2, e⟩ := List.append_of_mem hx
        have h1 : payF F (bbL F worth B) = (T1.map (opAt F)).sum + (opAt F x + (T2.map (opAt F)).sum) := by
          unfold payF
          rw [e, List.map_append, List.sum_append, List.map_cons, List.sum_cons]
        have h2 := sum_nnG (l := T1.map (opAt F)) (fun x hx => by obtain ⟨y, _, rfl⟩ := List.mem_map.1 hx; exact opAt_nnQ hg y)
        have h3 := sum_nnG (l := T2.map (opAt F)) (fun x hx => by obtain ⟨y, _, rfl⟩ := List.mem_map.1 hx; exact opAt_nnQ hg y)
        omega
      obtain ⟨y, rfl⟩ := Int.eq_ofNat_of_zero_le hxs.1
      have := sg_ge (F := F) (worth := worth) hxp F.op.length (by omega)
      omega
  · rw [r1, r2]; omega
end Go.Proofs.YtlglonjijfpgaaaGreat

namespace Go.Proofs.YtlglonjijfpgaaaGreat
open Go.RowKit Go.Sort

/-- Block g holds J headers; row j lies in block B j and reads as f j. -/
structure Mat (w : World) (base g cap J M : Nat) (B Cp : Nat → Nat) (f : Nat → Nat → Int) : Prop where
  hd : w.ownsRow base 24 1 (.slice (some ⟨g, 0, none⟩) J cap) J ((List.range J).map fun j => Value.slice (some ⟨B j, 0, none⟩) M (Cp j))
  row : ∀ j, j < J → Own w base (.slice (some ⟨B j, 0, none⟩) M (Cp j)) (mapTo (f j) M)
  apart : ∀ i j, i < J → j < J → i ≠ j → B i ≠ B j
theorem Mat.kp {w w' : World} {base g cap J M : Nat} {B Cp : Nat → Nat} {f : Nat → Nat → Int} (h : Mat w base g cap J M B Cp f) (hk : Kp w w') : Mat w' base g cap J M B Cp f :=
  ⟨hk.own h.hd, fun j hj => (h.row j hj).kp hk, h.apart⟩
theorem Mat.turn {S : Nat → Prop} {w w' : World} {base g cap J M : Nat} {B Cp : Nat → Nat} {f : Nat → Nat → Int} (h : Mat w base g cap J M B Cp f) (ht : Turn S w w') (h1 : ¬ S g) (h2 : ∀ j, j < J → ¬ S (B j)) : Mat w' base g cap J M B Cp f :=
  ⟨own_turn h.hd ht (fun k hk hs => by have : g = k := by simpa [Value.ownBlock] using hk
                                       subst this; exact h1 hs),
   fun j hj => (h.row j hj).turn ht (fun k hk hs => by have : B j = k := by simpa [Value.ownBlock] using hk
                                                       subst this; exact h2 j hj hs), h.apart⟩
theorem Mat.congr {w : World} {base g cap J M : Nat} {B Cp : Nat → Nat} {f f' : Nat → Nat → Int} (h : Mat w base g cap J M B Cp f) (e : ∀ j a, j < J → a < M → f j a = f' j a) : Mat w base g cap J M B Cp f' :=
  ⟨h.hd, fun j hj => by
    have : mapTo (f j) M = mapTo (f' j) M := by unfold mapTo; exact List.map_congr_left (fun a ha => e j a hj (List.mem_range.1 ha))
    rw [← this]; exact h.row j hj, h.apart⟩
theorem Mat.lt {w : World} {base g cap J M : Nat} {B Cp : Nat → Nat} {f : Nat → Nat → Int} (h : Mat w base g cap J M B Cp f) {j : Nat} (hj : j < J) : base ≤ B j ∧ B j < w.heap.size := (h.row j hj).lt (B j) rfl
theorem Mat.glt {w : World} {base g cap J M : Nat} {B Cp : Nat → Nat} {f : Nat → Nat → Int} (h : Mat w base g cap J M B Cp f) : base ≤ g ∧ g < w.heap.size := World.ownsRow.lt h.hd g rfl
theorem Mat.gne {w : World} {base g cap J M : Nat} {B Cp : Nat → Nat} {f : Nat → Nat → Int} (h : Mat w base g cap J M B Cp f) {j : Nat} (hj : j < J) : B j ≠ g := fun e =>
  own_blocks_ne (h.row j hj) h.hd (by decide) (g := B j) rfl (by rw [e]; rfl)
theorem own_ne_hd {w : World} {base base' g n cap J : Nat} {A : Value} {xs : List Int} {hs : List Value} (h : Own w base A xs) (h2 : w.ownsRow base' 24 1 (.slice (some ⟨g, 0, none⟩) n cap) J hs) {k : Nat} (hk : A.ownBlock = some k) : k ≠ g := fun e =>
  own_blocks_ne h h2 (by decide) hk (by subst e; rfl)
theorem Mat.hcell {w : World} {base g cap J M : Nat} {B Cp : Nat → Nat} {f : Nat → Nat → Int} (h : Mat w base g cap J M B Cp f) {j : Nat} (hj : j < J) : w.cell? ⟨g, j, none⟩ = some (.slice (some ⟨B j, 0, none⟩) M (Cp j)) := by
  have := World.ownsRow.cells h.hd (g := g) rfl j (Value.slice (some ⟨B j, 0, none⟩) M (Cp j)) (by simp [hj])
  rwa [add0] at this
theorem mapTo_lget {g : Nat → Int} {M a : Nat} (h : a < M) : lget (mapTo g M) a = g a := by
  rw [lget_at (by rw [mapTo_len]; exact h), mapTo_get h]
theorem mapTo_set {g : Nat → Int} {M a : Nat} {z : Int} : (mapTo g M).set a z = mapTo (upd g a z) M := by
  unfold mapTo
  apply List.ext_getElem
  · simp
  · intro i h1 h2
    rw [List.getElem_set]
    by_cases e : a = i
    · subst e; simp [upd]
    · have e2 : ¬ i = a := fun h => e h.symm
      simp [e, upd, e2]
theorem Mat.cell {w : World} {base g cap J M : Nat} {B Cp : Nat → Nat} {f : Nat → Nat → Int} (h : Mat w base g cap J M B Cp f) {j a : Nat} (hj : j < J) (ha : a < M) :
    w.cell? ⟨B j, a, none⟩ = some (.int .i64 (f j a)) ∧ w.frozen? ⟨B j, a, none⟩ = false ∧
    ∀ z : Int, Mat (w.setCell ⟨B j, a, none⟩ (.int .i64 z)) base g cap J M B Cp (upd2 f j a z) ∧ Turn (fun i => i = B j) w (w.setCell ⟨B j, a, none⟩ (.int .i64 z)) := by
  obtain ⟨c1, c2, c3⟩ := (h.row j hj).slotL (mapTo_len _ _) ha
  rw [mapTo_lget ha] at c1
  refine ⟨c1, c2, fun z => ?_⟩
  obtain ⟨o1, t1⟩ := c3 z
  refine ⟨⟨own_turn h.hd t1 (fun k hk hs => ?_), fun i hi => ?_, h.apart⟩, t1⟩
  · have e : g = k := by simpa [Value.ownBlock] using hk
    subst e; exact h.gne hj hs.symm
  · by_cases e : i = j
    · subst e
      rw [mapTo_set] at o1
      have : upd2 f i a z i = upd (f i) a z := by funext b; unfold upd2; rw [if_pos rfl]
      rw [this]; exact o1
    · have : upd2 f j a z i = f i := by funext b; unfold upd2; rw [if_neg e]
      rw [this]
      exact (h.row i hi).turn t1 (fun k hk hs => by
        have e2 : B i = k := by simpa [Value.ownBlock] using hk
        subst e2; exact h.apart i j hi hj e hs)
theorem Mat.ints {w : World} {base g cap J M : Nat} {B Cp : Nat → Nat} {f : Nat → Nat → Int} (h : Mat w base g cap J M B Cp f) (hM : M ≤ 1048576) {j : Nat} (hj : j < J) : IntsAt w (some ⟨B j, 0, none⟩) (mapTo (f j) M) := by
  obtain ⟨A, c, e, hi⟩ := (h.row j hj).ints (by rw [mapTo_len]; omega)
  rw [mapTo_len] at e
  simp only [Value.slice.injEq] at e
  rw [e.1]; exact hi
/-- The rows of it. -/
def matL (J M : Nat) (f : Nat → Nat → Int) : List (List Int) := (List.range J).map fun j => mapTo (f j) M
theorem matL_len (J M : Nat) (f : Nat → Nat → Int) : (matL J M f).length = J := by simp [matL]
theorem matL_at {J M : Nat} {f : Nat → Nat → Int} {j : Nat} (hj : j < J) : (matL J M f).getD j [] = mapTo (f j) M := by simp [matL, List.getD, hj]
theorem Mat.grid {w : World} {base g cap J M : Nat} {B Cp : Nat → Nat} {f : Nat → Nat → Int} (h : Mat w base g cap J M B Cp f) (hJ : J ≤ 1048576) (hM : M ≤ 1048576) : GridAt w (some ⟨g, 0, none⟩) (matL J M f) :=
  ⟨by rw [matL_len]; omega, fun k hk => by
    rw [matL_len] at hk
    rw [matL_at hk]
    exact ⟨_, _, _, rfl, by rw [add0, mapTo_len]; exact h.hcell hk, h.ints hM hk⟩⟩
theorem Mat.ownGrid {w : World} {base g cap J M : Nat} {B Cp : Nat → Nat} {f : Nat → Nat → Int} (h : Mat w base g cap J M B Cp f) : OwnGrid w base (.slice (some ⟨g, 0, none⟩) J cap) J (fun j => mapTo (f j) M) :=
  ⟨fun j => Value.slice (some ⟨B j, 0, none⟩) M (Cp j), h.hd, h.row, fun i j k hij hj e1 e2 => by
    have e3 : B i = k := by simpa [Value.ownBlock] using e1
    have e4 : B j = k := by simpa [Value.ownBlock] using e2
    exact h.apart i j (by omega) hj (by omega) (by omega)⟩
end Go.Proofs.YtlglonjijfpgaaaGreat
