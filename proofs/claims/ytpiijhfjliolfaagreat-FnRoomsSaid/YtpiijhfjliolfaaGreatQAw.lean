/- BestRooms: reference and program; BestRooms: the program; CanServe: the program's and the reference's; What compact leaves of a list that never falls. No condition. -/
import Derived.Test.YtpiijhfjliolfaaGreatQAh
import Derived.Test.YtpiijhfjliolfaaGreatQAv
import Derived.Test.YtpiijhfjliolfaaGreatQAe
import Derived.Test.YtpiijhfjliolfaaGreatQAt
import Derived.Test.YtpiijhfjliolfaaGreatQAa
import Derived.Lib.SlicesCompact
namespace Go.Proofs.YtpiijhfjliolfaaGreat
open Go.RowKit Go.Sort

noncomputable def brv (F : Fld) (rooms needs S : List Int) : Int := if S = [] then 1000000 else lfV F rooms needs S + payF F S
noncomputable def brF (F : Fld) (rooms needs : List Int) : List Int := bestL (brv F rooms needs) ((setsL F.op.length).filter (lfOk F rooms needs))
noncomputable def brT (F : Fld) (rooms needs S : List Int) : Int := if S = [] then 0 else brv F rooms needs S
def brG (F : Fld) (rooms needs : List Int) : Bool := goodF F && needsB F rooms needs
noncomputable def brL (F : Fld) (rooms needs : List Int) : List Int := if brG F rooms needs = true then brF F rooms needs else []
noncomputable def brOk (F : Fld) (rooms needs : List Int) : Bool := decide (brL F rooms needs ≠ [])
noncomputable def brVal (F : Fld) (rooms needs : List Int) : Int := brT F rooms needs (brL F rooms needs)
theorem brL_yes {F : Fld} {rooms needs : List Int} (h : brG F rooms needs = true) : brL F rooms needs = brF F rooms needs := if_pos h
theorem brL_no {F : Fld} {rooms needs : List Int} (h : brG F rooms needs = false) : brL F rooms needs = [] := if_neg (by simp [h])
theorem brv_nil (F : Fld) (rooms needs : List Int) : brv F rooms needs [] = 1000000 := if_pos rfl
theorem brv_not {F : Fld} {rooms needs S : List Int} (h : S ≠ []) : brv F rooms needs S = lfV F rooms needs S + payF F S := if_neg h
theorem brT_nil (F : Fld) (rooms needs : List Int) : brT F rooms needs [] = 0 := if_pos rfl
theorem brT_not {F : Fld} {rooms needs S : List Int} (h : S ≠ []) : brT F rooms needs S = brv F rooms needs S := if_neg h
theorem brv_less {F : Fld} {rooms needs S : List Int} (hg : goodF F = true) (hs : S ≠ [] ∧ setB F S = true) : brv F rooms needs S < brv F rooms needs [] := by
  rw [brv_nil, brv_not hs.1]
  have h1 := lf_bd0 F rooms needs S
  have h2 := payF_bd hg hs.2
  omega
theorem br_pick {F : Fld} {rooms needs : List Int} (hg : goodF F = true) : pk0 (lfOk F rooms needs) (brv F rooms needs) (setsL F.op.length) (setsL F.op.length).length = brF F rooms needs :=
  pk0_all (fun s hs => brv_less hg (mem_setsL.1 hs))
theorem brF_mem {F : Fld} {rooms needs : List Int} (hg : goodF F = true) : brF F rooms needs = [] ∨ brF F rooms needs ∈ setsL F.op.length := by
  rw [← br_pick hg]; exact pk0_mem _ (Nat.le_refl _)
theorem brL_len (F : Fld) (rooms needs : List Int) : (brL F rooms needs).length ≤ 1048576 := by
  cases h : brG F rooms needs
  · rw [brL_no h]; simp
  · rw [brL_yes h]
    unfold brG at h
    rw [Bool.and_eq_true] at h
    rcases brF_mem (rooms := rooms) (needs := needs) h.1 with e | e
    · rw [e]; simp
    · have h1 := risB_len (mem_setsL.1 e).2
      have h2 := (goodF_iff.1 h.1).1.2
      omega
theorem RowP.some_adr {w : World} {lo : Option Nat} {A : Option Addr} {n c : Nat} {xs : List Int} (h : RowP w lo (.slice A n c) xs) (hne : xs ≠ []) : ∃ ad, A = some ad ∧ n = xs.length ∧ IntsAt w (some ad) xs := by
  obtain ⟨A', c', e, hc, hi⟩ := h.read
  simp only [Value.slice.injEq] at e
  obtain ⟨rfl, rfl, rfl⟩ := e
  obtain ⟨ad, rfl, _⟩ := hi.at_ (List.length_pos_iff.2 hne)
  exact ⟨ad, rfl, rfl, hi⟩
set_option maxRecDepth 100000 in
set_option maxHeartbeats 2000000 in
theorem specBr_any (f : Value) (F : Fld) (A1 : Option Addr) (rooms : List Int) (n1 c1 : Nat) (A2 : Option Addr) (needs : List Int) (n2 c2 : Nat) (w : World) (hf : FldAt w f F) (h1 : IntsAt w A1 rooms) (hn1 : rooms.length = n1) (h2 : IntsAt w A2 needs) (hn2 : needs.length = n2) :
    Calls Tryz.prog 13 #[f, .slice A1 n1 c1, .slice A2 n2 c2] w fun e w' => ∃ v, e = .returned (.tuple #[v, .int .i64 (brVal F rooms needs), .bool (brOk F rooms needs)]) ∧ Own w' w.heap.size v (brL F rooms needs) ∧ Kp w w' := by
  obtain ⟨A, c, B, d, rfl, hA, hB⟩ := hf
  have hk0 : Kp w (w.alloc (.cells #[.slice A F.op.length c, .slice B F.di.length d] 27)) := (Kp.refl w).alloc _
  obtain ⟨d0, d1⟩ := box2 w (.slice A F.op.length c) (.slice B F.di.length d) 27
  have hFA := FldAt.kp (show FldAt w (.agg #[.slice A F.op.length c, .slice B F.di.length d]) F from ⟨A, c, B, d, rfl, hA, hB⟩) hk0
  replace h1 := h1.kp hk0
  replace h2 := h2.kp hk0
  have Hn1 := Lib.hid hn1; have Hn2 := Lib.hid hn2
  clear hA hB hn1 hn2
  go_enter Tryz.func13, Tryz.ntmps13
  go_wp2_with fail
  have hsz : Hid ((w.alloc (.cells #[.slice A F.op.length c, .slice B F.di.length d] 27)).heap.size = w.heap.size + 1) := by show _ = _; simp
  generalize w.alloc (.cells #[.slice A F.op.length c, .slice B F.di.length d] 27) = wb at *
  have hkb : Kp wb wb := Kp.refl _
  have hkw := hk0
  have ho0 := own_new0 wb w.heap.size (by rw [hsz.out]; exact Nat.le_succ _)
  have hkn := (Kp.refl wb).alloc (.cells #[] 3)
  rw [hsz.out] at ho0
  have q_0 := hkn.get d0
  have q_1 := hkn.get d1
  have CC := Lib.hid (l2Good_any _ F _ (hFA.kp hkn))
  go_wp2_with fail
  with_reducible refine Calls.mono CC.out ?_
  rintro e w0 ⟨rfl, hk0'⟩
  clear CC q_0 q_1
  replace hkb := hkn.trans hk0'
  have ho1 := ho0.kp hk0'
  cases hg_ : goodF F
  · have Hno : Hid (brG F rooms needs = false) := by show _ = _; rw [brG, hg_]; rfl
    clear hg_
    have q_d0 := hkb.get d0
    have q_d1 := hkb.get d1
    go_wp2_with fail
    go_ret3
    exact ⟨_, by rw [brOk, brVal, brL_no Hno.out, brT_nil]; rfl, by rw [brL_no Hno.out]; exact ho1, hkw.trans hkb⟩
  have HG := Lib.hid hg_; clear hg_
  have q_d0 := hkb.get d0
  have q_d1 := hkb.get d1
  go_wp2_with fail
  have CC := Lib.hid (l7Needs_any _ F A1 rooms n1 c1 A2 needs n2 c2 _ (hFA.kp hkb) (h1.kp hkb) Hn1.out (h2.kp hkb) Hn2.out)
  with_reducible refine Calls.mono CC.out ?_
  rintro e w1 ⟨rfl, hk1⟩
  clear CC q_d0 q_d1
  replace hkb := hkb.trans hk1
  replace ho1 := ho1.kp hk1
  cases hk_ : needsB F rooms needs
  · have Hno : Hid (brG F rooms needs = false) := by show _ = _; rw [brG, hk_]; simp
    clear hk_
    have q_d0 := hkb.get d0
    have q_d1 := hkb.get d1
    go_wp2_with fail
    go_ret3
    exact ⟨_, by rw [brOk, brVal, brL_no Hno.out, brT_nil]; rfl, by rw [brL_no Hno.out]; exact ho1, hkw.trans hkb⟩
  have Hok : Hid (brG F rooms needs = true) := by show _ = _; rw [brG, HG.out, hk_]; rfl
  clear hk_
  have hg7 := (goodF_iff.1 HG.out).1.2
  have hw1le := (hkw.trans hkb).le
  have q_d0 := hkb.get d0
  have q_d1 := hkb.get d1
  go_wp2_with fail
  have CC := Lib.hid (l2Sets_any F.op.length w1 hg7)
  with_reducible refine Calls.mono CC.out ?_
  rintro e w2 ⟨v, rfl, hvn, hgo, hk2⟩
  clear CC q_d0 q_d1
  replace hkb := hkb.trans hk2
  replace ho1 := ho1.kp hk2
  have hsl : (setsL F.op.length).length ≤ 127 := by rw [setsL_len]; have h128 : 2 ^ F.op.length ≤ 2 ^ 7 := Nat.pow_le_pow_right (by omega) hg7; omega
  obtain ⟨ad, cx, hve, hcx, hrows⟩ := hgo.rows_some (by omega) hvn
  subst hve
  clear hgo hvn
  obtain ⟨rows, hre⟩ : ∃ rows, rows = setsL F.op.length := ⟨_, rfl⟩
  rw [← hre] at hrows hcx hsl ⊢
  have Hpk : Hid (pk0 (lfOk F rooms needs) (brv F rooms needs) rows rows.length = brF F rooms needs) := by show _ = _; rw [hre]; exact br_pick HG.out
  have Hset : Hid (∀ S ∈ rows, S ≠ [] ∧ setB F S = true) := by show ∀ S ∈ rows, _; rw [hre]; exact fun S hS => mem_setsL.1 hS
  obtain ⟨m, hml⟩ : ∃ m, m = rows.length := ⟨_, rfl⟩
  rw [← hml] at hsl ⊢
  replace hml := Lib.hid hml
  clear hre
  have g0 := hkb.get d0
  have g1 := hkb.get d1
  have hFl := hFA.kp hkb
  have hkl := hkw.trans hkb
  obtain ⟨wl, rfl⟩ : ∃ wl : World, wl = w2 := ⟨_, rfl⟩
  have ho2 := RowP.of_own ho1 (by simp)
  have h1l := h1.kp hkb
  have h2l := h2.kp hkb
  clear ho0 ho1 hkn hk0' hkb d0 d1
  go_wp2_with fail
  go_loopw [9, 10, 12] (fun bv tv iv wr => ∃ (k' : Nat) (Ab : Option Addr) (cb : Nat) (tz : Int), k' ≤ m ∧ iv = .int .i64 k' ∧ bv = .slice Ab (pk0 (lfOk F rooms needs) (brv F rooms needs) rows k').length cb ∧ tv = .int .i64 tz ∧ Hid (brT F rooms needs (pk0 (lfOk F rooms needs) (brv F rooms needs) rows k') = tz) ∧ RowP wr (some w.heap.size) (.slice Ab (pk0 (lfOk F rooms needs) (brv F rooms needs) rows k').length cb) (pk0 (lfOk F rooms needs) (brv F rooms needs) rows k') ∧ Kp wl wr) (fun _ _ iv _ => m - (intOf iv).toNat)
  case atStart => exact ⟨0, _, _, _, by omega, rfl, rfl, rfl, by show _ = _; rw [pk0_zero, brT_nil], ho2, Kp.refl _⟩
  case round =>
    clear ho2
    obtain ⟨j, Ab, cb, tz, hj, rfl, rfl, rfl, Htz, hb, hkr⟩ := hrel
    by_cases hlt : j < m
    · skip
      have lx : j < rows.length := by rw [← hml.out]; exact hlt
      obtain ⟨A3, c3, hcl, hc3, hri, hrq⟩ := (hrows.kp hkr).some_ lx
      have q1 := Lib.hid (Hset.out _ (List.getElem_mem lx))
      obtain ⟨ad3, rfl, _, _⟩ := RowP.some_adr hrq q1.out.1
      have z0 := hkr.get g0
      have z1 := hkr.get g1
      have hkz : Kp wr wr := Kp.refl _
      have hb1 := lf_bd0 F rooms needs rows[j]
      have hb2 := payF_bd HG.out q1.out.2
      have hbv := Lib.hid (brv_not (F := F) (rooms := rooms) (needs := needs) q1.out.1)
      have hbt := Lib.hid (brT_not (F := F) (rooms := rooms) (needs := needs) q1.out.1)
      have hbl := Lib.hid (brv_less (rooms := rooms) (needs := needs) HG.out q1.out)
      have hlen7 := risB_len q1.out.2
      obtain ⟨cv, Hcv⟩ : ∃ z, Hid (lfV F rooms needs rows[j] = z) := ⟨_, Lib.hid rfl⟩
      obtain ⟨pv, Hpv⟩ : ∃ z, Hid (payF F rows[j] = z) := ⟨_, Lib.hid rfl⟩
      have C1 := Lib.hid (fun (wx : World) (hx : Kp wr wx) => specLf_any _ F A1 rooms n1 c1 A2 needs n2 c2 (some ad3) rows[j] _ c3 wx (hFl.kp (hkr.trans hx)) (h1l.kp (hkr.trans hx)) Hn1.out (h2l.kp (hkr.trans hx)) Hn2.out (hri.kp hx) rfl)
      have C2 := Lib.hid (fun (wx : World) (hx : Kp wr wx) => l2Pay_any _ F (some ad3) rows[j] _ c3 wx (hFl.kp (hkr.trans hx)) (hri.kp hx) rfl HG.out q1.out.2)
      rw [Hcv.out] at hb1 hbv C1
      rw [Hpv.out] at hb2 hbv C2
      have hwr : IntKind.i64.wrap (cv + pv) = cv + pv := IntWalk.i64_in _ (by omega)
      have Hbb := Lib.hid (And.intro hb1 hb2)
      clear hb1 hb2
      cases hok : lfOk F rooms needs rows[j]
      · rw [hok] at C1
        have Hy : Hid (pk0 (lfOk F rooms needs) (brv F rooms needs) rows (j + 1) = pk0 (lfOk F rooms needs) (brv F rooms needs) rows j) := pk0_no lx (fun h => by rw [hok] at h; exact absurd h.1 (by simp))
        have q_z0 := hkz.get z0
        have q_z1 := hkz.get z1
        have q_hcl := hkz.get hcl
        have tok1 : True := trivial
        go_wp2_with fail
        go_region_held3 (fun w' => w'.cell? ⟨w.heap.size, 0, none⟩ = some (.slice A F.op.length c) ∧ w'.cell? ⟨w.heap.size, 1, none⟩ = some (.slice B F.di.length d) ∧ w'.cell? (ad.add j) = some (.slice (some ad3) rows[j].length c3) ∧ Kp wr w')
          (first | (refine keepc3 z0 z1 hcl ?_; exact (by repeat (first | with_reducible assumption | with_reducible exact Kp.refl _ | with_reducible refine Kp.drew ?_ | with_reducible refine Kp.alloc ?_ _ | with_reducible refine Kp.drewN ?_ _ | refine Kp.setCell ?_ (by dsimp only; omega) _))) | fail)
          (first
            | (have _t := tok1; go_at_call 42; with_reducible refine Calls.mono (C1.out _ (by repeat (first | with_reducible assumption | with_reducible exact Kp.refl _ | with_reducible refine Kp.drew ?_ | with_reducible refine Kp.alloc ?_ _ | with_reducible refine Kp.drewN ?_ _ | refine Kp.setCell ?_ (by dsimp only; omega) _))) ?_; rintro e wr1 ⟨rfl, hka⟩; have hr1 : Kp wr wr1 := Kp.trans (by repeat (first | with_reducible assumption | with_reducible exact Kp.refl _ | with_reducible refine Kp.drew ?_ | with_reducible refine Kp.alloc ?_ _ | with_reducible refine Kp.drewN ?_ _ | refine Kp.setCell ?_ (by dsimp only; omega) _)) hka; have tok2 : True := trivial; clear tok1 _t)
            | fail)
        clear C1
        have hrp := hr1
        clear hr1
        obtain ⟨wq, rfl⟩ : ∃ wq : World, wq = wr1 := ⟨_, rfl⟩
        have y0 := hrp.get z0
        have y1 := hrp.get z1
        have hcl1 := hrp.get hcl
        have hky : Kp wq wq := Kp.refl _
        clear z0 z1 hcl
        clear q_z0 q_z1 q_hcl
        have q_y0 := hky.get y0
        have q_y1 := hky.get y1
        have q_hcl1 := hky.get hcl1
        have tok1 : True := trivial
        go_wp2_with fail
        go_region_held3 (fun w' => w'.cell? ⟨w.heap.size, 0, none⟩ = some (.slice A F.op.length c) ∧ w'.cell? ⟨w.heap.size, 1, none⟩ = some (.slice B F.di.length d) ∧ w'.cell? (ad.add j) = some (.slice (some ad3) rows[j].length c3) ∧ Kp wq w')
          (first | (refine keepc3 y0 y1 hcl1 ?_; exact (by repeat (first | with_reducible assumption | with_reducible exact Kp.refl _ | with_reducible refine Kp.drew ?_ | with_reducible refine Kp.alloc ?_ _ | with_reducible refine Kp.drewN ?_ _ | refine Kp.setCell ?_ (by dsimp only; omega) _))) | fail)
          (first
            | (have _t := tok1; go_at_call 43; with_reducible refine Calls.mono (C2.out _ (hrp.trans (by repeat (first | with_reducible assumption | with_reducible exact Kp.refl _ | with_reducible refine Kp.drew ?_ | with_reducible refine Kp.alloc ?_ _ | with_reducible refine Kp.drewN ?_ _ | refine Kp.setCell ?_ (by dsimp only; omega) _)))) ?_; rintro e wr1 ⟨rfl, hka⟩; have hr1 : Kp wq wr1 := Kp.trans (by repeat (first | with_reducible assumption | with_reducible exact Kp.refl _ | with_reducible refine Kp.drew ?_ | with_reducible refine Kp.alloc ?_ _ | with_reducible refine Kp.drewN ?_ _ | refine Kp.setCell ?_ (by dsimp only; omega) _)) hka; have tok2 : True := trivial; clear tok1 _t)
            | fail)
        clear C2
        have hcl2 := hr1.get hcl1
        go_wp2_with fail
        go_roundw
        case rel => exact ⟨j + 1, Ab, cb, tz, by omega, by go_num, by rw [Hy.out], rfl, by show _ = _; rw [Hy.out]; exact Htz.out, by rw [Hy.out]; exact hb.kp (hrp.trans hr1), (hkr.trans hrp).trans hr1⟩
        case measure => simp [intOf]; omega
      rw [hok] at C1
      by_cases hbe : pk0 (lfOk F rooms needs) (brv F rooms needs) rows j = []
      · have Hy : Hid (pk0 (lfOk F rooms needs) (brv F rooms needs) rows (j + 1) = rows[j]) := pk0_yes lx hok (by rw [hbe]; exact hbl.out)
        have hb0 : (pk0 (lfOk F rooms needs) (brv F rooms needs) rows j).length = 0 := by rw [hbe]; rfl
        clear hbe hb
        have q_z0 := hkz.get z0
        have q_z1 := hkz.get z1
        have q_hcl := hkz.get hcl
        have tok1 : True := trivial
        go_wp2_with fail
        go_region_held3 (fun w' => w'.cell? ⟨w.heap.size, 0, none⟩ = some (.slice A F.op.length c) ∧ w'.cell? ⟨w.heap.size, 1, none⟩ = some (.slice B F.di.length d) ∧ w'.cell? (ad.add j) = some (.slice (some ad3) rows[j].length c3) ∧ Kp wr w')
          (first | (refine keepc3 z0 z1 hcl ?_; exact (by repeat (first | with_reducible assumption | with_reducible exact Kp.refl _ | with_reducible refine Kp.drew ?_ | with_reducible refine Kp.alloc ?_ _ | with_reducible refine Kp.drewN ?_ _ | refine Kp.setCell ?_ (by dsimp only; omega) _))) | fail)
          (first
            | (have _t := tok1; go_at_call 42; with_reducible refine Calls.mono (C1.out _ (by repeat (first | with_reducible assumption | with_reducible exact Kp.refl _ | with_reducible refine Kp.drew ?_ | with_reducible refine Kp.alloc ?_ _ | with_reducible refine Kp.drewN ?_ _ | refine Kp.setCell ?_ (by dsimp only; omega) _))) ?_; rintro e wr1 ⟨rfl, hka⟩; have hr1 : Kp wr wr1 := Kp.trans (by repeat (first | with_reducible assumption | with_reducible exact Kp.refl _ | with_reducible refine Kp.drew ?_ | with_reducible refine Kp.alloc ?_ _ | with_reducible refine Kp.drewN ?_ _ | refine Kp.setCell ?_ (by dsimp only; omega) _)) hka; have tok2 : True := trivial; clear tok1 _t)
            | fail)
        clear C1
        have hrp := hr1
        clear hr1
        obtain ⟨wq, rfl⟩ : ∃ wq : World, wq = wr1 := ⟨_, rfl⟩
        have y0 := hrp.get z0
        have y1 := hrp.get z1
        have hcl1 := hrp.get hcl
        have hky : Kp wq wq := Kp.refl _
        clear z0 z1 hcl
        clear q_z0 q_z1 q_hcl
        have q_y0 := hky.get y0
        have q_y1 := hky.get y1
        have q_hcl1 := hky.get hcl1
        have tok1 : True := trivial
        go_wp2_with fail
        go_region_held3 (fun w' => w'.cell? ⟨w.heap.size, 0, none⟩ = some (.slice A F.op.length c) ∧ w'.cell? ⟨w.heap.size, 1, none⟩ = some (.slice B F.di.length d) ∧ w'.cell? (ad.add j) = some (.slice (some ad3) rows[j].length c3) ∧ Kp wq w')
          (first | (refine keepc3 y0 y1 hcl1 ?_; exact (by repeat (first | with_reducible assumption | with_reducible exact Kp.refl _ | with_reducible refine Kp.drew ?_ | with_reducible refine Kp.alloc ?_ _ | with_reducible refine Kp.drewN ?_ _ | refine Kp.setCell ?_ (by dsimp only; omega) _))) | fail)
          (first
            | (have _t := tok1; go_at_call 43; with_reducible refine Calls.mono (C2.out _ (hrp.trans (by repeat (first | with_reducible assumption | with_reducible exact Kp.refl _ | with_reducible refine Kp.drew ?_ | with_reducible refine Kp.alloc ?_ _ | with_reducible refine Kp.drewN ?_ _ | refine Kp.setCell ?_ (by dsimp only; omega) _)))) ?_; rintro e wr1 ⟨rfl, hka⟩; have hr1 : Kp wq wr1 := Kp.trans (by repeat (first | with_reducible assumption | with_reducible exact Kp.refl _ | with_reducible refine Kp.drew ?_ | with_reducible refine Kp.alloc ?_ _ | with_reducible refine Kp.drewN ?_ _ | refine Kp.setCell ?_ (by dsimp only; omega) _)) hka; have tok2 : True := trivial; clear tok1 _t)
            | fail)
        clear C2
        have hcl2 := hr1.get hcl1
        go_wp2_with fail
        have CC := Lib.hid (l1Own_any ad3 rows[j] rows[j].length c3 wr1 (hri.kp (hrp.trans hr1)) rfl (by omega))
        with_reducible refine Calls.mono CC.out ?_
        rintro e w9 ⟨v9, rfl, ho9, hk9⟩
        clear CC
        obtain ⟨A9, c9, hv9⟩ := ho9.shape
        subst hv9
        go_wp2_with fail
        go_roundw
        case rel => exact ⟨j + 1, A9, c9, _, by omega, by go_num, by rw [Hy.out], rfl, by show _ = _; rw [Hy.out, hbt.out, hbv.out], by rw [Hy.out]; exact RowP.of_own (ho9.mono (Nat.le_trans (hkl.trans hkr).le (hrp.trans hr1).le)) (by omega), ((hkr.trans hrp).trans hr1).trans hk9⟩
        case measure => simp [intOf]; omega
      · have hdec3 : (((pk0 (lfOk F rooms needs) (brv F rooms needs) rows j).length : Int) == 0) = false := by
          simp; exact hbe
        have Htb := Lib.hid (brT_not (F := F) (rooms := rooms) (needs := needs) hbe)
        by_cases hgt : cv + pv < tz
        · have Hy : Hid (pk0 (lfOk F rooms needs) (brv F rooms needs) rows (j + 1) = rows[j]) := pk0_yes lx hok (by rw [hbv.out, ← Htb.out, Htz.out]; exact hgt)
          clear hbe hb
          have q_z0 := hkz.get z0
          have q_z1 := hkz.get z1
          have q_hcl := hkz.get hcl
          have tok1 : True := trivial
          go_wp2_with fail
          go_region_held3 (fun w' => w'.cell? ⟨w.heap.size, 0, none⟩ = some (.slice A F.op.length c) ∧ w'.cell? ⟨w.heap.size, 1, none⟩ = some (.slice B F.di.length d) ∧ w'.cell? (ad.add j) = some (.slice (some ad3) rows[j].length c3) ∧ Kp wr w')
            (first | (refine keepc3 z0 z1 hcl ?_; exact (by repeat (first | with_reducible assumption | with_reducible exact Kp.refl _ | with_reducible refine Kp.drew ?_ | with_reducible refine Kp.alloc ?_ _ | with_reducible refine Kp.drewN ?_ _ | refine Kp.setCell ?_ (by dsimp only; omega) _))) | fail)
            (first
              | (have _t := tok1; go_at_call 42; with_reducible refine Calls.mono (C1.out _ (by repeat (first | with_reducible assumption | with_reducible exact Kp.refl _ | with_reducible refine Kp.drew ?_ | with_reducible refine Kp.alloc ?_ _ | with_reducible refine Kp.drewN ?_ _ | refine Kp.setCell ?_ (by dsimp only; omega) _))) ?_; rintro e wr1 ⟨rfl, hka⟩; have hr1 : Kp wr wr1 := Kp.trans (by repeat (first | with_reducible assumption | with_reducible exact Kp.refl _ | with_reducible refine Kp.drew ?_ | with_reducible refine Kp.alloc ?_ _ | with_reducible refine Kp.drewN ?_ _ | refine Kp.setCell ?_ (by dsimp only; omega) _)) hka; have tok2 : True := trivial; clear tok1 _t)
              | fail)
          clear C1
          have hrp := hr1
          clear hr1
          obtain ⟨wq, rfl⟩ : ∃ wq : World, wq = wr1 := ⟨_, rfl⟩
          have y0 := hrp.get z0
          have y1 := hrp.get z1
          have hcl1 := hrp.get hcl
          have hky : Kp wq wq := Kp.refl _
          clear z0 z1 hcl
          clear q_z0 q_z1 q_hcl
          have q_y0 := hky.get y0
          have q_y1 := hky.get y1
          have q_hcl1 := hky.get hcl1
          have tok1 : True := trivial
          go_wp2_with fail
          go_region_held3 (fun w' => w'.cell? ⟨w.heap.size, 0, none⟩ = some (.slice A F.op.length c) ∧ w'.cell? ⟨w.heap.size, 1, none⟩ = some (.slice B F.di.length d) ∧ w'.cell? (ad.add j) = some (.slice (some ad3) rows[j].length c3) ∧ Kp wq w')
            (first | (refine keepc3 y0 y1 hcl1 ?_; exact (by repeat (first | with_reducible assumption | with_reducible exact Kp.refl _ | with_reducible refine Kp.drew ?_ | with_reducible refine Kp.alloc ?_ _ | with_reducible refine Kp.drewN ?_ _ | refine Kp.setCell ?_ (by dsimp only; omega) _))) | fail)
            (first
              | (have _t := tok1; go_at_call 43; with_reducible refine Calls.mono (C2.out _ (hrp.trans (by repeat (first | with_reducible assumption | with_reducible exact Kp.refl _ | with_reducible refine Kp.drew ?_ | with_reducible refine Kp.alloc ?_ _ | with_reducible refine Kp.drewN ?_ _ | refine Kp.setCell ?_ (by dsimp only; omega) _)))) ?_; rintro e wr1 ⟨rfl, hka⟩; have hr1 : Kp wq wr1 := Kp.trans (by repeat (first | with_reducible assumption | with_reducible exact Kp.refl _ | with_reducible refine Kp.drew ?_ | with_reducible refine Kp.alloc ?_ _ | with_reducible refine Kp.drewN ?_ _ | refine Kp.setCell ?_ (by dsimp only; omega) _)) hka; have tok2 : True := trivial; clear tok1 _t)
              | fail)
          clear C2
          have hcl2 := hr1.get hcl1
          go_wp2_with fail
          have CC := Lib.hid (l1Own_any ad3 rows[j] rows[j].length c3 wr1 (hri.kp (hrp.trans hr1)) rfl (by omega))
          with_reducible refine Calls.mono CC.out ?_
          rintro e w9 ⟨v9, rfl, ho9, hk9⟩
          clear CC
          obtain ⟨A9, c9, hv9⟩ := ho9.shape
          subst hv9
          go_wp2_with fail
          go_roundw
          case rel => exact ⟨j + 1, A9, c9, _, by omega, by go_num, by rw [Hy.out], rfl, by show _ = _; rw [Hy.out, hbt.out, hbv.out], by rw [Hy.out]; exact RowP.of_own (ho9.mono (Nat.le_trans (hkl.trans hkr).le (hrp.trans hr1).le)) (by omega), ((hkr.trans hrp).trans hr1).trans hk9⟩
          case measure => simp [intOf]; omega
        · have Hy : Hid (pk0 (lfOk F rooms needs) (brv F rooms needs) rows (j + 1) = pk0 (lfOk F rooms needs) (brv F rooms needs) rows j) := pk0_no lx (fun h => hgt (by have h3 := h.2; rw [hbv.out, ← Htb.out, Htz.out] at h3; exact h3))
          clear hbe
          have q_z0 := hkz.get z0
          have q_z1 := hkz.get z1
          have q_hcl := hkz.get hcl
          have tok1 : True := trivial
          go_wp2_with fail
          go_region_held3 (fun w' => w'.cell? ⟨w.heap.size, 0, none⟩ = some (.slice A F.op.length c) ∧ w'.cell? ⟨w.heap.size, 1, none⟩ = some (.slice B F.di.length d) ∧ w'.cell? (ad.add j) = some (.slice (some ad3) rows[j].length c3) ∧ Kp wr w')
            (first | (refine keepc3 z0 z1 hcl ?_; exact (by repeat (first | with_reducible assumption | with_reducible exact Kp.refl _ | with_reducible refine Kp.drew ?_ | with_reducible refine Kp.alloc ?_ _ | with_reducible refine Kp.drewN ?_ _ | refine Kp.setCell ?_ (by dsimp only; omega) _))) | fail)
            (first
              | (have _t := tok1; go_at_call 42; with_reducible refine Calls.mono (C1.out _ (by repeat (first | with_reducible assumption | with_reducible exact Kp.refl _ | with_reducible refine Kp.drew ?_ | with_reducible refine Kp.alloc ?_ _ | with_reducible refine Kp.drewN ?_ _ | refine Kp.setCell ?_ (by dsimp only; omega) _))) ?_; rintro e wr1 ⟨rfl, hka⟩; have hr1 : Kp wr wr1 := Kp.trans (by repeat (first | with_reducible assumption | with_reducible exact Kp.refl _ | with_reducible refine Kp.drew ?_ | with_reducible refine Kp.alloc ?_ _ | with_reducible refine Kp.drewN ?_ _ | refine Kp.setCell ?_ (by dsimp only; omega) _)) hka; have tok2 : True := trivial; clear tok1 _t)
              | fail)
          clear C1
          have hrp := hr1
          clear hr1
          obtain ⟨wq, rfl⟩ : ∃ wq : World, wq = wr1 := ⟨_, rfl⟩
          have y0 := hrp.get z0
          have y1 := hrp.get z1
          have hcl1 := hrp.get hcl
          have hky : Kp wq wq := Kp.refl _
          clear z0 z1 hcl
          clear q_z0 q_z1 q_hcl
          have q_y0 := hky.get y0
          have q_y1 := hky.get y1
          have q_hcl1 := hky.get hcl1
          have tok1 : True := trivial
          go_wp2_with fail
          go_region_held3 (fun w' => w'.cell? ⟨w.heap.size, 0, none⟩ = some (.slice A F.op.length c) ∧ w'.cell? ⟨w.heap.size, 1, none⟩ = some (.slice B F.di.length d) ∧ w'.cell? (ad.add j) = some (.slice (some ad3) rows[j].length c3) ∧ Kp wq w')
            (first | (refine keepc3 y0 y1 hcl1 ?_; exact (by repeat (first | with_reducible assumption | with_reducible exact Kp.refl _ | with_reducible refine Kp.drew ?_ | with_reducible refine Kp.alloc ?_ _ | with_reducible refine Kp.drewN ?_ _ | refine Kp.setCell ?_ (by dsimp only; omega) _))) | fail)
            (first
              | (have _t := tok1; go_at_call 43; with_reducible refine Calls.mono (C2.out _ (hrp.trans (by repeat (first | with_reducible assumption | with_reducible exact Kp.refl _ | with_reducible refine Kp.drew ?_ | with_reducible refine Kp.alloc ?_ _ | with_reducible refine Kp.drewN ?_ _ | refine Kp.setCell ?_ (by dsimp only; omega) _)))) ?_; rintro e wr1 ⟨rfl, hka⟩; have hr1 : Kp wq wr1 := Kp.trans (by repeat (first | with_reducible assumption | with_reducible exact Kp.refl _ | with_reducible refine Kp.drew ?_ | with_reducible refine Kp.alloc ?_ _ | with_reducible refine Kp.drewN ?_ _ | refine Kp.setCell ?_ (by dsimp only; omega) _)) hka; have tok2 : True := trivial; clear tok1 _t)
              | fail)
          clear C2
          have hcl2 := hr1.get hcl1
          go_wp2_with fail
          go_roundw
          case rel => exact ⟨j + 1, Ab, cb, tz, by omega, by go_num, by rw [Hy.out], rfl, by show _ = _; rw [Hy.out]; exact Htz.out, by rw [Hy.out]; exact hb.kp (hrp.trans hr1), (hkr.trans hrp).trans hr1⟩
          case measure => simp [intOf]; omega
    · obtain rfl : j = m := by omega
      have Hy : Hid (pk0 (lfOk F rooms needs) (brv F rooms needs) rows j = brF F rooms needs) := by show _ = _; rw [hml.out]; exact Hpk.out
      have Hl := Lib.hid (brL_yes Hok.out)
      have Hv : Hid (brVal F rooms needs = tz) := by show _ = _; rw [brVal, Hl.out, ← Hy.out]; exact Htz.out
      have hbo := hb.2 _ rfl
      rw [Hy.out] at hbo ⊢
      by_cases hbe : brF F rooms needs = []
      · have hb0 : (brF F rooms needs).length = 0 := by rw [hbe]; rfl
        have Hk : Hid (brOk F rooms needs = false) := by show _ = _; rw [brOk, Hl.out, hbe]; rfl
        have Hbe := Lib.hid hbe
        clear hbe
        go_wp2_with fail
        go_ret3
        exact ⟨_, by rw [Hv.out, Hk.out]; rfl, by rw [Hl.out]; exact hbo, hkl.trans hkr⟩
      · have hb0 : 0 < (brF F rooms needs).length := List.length_pos_iff.2 hbe
        have hb1 : (0 : Int) < ((brF F rooms needs).length : Int) := by omega
        have Hk : Hid (brOk F rooms needs = true) := by show _ = _; rw [brOk, Hl.out]; exact decide_eq_true hbe
        clear hbe
        go_wp2_with fail
        go_ret3
        exact ⟨_, by rw [Hv.out, Hk.out]; rfl, by rw [Hl.out]; exact hbo, hkl.trans hkr⟩
end Go.Proofs.YtpiijhfjliolfaaGreat

namespace Go.Proofs.YtpiijhfjliolfaaGreat
open Go.RowKit Go.Sort

theorem run_neq_nil2 (w : World) (a : Option Addr) (n c : Nat) : (binOp .neq 24 (.slice a n c) (.slice none 0 0)).run Tryz.prog w = .ok (.bool (!a.isNone)) w := by
  unfold binOp
  simp [Op.equal, Op.maxDepth, Lib.run_equalIn_slice_nil (P := Tryz.prog) w 9999 24 3 a n c 0 0 Tryz.underlying24]
set_option maxRecDepth 100000 in
set_option maxHeartbeats 2000000 in
theorem implBr_any (f : Value) (F : Fld) (A1 : Option Addr) (rooms : List Int) (n1 c1 : Nat) (A2 : Option Addr) (needs : List Int) (n2 c2 : Nat) (w : World) (hf : FldAt w f F) (h1 : IntsAt w A1 rooms) (hn1 : rooms.length = n1) (h2 : IntsAt w A2 needs) (hn2 : needs.length = n2) :
    Calls Tryz.prog 12 #[f, .slice A1 n1 c1, .slice A2 n2 c2] w fun e w' => ∃ v, e = .returned (.tuple #[v, .int .i64 (brVal F rooms needs), .bool (brOk F rooms needs)]) ∧ Own w' w.heap.size v (brL F rooms needs) ∧ Kp w w' := by
  obtain ⟨A, c, B, d, rfl, hA, hB⟩ := hf
  have hk0 : Kp w (w.alloc (.cells #[.slice A F.op.length c, .slice B F.di.length d] 27)) := (Kp.refl w).alloc _
  obtain ⟨d0, d1⟩ := box2 w (.slice A F.op.length c) (.slice B F.di.length d) 27
  have hFA := FldAt.kp (show FldAt w (.agg #[.slice A F.op.length c, .slice B F.di.length d]) F from ⟨A, c, B, d, rfl, hA, hB⟩) hk0
  replace h1 := h1.kp hk0
  replace h2 := h2.kp hk0
  have Hn1 := Lib.hid hn1; have Hn2 := Lib.hid hn2
  clear hA hB hn1 hn2
  have hq := fun (w : World) (a : Option Addr) (n c : Nat) => Lib.run_eql_slice_nil (P := Tryz.prog) w 24 3 a n c 0 0 Tryz.underlying24
  have hq2 := run_neq_nil2
  go_enter Tryz.func12, Tryz.ntmps12
  go_wp2_with fail
  have hsz : Hid ((w.alloc (.cells #[.slice A F.op.length c, .slice B F.di.length d] 27)).heap.size = w.heap.size + 1) := by show _ = _; simp
  generalize w.alloc (.cells #[.slice A F.op.length c, .slice B F.di.length d] 27) = wb at *
  have hkb : Kp wb wb := Kp.refl _
  have hkw := hk0
  have CC := Lib.hid (isField_any _ F _ (hFA.kp hkb))
  with_reducible refine Calls.mono CC.out ?_
  rintro e w1 ⟨rfl, hk1⟩
  clear CC
  replace hkb := hkb.trans hk1
  cases hg_ : goodF F
  · have Hno : Hid (brG F rooms needs = false) := by show _ = _; rw [brG, hg_]; rfl
    clear hg_
    have q_d0 := hkb.get d0
    have q_d1 := hkb.get d1
    go_wp2_with fail
    go_ret3
    exact ⟨_, by rw [brOk, brVal, brL_no Hno.out, brT_nil]; rfl, by rw [brL_no Hno.out]; exact Own.nil _ _, hkw.trans hkb⟩
  have HG := Lib.hid hg_; clear hg_
  have q_d0 := hkb.get d0
  have q_d1 := hkb.get d1
  go_wp2_with fail
  have CC := Lib.hid (areNeeds_any _ F A1 rooms n1 c1 A2 needs n2 c2 _ (hFA.kp hkb) (h1.kp hkb) Hn1.out (h2.kp hkb) Hn2.out)
  with_reducible refine Calls.mono CC.out ?_
  rintro e w2 ⟨rfl, hk2⟩
  clear CC q_d0 q_d1
  replace hkb := hkb.trans hk2
  cases hk_ : needsB F rooms needs
  · have Hno : Hid (brG F rooms needs = false) := by show _ = _; rw [brG, hk_]; simp
    clear hk_
    have q_d0 := hkb.get d0
    have q_d1 := hkb.get d1
    go_wp2_with fail
    go_ret3
    exact ⟨_, by rw [brOk, brVal, brL_no Hno.out, brT_nil]; rfl, by rw [brL_no Hno.out]; exact Own.nil _ _, hkw.trans hkb⟩
  have Hok : Hid (brG F rooms needs = true) := by show _ = _; rw [brG, HG.out, hk_]; rfl
  clear hk_
  have hg7 := (goodF_iff.1 HG.out).1.2
  have hw1le := (hkw.trans hkb).le
  have q_d0 := hkb.get d0
  have q_d1 := hkb.get d1
  go_wp2_with fail
  have CC := Lib.hid (sets_any F.op.length w2 hg7)
  with_reducible refine Calls.mono CC.out ?_
  rintro e w3 ⟨v, rfl, hvn, hgo, hk3⟩
  clear CC q_d0 q_d1
  replace hkb := hkb.trans hk3
  have hsl : (setsL F.op.length).length ≤ 127 := by rw [setsL_len]; have h128 : 2 ^ F.op.length ≤ 2 ^ 7 := Nat.pow_le_pow_right (by omega) hg7; omega
  obtain ⟨ad, cx, hve, hcx, hrows⟩ := hgo.rows_some (by omega) hvn
  subst hve
  clear hgo hvn
  obtain ⟨rows, hre⟩ : ∃ rows, rows = setsL F.op.length := ⟨_, rfl⟩
  rw [← hre] at hrows hcx hsl ⊢
  have Hpk : Hid (pk0 (lfOk F rooms needs) (brv F rooms needs) rows rows.length = brF F rooms needs) := by show _ = _; rw [hre]; exact br_pick HG.out
  have Hset : Hid (∀ S ∈ rows, S ≠ [] ∧ setB F S = true) := by show ∀ S ∈ rows, _; rw [hre]; exact fun S hS => mem_setsL.1 hS
  obtain ⟨m, hml⟩ : ∃ m, m = rows.length := ⟨_, rfl⟩
  rw [← hml] at hsl ⊢
  replace hml := Lib.hid hml
  clear hre
  have g0 := hkb.get d0
  have g1 := hkb.get d1
  have hFl := hFA.kp hkb
  have hkl := hkw.trans hkb
  obtain ⟨wl, rfl⟩ : ∃ wl : World, wl = w3 := ⟨_, rfl⟩
  have ho2 : RowP wl (some w.heap.size) (.slice none 0 0) [] := RowP.of_own (Own.nil _ _) (by simp)
  have h1l := h1.kp hkb
  have h2l := h2.kp hkb
  clear hkb d0 d1
  go_wp2_with fail
  go_loopw [9, 10, 31] (fun bv tv iv wr => ∃ (k' : Nat) (Ab : Option Addr) (cb : Nat) (tz : Int), k' ≤ m ∧ iv = .int .i64 k' ∧ bv = .slice Ab (pk0 (lfOk F rooms needs) (brv F rooms needs) rows k').length cb ∧ tv = .int .i64 tz ∧ Hid (brT F rooms needs (pk0 (lfOk F rooms needs) (brv F rooms needs) rows k') = tz) ∧ (pk0 (lfOk F rooms needs) (brv F rooms needs) rows k' = [] → Ab = none ∧ cb = 0) ∧ RowP wr (some w.heap.size) (.slice Ab (pk0 (lfOk F rooms needs) (brv F rooms needs) rows k').length cb) (pk0 (lfOk F rooms needs) (brv F rooms needs) rows k') ∧ Kp wl wr) (fun _ _ iv _ => m - (intOf iv).toNat)
  case atStart => exact ⟨0, _, _, _, by omega, rfl, rfl, rfl, by show _ = _; rw [pk0_zero, brT_nil], fun _ => ⟨rfl, rfl⟩, ho2, Kp.refl _⟩
  case round =>
    clear ho2
    obtain ⟨j, Ab, cb, tz, hj, rfl, rfl, rfl, Htz, hni, hb, hkr⟩ := hrel
    have Hni := Lib.hid hni; clear hni
    by_cases hlt : j < m
    · skip
      have lx : j < rows.length := by rw [← hml.out]; exact hlt
      obtain ⟨A3, c3, hcl, hc3, hri, hrq⟩ := (hrows.kp hkr).some_ lx
      have q1 := Lib.hid (Hset.out _ (List.getElem_mem lx))
      obtain ⟨ad3, rfl, _, _⟩ := RowP.some_adr hrq q1.out.1
      have z0 := hkr.get g0
      have z1 := hkr.get g1
      have hkz : Kp wr wr := Kp.refl _
      have hb1 := lf_bd0 F rooms needs rows[j]
      have hb2 := payF_bd HG.out q1.out.2
      have hbv := Lib.hid (brv_not (F := F) (rooms := rooms) (needs := needs) q1.out.1)
      have hbt := Lib.hid (brT_not (F := F) (rooms := rooms) (needs := needs) q1.out.1)
      have hbl := Lib.hid (brv_less (rooms := rooms) (needs := needs) HG.out q1.out)
      have hlen7 := risB_len q1.out.2
      obtain ⟨cv, Hcv⟩ : ∃ z, Hid (lfV F rooms needs rows[j] = z) := ⟨_, Lib.hid rfl⟩
      obtain ⟨pv, Hpv⟩ : ∃ z, Hid (payF F rows[j] = z) := ⟨_, Lib.hid rfl⟩
      have C1 := Lib.hid (fun (wx : World) (hx : Kp wr wx) => implLf_any _ F A1 rooms n1 c1 A2 needs n2 c2 (some ad3) rows[j] _ c3 wx (hFl.kp (hkr.trans hx)) (h1l.kp (hkr.trans hx)) Hn1.out (h2l.kp (hkr.trans hx)) Hn2.out (hri.kp hx) rfl)
      have C2 := Lib.hid (fun (wx : World) (hx : Kp wr wx) => payment_any _ F (some ad3) rows[j] _ c3 wx (hFl.kp (hkr.trans hx)) (hri.kp hx) rfl HG.out q1.out.2)
      rw [Hcv.out] at hb1 hbv C1
      rw [Hpv.out] at hb2 hbv C2
      have hwr : IntKind.i64.wrap (cv + pv) = cv + pv := IntWalk.i64_in _ (by omega)
      have Hbb := Lib.hid (And.intro hb1 hb2)
      clear hb1 hb2
      cases hok : lfOk F rooms needs rows[j]
      · rw [hok] at C1
        have Hy : Hid (pk0 (lfOk F rooms needs) (brv F rooms needs) rows (j + 1) = pk0 (lfOk F rooms needs) (brv F rooms needs) rows j) := pk0_no lx (fun h => by rw [hok] at h; exact absurd h.1 (by simp))
        have q_z0 := hkz.get z0
        have q_z1 := hkz.get z1
        have q_hcl := hkz.get hcl
        go_wp2_with fail
        have CC := Lib.hid (C1.out wr hkz)
        with_reducible refine Calls.mono CC.out ?_
        rintro e wq ⟨rfl, hrp⟩
        clear q_z0 q_z1 q_hcl
        clear CC C1
        have y0 := hrp.get z0
        have y1 := hrp.get z1
        have hky : Kp wq wq := Kp.refl _
        clear z0 z1 hcl
        have q_y0 := hky.get y0
        have q_y1 := hky.get y1
        go_wp2_with fail
        have CC := Lib.hid (C2.out wq hrp)
        with_reducible refine Calls.mono CC.out ?_
        rintro e wr1 ⟨rfl, hr1⟩
        clear CC C2
        clear q_y0 q_y1
        go_wp2_with fail
        go_roundw
        case rel => exact ⟨j + 1, _, cb, tz, by omega, by go_num, by rw [Hy.out], rfl, by show _ = _; rw [Hy.out]; exact Htz.out, by rw [Hy.out]; exact Hni.out, by rw [Hy.out]; exact hb.kp (hrp.trans hr1), (hkr.trans hrp).trans hr1⟩
        case measure => simp [intOf]; omega
      rw [hok] at C1
      by_cases hbe : pk0 (lfOk F rooms needs) (brv F rooms needs) rows j = []
      · have Hy : Hid (pk0 (lfOk F rooms needs) (brv F rooms needs) rows (j + 1) = rows[j]) := pk0_yes lx hok (by rw [hbe]; exact hbl.out)
        have hb0 : (pk0 (lfOk F rooms needs) (brv F rooms needs) rows j).length = 0 := by rw [hbe]; rfl
        obtain ⟨rfl, rfl⟩ := Hni.out hbe
        rw [hb0]
        clear hbe hb
        have q_z0 := hkz.get z0
        have q_z1 := hkz.get z1
        have q_hcl := hkz.get hcl
        go_wp2_with fail
        have CC := Lib.hid (C1.out wr hkz)
        with_reducible refine Calls.mono CC.out ?_
        rintro e wq ⟨rfl, hrp⟩
        clear q_z0 q_z1 q_hcl
        clear CC C1
        have y0 := hrp.get z0
        have y1 := hrp.get z1
        have hky : Kp wq wq := Kp.refl _
        clear z0 z1 hcl
        have q_y0 := hky.get y0
        have q_y1 := hky.get y1
        go_wp2_with fail
        have CC := Lib.hid (C2.out wq hrp)
        with_reducible refine Calls.mono CC.out ?_
        rintro e wr1 ⟨rfl, hr1⟩
        clear CC C2
        clear q_y0 q_y1
        go_wp2_with fail
        go_roundw
        case rel => exact ⟨j + 1, some ad3, c3, _, by omega, by go_num, by rw [Hy.out], rfl, by show _ = _; rw [Hy.out, hbt.out, hbv.out], by rw [Hy.out]; exact fun h => absurd h q1.out.1, by rw [Hy.out]; exact (hrq.mono hw1le).kp (hrp.trans hr1), (hkr.trans hrp).trans hr1⟩
        case measure => simp [intOf]; omega
      · obtain ⟨adb, rfl, _, _⟩ := RowP.some_adr hb hbe
        have Htb := Lib.hid (brT_not (F := F) (rooms := rooms) (needs := needs) hbe)
        by_cases hgt : cv + pv < tz
        · have Hy : Hid (pk0 (lfOk F rooms needs) (brv F rooms needs) rows (j + 1) = rows[j]) := pk0_yes lx hok (by rw [hbv.out, ← Htb.out, Htz.out]; exact hgt)
          clear hbe hb
          have q_z0 := hkz.get z0
          have q_z1 := hkz.get z1
          have q_hcl := hkz.get hcl
          go_wp2_with fail
          have CC := Lib.hid (C1.out wr hkz)
          with_reducible refine Calls.mono CC.out ?_
          rintro e wq ⟨rfl, hrp⟩
          clear q_z0 q_z1 q_hcl
          clear CC C1
          have y0 := hrp.get z0
          have y1 := hrp.get z1
          have hky : Kp wq wq := Kp.refl _
          clear z0 z1 hcl
          have q_y0 := hky.get y0
          have q_y1 := hky.get y1
          go_wp2_with fail
          have CC := Lib.hid (C2.out wq hrp)
          with_reducible refine Calls.mono CC.out ?_
          rintro e wr1 ⟨rfl, hr1⟩
          clear CC C2
          clear q_y0 q_y1
          go_wp2_with fail
          go_roundw
          case rel => exact ⟨j + 1, some ad3, c3, _, by omega, by go_num, by rw [Hy.out], rfl, by show _ = _; rw [Hy.out, hbt.out, hbv.out], by rw [Hy.out]; exact fun h => absurd h q1.out.1, by rw [Hy.out]; exact (hrq.mono hw1le).kp (hrp.trans hr1), (hkr.trans hrp).trans hr1⟩
          case measure => simp [intOf]; omega
        · have Hy : Hid (pk0 (lfOk F rooms needs) (brv F rooms needs) rows (j + 1) = pk0 (lfOk F rooms needs) (brv F rooms needs) rows j) := pk0_no lx (fun h => hgt (by have h3 := h.2; rw [hbv.out, ← Htb.out, Htz.out] at h3; exact h3))
          clear hbe
          have q_z0 := hkz.get z0
          have q_z1 := hkz.get z1
          have q_hcl := hkz.get hcl
          go_wp2_with fail
          have CC := Lib.hid (C1.out wr hkz)
          with_reducible refine Calls.mono CC.out ?_
          rintro e wq ⟨rfl, hrp⟩
          clear q_z0 q_z1 q_hcl
          clear CC C1
          have y0 := hrp.get z0
          have y1 := hrp.get z1
          have hky : Kp wq wq := Kp.refl _
          clear z0 z1 hcl
          have q_y0 := hky.get y0
          have q_y1 := hky.get y1
          go_wp2_with fail
          have CC := Lib.hid (C2.out wq hrp)
          with_reducible refine Calls.mono CC.out ?_
          rintro e wr1 ⟨rfl, hr1⟩
          clear CC C2
          clear q_y0 q_y1
          go_wp2_with fail
          go_roundw
          case rel => exact ⟨j + 1, _, cb, tz, by omega, by go_num, by rw [Hy.out], rfl, by show _ = _; rw [Hy.out]; exact Htz.out, by rw [Hy.out]; exact Hni.out, by rw [Hy.out]; exact hb.kp (hrp.trans hr1), (hkr.trans hrp).trans hr1⟩
          case measure => simp [intOf]; omega
    · obtain rfl : j = m := by omega
      have Hy : Hid (pk0 (lfOk F rooms needs) (brv F rooms needs) rows j = brF F rooms needs) := by show _ = _; rw [hml.out]; exact Hpk.out
      have Hl := Lib.hid (brL_yes Hok.out)
      have hb' := hb
      rw [Hy.out] at Hni hb'
      have Hv : Hid (brVal F rooms needs = tz) := by show _ = _; rw [brVal, Hl.out, ← Hy.out]; exact Htz.out
      have hbo := hb.2 _ rfl
      rw [Hy.out] at hbo ⊢
      by_cases hbe : brF F rooms needs = []
      · have hb0 : (brF F rooms needs).length = 0 := by rw [hbe]; rfl
        have Hk : Hid (brOk F rooms needs = false) := by show _ = _; rw [brOk, Hl.out, hbe]; rfl
        obtain ⟨rfl, rfl⟩ := Hni.out hbe
        rw [hb0] at hbo ⊢
        clear hbe
        go_wp2_with fail
        go_ret3
        exact ⟨_, by rw [Hv.out, Hk.out]; rfl, by rw [Hl.out]; exact hbo, hkl.trans hkr⟩
      · have hb0 : 0 < (brF F rooms needs).length := List.length_pos_iff.2 hbe
        obtain ⟨adb, rfl, _, _⟩ := RowP.some_adr hb' hbe
        have Hk : Hid (brOk F rooms needs = true) := by show _ = _; rw [brOk, Hl.out]; exact decide_eq_true hbe
        clear hbe
        go_wp2_with fail
        go_ret3
        exact ⟨_, by rw [Hv.out, Hk.out]; rfl, by rw [Hl.out]; exact hbo, hkl.trans hkr⟩
end Go.Proofs.YtpiijhfjliolfaaGreat

namespace Go.Proofs.YtpiijhfjliolfaaGreat
open Go.RowKit Go.Sort

open Classical in
theorem cs_yes {F : Fld} {rooms needs S : List Int} {r : Int} (hP : HaulP F rooms needs S) {x : Nat → Nat → Int} (h : Haul F.di.length F.op.length (startM F S r) (lget needs) (lget rooms) x) : csB F rooms needs S r = true := by
  unfold csB; exact @decide_eq_true _ _ (show csR F rooms needs S r from ⟨x, start_haul hP h⟩)
open Classical in
theorem cs_no {F : Fld} {rooms needs S : List Int} {r : Int} (hP : HaulP F rooms needs S) (h : ∀ x, ¬ Haul F.di.length F.op.length (startM F S r) (lget needs) (lget rooms) x) : csB F rooms needs S r = false := by
  unfold csB; exact @decide_eq_false _ _ (show ¬ csR F rooms needs S r from fun ⟨x, hx⟩ => h x (start_haul' hP hx))
set_option maxRecDepth 100000 in
set_option maxHeartbeats 1000000 in
theorem canServe_any (f : Value) (F : Fld) (A1 : Option Addr) (rooms : List Int) (n1 c1 : Nat) (A2 : Option Addr) (needs : List Int) (n2 c2 : Nat) (A3 : Option Addr) (S : List Int) (n3 c3 : Nat) (r : Int) (w : World) (hf : FldAt w f F) (h1 : IntsAt w A1 rooms) (hn1 : rooms.length = n1) (h2 : IntsAt w A2 needs) (hn2 : needs.length = n2) (h3 : IntsAt w A3 S) (hn3 : S.length = n3) (hP : HaulP F rooms needs S) :
    Calls Tryz.prog 26 #[f, .slice A1 n1 c1, .slice A2 n2 c2, .slice A3 n3 c3, .int .i64 r] w fun e w' => e = .returned (.bool (csB F rooms needs S r)) ∧ Kp w w' := by
  obtain ⟨A, c, B, d, rfl, hA, hB⟩ := id hf
  have HP := Lib.hid hP
  have h7 := (goodF_iff.1 hP.good).1.2
  have hk2 : Kp w ((w.alloc (.cells #[.slice A F.op.length c, .slice B F.di.length d] 27)).alloc (.cells #[.int .i64 r] 3)) := ((Kp.refl w).alloc _).alloc _
  have hk3 : Kp w (((w.alloc (.cells #[.slice A F.op.length c, .slice B F.di.length d] 27)).alloc (.cells #[.int .i64 r] 3)).alloc (.cells #[.int .u64 (bagN S)] 86)) := hk2.alloc _
  have CC := Lib.hid (bagOf_any A3 S n3 c3 _ (h3.kp hk2) hn3 (fun x hx => by have := hP.mem x hx; omega))
  have d0 : (((w.alloc (.cells #[.slice A F.op.length c, .slice B F.di.length d] 27)).alloc (.cells #[.int .i64 r] 3)).alloc (.cells #[.int .u64 (bagN S)] 86)).cell? ⟨w.heap.size, 0, none⟩ = some (.slice A F.op.length c) := by
    rw [World.cell?_alloc_past _ _ _ (by simp only [World.size_alloc]; omega), World.cell?_alloc_past _ _ _ (by simp only [World.size_alloc]; omega), World.cell?_alloc_at _ _ _ _ rfl]; rfl
  have d1 : (((w.alloc (.cells #[.slice A F.op.length c, .slice B F.di.length d] 27)).alloc (.cells #[.int .i64 r] 3)).alloc (.cells #[.int .u64 (bagN S)] 86)).cell? ⟨w.heap.size, 1, none⟩ = some (.slice B F.di.length d) := by
    rw [World.cell?_alloc_past _ _ _ (by simp only [World.size_alloc]; omega), World.cell?_alloc_past _ _ _ (by simp only [World.size_alloc]; omega), World.cell?_alloc_at _ _ _ _ rfl]; rfl
  have d2 : (((w.alloc (.cells #[.slice A F.op.length c, .slice B F.di.length d] 27)).alloc (.cells #[.int .i64 r] 3)).alloc (.cells #[.int .u64 (bagN S)] 86)).cell? ⟨w.heap.size + 1, 0, none⟩ = some (.int .i64 r) := by
    rw [World.cell?_alloc_past _ _ _ (by simp only [World.size_alloc]; omega), World.cell?_alloc_at _ _ _ _ (by simp only [World.size_alloc])]; rfl
  have d3 : (((w.alloc (.cells #[.slice A F.op.length c, .slice B F.di.length d] 27)).alloc (.cells #[.int .i64 r] 3)).alloc (.cells #[.int .u64 (bagN S)] 86)).cell? ⟨w.heap.size + 1 + 1, 0, none⟩ = some (.int .u64 (bagN S)) := by
    rw [World.cell?_alloc_at _ _ _ _ (by simp only [World.size_alloc])]; rfl
  have hcan : Can 71 #[.pointer (some ⟨w.heap.size + 1 + 1, 0, none⟩), .pointer (some ⟨w.heap.size, 0, none⟩), .pointer (some ⟨w.heap.size + 1, 0, none⟩)] F.di.length F.op.length (startM F S r) (((w.alloc (.cells #[.slice A F.op.length c, .slice B F.di.length d] 27)).alloc (.cells #[.int .i64 r] 3)).alloc (.cells #[.int .u64 (bagN S)] 86)) :=
    ⟨callFunc_of Tryz.func71 (by kernel_rfl) (by kernel_rfl), fun i a w' hk hi ha => canServeClo_any F S r (w.heap.size + 1 + 1) w.heap.size (w.heap.size + 1) A c B d w' hP.good hP.mem (hk.get d3) (hk.get d1) (hk.get d2) (hB.kp (hk3.trans hk)) i a hi ha⟩
  have CF := Lib.hid (flow_any _ F A1 rooms n1 c1 A2 needs n2 c2 _ _ (startM F S r) _ (hf.kp hk3) hP.good (h1.kp hk3) hn1 (h2.kp hk3) hn2 (by rw [← hn1]; exact hP.rl) (by rw [← hn2]; exact hP.nl) hcan (fun x => by have := hP.rb x; omega) (fun x => by have := hP.nb x; omega))
  have HK := Lib.hid hk3
  clear hcan hf hA hB hk2 hk3 h1 h2 h3 hn1 hn2 hn3 hP
  go_enter Tryz.func26, Tryz.ntmps26
  go_wp2_with fail
  with_reducible refine Calls.mono CC.out ?_
  rintro e w' ⟨rfl, hw⟩
  obtain rfl := hw
  clear CC
  go_wp2_with fail
  with_reducible refine Calls.mono CF.out ?_
  clear CF
  rintro e w' (⟨g, cap, Bk, Ck, fl, lf, rfl, hm, hN, hR, hk⟩ | ⟨rfl, hk, hno, _⟩)
  · have Hv := Lib.hid (cs_yes HP.out (hN.least hR).1)
    clear hm hN hR d0 d1 d2 d3
    go_wp2_with fail
    go_ret
    exact ⟨ret_bool Hv.out.symm, HK.out.trans hk⟩
  · have Hv := Lib.hid (cs_no HP.out hno)
    clear hno d0 d1 d2 d3
    go_wp2_with fail
    go_ret
    exact ⟨ret_bool Hv.out.symm, HK.out.trans hk⟩
set_option maxRecDepth 100000 in
set_option maxHeartbeats 1000000 in
theorem implCs_any (f : Value) (F : Fld) (A1 : Option Addr) (rooms : List Int) (n1 c1 : Nat) (A2 : Option Addr) (needs : List Int) (n2 c2 : Nat) (A3 : Option Addr) (S : List Int) (n3 c3 : Nat) (r : Int) (w : World) (hf : FldAt w f F) (h1 : IntsAt w A1 rooms) (hn1 : rooms.length = n1) (h2 : IntsAt w A2 needs) (hn2 : needs.length = n2) (h3 : IntsAt w A3 S) (hn3 : S.length = n3) :
    Calls Tryz.prog 6 #[f, .slice A1 n1 c1, .slice A2 n2 c2, .slice A3 n3 c3, .int .i64 r] w fun e w' => e = .returned (.tuple #[.bool (csV F rooms needs S r), .bool (csOk F rooms needs S r)]) ∧ Kp w w' := by
  obtain ⟨A, c, B, d, rfl, hA, hB⟩ := hf
  have hk0 : Kp w (w.alloc (.cells #[.slice A F.op.length c, .slice B F.di.length d] 27)) := (Kp.refl w).alloc _
  obtain ⟨d0, d1⟩ := box2 w (.slice A F.op.length c) (.slice B F.di.length d) 27
  have hFA := FldAt.kp (show FldAt w (.agg #[.slice A F.op.length c, .slice B F.di.length d]) F from ⟨A, c, B, d, rfl, hA, hB⟩) hk0
  replace h1 := h1.kp hk0
  replace h2 := h2.kp hk0
  replace h3 := h3.kp hk0
  have Hn1 := Lib.hid hn1; have Hn2 := Lib.hid hn2; have Hn3 := Lib.hid hn3
  clear hA hB hn1 hn2 hn3
  go_enter Tryz.func6, Tryz.ntmps6
  go_wp2_with fail
  have hsz : Hid ((w.alloc (.cells #[.slice A F.op.length c, .slice B F.di.length d] 27)).heap.size = w.heap.size + 1) := by show _ = _; simp
  generalize w.alloc (.cells #[.slice A F.op.length c, .slice B F.di.length d] 27) = wb at *
  have hkb : Kp wb wb := Kp.refl _
  have hkw := hk0
  have CC := Lib.hid (isHaul_any _ F A1 rooms n1 c1 A2 needs n2 c2 A3 S n3 c3 _ (hFA.kp hkb) (h1.kp hkb) Hn1.out (h2.kp hkb) Hn2.out (h3.kp hkb) Hn3.out)
  with_reducible refine Calls.mono CC.out ?_
  rintro e w1 ⟨rfl, hk1⟩
  clear CC
  replace hkb := hkb.trans hk1
  cases hh_ : haulB F rooms needs S
  · have Hno : Hid (csOk F rooms needs S r = false) := by show _ = _; rw [csOk, hh_]; rfl
    clear hh_
    have q_d0 := hkb.get d0
    have q_d1 := hkb.get d1
    go_wp2_with fail
    go_ret2
    exact ⟨by unfold csV; rw [Hno.out]; rfl, hkw.trans hkb⟩
  have HH := Lib.hid hh_
  have HP := Lib.hid (haul_p hh_)
  clear hh_
  by_cases hr : r < 0
  · have g1 : decide (r < 0) = true := decide_eq_true hr
    have Hno : Hid (csOk F rooms needs S r = false) := by show _ = _; rw [csOk, HH.out, decide_eq_false (by omega)]; rfl
    have q_d0 := hkb.get d0
    have q_d1 := hkb.get d1
    go_wp2_with fail
    go_ret2
    exact ⟨by unfold csV; rw [Hno.out]; rfl, hkw.trans hkb⟩
  · have g1 : decide (r < 0) = false := decide_eq_false hr
    have Hok : Hid (csOk F rooms needs S r = true) := by show _ = _; rw [csOk, HH.out, decide_eq_true (by omega)]; rfl
    have q_d0 := hkb.get d0
    have q_d1 := hkb.get d1
    go_wp2_with fail
    have CC := Lib.hid (canServe_any _ F A1 rooms n1 c1 A2 needs n2 c2 A3 S n3 c3 r _ (hFA.kp hkb) (h1.kp hkb) Hn1.out (h2.kp hkb) Hn2.out (h3.kp hkb) Hn3.out HP.out)
    with_reducible refine Calls.mono CC.out ?_
    rintro e w2 ⟨rfl, hk2⟩
    clear CC q_d0 q_d1
    replace hkb := hkb.trans hk2
    have q_d0 := hkb.get d0
    have q_d1 := hkb.get d1
    go_wp2_with fail
    go_ret2
    exact ⟨by unfold csV; rw [Hok.out, Bool.true_and]; rfl, hkw.trans hkb⟩
set_option maxRecDepth 100000 in
set_option maxHeartbeats 1000000 in
theorem specCs_any (f : Value) (F : Fld) (A1 : Option Addr) (rooms : List Int) (n1 c1 : Nat) (A2 : Option Addr) (needs : List Int) (n2 c2 : Nat) (A3 : Option Addr) (S : List Int) (n3 c3 : Nat) (r : Int) (w : World) (hf : FldAt w f F) (h1 : IntsAt w A1 rooms) (hn1 : rooms.length = n1) (h2 : IntsAt w A2 needs) (hn2 : needs.length = n2) (h3 : IntsAt w A3 S) (hn3 : S.length = n3) :
    Calls Tryz.prog 7 #[f, .slice A1 n1 c1, .slice A2 n2 c2, .slice A3 n3 c3, .int .i64 r] w fun e w' => e = .returned (.tuple #[.bool (csV F rooms needs S r), .bool (csOk F rooms needs S r)]) ∧ Kp w w' := by
  obtain ⟨A, c, B, d, rfl, hA, hB⟩ := hf
  have hk0 : Kp w (w.alloc (.cells #[.slice A F.op.length c, .slice B F.di.length d] 27)) := (Kp.refl w).alloc _
  obtain ⟨d0, d1⟩ := box2 w (.slice A F.op.length c) (.slice B F.di.length d) 27
  have hFA := FldAt.kp (show FldAt w (.agg #[.slice A F.op.length c, .slice B F.di.length d]) F from ⟨A, c, B, d, rfl, hA, hB⟩) hk0
  replace h1 := h1.kp hk0
  replace h2 := h2.kp hk0
  replace h3 := h3.kp hk0
  have Hn1 := Lib.hid hn1; have Hn2 := Lib.hid hn2; have Hn3 := Lib.hid hn3
  clear hA hB hn1 hn2 hn3
  go_enter Tryz.func7, Tryz.ntmps7
  go_wp2_with fail
  have hsz : Hid ((w.alloc (.cells #[.slice A F.op.length c, .slice B F.di.length d] 27)).heap.size = w.heap.size + 1) := by show _ = _; simp
  generalize w.alloc (.cells #[.slice A F.op.length c, .slice B F.di.length d] 27) = wb at *
  have hkb : Kp wb wb := Kp.refl _
  have hkw := hk0
  have CC := Lib.hid (l7Given_any _ F A1 rooms n1 c1 A2 needs n2 c2 A3 S n3 c3 _ (hFA.kp hkb) (h1.kp hkb) Hn1.out (h2.kp hkb) Hn2.out (h3.kp hkb) Hn3.out)
  with_reducible refine Calls.mono CC.out ?_
  rintro e w1 ⟨rfl, hk1⟩
  clear CC
  replace hkb := hkb.trans hk1
  cases hh_ : haulB F rooms needs S
  · have Hno : Hid (csOk F rooms needs S r = false) := by show _ = _; rw [csOk, hh_]; rfl
    clear hh_
    have q_d0 := hkb.get d0
    have q_d1 := hkb.get d1
    go_wp2_with fail
    go_ret2
    exact ⟨by unfold csV; rw [Hno.out]; rfl, hkw.trans hkb⟩
  have HH := Lib.hid hh_
  have HP := Lib.hid (haul_p hh_)
  clear hh_
  by_cases hr : r < 0
  · have g1 : decide (r < 0) = true := decide_eq_true hr
    have Hno : Hid (csOk F rooms needs S r = false) := by show _ = _; rw [csOk, HH.out, decide_eq_false (by omega)]; rfl
    have q_d0 := hkb.get d0
    have q_d1 := hkb.get d1
    go_wp2_with fail
    go_ret2
    exact ⟨by unfold csV; rw [Hno.out]; rfl, hkw.trans hkb⟩
  · have g1 : decide (r < 0) = false := decide_eq_false hr
    have Hok : Hid (csOk F rooms needs S r = true) := by show _ = _; rw [csOk, HH.out, decide_eq_true (by omega)]; rfl
    have q_d0 := hkb.get d0
    have q_d1 := hkb.get d1
    go_wp2_with fail
    have CC := Lib.hid (l7Serves_any _ F A1 rooms n1 c1 A2 needs n2 c2 A3 S n3 c3 r _ (hFA.kp hkb) (h1.kp hkb) Hn1.out (h2.kp hkb) Hn2.out (h3.kp hkb) Hn3.out HP.out)
    with_reducible refine Calls.mono CC.out ?_
    rintro e w2 ⟨rfl, hk2⟩
    clear CC q_d0 q_d1
    replace hkb := hkb.trans hk2
    have q_d0 := hkb.get d0
    have q_d1 := hkb.get d1
    go_wp2_with fail
    go_ret2
    exact ⟨by unfold csV; rw [Hok.out, Bool.true_and]; rfl, hkw.trans hkb⟩
end Go.Proofs.YtpiijhfjliolfaaGreat

namespace Go.Proofs.YtpiijhfjliolfaaGreat

/-- compact of a list that never falls. -/
theorem compactTo_spec (d : Array Int) (hs : ∀ i j, i < j → j < d.size → d[i]! ≤ d[j]!) : ∀ m, m ≤ d.size → (Lib.compactUpTo d m).Pairwise (· < ·) ∧ (∀ x, x ∈ Lib.compactUpTo d m ↔ ∃ i, i < m ∧ d[i]! = x)
  | 0, _ => by constructor <;> simp [Lib.compactUpTo]
  | m + 1, hm => by
    obtain ⟨h1, h2⟩ := compactTo_spec d hs m (by omega)
    rw [Lib.compactUpTo_succ]
    by_cases hk : Lib.keeps d m = true
    · rw [if_pos hk]
      constructor
      · rw [List.pairwise_append]
        refine ⟨h1, by simp, fun a ha b hb => ?_⟩
        obtain ⟨i, hi, rfl⟩ := (h2 a).1 ha
        obtain rfl : b = d[m]! := by simpa using hb
        by_cases e : m = 0
        · omega
        · have hle : d[i]! ≤ d[m - 1]! := by
            by_cases e2 : i = m - 1
            · rw [e2]; exact Int.le_refl _
            · exact hs i (m - 1) (by omega) (by omega)
          have h3 := hs (m - 1) m (by omega) (by omega)
          have h4 : d[m]! ≠ d[m - 1]! := fun h => by rw [Lib.keeps_neg (by omega) h] at hk; cases hk
          omega
      · intro x
        rw [List.mem_append, h2]
        constructor
        · rintro (⟨i, hi, e⟩ | h)
          · exact ⟨i, by omega, e⟩
          · rw [List.mem_singleton] at h; exact ⟨m, by omega, h.symm⟩
        · rintro ⟨i, hi, e⟩
          by_cases e2 : i = m
          · subst e2; exact .inr (List.mem_singleton.2 e.symm)
          · exact .inl ⟨i, by omega, e⟩
    · rw [if_neg hk, List.append_nil]
      refine ⟨h1, fun x => ?_⟩
      rw [h2]
      constructor
      · rintro ⟨i, hi, e⟩; exact ⟨i, by omega, e⟩
      · rintro ⟨i, hi, e⟩
        by_cases e2 : i = m
        · subst e2
          have h0 : 0 < i := by
            rcases Nat.eq_zero_or_pos i with h | h
            · subst h; exact absurd (Lib.keeps_lt_one d 0 (by omega)) hk
            · exact h
          by_cases e3 : d[i]! = d[i - 1]!
          · exact ⟨i - 1, by omega, by rw [← e3]; exact e⟩
          · exact absurd (Lib.keeps_pos e3) hk
        · exact ⟨i, by omega, e⟩
theorem compact_spec {xs : List Int} (hs : xs.Pairwise (· ≤ ·)) : (Lib.compact xs).Pairwise (· < ·) ∧ ∀ x, x ∈ Lib.compact xs ↔ x ∈ xs := by
  have hg : ∀ i, i < xs.length → xs.toArray[i]! = xs[i]! := fun i hi => by simp
  obtain ⟨h1, h2⟩ := compactTo_spec xs.toArray (fun i j hij hj => by
    have hj' : j < xs.length := by simpa using hj
    rw [hg i (by omega), hg j hj']
    rw [getElem!_pos xs i (by omega), getElem!_pos xs j hj']
    exact List.pairwise_iff_getElem.1 hs i j (by omega) hj' hij) xs.toArray.size (Nat.le_refl _)
  have e0 : Lib.compact xs = Lib.compactUpTo xs.toArray xs.toArray.size := by unfold Lib.compact; simp
  refine ⟨by rw [e0]; exact h1, fun x => ?_⟩
  rw [e0, h2]
  constructor
  · rintro ⟨i, hi, rfl⟩
    have hi' : i < xs.length := by simpa using hi
    rw [hg i hi', getElem!_pos xs i hi']
    exact List.getElem_mem _
  · intro h
    obtain ⟨i, hi, rfl⟩ := List.getElem_of_mem h
    exact ⟨i, by simpa using hi, by rw [hg i hi, getElem!_pos xs i hi]⟩
theorem compact_len (xs : List Int) : (Lib.compact xs).length ≤ xs.length := by
  have : ∀ m, (Lib.compactUpTo xs.toArray m).length ≤ m := fun m => by
    induction m with
    | zero => simp [Lib.compactUpTo]
    | succ m ih =>
      rw [Lib.compactUpTo_succ, List.length_append]
      have : (if Lib.keeps xs.toArray m then [xs.toArray[m]!] else []).length ≤ 1 := by split <;> simp
      omega
  have h := this xs.toArray.size
  unfold Lib.compact
  simpa using h
end Go.Proofs.YtpiijhfjliolfaaGreat
