/- FnCore: the walk of the law. No condition. -/
import Derived.Test.YtffpdebjjcbenaaGreatQAc
import Derived.Test.YtffpdebjjcbenaaGreatQAi
import Derived.Test.YtffpdebjjcbenaaGreatQAu
import Derived.Test.YtffpdebjjcbenaaGreatQAf
import Derived.Test.YtffpdebjjcbenaaGreatQAb
namespace Go.Proofs.YtffpdebjjcbenaaGreat
open Go.ChangeShapes Go.WideShapes Go.ChangeAt Go.RowKit Go.Sort

theorem DFld.open {w : World} {b : Nat} {v : Value} (h : DFld w b v) : ∃ F A c B d, v = .agg #[.slice A F.op.length c, .slice B F.di.length d] ∧ FldAt w v F := by
  obtain ⟨F, hf⟩ := h
  have hfa := hf.fld
  obtain ⟨A, c, B, d, e, _⟩ := hf
  exact ⟨F, A, c, B, d, e, hfa⟩
theorem DInts.listL {w : World} {b : Nat} {v : Value} (h : DInts w b v) : ∃ A c xs L, v = .slice A L c ∧ IntsAt w A xs ∧ Hid (xs.length = L) ∧ L ≤ 200 := by
  obtain ⟨A, c, xs, e, hi, hl, _⟩ := h.ints
  exact ⟨A, c, xs, _, e, hi, Lib.hid rfl, hl⟩
theorem Own.openL {w : World} {base : Nat} {v : Value} {xs : List Int} (h : Own w base v xs) {L : Nat} (hl : Hid (xs.length = L)) (h2 : L ≤ 1048576) : ∃ A c, v = .slice A L c ∧ IntsAt w A xs := by
  have := hl.out
  obtain ⟨A, c, e, hi⟩ := h.ints (by omega)
  exact ⟨A, c, by rw [← this]; exact e, hi⟩
/-- The least number so far. -/
def LowP (xs : List Int) (k : Nat) (lo : Int) : Prop := lo ≤ 0 ∧ ∀ j, j < k → lo ≤ lget xs j
theorem low_new {xs : List Int} {k : Nat} {lo : Int} (h : LowP xs k lo) (hz : lget xs k < lo) : LowP xs (k + 1) (lget xs k) := by
  have h0 := h.1
  refine ⟨by omega, fun j hj => ?_⟩
  by_cases e : j = k
  · subst e; exact Int.le_refl _
  · have := h.2 j (by omega); omega
theorem low_old {xs : List Int} {k : Nat} {lo : Int} (h : LowP xs k lo) (hz : ¬ lget xs k < lo) : LowP xs (k + 1) lo := by
  refine ⟨h.1, fun j hj => ?_⟩
  by_cases e : j = k
  · subst e; omega
  · exact h.2 j (by omega)
/-- The last comparison of the law. -/
structure CrE (pr is fa : Bool) (sum tot : Int) : Prop where
  known : pr = true
  same : is = (fa && (sum == tot))
  bd : -280000 ≤ sum ∧ sum ≤ 280000
theorem cr_end {F : Fld} {xs : List Int} {L : Nat} {lo : Int} (hs : sharesB F xs = true) (hl : xs.length = L) (hL : L ≠ 0) (hlo : LowP xs L lo) (h0 : ¬ lo < 0) (hm : ¬ 500 < mostT xs L) : CrE (pricedB F xs) (csR F xs) (afR F xs) xs.sum (Go.Proofs.YtffpdebjjcbenaaGreat.totF F (bestF F)) := by
  have hp := sharesB_iff.1 hs
  have hpr : pricedB F xs = true := pricedB_iff.2 ⟨hp.1, hp.2.1, fun x hx => by
    obtain ⟨j, hj, rfl⟩ := List.getElem_of_mem hx
    have h1 := hlo.2 j (by omega)
    have h2 := (mostT_ge (xs := xs) L (by omega)).2 j (by omega) hj
    rw [lget_at hj] at h1
    omega⟩
  refine ⟨hpr, ?_, ?_⟩
  · have := cr_fair hs (by omega)
    rw [this]
    unfold afR
    rw [hpr]; rfl
  · have h7 := (goodF_iff.1 hp.1).2.2.1
    have := sum_bd (xs := xs) hp.2.2 xs.length (Nat.le_refl _)
    rw [List.take_length] at this
    omega
theorem cr_set {F : Fld} {xs : List Int} (hs : sharesB F xs = true) {k : Nat} (hk : k < (coL F xs).length) : ∃ b : Nat, (coL F xs)[k] = (b : Int) ∧ b < xs.length ∧ -1400 ≤ lget xs b ∧ lget xs b ≤ 1400 := by
  have hp := sharesB_iff.1 hs
  have h4 : coL F xs = ovL F xs := if_pos hs
  have h5 := crowd_mem (ov_crowd (F := F) (xs := xs)) _ (by rw [← h4]; exact List.getElem_mem hk)
  refine ⟨((coL F xs)[k]).toNat, by omega, by rw [hp.2.1]; omega, ?_⟩
  have hb : ((coL F xs)[k]).toNat < xs.length := by rw [hp.2.1]; omega
  rw [lget_at hb]
  exact hp.2.2 _ (List.getElem_mem hb)
theorem coL_seven {F : Fld} {xs : List Int} (hs : sharesB F xs = true) : (coL F xs).length ≤ 7 := by
  have h4 : coL F xs = ovL F xs := if_pos hs
  have h1 := crowd_len (ov_crowd (F := F) (xs := xs))
  have h2 := (goodF_iff.1 (sharesB_iff.1 hs).1).2.2.1
  rw [h4]; omega
theorem room_bd {xs C : List Int} (h : ∀ k (hk : k < C.length), -1400 ≤ numAt xs C[k] ∧ numAt xs C[k] ≤ 1400) : ∀ k, k ≤ C.length → -(k * 1400) ≤ roomTo xs C k ∧ roomTo xs C k ≤ k * 1400
  | 0, _ => by unfold roomTo; simp
  | k + 1, hk => by
    have ih := room_bd h k (by omega)
    have h1 := h k (by omega)
    rw [roomTo_succ (by omega)]
    omega
set_option maxRecDepth 100000 in
set_option maxHeartbeats 8000000 in
theorem cor_law (A : Option Addr) (n c : Nat) (w : World) (hb : BytesAt w A n) (hnc : n ≤ c) :
    Calls Tryz.prog 3 #[.slice A n c] w fun e w' => e = .returned (.bool true) ∧ Kp w w' := by
  have CB := Lib.hid (vBig_any A n c w)
  by_cases hbig : 65536 < n
  · have hd : decide (65536 < (n : Int)) = true := decide_eq_true (by omega)
    rw [hd] at CB
    go_enter Tryz.func3, Tryz.ntmps3
    go_wp2_with fail
    with_reducible refine Calls.mono CB.out ?_
    rintro e w1 ⟨rfl, rfl⟩
    go_wp2_with fail
    go_ret
    exact ⟨rfl, Kp.refl _⟩
  have hn6 : n ≤ 65536 := by omega
  have hd : decide (65536 < (n : Int)) = false := decide_eq_false (by omega)
  rw [hd] at CB
  go_enter Tryz.func3, Tryz.ntmps3
  go_wp2_with fail
  with_reducible refine Calls.mono CB.out ?_
  rintro e w1 ⟨rfl, rfl⟩
  clear CB hd hbig
  have K0 : Kp w w := Kp.refl _
  have H0 := Lib.hid hb
  clear hb
  go_wp2_with fail
  have CC := Lib.hid (drawIsCoreShare_any A n c w H0.out)
  with_reducible refine Calls.mono CC.out ?_
  rintro e w1 ⟨v, sv, rfl, hv, h2, hk1⟩
  clear CC
  replace K0 := K0.trans hk1
  obtain ⟨F, A1, c1, B1, d1, rfl, hf⟩ := hv.open
  obtain ⟨A2, c2, xs, L2, rfl, i2, H2, b2⟩ := h2.listL
  have kv : Kp w1 (World.alloc w1 (.cells #[.slice A1 F.op.length c1, .slice B1 F.di.length d1] 27)) := (Kp.refl _).alloc _
  obtain ⟨x1, y1⟩ := box2 w1 (.slice A1 F.op.length c1) (.slice B1 F.di.length d1) 27
  replace K0 := K0.trans kv
  replace hf := hf.kp kv
  replace i2 := i2.kp kv
  clear hv h2 H0
  go_wp2_with fail
  generalize w1.alloc (.cells #[.slice A1 F.op.length c1, .slice B1 F.di.length d1] 27) = wf at *
  generalize w1.heap.size = b1 at *
  clear kv
  have KF : Kp wf wf := Kp.refl _
  obtain ⟨ok, Hok⟩ : ∃ b, Hid (sharesB F xs = b) := ⟨_, Lib.hid rfl⟩
  obtain ⟨is, His⟩ : ∃ b, Hid (csR F xs = b) := ⟨_, Lib.hid rfl⟩
  obtain ⟨fi, Hfi⟩ : ∃ b, Hid (coOk F xs = b) := ⟨_, Lib.hid rfl⟩
  obtain ⟨th, Hth⟩ : ∃ b, Hid (geOk F xs = b) := ⟨_, Lib.hid rfl⟩
  obtain ⟨ex, Hex⟩ : ∃ b, Hid (geR F xs = b) := ⟨_, Lib.hid rfl⟩
  obtain ⟨LC, HLC⟩ : ∃ b, Hid ((coL F xs).length = b) := ⟨_, Lib.hid rfl⟩
  have hLC : LC ≤ 1048576 := by rw [← HLC.out]; exact coL_len F xs
  have CC := Lib.hid (implCore_any _ F A2 xs L2 c2 wf hf i2 H2.out)
  with_reducible refine Calls.mono CC.out ?_
  rintro e w2 ⟨rfl, hk2⟩
  clear CC
  replace K0 := K0.trans hk2
  replace KF := KF.trans hk2
  replace hf := hf.kp hk2
  replace i2 := i2.kp hk2
  rw [His.out, Hok.out]
  have q_x1 := KF.get x1
  have q_y1 := KF.get y1
  go_wp2_with fail
  have CC := Lib.hid (specCore_any _ F A2 xs L2 c2 w2 hf i2 H2.out)
  with_reducible refine Calls.mono CC.out ?_
  rintro e w3 ⟨rfl, hk3⟩
  clear CC q_x1 q_y1
  replace K0 := K0.trans hk3
  replace KF := KF.trans hk3
  replace hf := hf.kp hk3
  replace i2 := i2.kp hk3
  rw [His.out, Hok.out]
  have q_x1 := KF.get x1
  have q_y1 := KF.get y1
  go_wp2_with fail
  have CC := Lib.hid (implCb_any _ F A2 xs L2 c2 w3 hf i2 H2.out)
  with_reducible refine Calls.mono CC.out ?_
  rintro e w4 ⟨cv, rfl, hc, hk4⟩
  clear CC q_x1 q_y1
  replace K0 := K0.trans hk4
  replace KF := KF.trans hk4
  replace hf := hf.kp hk4
  replace i2 := i2.kp hk4
  rw [Hfi.out]
  obtain ⟨A7, c7, rfl, i7⟩ := hc.openL HLC hLC
  clear hc
  have q_x1 := KF.get x1
  have q_y1 := KF.get y1
  go_wp2_with fail
  have CC := Lib.hid (specCb_any _ F A2 xs L2 c2 w4 hf i2 H2.out)
  with_reducible refine Calls.mono CC.out ?_
  rintro e w5 ⟨cv, rfl, hc, hk5⟩
  clear CC q_x1 q_y1
  replace K0 := K0.trans hk5
  replace KF := KF.trans hk5
  replace hf := hf.kp hk5
  replace i2 := i2.kp hk5
  replace i7 := i7.kp hk5
  rw [Hfi.out]
  obtain ⟨A8, c8, rfl, i8⟩ := hc.openL HLC hLC
  clear hc
  have q_x1 := KF.get x1
  have q_y1 := KF.get y1
  go_wp2_with fail
  have CC := Lib.hid (implGe_any _ F A2 xs L2 c2 w5 hf i2 H2.out)
  with_reducible refine Calls.mono CC.out ?_
  rintro e w6 ⟨rfl, hk6⟩
  clear CC q_x1 q_y1
  replace K0 := K0.trans hk6
  replace KF := KF.trans hk6
  replace hf := hf.kp hk6
  replace i2 := i2.kp hk6
  replace i7 := i7.kp hk6
  replace i8 := i8.kp hk6
  rw [Hex.out, Hth.out]
  have q_x1 := KF.get x1
  have q_y1 := KF.get y1
  go_wp2_with fail
  have CC := Lib.hid (specGe_any _ F A2 xs L2 c2 w6 hf i2 H2.out)
  with_reducible refine Calls.mono CC.out ?_
  rintro e w7 ⟨rfl, hk7⟩
  clear CC q_x1 q_y1
  replace K0 := K0.trans hk7
  replace KF := KF.trans hk7
  replace hf := hf.kp hk7
  replace i2 := i2.kp hk7
  replace i7 := i7.kp hk7
  replace i8 := i8.kp hk7
  rw [Hex.out, Hth.out]
  have n1 : (is != is) = false := by simp
  have n2 : (ok != ok) = false := by simp
  have n3 : (fi != fi) = false := by simp
  have n4 : (ex != ex) = false := by simp
  have n5 : (th != th) = false := by simp
  have q_x1 := KF.get x1
  have q_y1 := KF.get y1
  go_wp2_with fail
  have CC := Lib.hid (vInts_same A7 A8 (coL F xs) LC c7 c8 w7 i7 i8 HLC.out)
  with_reducible refine Calls.mono CC.out ?_
  rintro e w8 ⟨rfl, hk8⟩
  clear CC q_x1 q_y1
  replace K0 := K0.trans hk8
  replace KF := KF.trans hk8
  replace hf := hf.kp hk8
  replace i2 := i2.kp hk8
  replace i7 := i7.kp hk8
  replace i8 := i8.kp hk8
  cases ok
  · have q_x1 := KF.get x1
    have q_y1 := KF.get y1
    go_wp2_with fail
    go_ret
    exact ⟨rfl, K0⟩
  · have HC := Lib.hid (cr_parts Hok.out)
    obtain ⟨co, Hco⟩ : ∃ z, Hid (cocR F (coL F xs) = z) := ⟨_, Lib.hid rfl⟩
    obtain ⟨ro, Hro⟩ : ∃ z, Hid (roomS xs (coL F xs) = z) := ⟨_, Lib.hid rfl⟩
    rw [Hfi.out, Hth.out, His.out, Hex.out, Hco.out, Hro.out] at HC
    have ha := Lib.hid HC.out.a
    have hbb := Lib.hid HC.out.b
    have hcc := Lib.hid HC.out.c
    clear HC
    have q0 := KF.get x1
    have q1 := KF.get y1
    go_upto_region 14 with fail
    go_cut [113] (fun sv wc => sv = .bool false ∧ w8 = wc)
    case first =>
      cases th
      · cases fi <;> cases is
        case true.true => exact absurd (hbb.out rfl) (by simp)
        all_goals
          go_wp2_with fail
          go_meet
          exact ⟨rfl, rfl⟩
      · have h1 := Lib.hid (ha.out rfl)
        cases fi
        · have p0 : decide (0 < ex) = false := h1.out.symm
          cases is <;> (go_wp2_with fail; go_meet; exact ⟨rfl, rfl⟩)
        · have p0 : decide (0 < ex) = true := h1.out.symm
          cases is
          · go_wp2_with fail
            go_meet
            exact ⟨rfl, rfl⟩
          · exact absurd (hbb.out rfl) (by simp)
    case rest =>
      obtain ⟨rfl, rfl⟩ := hcut
      have hms := coL_seven Hok.out
      clear n1 n2 n3 n4 n5 i8 ha hbb
      cases fi
      · go_wp2_with fail
        obtain ⟨wt, rfl⟩ : ∃ q : World, q = w8 := ⟨_, rfl⟩
        go_loop [21, 22] (fun lv iv => ∃ (k : Nat) (lo : Int), iv = .int .i64 k ∧ lv = .int .i64 lo ∧ k ≤ L2 ∧ Hid (LowP xs k lo)) (fun _ iv => L2 - (intOf iv).toNat)
        case atStart => exact ⟨0, 0, rfl, rfl, by omega, by show LowP xs 0 0; exact ⟨by omega, fun j hj => by omega⟩⟩
        case round =>
          obtain ⟨k, lo, rfl, rfl, hk, HL⟩ := hrel
          by_cases hlt : k < L2
          · have lx : k < xs.length := by rw [H2.out]; exact hlt
            obtain ⟨sd, rfl, hsc⟩ := i2.at_ lx
            rw [← lget_at lx] at hsc
            by_cases hz : lget xs k < lo
            · have HL2 := Lib.hid (low_new HL.out hz)
              have p1 : decide (lget xs k < lo) = true := decide_eq_true hz
              clear hz
              generalize lget xs k = zv at *
              go_wp2_with fail
              go_round
              case rel => exact ⟨k + 1, zv, by go_num, rfl, by omega, HL2⟩
              case measure => simp [intOf]; omega
            · have HL2 := Lib.hid (low_old HL.out hz)
              have p1 : decide (lget xs k < lo) = false := decide_eq_false hz
              clear hz
              generalize lget xs k = zv at *
              go_wp2_with fail
              go_round
              case rel => exact ⟨k + 1, lo, by go_num, rfl, by omega, HL2⟩
              case measure => simp [intOf]; omega
          · obtain rfl : k = L2 := by omega
            by_cases hlo : lo < 0
            · have p1 : decide (lo < 0) = true := decide_eq_true hlo
              go_wp2_with fail
              go_ret
              exact ⟨rfl, K0⟩
            · have p1 : decide (lo < 0) = false := decide_eq_false hlo
              have CM := Lib.hid (vMost_any A2 xs k c2 wt i2 H2.out)
              obtain ⟨mo, Hmo⟩ : ∃ z, Hid (mostT xs k = z) := ⟨_, Lib.hid rfl⟩
              rw [Hmo.out] at CM
              go_wp2_with fail
              with_reducible refine Calls.mono CM.out ?_
              rintro e wx ⟨rfl, rfl⟩
              clear CM
              by_cases hmo : 500 < mo
              · have p2 : decide (500 < mo) = true := decide_eq_true hmo
                go_wp2_with fail
                go_ret
                exact ⟨rfl, K0⟩
              · have p2 : decide (500 < mo) = false := decide_eq_false hmo
                by_cases hk0 : k = 0
                · subst hk0
                  go_wp2_with fail
                  go_ret
                  exact ⟨rfl, K0⟩
                · have p3 : ((k : Int) == 0) = false := by simp; omega
                  have HE := Lib.hid (cr_end Hok.out H2.out hk0 HL.out (by omega) (by rw [Hmo.out]; omega))
                  have hgo : goodF F = true := (sharesB_iff.1 Hok.out).1
                  obtain ⟨pr, Hpr⟩ : ∃ z, Hid (pricedB F xs = z) := ⟨_, Lib.hid rfl⟩
                  obtain ⟨fa, Hfa⟩ : ∃ z, Hid (afR F xs = z) := ⟨_, Lib.hid rfl⟩
                  obtain ⟨tv, Htv⟩ : ∃ z, Hid (Go.Proofs.YtffpdebjjcbenaaGreat.totF F (bestF F) = z) := ⟨_, Lib.hid rfl⟩
                  obtain ⟨su, Hsu⟩ : ∃ z, Hid (xs.sum = z) := ⟨_, Lib.hid rfl⟩
                  rw [Hpr.out, Hfa.out, Htv.out, Hsu.out, His.out] at HE
                  have CA := Lib.hid (implAf_any _ F A2 xs k c2 wt hf i2 H2.out)
                  rw [Hpr.out, Hfa.out] at CA
                  obtain rfl := HE.out.known
                  have hsb := HE.out.bd
                  have hws : wrap64 su = su := IntWalk.wrap64_in _ (by omega)
                  have q0 := KF.get x1
                  have q1 := KF.get y1
                  go_wp2_with fail
                  with_reducible refine Calls.mono CA.out ?_
                  rintro e wy ⟨rfl, hky⟩
                  clear CA q0 q1
                  have q0 := (KF.trans hky).get x1
                  have q1 := (KF.trans hky).get y1
                  have CB := Lib.hid (bestTotal_any _ F wy (hf.kp hky) hgo)
                  rw [Htv.out] at CB
                  go_wp2_with fail
                  with_reducible refine Calls.mono CB.out ?_
                  rintro e wz ⟨rfl, hkz⟩
                  clear CB q0 q1
                  have hsame := Lib.hid HE.out.same
                  have K9 := K0.trans (hky.trans hkz)
                  cases fa
                  · obtain rfl : is = false := hsame.out
                    go_wp2_with fail
                    go_ret
                    exact ⟨rfl, K9⟩
                  · have CS := Lib.hid (vSum_any A2 xs k c2 wz (i2.kp (hky.trans hkz)) H2.out)
                    rw [Hsu.out, hws] at CS
                    have hs2 := hsame.out
                    rw [Bool.true_and] at hs2
                    subst hs2
                    go_wp2_with fail
                    with_reducible refine Calls.mono CS.out ?_
                    rintro e wv ⟨rfl, hkv⟩
                    clear CS
                    have p4 : ((su == tv) == (su == tv)) = true := by simp
                    go_wp2_with fail
                    go_ret
                    exact ⟨by simp, K9.trans hkv⟩
      · have h9 := Lib.hid (hcc.out rfl)
        have CC := Lib.hid (implCoc_any _ F A7 (coL F xs) LC c7 _ hf i7 HLC.out)
        rw [Hco.out] at CC
        go_wp2_with fail
        with_reducible refine Calls.mono CC.out ?_
        rintro e wk ⟨rfl, hkk⟩
        clear CC q0 q1
        replace K0 := K0.trans hkk
        replace KF := KF.trans hkk
        replace hf := hf.kp hkk
        replace i2 := i2.kp hkk
        replace i7 := i7.kp hkk
        clear hkk
        have HRB := Lib.hid (room_bd (xs := xs) (C := coL F xs) (fun k hk => by
          obtain ⟨b, e1, _, e3, e4⟩ := cr_set Hok.out hk
          rw [e1]
          exact ⟨e3, e4⟩))
        go_wp2_with fail
        go_loop [19, 20] (fun sv iv => ∃ k : Nat, iv = .int .i64 k ∧ sv = .int .i64 (roomTo xs (coL F xs) k) ∧ k ≤ LC) (fun _ iv => LC - (intOf iv).toNat)
        case atStart => exact ⟨0, rfl, rfl, by omega⟩
        case round =>
          obtain ⟨k, rfl, rfl, hk⟩ := hrel
          by_cases hlt : k < LC
          · have lx : k < (coL F xs).length := by rw [HLC.out]; exact hlt
            obtain ⟨b, e1, e2, e3, e4⟩ := cr_set Hok.out lx
            obtain ⟨cd, rfl, hcc7⟩ := i7.at_ lx
            rw [e1] at hcc7
            obtain ⟨sd, rfl, hsc⟩ := i2.at_ e2
            rw [← lget_at e2] at hsc
            have hbI : (b : Int) < (L2 : Int) := by have := H2.out; omega
            have hnx : Hid (roomTo xs (coL F xs) (k + 1) = roomTo xs (coL F xs) k + lget xs b) := by
              show _ = _
              rw [roomTo_succ lx, e1]; rfl
            obtain ⟨r1, r2⟩ := HRB.out k (by omega)
            clear e1
            generalize roomTo xs (coL F xs) k = rk at *
            generalize lget xs b = xb at *
            have s1 : wrap64 (rk + xb) = rk + xb := IntWalk.wrap64_in _ (by omega)
            have s2 : IntKind.i64.wrap (rk + xb) = rk + xb := IntWalk.i64_in _ (by omega)
            go_wp2_with fail
            go_round
            case rel => exact ⟨k + 1, by go_num, by rw [hnx.out], by omega⟩
            case measure => simp [intOf]; omega
          · obtain rfl : k = LC := by omega
            have Hall : Hid (roomTo xs (coL F xs) k = ro) := by
              show _ = _
              rw [roomTo_all (by rw [HLC.out]; exact Nat.le_refl _), Hro.out]
            rw [Hall.out]
            have p0 : decide (ro ≤ co) = false := decide_eq_false (by have := h9.out; omega)
            clear HRB
            go_wp2_with fail
            obtain ⟨wt, rfl⟩ : ∃ q : World, q = wk := ⟨_, rfl⟩
            go_loop [21, 22] (fun lv iv => ∃ (k : Nat) (lo : Int), iv = .int .i64 k ∧ lv = .int .i64 lo ∧ k ≤ L2 ∧ Hid (LowP xs k lo)) (fun _ iv => L2 - (intOf iv).toNat)
            case atStart => exact ⟨0, 0, rfl, rfl, by omega, by show LowP xs 0 0; exact ⟨by omega, fun j hj => by omega⟩⟩
            case round =>
              obtain ⟨k, lo, rfl, rfl, hk, HL⟩ := hrel
              by_cases hlt : k < L2
              · have lx : k < xs.length := by rw [H2.out]; exact hlt
                obtain ⟨sd, rfl, hsc⟩ := i2.at_ lx
                rw [← lget_at lx] at hsc
                by_cases hz : lget xs k < lo
                · have HL2 := Lib.hid (low_new HL.out hz)
                  have p1 : decide (lget xs k < lo) = true := decide_eq_true hz
                  clear hz
                  generalize lget xs k = zv at *
                  go_wp2_with fail
                  go_round
                  case rel => exact ⟨k + 1, zv, by go_num, rfl, by omega, HL2⟩
                  case measure => simp [intOf]; omega
                · have HL2 := Lib.hid (low_old HL.out hz)
                  have p1 : decide (lget xs k < lo) = false := decide_eq_false hz
                  clear hz
                  generalize lget xs k = zv at *
                  go_wp2_with fail
                  go_round
                  case rel => exact ⟨k + 1, lo, by go_num, rfl, by omega, HL2⟩
                  case measure => simp [intOf]; omega
              · obtain rfl : k = L2 := by omega
                by_cases hlo : lo < 0
                · have p1 : decide (lo < 0) = true := decide_eq_true hlo
                  go_wp2_with fail
                  go_ret
                  exact ⟨rfl, K0⟩
                · have p1 : decide (lo < 0) = false := decide_eq_false hlo
                  have CM := Lib.hid (vMost_any A2 xs k c2 wt i2 H2.out)
                  obtain ⟨mo, Hmo⟩ : ∃ z, Hid (mostT xs k = z) := ⟨_, Lib.hid rfl⟩
                  rw [Hmo.out] at CM
                  go_wp2_with fail
                  with_reducible refine Calls.mono CM.out ?_
                  rintro e wx ⟨rfl, rfl⟩
                  clear CM
                  by_cases hmo : 500 < mo
                  · have p2 : decide (500 < mo) = true := decide_eq_true hmo
                    go_wp2_with fail
                    go_ret
                    exact ⟨rfl, K0⟩
                  · have p2 : decide (500 < mo) = false := decide_eq_false hmo
                    by_cases hk0 : k = 0
                    · subst hk0
                      go_wp2_with fail
                      go_ret
                      exact ⟨rfl, K0⟩
                    · have p3 : ((k : Int) == 0) = false := by simp; omega
                      have HE := Lib.hid (cr_end Hok.out H2.out hk0 HL.out (by omega) (by rw [Hmo.out]; omega))
                      have hgo : goodF F = true := (sharesB_iff.1 Hok.out).1
                      obtain ⟨pr, Hpr⟩ : ∃ z, Hid (pricedB F xs = z) := ⟨_, Lib.hid rfl⟩
                      obtain ⟨fa, Hfa⟩ : ∃ z, Hid (afR F xs = z) := ⟨_, Lib.hid rfl⟩
                      obtain ⟨tv, Htv⟩ : ∃ z, Hid (Go.Proofs.YtffpdebjjcbenaaGreat.totF F (bestF F) = z) := ⟨_, Lib.hid rfl⟩
                      obtain ⟨su, Hsu⟩ : ∃ z, Hid (xs.sum = z) := ⟨_, Lib.hid rfl⟩
                      rw [Hpr.out, Hfa.out, Htv.out, Hsu.out, His.out] at HE
                      have CA := Lib.hid (implAf_any _ F A2 xs k c2 wt hf i2 H2.out)
                      rw [Hpr.out, Hfa.out] at CA
                      obtain rfl := HE.out.known
                      have hsb := HE.out.bd
                      have hws : wrap64 su = su := IntWalk.wrap64_in _ (by omega)
                      have q0 := KF.get x1
                      have q1 := KF.get y1
                      go_wp2_with fail
                      with_reducible refine Calls.mono CA.out ?_
                      rintro e wy ⟨rfl, hky⟩
                      clear CA q0 q1
                      have q0 := (KF.trans hky).get x1
                      have q1 := (KF.trans hky).get y1
                      have CB := Lib.hid (bestTotal_any _ F wy (hf.kp hky) hgo)
                      rw [Htv.out] at CB
                      go_wp2_with fail
                      with_reducible refine Calls.mono CB.out ?_
                      rintro e wz ⟨rfl, hkz⟩
                      clear CB q0 q1
                      have hsame := Lib.hid HE.out.same
                      have K9 := K0.trans (hky.trans hkz)
                      cases fa
                      · obtain rfl : is = false := hsame.out
                        go_wp2_with fail
                        go_ret
                        exact ⟨rfl, K9⟩
                      · have CS := Lib.hid (vSum_any A2 xs k c2 wz (i2.kp (hky.trans hkz)) H2.out)
                        rw [Hsu.out, hws] at CS
                        have hs2 := hsame.out
                        rw [Bool.true_and] at hs2
                        subst hs2
                        go_wp2_with fail
                        with_reducible refine Calls.mono CS.out ?_
                        rintro e wv ⟨rfl, hkv⟩
                        clear CS
                        have p4 : ((su == tv) == (su == tv)) = true := by simp
                        go_wp2_with fail
                        go_ret
                        exact ⟨by simp, K9.trans hkv⟩
end Go.Proofs.YtffpdebjjcbenaaGreat
